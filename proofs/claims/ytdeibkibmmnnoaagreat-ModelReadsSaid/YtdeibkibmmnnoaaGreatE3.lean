/- An evaluator of the model's code over plain values, and its soundness; of no program. -/
import Derived.Test.YtdeibkibmmnnoaaGreatE2
import Derived.Orders
set_option linter.all false
namespace Go.Ab
theorem ZAk.{u}:type_of% @List.mem_cons_self.{u}:=@List.mem_cons_self.{u}
theorem ZAt.{u}:type_of% @List.getElem?_cons_zero.{u}:=@List.getElem?_cons_zero.{u}
theorem ZBB:type_of% @Bool.or_eq_false_iff:=@Bool.or_eq_false_iff
theorem ZBJ.{u}:type_of% @List.pairwise_cons.{u}:=@List.pairwise_cons.{u}
theorem ZBP.{u}:type_of% @List.mem_singleton.{u}:=@List.mem_singleton.{u}
theorem ZBU.{u}:type_of% @List.mem_append_left.{u}:=@List.mem_append_left.{u}
theorem ZBh.{u}:type_of% @Option.isSome_iff_exists.{u}:=@Option.isSome_iff_exists.{u}
theorem ZBm.{u}:type_of% @List.pairwise_append.{u}:=@List.pairwise_append.{u}
theorem ZBs.{u}:type_of% @List.filter_eq_self.{u}:=@List.filter_eq_self.{u}
theorem ZB5:type_of% @List.mem_range:=@List.mem_range
end Go.Ab
namespace Go.Ab
theorem dgZ:∀{ps:List (Nat×Nat)} {id k:Nat},noOf ps id=some k->(id,k)∈ps
 |(i,j)::ps,id,k,h=>by
  simp only[noOf] at h;cases hb:Nat.beq i id<;>rw[hb] at h<;>simp only[ZAF,ZAC] at h
  ·exact ZAc _ (dgZ h)
  ·rw[adZ] at hb;simp only[ZAG] at h;subst hb;subst h;exact ZAk
def idOf:List (Nat×Nat)->Nat->Option Nat
 |[],_=>none
 |(i,k)::r,n=>bif Nat.beq k n then some i else idOf r n
theorem aIZ:∀{ps:List (Nat×Nat)} {id k:Nat},idOf ps k=some id->(id,k)∈ps
 |(i,j)::ps,id,k,h=>by
  simp only[idOf] at h;cases hb:Nat.beq j k<;>rw[hb] at h<;>simp only[ZAF,ZAC] at h
  ·exact ZAc _ (aIZ h)
  ·rw[adZ] at hb;simp only[ZAG] at h;subst hb;subst h;exact ZAk
theorem drZ{ps:List (Nat×Nat)}{id k:Nat}(h:(id,k)∈ps):k∈sndN ps:=by
 induction ps with
 |nil=>cases h
 |cons x ps ih=>
  obtain⟨i,j⟩:=x;rcases ZAU.1 h with h|h
  ·injection h with h1 h2;subst h2;exact ZAk
  ·exact ZAc _ (ih h)
theorem fbZ{ps:List (Nat×Nat)}{id k:Nat}(h:(id,k)∈ps):id∈fstN ps:=by
 induction ps with
 |nil=>cases h
 |cons x ps ih=>
  obtain⟨i,j⟩:=x;rcases ZAU.1 h with h|h
  ·injection h with h1 h2;subst h1;exact ZAk
  ·exact ZAc _ (ih h)
theorem e8Z:∀{ps:List (Nat×Nat)} {id k:Nat},(sndN ps).Nodup->(id,k)∈ps->idOf ps k=some id
 |(i,j)::ps,id,k,hn,h=>by
  simp only[sndN,List.nodup_cons] at hn;simp only[idOf];rcases ZAU.1 h with h|h
  ·injection h with h1 h2;subst h1;subst h2;simp[(adZ k k).2 rfl]
  ·have:j≠k:=fun e=>hn.1 (e▸drZ h);rw[aiZ this,ZAC];exact e8Z hn.2 h
theorem jpZ:∀{ps:List (Nat×Nat)} {id k:Nat},(fstN ps).Nodup->(id,k)∈ps->noOf ps id=some k
 |(i,j)::ps,id,k,hn,h=>by
  simp only[fstN,List.nodup_cons] at hn;simp only[noOf];rcases ZAU.1 h with h|h
  ·injection h with h1 h2;subst h1;subst h2;simp[(adZ id id).2 rfl]
  ·have:i≠id:=fun e=>hn.1 (e▸fbZ h);rw[aiZ this,ZAC];exact jpZ hn.2 h
theorem d9Z{H:Hp}:∀{l:List Nat},liveAll H l=true->∀i∈l,∃e,hget H i=some e
 |[],_,i,h=>by cases h
 |j::l,h,i,hi=>by
  simp only[liveAll,ZAD] at h;rcases ZAU.1 hi with rfl|hi
  ·cases hg:hget H i with
   |none=>rw[hg] at h;exact absurd h.1 (by simp)
   |some e=>exact⟨e,rfl⟩
  ·exact d9Z h.2 i hi
theorem b5Z{H:Hp}{f:Nat->Option Nat}:∀{ps:List (Nat×Nat)},liveAll H (fstN ps)=true->∀k,hget (renH H f ps) k=(idOf ps k).bind (fun id=>(hget H id).map (Ent.ren f))/\hkey (renH H f ps) k=(idOf ps k).isSome
 |[],_,k=>⟨rfl,rfl⟩
 |(i,j)::ps,h,k=>by
  simp only[fstN,liveAll,ZAD] at h;cases hg:hget H i with
  |none=>rw[hg] at h;exact absurd h.1 (by simp)
  |some e=>
   obtain⟨q1,q2⟩:=b5Z (H:=H) (f:=f) h.2 k;simp only[renH,hg,hget,hkey,idOf];cases hb:Nat.beq j k
   ·simp only[ZAC];exact⟨q1,q2⟩
   ·simp[hg]
section
variable {z : Z} {H : Hp}
def Z.ren(z:Z)(H:Hp)(ps:List (Nat×Nat)):Z:=
 {z with ρ:=fun k=>match idOf ps k with|some id=>z.ρ id|none=>if dynBase<=k then z.ρ k else .no,C:=fun g=>∃id e sz n,rt id∈fstN ps/\hgetX H id=some e/\e.fz=false/\z.ρ id= .real g sz n,D:=fun k=>dynBase<=k/\rt k∉sndN ps}
theorem b7Z:∀{l:List Nat} {k:Nat},statN l=true->k∈l->k<dynBase
 |[],k,_,h=>by cases h
 |i::l,k,hs,h=>by
  simp only[statN,ZAD] at hs;rcases ZAU.1 h with rfl|h
  ·exact ZBK hs.1
  ·exact b7Z hs.2 h
theorem bqZ:∀{ps:List (Nat×Nat)} {i k:Nat},famFix ps=true->(i,k)∈ps->i=k\/(i<famBase/\k<famBase)
 |[],i,k,_,h=>by cases h
 |(a,b)::ps,i,k,hs,h=>by
  simp only[famFix,ZAD,ZAl,adZ,ZBq] at hs;rcases ZAU.1 h with h|h
  ·injection h with h1 h2;subst h1;subst h2;exact hs.1
  ·exact bqZ hs.2 h
theorem Z.ren_dyn{ps:List (Nat×Nat)}(hs:statN (sndN ps)=true){k:Nat}(hk:dynBase<=k):(z.ren H ps).ρ k=z.ρ k:=by
 show(match idOf ps k with|some id=>z.ρ id|none=>if dynBase<=k then z.ρ k else .no)=_;cases h:idOf ps k with
 |none=>simp only[ZAO hk]
 |some id=>
  have:=b7Z hs (drZ (aIZ h));omega
theorem eDZ(e:Ent)(f:Nat->Option Nat)(k:Nat):(e.ren f).has k=e.has k/\(dynBase<=dynBase->pick k (e.ren f)=pick k e):=by
 obtain⟨fz,b⟩:=e;cases b<;>exact⟨rfl,fun _=>rfl⟩
theorem ejZ{e x:Ent}{k:Nat}(h:pick k e=some x)(f:Nat->Option Nat):x.ren f=x/\x.ids=[]:=by
 unfold pick at h;split at h
 ·split at h
  ·split at h
   ·cases h
   ·simp only[ZAG] at h;subst h;exact⟨rfl,rfl⟩
  ·cases h
 ·cases h
def OfX(ps:List (Nat×Nat))(id k:Nat):Prop:=((id,k)∈ps/\id<famBase/\k<famBase)\/(id=k/\dynBase<=k/\(rt k,rt k)∈ps)
theorem OfX.fst{ps:List (Nat×Nat)}{id k:Nat}(h:OfX ps id k):rt id∈fstN ps:=by
 have h0:=d4Z;rcases h with⟨h1,h2,_⟩|⟨rfl,_,h1⟩
 ·rw[aWZ (by omega)];exact fbZ h1
 ·exact fbZ h1
theorem OfX.inj{ps:List (Nat×Nat)}{id k k':Nat}(hn:(fstN ps).Nodup)(h:OfX ps id k)(h':OfX ps id k'):k=k':=by
 have h0:=d4Z;rcases h with⟨h1,h2,_⟩|⟨rfl,h2,h1⟩<;>rcases h' with⟨h3,h4,_⟩|⟨rfl,h4,h3⟩
 ·have a1:=jpZ hn h1;have a2:=jpZ hn h3;rw[a1] at a2;exact ZAj a2
 ·omega
 ·omega
 ·rfl
theorem renX{H:Hp}{f:Nat->Option Nat}{ps:List (Nat×Nat)}(h1:(fstN ps).Nodup)(h2:(sndN ps).Nodup)(h3:liveAll H (fstN ps)=true)(hf:famFix ps=true){k:Nat}{e':Ent}(h:hgetX (renH H f ps) k=some e'):
 ∃id e,OfX ps id k/\hgetX H id=some e/\e'=e.ren f:=by
 have h0:=d4Z;by_cases hd:dynBase<=k
 ·rw[a5Z hd,(b5Z h3 (rt k)).1] at h;obtain⟨e0,q1,q2⟩:=ZAH.1 h;obtain⟨id,q3,q4⟩:=ZAH.1 q1;obtain⟨e1,q5,rfl⟩:=ZAI.1 q4;have hm:=aIZ q3;have:id=rt k:=(bqZ hf hm).resolve_right fun h=>by have:=(bLZ hd).1;omega
  subst this;rw[(eDZ e1 f _).2 (ZAK _)] at q2;refine⟨k,e',.inr ⟨rfl,hd,hm⟩,?_,(ejZ q2 f).1.symm⟩;rw[a5Z hd,q5];exact q2
 ·by_cases hk:famBase<=k
  ·unfold hgetX at h;rw[ZAM hd,ZAO hk] at h;cases h
  ·have hk':k<famBase:=ZBE.1 hk;rw[aoZ hk',(b5Z h3 k).1] at h;obtain⟨id,q1,q2⟩:=ZAH.1 h;obtain⟨e,q3,q4⟩:=ZAI.1 q2;have hm:=aIZ q1;have hid:id<famBase:=by
    rcases bqZ hf hm with h|h
    ·omega
    ·exact h.1
   exact⟨id,e,.inl ⟨hm,hid,hk'⟩,by rw[aoZ hid];exact q3,q4.symm⟩
theorem qTZ{ps:List (Nat×Nat)}(hH:HRep z H)(h1:nodupN (fstN ps)=true)(h2:nodupN (sndN ps)=true)(h3:liveAll H (fstN ps)=true)(hs:statN (sndN ps)=true)(hf:famFix ps=true):
 HRep (z.ren H ps) (renH H (noOf ps) ps)/\(∀id k,(id,k)∈ps->(z.ren H ps).ρ k=z.ρ id)/\∀g,(z.ren H ps).C g->z.C g:=by
 have h0:=d4Z;rw[cvZ] at h1 h2;have hd:SameDyn z.ρ (z.ren H ps).ρ:=fun id hid _=>Z.ren_dyn hs hid;have hρ:∀id k,(id,k)∈ps->(z.ren H ps).ρ k=z.ρ id:=fun id k h=>by
  show(match idOf ps k with|some id=>z.ρ id|none=>if dynBase<=k then z.ρ k else .no)=_;rw[e8Z h2 h]
 have hρX:∀id k,OfX ps id k->(z.ren H ps).ρ k=z.ρ id:=fun id k h=>by
  rcases h with⟨h,_⟩|⟨rfl,h,_⟩
  ·exact hρ id k h
  ·exact Z.ren_dyn hs h
 have hC:∀g,(z.ren H ps).C g->z.C g:=fun g ⟨id,e,sz,n,q1,q2,q3,q4⟩=>(hH.realX q2 q4).2.1 q3;have hlive:∀k,k∈sndN ps->∃id,(id,k)∈ps/\∃e,hget H id=some e:=fun k hk=>by
  have:∀{ps:List (Nat×Nat)},k∈sndN ps->∃id,(id,k)∈ps:=fun{ps}=>by
   induction ps with
   |nil=>intro h;cases h
   |cons x ps ih=>
    obtain⟨i,j⟩:=x;intro h;rcases ZAU.1 h with rfl|h
    ·exact⟨i,ZAk⟩
    ·obtain⟨id,h⟩:=ih h;exact⟨id,ZAc _ h⟩
  obtain⟨id,h⟩:=this hk;obtain⟨e,he⟩:=d9Z h3 id (fbZ h);exact⟨id,h,e,he⟩
 refine⟨⟨fun k e' h=> ?_,fun k k' e e' g sz n g' sz' n' hkk p1 p2 m1 m2 p3 p4=> ?_,fun k h=> ?_,fun g h=>hH.sub g (hC g h),fun k x h=> ?_,fun k h=> ?_,fun k hdk h=> ?_,fun k hk1 hk2=> ?_⟩,hρ,hC⟩
 ·obtain⟨id,e,q1,q2,rfl⟩:=renX h1 h2 h3 hf h;have h0:=hH.ent _ _ q2;unfold ERep at h0⊢;rw[hρX id k q1];cases hr:z.ρ id with
  |no=>rw[hr] at h0;exact h0.elim
  |virt=>
   rw[hr] at h0;obtain⟨fz,b⟩:=e;cases b<;>first|exact h0.elim|exact h0
  |real g sz n=>
   rw[hr] at h0;obtain⟨a1,a2,a3,a4⟩:=h0;exact⟨a1,fun hf=>⟨id,e,sz,n,q1.fst,q2,hf,hr⟩,a3,a4.ren (fz:=e.fz) rfl rfl (.inl hd) fun id' k' _ hk'=>hρ id' k' (dgZ hk')⟩
 ·obtain⟨id,e1,q1,q2,rfl⟩:=renX h1 h2 h3 hf p1;obtain⟨id',e2,q3,q4,rfl⟩:=renX h1 h2 h3 hf p2;rw[hρX id k q1] at p3;rw[hρX id' k' q3] at p4;have hid:id≠id':=fun h=>by
   subst h;exact hkk (q1.inj h1 q3)
  exact hH.inj id id' e1 e2 g sz n g' sz' n' hid q2 q4 m1 m2 p3 p4
 ·by_cases hd:dynBase<=k
  ·by_cases hk:rt k∈sndN ps
   ·left;obtain⟨id,hm,e,he⟩:=hlive _ hk;have:id=rt k:=(bqZ hf hm).resolve_right fun h=>by have:=(bLZ hd).1;omega
    subst this;rw[Z.ren_dyn hs hd];refine(hH.fresh k ?_).resolve_right (hH.dyn k hd (ahZ he));rw[ayZ hd,(b5Z h3 (rt k)).1,e8Z h2 hm] at h;rw[ayZ hd,he];simp only[ZAA,he,ZBW] at h;rw[(eDZ e _ _).1] at h;exact h
   ·exact .inr ⟨hd,hk⟩
  ·left;by_cases hk:famBase<=k
   ·show(match idOf ps k with|some id=>z.ρ id|none=>if dynBase<=k then z.ρ k else .no)=_;cases hi:idOf ps k with
    |none=>simp only[ZAM hd]
    |some id=>
     have:id=k:=(bqZ hf (aIZ hi)).resolve_right fun h=>by omega
     subst this;exact hH.nos id hk (by omega)
   ·rw[a6Z (by omega),(b5Z h3 k).2] at h;show(match idOf ps k with|some id=>z.ρ id|none=>if dynBase<=k then z.ρ k else .no)=_;cases hk:idOf ps k with
    |none=>simp only[ZAM hd]
    |some id=>rw[hk] at h;cases h
 ·rw[(b5Z h3 k).1] at h;obtain⟨id,q1,q2⟩:=ZAH.1 h;obtain⟨e,q3,rfl⟩:=ZAI.1 q2;have hm:=aIZ q1;have hfo:=hH.fam id e q3;obtain⟨fz,b⟩:=e;cases b with
  |fam e s ms=>
   have:id=k:=(bqZ hf hm).resolve_right fun h=>by have:=hfo.1;omega
   subst this;exact hfo
  |_=>
   have hid:id<famBase:=hfo;show k<famBase;rcases bqZ hf hm with h|h
   ·omega
   ·exact h.2
 ·rw[(b5Z h3 k).2] at h;obtain⟨id,hid⟩:=ZBh.1 h;exact b7Z hs (drZ (aIZ hid))
 ·rw[(b5Z h3 (rt k)).2] at h;obtain⟨id,hid⟩:=ZBh.1 h;exact fun hD=>hD.2 (drZ (aIZ hid))
 ·show(match idOf ps k with|some id=>z.ρ id|none=>if dynBase<=k then z.ρ k else .no)=_;cases hi:idOf ps k with
  |none=>simp only[ZAM (show¬dynBase<=k by omega)]
  |some id=>
   have:id=k:=(bqZ hf (aIZ hi)).resolve_right fun h=>by omega
   subst this;exact hH.nos id hk1 hk2
end
end Go.Ab
namespace Go.Ab
mutual
theorem pFZ:(k:Kd)->{r:List Ty}->(y:HL (k.lv r))->AV.ids (emb k r y).1=k.ids
 |.p _,r,y|.pt _,r,y|.own _ _ _ _,r,y|.ownx _ _ _,r,y|.sl _ _,r,y|.slf _ _,r,y|.mp _,r,y|.any,r,y|.nilp _,r,y=>rfl
 |.fn f a c,r,y=>congr (congrArg HAppend.hAppend (ccZ a (r:=c.lv r) y)) (ccZ c (r:=r) _)
 |.agg l,r,y=>ccZ l (r:=r) y
 |.tup l,r,y=>ccZ l (r:=r) y
theorem ccZ:(k:KdL)->{r:List Ty}->(y:HL (k.lv r))->AV.idsL (embL k r y).1=k.ids
 |.nil,r,y=>rfl
 |.cons k l,r,y=>congr (congrArg HAppend.hAppend (pFZ k (r:=l.lv r) y)) (ccZ l (r:=r) _)
end
theorem ozZ{k:BKd}{r:List Ty}{fz:Bool}(y:HL (k.lv r)):Ent.ids ⟨fz,(embB k r y).1⟩=k.ids:=by
 cases k with
 |vars l=>exact ccZ l (r:=r) y
 |rows e t=>rfl
 |map kt vt=>rfl
 |fam e s=>rfl
theorem bZZ:(hs:HK)->{r:List Ty}->(y:HL (hkLv hs r))->∀id,hkey (embH hs r y).1 id=memN id (hkKeys hs)/\(memN id (hkKeys hs)=true->∃e,hget (embH hs r y).1 id=some e)/\∀e,hget (embH hs r y).1 id=some e->∀i∈e.ids,i∈hkIds hs
 |[],r,y,id=>⟨rfl,fun h=>by simp[hkKeys,memN] at h,fun e h=>by simp[embH,hget] at h⟩
 |(j,fz,k)::hs,r,y,id=>by
  obtain⟨q1,q2,q3⟩:=bZZ hs (embB k (hkLv hs r) y).2 id;simp only[embH,hkey,hget,hkKeys,memN];cases hb:Nat.beq j id
  ·simp only[ZAC];exact⟨q1,q2,fun e he i hi=>by simp only[hkIds,ZAh];exact .inr (q3 e he i hi)⟩
  ·simp only[ZAF];refine⟨trivial,fun _=>⟨_,rfl⟩,fun e he i hi=> ?_⟩;injection he with he;subst he;have hi:i∈k.ids:=by
    have:=ozZ (k:=k) (r:=hkLv hs r) (fz:=fz) y;rw[<-this];exact hi
   simp only[hkIds,ZAh];exact .inl hi
section
variable {z : Z} {H : Hp} {β : Type}
def Z.cut(z:Z)(ks:List Nat)(ρ0:Rho)(C':Nat->Prop):Z:={z with ρ:=fun k=>bif memN k ks then z.ρ k else if dynBase<=k then z.ρ k else ρ0 k,C:=C',D:=fun k=>memN (rt k) ks=false/\(dynBase<=k\/ρ0 k≠.no)}
theorem Z.cut_dyn(z:Z)(ks:List Nat)(ρ0:Rho)(C':Nat->Prop):SameDyn z.ρ (z.cut ks ρ0 C').ρ:=fun id hid _=>by
 show(bif memN id ks then z.ρ id else if dynBase<=id then z.ρ id else ρ0 id)=_;rw[ZAO hid];cases memN id ks<;>rfl
theorem ERep.rho{z z':Z}{id:Nat}{e:Ent}(h:ERep z id e)(hw:z'.w=z.w)(hM:z'.M=z.M)(hd:Agr z.ρ z'.ρ fun fs=>e.b.famInT fs)(hid:z'.ρ id=z.ρ id)(hf:∀i∈e.ids,z'.ρ i=z.ρ i)(hC:∀g sz n,z.ρ id= .real g sz n->e.fz=false->z.C g->z'.C g):ERep z' id e:=by
 unfold ERep at*;rw[hid];cases hr:z.ρ id with
 |no=>rw[hr] at h;exact h
 |virt=>rw[hr] at h;exact h
 |real g sz n=>
  rw[hr] at h;obtain⟨h1,h2,h3,h4⟩:=h;refine⟨by rw[hw];exact h1,fun hf=>hC g sz n hr hf (h2 hf),fun hf=>by rw[hM];exact h3 hf,?_⟩;have:=h4.ren (z':=z') (f:=some) (fz:=e.fz) hw hM hd fun i k hi hk=>by
   injection hk with hk;subst hk;exact hf i hi
  have e1:e.b.ren some=e.b:=by
   cases e.b with
   |vars c=>simp only[Blk.ren,bVZ]
   |rows _ _ _=>rfl
   |map _ _ _=>rfl
   |fam _ _ _=>rfl
   |fmap k l=>
    simp only[Blk.ren];congr 1
    conv=>rhs;rw[<-List.map_id l]
    apply List.map_congr_left;intro x _;simp[huZ]
  rwa [e1] at this
theorem Shp.rco_ok{s:Shp}{vs:List AV}{ps:List (Nat×Nat)}{K:s.D->Option β}{res:β}{vals:List Value}(ρ0:Rho)(hρ0:∀k,famBase<=k->k<dynBase->ρ0 k= .no)(h:s.rco vs H ps K=some res)(hH:HRep z H)(hv:AReps z vs vals):
 ∃t z',K t=some res/\z'.w=z.w/\z'.M=z.M/\HRep z' (s.emb t).2/\AReps z' (s.emb t).1 vals/\(∀k,memN k (hkKeys s.hs)=true->∃id,(id,k)∈ps/\z'.ρ k=z.ρ id)/\(∀k,memN k (hkKeys s.hs)=false->z'.ρ k=if dynBase<=k then z.ρ k else ρ0 k)/\
  (∀g,z'.C g->z.C g)/\(∀g,z'.C g->∃id e sz n,rt id∈fstN ps/\hgetX H id=some e/\e.fz=false/\z.ρ id= .real g sz n)/\z'.D=(fun k=>memN (rt k) (hkKeys s.hs)=false/\(dynBase<=k\/ρ0 k≠.no))/\(∀k,hkey (s.emb t).2 k=memN k (hkKeys s.hs))/\SameDyn z.ρ z'.ρ/\(∀k,memN k (hkKeys s.hs)=true->k<dynBase)/\(∀i,i∈s.ks.ids\/i∈hkIds s.hs->i∈hkKeys s.hs):=by
 have h0:=d4Z;unfold Shp.rco at h;obtain⟨h1,h2⟩:=aeZ.1 h;simp only[ZAD] at h1;obtain⟨⟨g1,g2,g3,g4⟩,g5⟩:=h1;obtain⟨r1,r2,r3⟩:=qTZ hH g1 g2 g5 g3 g4;have hd1:SameDyn z.ρ (z.ren H ps).ρ:=fun id hid _=>Z.ren_dyn g3 hid;have hv':AReps (z.ren H ps) (AV.renL (noOf ps) vs) vals:=hv.ren rfl rfl (.inl hd1) fun id k _ hk=>r2 id k (dgZ hk);obtain⟨k1,t,k2,k3,k4⟩:=Shp.co_ok h2 (fun id e he=>r1.ex he) hv';unfold Shp.ok at k1;simp only[ZAD,bUZ,ZAh] at k1;have hg:=fun id=>bZZ s.hs (embL s.ks (hkLv s.hs []) (untidy s.tys t)).2 id;have hvi:AV.idsL (s.emb t).1=s.ks.ids:=ccZ s.ks _
 let z':=(z.ren H ps).cut (hkKeys s.hs) ρ0 (z.ren H ps).C
 have hd2:SameDyn (z.ren H ps).ρ z'.ρ:=Z.cut_dyn _ _ _ _;have hin:∀k,k∈hkKeys s.hs->z'.ρ k=(z.ren H ps).ρ k:=fun k hk=>by
  show(bif memN k (hkKeys s.hs) then(z.ren H ps).ρ k else if dynBase<=k then(z.ren H ps).ρ k else ρ0 k)=_;rw[agZ.2 hk];rfl
 have hkm:∀k e,hget (s.emb t).2 k=some e->k∈hkKeys s.hs:=fun k e he=>by
  have:=ahZ he;rw[show hkey (s.emb t).2 k=memN k (hkKeys s.hs) from(hg k).1] at this;exact agZ.1 this
 have hkd:∀k,memN k (hkKeys s.hs)=true->k<dynBase:=fun k hk=>by
  obtain⟨e,he⟩:=(hg k).2.1 hk;obtain⟨_,⟨e0,q1,_⟩⟩:=k4 k e he;have:=ahZ q1;rw[(b5Z g5 k).2] at this;obtain⟨id,hid⟩:=ZBh.1 this;exact b7Z g3 (drZ (aIZ hid))
 have hfam:∀k e,hget (s.emb t).2 k=some e->famBase<=k->hget (renH H (noOf ps) ps) k=some e:=fun k e he hk=>by
  obtain⟨_,⟨e0,q1,q2,q3,q4⟩⟩:=k4 k e he;have hfo:=r1.fam k e0 q1;have hf0:e0.b.isFam=true:=by
   obtain⟨fz,b⟩:=e0;cases b<;>first|rfl|(have:k<famBase:=hfo;omega)
  rw[q4 hf0];exact q1
 have hlowf:∀k e,hget (s.emb t).2 k=some e->k<famBase->e.b.isFam=false:=fun k e he hk=>by
  obtain⟨_,⟨e0,q1,q2,q3,q4⟩⟩:=k4 k e he;have hfo:=r1.fam k e0 q1;rw[q3];obtain⟨fz,b⟩:=e0;cases b<;>first|rfl|(have:=hfo.1;omega)
 have hX:∀k e,hgetX (s.emb t).2 k=some e->ERep (z.ren H ps) k e/\(∃e1,hgetX (renH H (noOf ps) ps) k=some e1/\e1.fz=e.fz)/\(k∈hkKeys s.hs\/dynBase<=k)/\∀i∈e.ids,i∈hkKeys s.hs:=fun k e he=>by
  by_cases hd:dynBase<=k
  ·rw[a5Z hd] at he;obtain⟨e0,p1,p2⟩:=ZAH.1 he;have p3:=hfam _ _ p1 (bLZ hd).1;have p4:hgetX (renH H (noOf ps) ps) k=some e:=by rw[a5Z hd,p3];exact p2
   exact⟨r1.ent _ _ p4,⟨e,p4,rfl⟩,.inr hd,fun i hi=>by rw[(ejZ p2 some).2] at hi;cases hi⟩
  ·by_cases hk:famBase<=k
   ·unfold hgetX at he;rw[ZAM hd,ZAO hk] at he;cases he
   ·have hk':k<famBase:=ZBE.1 hk;rw[aoZ hk'] at he;obtain⟨q0,⟨e0,q1,q2,_⟩⟩:=k4 k e he;have hids:=(hg k).2.2 e he;exact⟨q0 (hlowf k e he hk'),⟨e0,by rw[aoZ hk'];exact q1,q2⟩,.inl (hkm k e he),fun i hi=>k1.2 i (.inr (hids i hi))⟩
 have hρX:∀k,k∈hkKeys s.hs\/dynBase<=k->z'.ρ k=(z.ren H ps).ρ k:=fun k hk=>by
  rcases hk with hk|hk
  ·exact hin k hk
  ·show(bif memN k (hkKeys s.hs) then(z.ren H ps).ρ k else if dynBase<=k then(z.ren H ps).ρ k else ρ0 k)=_;rw[ZAO hk];cases memN k (hkKeys s.hs)<;>rfl
 refine⟨t,z',k2,rfl,rfl,⟨fun k e he=> ?_,fun i i' e e' g sz n g' sz' n' hii p1 p2 m1 m2 p3 p4=> ?_,fun k hk=> ?_,r1.sub,fun k x hx=> ?_,fun k hk=>hkd k (by rw[<-(hg k).1];exact hk),fun k hd hk=> ?_,fun k hk1 hk2=> ?_⟩,?_,fun k hk=> ?_,fun k hk=> ?_,r3,fun g hC=>hC,rfl,fun k=>(hg k).1,fun id hid hn=> ?_,hkd,k1.2⟩
 ·obtain⟨q1,_,q3,q4⟩:=hX k e he;exact q1.rho rfl rfl (.inl hd2) (hρX k q3) (fun i hi=>hin i (q4 i hi)) (fun g sz n _ _ h=>h)
 ·obtain⟨_,⟨e0,q1,q2⟩,q3,_⟩:=hX i e p1;obtain⟨_,⟨e0',q4,q5⟩,q6,_⟩:=hX i' e' p2;rw[hρX i q3] at p3;rw[hρX i' q6] at p4;exact r1.inj i i' e0 e0' g sz n g' sz' n' hii q1 q4 (by rw[q2];exact m1) (by rw[q5];exact m2) p3 p4
 ·by_cases hdk:dynBase<=k
  ·rw[ayZ hdk] at hk;cases he:hget (s.emb t).2 (rt k) with
   |none=>
    rw[he] at hk;have hk:hkey (s.emb t).2 (rt k)=false:=hk;rw[show hkey (s.emb t).2 (rt k)=memN (rt k) (hkKeys s.hs) from(hg _).1] at hk;exact .inr ⟨hk,.inl hdk⟩
   |some e0=>
    rw[he] at hk;have p3:=hfam _ _ he (bLZ hdk).1;left;rw[hρX k (.inr hdk)];refine(r1.fresh k (by rw[ayZ hdk,p3];exact hk)).resolve_right (r1.dyn k hdk (ahZ p3))
  ·by_cases hkf:famBase<=k
   ·left;show(bif memN k (hkKeys s.hs) then(z.ren H ps).ρ k else if dynBase<=k then(z.ren H ps).ρ k else ρ0 k)=_;rw[ZAM hdk];cases memN k (hkKeys s.hs)
    ·exact hρ0 k hkf (by omega)
    ·exact r1.nos k hkf (by omega)
   ·rw[a6Z (by omega),show hkey (s.emb t).2 k=memN k (hkKeys s.hs) from(hg k).1] at hk;have e1:z'.ρ k=ρ0 k:=by
     show(bif memN k (hkKeys s.hs) then(z.ren H ps).ρ k else if dynBase<=k then(z.ren H ps).ρ k else ρ0 k)=_;rw[hk,ZAM hdk];rfl
    by_cases h0:ρ0 k= .no
    ·left;rw[e1,h0]
    ·exact .inr ⟨by rw[aWZ (by omega)];exact hk,.inr h0⟩
 ·obtain⟨_,⟨e0,q1,q2,q3,q4⟩⟩:=k4 k x hx;have hfo:=r1.fam k e0 q1;by_cases hkf:famBase<=k
  ·have:=hfam k x hx hkf;rw[this] at q1;injection q1 with q1;rw[q1];exact hfo
  ·have:=hlowf k x hx (by omega);obtain⟨fz,b⟩:=x;cases b<;>first|(show k<famBase;omega)|cases this
 ·rw[show hkey (s.emb t).2 (rt k)=memN (rt k) (hkKeys s.hs) from(hg _).1] at hk;exact fun hD=>by have:=hD.1;rw[hk] at this;cases this
 ·show(bif memN k (hkKeys s.hs) then(z.ren H ps).ρ k else if dynBase<=k then(z.ren H ps).ρ k else ρ0 k)=_;rw[ZAM (show¬dynBase<=k by omega)];cases memN k (hkKeys s.hs)
  ·exact hρ0 k hk1 hk2
  ·exact r1.nos k hk1 hk2
 ·exact k3.rho rfl rfl (.inl hd2) fun i hi=>hin i (k1.2 i (.inl (by rw[<-hvi];exact hi)))
 ·obtain⟨e,he⟩:=(hg k).2.1 hk;obtain⟨_,⟨e0,q1,_⟩⟩:=k4 k e he;have:=ahZ q1;rw[(b5Z g5 k).2] at this;obtain⟨id,hid⟩:=ZBh.1 this;exact⟨id,aIZ hid,by rw[hin k (agZ.1 hk),r2 id k (aIZ hid)]⟩
 ·show(bif memN k (hkKeys s.hs) then(z.ren H ps).ρ k else if dynBase<=k then(z.ren H ps).ρ k else ρ0 k)=_;rw[hk];by_cases hdk:dynBase<=k
  ·rw[ZAO hdk,ZAO hdk];exact Z.ren_dyn g3 hdk
  ·rw[ZAM hdk,ZAM hdk];rfl
 ·rw[hd2 id hid (by rw[Z.ren_dyn g3 hid];exact hn),Z.ren_dyn g3 hid]
end
end Go.Ab
namespace Go.Ab
section
variable {P : Program} {β γ : Type} {H : Hp} {F : γ → Option β}
theorem amZ{α:Type}{x:Option α}{f:α->Option β}{g:α->Option γ}(h:∀a,f a=(g a).bind F):x.ob f=(x.ob g).bind F:=by
 cases x with
 |none=>rfl
 |some a=>exact h a
theorem awZ{α:Type}{x:Option α}{f:α->Option β}{g:α->Option γ}(h:∀a,f a=(g a).bind F):x.bind f=(x.bind g).bind F:=by
 cases x with
 |none=>rfl
 |some a=>exact h a
theorem akZ{b:Bool}{f:Option β}{g:Option γ}(h:f=g.bind F):need b f=(need b g).bind F:=by
 cases b
 ·rfl
 ·exact h
theorem a9Z{b:Bool}{f f':Option β}{g g':Option γ}(h:f=g.bind F)(h':f'=g'.bind F):bq b f f'=(bq b g g').bind F:=by
 cases b
 ·exact h'
 ·exact h
theorem bXZ{t u:Ty}{f:t=u->Option β}{f':Option β}{g:t=u->Option γ}{g':Option γ}(h:∀e,f e=(g e).bind F)(h':f'=g'.bind F):dq t u f f'=(dq t u g g').bind F:=by
 unfold dq;simp only;split
 ·exact h _
 ·exact h'
theorem jUZ{δ:Type}{fa:List AV->(δ->Option β)->Option β}{fb:List AV->(δ->Option γ)->Option γ}(hf:∀c (k:δ->Option β) (k':δ->Option γ),(∀x,k x=(k' x).bind F)->fa c k=(fb c k').bind F)(c:Nat):
 ∀(n:Nat) (cs:List AV) {k:List δ->Option β} {k':List δ->Option γ},(∀x,k x=(k' x).bind F)->asmN fa c n cs k=(asmN fb c n cs k').bind F
 |0,cs,k,k',h=>h _
 |n+1,cs,k,k',h=>hf _ _ _ fun x=>jUZ hf c n _ fun l=>h _
theorem gBZ:(t:Ty)->{cs:List AV}->{k:t.den->Option β}->{k':t.den->Option γ}->(∀x,k x=(k' x).bind F)->asm t cs k=(asm t cs k').bind F
 |.byte,cs,k,k',h=>amZ fun n=>awZ h
 |.one t,cs,k,k',h=>gBZ t h
 |.pair a b,cs,k,k',h=>gBZ a fun x=>gBZ b fun y=>h _
 |.arr n t,cs,k,k',h=>jUZ (fa:=asm t) (fb:=asm t) (fun c _ _ h=>gBZ t (cs:=c) h) t.cells n cs h
 |.int _,cs,k,k',h|.bool,cs,k,k',h|.str,cs,k,k',h|.opq,cs,k,k',h|.nat,cs,k,k',h|.sl _,cs,k,k',h|.ref _ _,cs,k,k',h=>amZ h
 |.ptr t,cs,k,k',h=>by
  simp only[asm];split
  ·exact bXZ (fun _=>awZ h) rfl
  ·exact amZ h
theorem pbZ{u:Ty}{a:AV}{k:u.den->Option β}{k':u.den->Option γ}(h:∀x,k x=(k' x).bind F):asC u a k=(asC u a k').bind F:=
 amZ fun _=>akZ (gBZ u h)
theorem btZ{u:Ty}{a:AV}{k:u.den->Option β}{k':u.den->Option γ}(h:∀x,k x=(k' x).bind F):asA u a k=(asA u a k').bind F:=by
 unfold asA;split
 ·exact bXZ (fun _=>h _) (pbZ h)
 ·exact pbZ h
theorem krZ:(t:Ty)->{x:t.den}->{o:Nat}->{u:Ty}->{k:u.den->Option β}->{k':u.den->Option γ}->(∀x,k x=(k' x).bind F)->sub t x o u k=(sub t x o u k').bind F
 |.one t,x,o,u,k,k',h=>bXZ (fun _=>a9Z (h _) rfl) (krZ t h)
 |.pair a b,x,o,u,k,k',h=>bXZ (fun _=>a9Z (h _) rfl) (a9Z (krZ a h) (krZ b h))
 |.int _,x,o,u,k,k',h|.bool,x,o,u,k,k',h|.byte,x,o,u,k,k',h|.str,x,o,u,k,k',h|.opq,x,o,u,k,k',h|.nat,x,o,u,k,k',h|.ptr _,x,o,u,k,k',h|.sl _,x,o,u,k,k',h|.arr _ _,x,o,u,k,k',h|.ref _ _,x,o,u,k,k',h=>bXZ (fun _=>a9Z (h _) rfl) rfl
theorem gFZ:(t:Ty)->{x:t.den}->{o:Nat}->{u:Ty}->{y:u.den}->{k:t.den->Option β}->{k':t.den->Option γ}->(∀x,k x=(k' x).bind F)->upd t x o u y k=(upd t x o u y k').bind F
 |.one t,x,o,u,y,k,k',h=>bXZ (fun _=>a9Z (h _) rfl) (gFZ t h)
 |.pair a b,x,o,u,y,k,k',h=>bXZ (fun _=>a9Z (h _) rfl) (a9Z (gFZ a fun _=>h _) (gFZ b fun _=>h _))
 |.int _,x,o,u,y,k,k',h|.bool,x,o,u,y,k,k',h|.byte,x,o,u,y,k,k',h|.str,x,o,u,y,k,k',h|.opq,x,o,u,y,k,k',h|.nat,x,o,u,y,k,k',h|.ptr _,x,o,u,y,k,k',h|.sl _,x,o,u,y,k,k',h|.arr _ _,x,o,u,y,k,k',h|.ref _ _,x,o,u,y,k,k',h=>bXZ (fun _=>a9Z (h _) rfl) rfl
theorem gYZ:(t:Ty)->{x:t.den}->{o:Nat}->{u:Ty}->{k:AV->Option β}->{k':AV->Option γ}->(∀x,k x=(k' x).bind F)->subR t x o u k=(subR t x o u k').bind F
 |.one t,x,o,u,k,k',h=>a9Z (h _) (gYZ t h)
 |.pair a b,x,o,u,k,k',h=>a9Z (h _) (a9Z (gYZ a h) (gYZ b h))
 |.int _,x,o,u,k,k',h|.bool,x,o,u,k,k',h|.byte,x,o,u,k,k',h|.str,x,o,u,k,k',h|.opq,x,o,u,k,k',h|.nat,x,o,u,k,k',h|.ptr _,x,o,u,k,k',h|.sl _,x,o,u,k,k',h|.arr _ _,x,o,u,k,k',h|.ref _ _,x,o,u,k,k',h=>a9Z (h _) rfl
theorem hwZ:(t:Ty)->{x:t.den}->{o:Nat}->{u:Ty}->{v:AV}->{k:t.den->Option β}->{k':t.den->Option γ}->(∀x,k x=(k' x).bind F)->updR t x o u v k=(updR t x o u v k').bind F
 |.one t,x,o,u,v,k,k',h=>a9Z (btZ h) (hwZ t h)
 |.pair a b,x,o,u,v,k,k',h=>a9Z (btZ h) (a9Z (hwZ a fun _=>h _) (hwZ b fun _=>h _))
 |.int _,x,o,u,v,k,k',h|.bool,x,o,u,v,k,k',h|.byte,x,o,u,v,k,k',h|.str,x,o,u,v,k,k',h|.opq,x,o,u,v,k,k',h|.nat,x,o,u,v,k,k',h|.ptr _,x,o,u,v,k,k',h|.sl _,x,o,u,v,k,k',h|.arr _ _,x,o,u,v,k,k',h|.ref _ _,x,o,u,v,k,k',h=>a9Z (btZ h) rfl
section
variable {k : AV → Option β} {k' : AV → Option γ}
theorem hMZ{u:Ty}{t:TypeId}{x:u.den}{j:Nat}(h:∀x,k x=(k' x).bind F):rdRow P u t x j k=(rdRow P u t x j k').bind F:=amZ fun _=>a9Z (krZ u fun _=>h _) (gYZ u h)
theorem fpZ{u:Ty}{t:TypeId}{l:List u.den}{i j:Nat}(h:∀x,k x=(k' x).bind F):rdRows P t u l i j k=(rdRows P t u l i j k').bind F:=by
 unfold rdRows;split
 ·exact a9Z (akZ (h _)) (awZ fun _=>hMZ h)
 ·exact awZ fun _=>hMZ h
theorem mIZ{t:TypeId}{c:List AV}{j:Nat}(h:∀x,k x=(k' x).bind F):rdVars P t c j k=(rdVars P t c j k').bind F:=a9Z (akZ (h _)) (a9Z (amZ h) rfl)
theorem mzZ{t:TypeId}{a:AV}(h:∀x,k x=(k' x).bind F):evLoad P t a H k=(evLoad P t a H k').bind F:=by
 unfold evLoad;split
 ·split
  ·exact mIZ h
  ·exact a9Z (fpZ h) rfl
  ·rfl
 ·exact fpZ h
 ·split
  ·exact awZ fun _=>akZ (fpZ h)
  ·rfl
 ·rfl
theorem mBZ{t:TypeId}{c a b:AV}(h:∀x,k x=(k' x).bind F):evPick P t c a b k=(evPick P t c a b k').bind F:=by
 unfold evPick;refine amZ fun q=> ?_;split
 ·split
  ·exact h _
  ·exact akZ (h _)
  ·exact akZ (h _)
  ·rfl
 ·exact a9Z (h _) (h _)
theorem lKZ{t:TypeId}{ps:List (Nat×AV)}(h:∀x,k x=(k' x).bind F):evBuild P t ps k=(evBuild P t ps k').bind F:=by
 unfold evBuild;refine amZ fun q=> ?_;split
 ·exact amZ fun _=>amZ fun _=>h _
 ·exact amZ fun _=>amZ fun _=>h _
 ·rfl
theorem oxZ{op:BinOp}{kk:IntKind}{a b:Int}(h:∀x,k x=(k' x).bind F):evInt op kk a b k=(evInt op kk a b k').bind F:=by
 unfold evInt;split<;>first|exact h _|exact akZ (h _)
theorem ovZ{op:BinOp}{a b:List UInt8}(h:∀x,k x=(k' x).bind F):evStr op a b k=(evStr op a b k').bind F:=by
 unfold evStr;split<;>first|exact h _|exact akZ (h _)|rfl
theorem pWZ{op:UnOp}{t:TypeId}{a:AV}(h:∀x,k x=(k' x).bind F):evUn P op t a k=(evUn P op t a k').bind F:=by
 unfold evUn;split<;>first|exact amZ fun _=>h _|rfl
theorem fKZ{u:Ty}{a:AV}{k:List u.den->Option β}{k':List u.den->Option γ}(h:∀x,k x=(k' x).bind F):rowsOf H u a k=(rowsOf H u a k').bind F:=by
 unfold rowsOf;split
 ·exact bXZ (fun _=>h _) (bXZ (fun _=>bXZ (fun _=>h _) rfl) (amZ h))
 ·split
  ·exact bXZ (fun _=>a9Z (h _) rfl) rfl
  ·rfl
 ·split
  ·exact bXZ (fun _=>a9Z (h _) rfl) rfl
  ·rfl
 ·rfl
theorem eOZ{s d:TypeId}{a:AV}(h:∀x,k x=(k' x).bind F):evConvert P s d a H k=(evConvert P s d a H k').bind F:=by
 unfold evConvert;split
 ·exact amZ fun _=>h _
 ·exact amZ fun _=>h _
 ·exact a9Z (fKZ fun _=>h _) rfl
 ·rfl
 ·rfl
theorem dnZ{es id:Nat}{k:(u:Ty)->List u.den->Option β}{k':(u:Ty)->List u.den->Option γ}(h:∀u x,k u x=(k' u x).bind F):ownRows H es id k=(ownRows H es id k').bind F:=by
 unfold ownRows;split
 ·exact a9Z (h _ _) rfl
 ·rfl
theorem qeZ{a:AV}{k:Nat->Option β}{k':Nat->Option γ}(h:∀x,k x=(k' x).bind F):lenS H a k=(lenS H a k').bind F:=by
 unfold lenS;split
 ·exact h _
 ·split
  ·exact h _
  ·exact dnZ fun _ _=>h _
 ·exact h _
 ·exact h _
 ·exact h _
 ·rfl
theorem qwZ{a:AV}{k:Nat->Option β}{k':Nat->Option γ}(h:∀x,k x=(k' x).bind F):lenM H a k=(lenM H a k').bind F:=by
 unfold lenM;split
 ·exact h _
 ·split
  ·exact h _
  ·rfl
 ·rfl
theorem quZ{t:TypeId}{a:AV}{k:Nat->Option β}{k':Nat->Option γ}(h:∀x,k x=(k' x).bind F):lenT P t H a k=(lenT P t H a k').bind F:=by
 unfold lenT;split
 ·exact amZ fun _=>h _
 ·exact qeZ h
 ·exact qwZ h
 ·exact h _
 ·rfl
theorem gcZ{s:TypeId}{a:AV}{f:Nat}(h:∀x,k x=(k' x).bind F):evFieldAddr P s a f k=(evFieldAddr P s a f k').bind F:=by
 unfold evFieldAddr;split<;>first|exact h _|rfl
theorem clZ{a:Option AV}{d m:Nat}{k:Nat->Option β}{k':Nat->Option γ}(h:∀x,k x=(k' x).bind F):optI a d m k=(optI a d m k').bind F:=by
 unfold optI;split
 ·exact h _
 ·exact amZ fun _=>awZ h
theorem kbZ{α:Type}{l:List α}{lo hi:Option AV}{k:List α->Option β}{k':List α->Option γ}(h:∀x,k x=(k' x).bind F):cutL l lo hi k=(cutL l lo hi k').bind F:=by
 unfold cutL;split
 ·exact h _
 ·exact amZ fun _=>awZ fun _=>h _
 ·exact amZ fun _=>awZ fun _=>h _
 ·exact amZ fun _=>awZ fun _=>amZ fun _=>awZ fun _=>h _
theorem lMZ{t:TypeId}{a:AV}{lo hi:Option AV}(h:∀x,k x=(k' x).bind F):evSlice P t a lo hi H k=(evSlice P t a lo hi H k').bind F:=by
 unfold evSlice;split
 ·exact amZ fun _=>kbZ fun _=>h _
 ·split
  ·refine a9Z ?_ rfl;split
   ·exact h _
   ·exact dnZ fun _ _=>clZ fun _=>clZ fun _=>h _
  ·exact a9Z (clZ fun _=>clZ fun _=>h _) rfl
  ·exact a9Z (kbZ fun _=>h _) rfl
  ·exact akZ (clZ fun _=>clZ fun _=>h _)
  ·exact a9Z (clZ fun _=>clZ fun _=>h _) rfl
  ·rfl
 ·split
  ·refine a9Z (dnZ fun _ _=>akZ ?_) rfl;split
   ·exact h _
   ·exact clZ fun _=>clZ fun _=>h _
  ·exact a9Z (kbZ fun _=>h _) rfl
  ·rfl
 ·rfl
theorem jHZ{t:TypeId}{a hi mx:AV}{lo:Option AV}(h:∀x,k x=(k' x).bind F):evSlice3 P t a lo hi mx k=(evSlice3 P t a lo hi mx k').bind F:=by
 unfold evSlice3;split
 ·split
  ·refine a9Z (amZ fun _=>awZ fun _=>amZ fun _=>awZ fun _=> ?_) rfl;split
   ·exact h _
   ·exact amZ fun _=>awZ fun _=>h _
  ·rfl
 ·rfl
theorem luZ{t:TypeId}{a ix:AV}(h:∀x,k x=(k' x).bind F):evIndex P t a ix k=(evIndex P t a ix k').bind F:=by
 unfold evIndex;refine amZ fun x=> ?_;split
 ·exact amZ fun _=>awZ fun _=>awZ fun _=>h _
 ·exact amZ fun _=>btZ fun _=>awZ fun _=>awZ fun _=>h _
 ·rfl
theorem gqZ{t:TypeId}{a ix:AV}(h:∀x,k x=(k' x).bind F):evIndexAddr P t a ix H k=(evIndexAddr P t a ix H k').bind F:=by
 unfold evIndexAddr;refine amZ fun x=> ?_;split
 ·refine akZ ?_;split<;>first|rfl|exact a9Z (awZ fun _=>h _) (awZ fun _=>h _)
 ·refine akZ ?_;split
  ·refine a9Z ?_ rfl;split
   ·exact awZ fun _=>h _
   ·exact dnZ fun _ _=>awZ fun _=>h _
  ·exact a9Z (awZ fun _=>h _) rfl
  ·exact a9Z (awZ fun _=>h _) rfl
  ·exact a9Z (awZ fun _=>awZ fun _=>h _) rfl
  ·rfl
 ·rfl
theorem kXZ{s:TypeId}{a:AV}{f:Nat}(h:∀x,k x=(k' x).bind F):evField P s a f k=(evField P s a f k').bind F:=by
 unfold evField;split
 ·exact a9Z (akZ (h _)) (a9Z (amZ h) rfl)
 ·exact a9Z (hMZ h) rfl
 ·rfl
theorem hRZ{kt:Ty}{x:kt.den}{k:Option AV->Option β}{k':Option AV->Option γ}(h:∀x,k x=(k' x).bind F):∀l:List (kt.den×AV),fchain l x k=(fchain l x k').bind F
 |[]=>h _
 |(_,_)::r=>a9Z (h _) (hRZ h r)
theorem j2Z{t:TypeId}{m ix:AV}{c:Bool}(h:∀x,k x=(k' x).bind F):evLookup P t m ix c H k=(evLookup P t m ix c H k').bind F:=by
 unfold evLookup;split
 ·split
  ·exact akZ (btZ fun _=>h _)
  ·refine akZ (btZ fun _=>hRZ (fun r=> ?_) _);split<;>exact h _
  ·rfl
 ·split
  ·exact amZ fun _=>amZ fun _=>akZ (btZ fun _=>h _)
  ·rfl
 ·rfl
theorem nKZ{t:TypeId}{a b:AV}{k:Bool->Option β}{k':Bool->Option γ}(hn:natBin P t=true)(h:∀x,k x=(k' x).bind F):evEq P t a b H k=(evEq P t a b H k').bind F:=by
 unfold evEq;split
 ·exact amZ h
 ·exact amZ h
 ·exact amZ h
 ·rename_i e he;simp[natBin,he] at hn
 ·exact amZ fun _=>akZ (btZ fun _=>btZ fun _=>h _)
theorem oyZ{op:BinOp}{t u:TypeId}{a b:AV}(hn:natBin P t=true)(h:∀x,k x=(k' x).bind F):evBin P op t u a b H k=(evBin P op t u a b H k').bind F:=by
 unfold evBin;split
 ·split
  ·exact amZ fun _=>amZ fun _=>akZ (oxZ h)
  ·rfl
 ·exact amZ fun _=>amZ fun _=>ovZ h
 ·split
  ·exact nKZ hn fun _=>h _
  ·exact nKZ hn fun _=>h _
  ·rfl
theorem qKZ{o:Oper}{r:Operand->AV}(hn:natR P o=true)(h:∀x,k x=(k' x).bind F):evR P o r H k=(evR P o r H k').bind F:=by
 unfold evR;unfold natR at hn;split
 ·exact h _
 ·exact h _
 ·exact mBZ h
 ·exact lKZ h
 ·exact mzZ h
 ·split<;>first|exact h _|rfl|exact akZ (h _)
 ·rename_i ho;rw[ho] at hn;exact oyZ hn h
 ·exact j2Z h
 ·exact pWZ h
 ·exact eOZ h
 ·exact h _
 ·exact lMZ h
 ·exact jHZ h
 ·exact gcZ h
 ·exact kXZ h
 ·exact gqZ h
 ·exact luZ h
 ·exact amZ fun _=>amZ h
 ·rename_i c ho;rw[ho] at hn;simp only at hn;split
  ·split
   ·exact quZ fun _=>h _
   ·rfl
  ·rename_i hc;rw[hc] at hn;cases hn
  ·split
   ·refine amZ fun l=> ?_;split
    ·exact h _
    ·rfl
   ·rfl
  ·split
   ·refine amZ fun l=> ?_;split
    ·exact h _
    ·rfl
   ·rfl
  ·rfl
 ·rfl
end
section
variable {k : AV → Hp → Option β} {k' : AV → Hp → Option γ}
theorem aQZ{id:Nat}{b:Blk}{k:Hp->Option β}{k':Hp->Option γ}(h:∀H,k H=(k' H).bind F):newAt H id b k=(newAt H id b k').bind F:=a9Z rfl (h _)
theorem lAZ{t:TypeId}{id:Nat}(h:∀x H,k x H=(k' x H).bind F):evAlloc P t id H k=(evAlloc P t id H k').bind F:=by
 unfold evAlloc;split
 ·exact amZ fun _=>akZ (aQZ fun _=>h _ _)
 ·exact amZ fun _=>aQZ fun _=>h _ _
theorem oUZ{t:TypeId}{v:AV}{id:Nat}(h:∀x H,k x H=(k' x H).bind F):evBox P t v id H k=(evBox P t v id H k').bind F:=by
 unfold evBox;split
 ·exact amZ fun _=>amZ fun _=>btZ fun _=>akZ (aQZ fun _=>h _ _)
 ·exact amZ fun _=>aQZ fun _=>h _ _
theorem jhZ{t:TypeId}{id:Nat}(h:∀x H,k x H=(k' x H).bind F):evAlloc1 P t id H k=(evAlloc1 P t id H k').bind F:=
 amZ fun _=>akZ (aQZ fun _=>h _ _)
theorem m1Z{t:TypeId}{v:AV}{id:Nat}(h:∀x H,k x H=(k' x H).bind F):evBox1 P t v id H k=(evBox1 P t v id H k').bind F:=
 amZ fun _=>amZ fun _=>btZ fun _=>aQZ fun _=>h _ _
theorem mJZ{t e:TypeId}{u:Ty}{l:List u.den}{i j id:Nat}{v:AV}(h:∀x H,k x H=(k' x H).bind F):wrRows P t e u l i j id v H k=(wrRows P t e u l i j id v H k').bind F:=by
 unfold wrRows;split
 ·exact a9Z (akZ (btZ fun _=>akZ (h _ _))) (btZ fun _=>awZ fun _=>gFZ _ fun _=>h _ _)
 ·exact btZ fun _=>awZ fun _=>gFZ _ fun _=>h _ _
 ·rfl
theorem maZ{t:TypeId}{a v:AV}(h:∀x H,k x H=(k' x H).bind F):evStore P t a v H k=(evStore P t a v H k').bind F:=by
 unfold evStore;split
 ·split
  ·exact amZ fun _=>akZ (h _ _)
  ·exact a9Z (a9Z (amZ fun _=>akZ (mJZ h)) (amZ fun _=>amZ fun _=>amZ fun _=>amZ fun _=>akZ (awZ fun _=>hwZ _ fun _=>h _ _))) rfl
  ·rfl
 ·unfold wrMem;refine amZ fun _=>amZ fun _=> ?_;split
  ·exact awZ fun _=>akZ (btZ fun _=>awZ fun _=>gFZ _ fun _=>h _ _)
  ·rfl
 ·rfl
theorem hoZ{s d:TypeId}{a:AV}{id:Nat}(h:∀x H,k x H=(k' x H).bind F):evConvertW P s d a id H k=(evConvertW P s d a id H k').bind F:=by
 unfold evConvertW;split
 ·exact a9Z (amZ fun _=>akZ (aQZ fun _=>h _ _)) rfl
 ·split
  ·split
   ·exact a9Z (akZ (h _ _)) rfl
   ·rfl
  ·rfl
 ·rfl
theorem mtZ{t:TypeId}{l c:AV}{id:Nat}(h:∀x H,k x H=(k' x H).bind F):evMake P t l c id H k=(evMake P t l c id H k').bind F:=by
 unfold evMake;split
 ·exact amZ fun _=>amZ fun _=>awZ fun _=>awZ fun _=>amZ fun _=>akZ (aQZ fun _=>h _ _)
 ·rfl
theorem igZ{t:TypeId}{q:Option AV}{md:List Nat}{id:Nat}(h:∀x H,k x H=(k' x H).bind F):evMakeMap P t q md id H k=(evMakeMap P t q md id H k').bind F:=by
 unfold evMakeMap;split
 ·exact amZ fun _=>akZ (a9Z (aQZ fun _=>h _ _) (amZ fun _=>aQZ fun _=>h _ _))
 ·rfl
theorem fvZ{t:TypeId}{m key x:AV}(h:∀x H,k x H=(k' x H).bind F):evMapUpd P t m key x H k=(evMapUpd P t m key x H k').bind F:=by
 unfold evMapUpd;split
 ·split
  ·exact akZ (btZ fun _=>akZ (amZ fun _=>akZ (h _ _)))
  ·refine amZ fun _=> ?_;split
   ·exact akZ (btZ fun _=>btZ fun _=>h _ _)
   ·rfl
 ·rfl
theorem f0Z{t:TypeId}{n:Nat}{ps:List (Nat×AV)}{vs:Bool}{rb:Option Nat}{id:Nat}(h:∀x H,k x H=(k' x H).bind F):evBuildSlice P t n ps vs rb id H k=(evBuildSlice P t n ps vs rb id H k').bind F:=by
 unfold evBuildSlice;simp only[eeZ];split
 ·exact amZ fun _=>amZ fun u=>akZ (amZ fun _=>a9Z (akZ (aQZ fun _=>h _ _))<|amZ fun _=>jUZ (fa:=asm (rowTy _ rb u)) (fb:=asm (rowTy _ rb u)) (fun c _ _ h=>gBZ (rowTy _ rb u) (cs:=c) h) _ _ _ fun _=>aQZ fun _=>h _ _)
 ·rfl
theorem f1Z{t:TypeId}{s x:AV}{id:Nat}(h:∀x H,k x H=(k' x H).bind F):evAppend P t s x id H k=(evAppend P t s x id H k').bind F:=by
 unfold evAppend;split
 ·refine amZ fun _=>fKZ fun _=> ?_;split
  ·exact akZ (aQZ fun _=>h _ _)
  ·split
   ·exact bXZ (fun _=>akZ (aQZ fun _=>h _ _)) (bXZ (fun _=>akZ (aQZ fun _=>h _ _)) rfl)
   ·rfl
  ·split
   ·exact bXZ (fun _=>akZ (aQZ fun _=>h _ _)) rfl
   ·rfl
  ·rfl
 ·rfl
theorem mHZ{t:TypeId}{s x:AV}(h:∀x H,k x H=(k' x H).bind F):evCopy P t s x H k=(evCopy P t s x H k').bind F:=by
 unfold evCopy;split
 ·refine amZ fun _=>fKZ fun _=> ?_;split
  ·split
   ·exact bXZ (fun _=>akZ (h _ _)) rfl
   ·rfl
  ·split
   ·exact bXZ (fun _=>akZ (h _ _)) rfl
   ·rfl
  ·split
   ·exact bXZ (fun _=>bXZ (fun _=>awZ fun _=>h _ _) rfl) rfl
   ·rfl
  ·rfl
 ·rfl
theorem l2Z{t:TypeId}{d:AV}(h:∀x H,k x H=(k' x H).bind F):evClear P t d H k=(evClear P t d H k').bind F:=by
 unfold evClear;split
 ·refine amZ fun _=>akZ ?_;split
  ·exact h _ _
  ·split
   ·exact bXZ (fun _=>akZ (h _ _)) rfl
   ·rfl
  ·split
   ·exact bXZ (fun _=>akZ (h _ _)) rfl
   ·rfl
  ·rfl
 ·rfl
theorem OutS.on_nt:∀{l:List Shp} {x:OutS l} {k:(s:Shp)->s.D->Option β} {k':(s:Shp)->s.D->Option γ},(∀s t,k s t=(k' s t).bind F)->OutS.on l x k=(OutS.on l x k').bind F
 |[],x,_,_,_=>Empty.elim x
 |[s],x,k,k',h=>h s x
 |s::t::r,.inl y,k,k',h=>h s y
 |s::t::r,.inr y,k,k',h=>OutS.on_nt (l:=t::r) (x:=y) h
mutual
theorem co_nt:(q:Kd)->{r:List Ty}->{a:AV}->{x:HL r}->{k:HL (q.lv r)->Option β}->{k':HL (q.lv r)->Option γ}->(∀y,k y=(k' y).bind F)->co q r a x k=(co q r a x k').bind F
 |.p t,r,a,x,k,k',h=>btZ (u:=t) (k:=fun y=>k (y,x)) (k':=fun y=>k' (y,x)) fun y=>h _
 |.pt t,r,a,x,k,k',h=>amZ fun _=>h _
 |.own es id i j,r,a,x,k,k',h=>akZ (h _)
 |.ownx es id j,r,a,x,k,k',h=>amZ fun _=>h _
 |.sl es id,r,a,x,k,k',h=>amZ fun _=>h _
 |.slf es id,r,a,x,k,k',h=>akZ (h _)
 |.mp id,r,a,x,k,k',h=>akZ (h _)
 |.any,r,a,x,k,k',h=>h _
 |.fn f ka kc,r,a,x,k,k',h=>amZ fun _=>akZ (fzZ kc fun _=>fzZ ka h)
 |.agg l,r,a,x,k,k',h=>amZ fun _=>akZ (fzZ l h)
 |.tup l,r,a,x,k,k',h=>amZ fun _=>akZ (fzZ l h)
 |.nilp v,r,a,x,k,k',h=>akZ (h _)
theorem fzZ:(q:KdL)->{r:List Ty}->{c:List AV}->{x:HL r}->{k:HL (q.lv r)->Option β}->{k':HL (q.lv r)->Option γ}->(∀y,k y=(k' y).bind F)->coL q r c x k=(coL q r c x k').bind F
 |.nil,r,c,x,k,k',h=>h _
 |.cons q l,r,c,x,k,k',h=>fzZ l fun _=>co_nt q h
end
theorem qGZ{q:BKd}{r:List Ty}{b:Blk}{x:HL r}{k:HL (q.lv r)->Option β}{k':HL (q.lv r)->Option γ}(h:∀y,k y=(k' y).bind F):coB q r b x k=(coB q r b x k').bind F:=by
 cases q with
 |vars l=>exact amZ fun _=>fzZ l h
 |rows e t=>exact amZ fun _=>h _
 |map kt vt=>exact amZ fun _=>h _
 |fam e s=>exact amZ fun _=>h _
theorem peZ:(hs:HK)->{r:List Ty}->{x:HL r}->{k:HL (hkLv hs r)->Option β}->{k':HL (hkLv hs r)->Option γ}->(∀y,k y=(k' y).bind F)->coH hs r H x k=(coH hs r H x k').bind F
 |[],r,x,k,k',h=>h _
 |(_,_,q)::l,r,x,k,k',h=>amZ fun _=>peZ l fun _=>qGZ h
theorem Shp.co_nt{s:Shp}{vs:List AV}{k:s.D->Option β}{k':s.D->Option γ}(h:∀y,k y=(k' y).bind F):s.co vs H k=(s.co vs H k').bind F:=
 akZ (peZ s.hs fun _=>fzZ s.ks fun _=>h _)
theorem Shp.rco_nt{s:Shp}{vs:List AV}{ps:List (Nat×Nat)}{k:s.D->Option β}{k':s.D->Option γ}(h:∀y,k y=(k' y).bind F):s.rco vs H ps k=(s.rco vs H ps k').bind F:=
 akZ (Shp.co_nt h)
theorem m2Z{e:FnT}{args:List AV}{an:Ann}(h:∀x H,k x H=(k' x H).bind F):evCall P e args an H k=(evCall P e args an H k').bind F:=by
 unfold evCall;rw[cIZ,cIZ];exact amZ fun _=>akZ (Shp.rco_nt fun _=>awZ fun _=>OutS.on_nt fun _ _=>by
  rw[Shp.embC_eq,Shp.embC_eq];exact akZ (h _ _))
theorem q7Z{T:Tbl}{o:Oper}{an:Ann}{r:Operand->AV}(h:∀x H,k x H=(k' x H).bind F):evW P T o an r H k=(evW P T o an r H k').bind F:=by
 unfold evW;split
 ·exact a9Z (lAZ h) (jhZ h)
 ·exact a9Z (oUZ h) (m1Z h)
 ·exact f0Z h
 ·exact maZ h
 ·split
  ·exact eOZ fun _=>h _ _
  ·exact hoZ h
 ·exact mtZ h
 ·exact igZ h
 ·exact fvZ h
 ·exact fvZ h
 ·split
  ·split
   ·split
    ·exact f1Z h
    ·exact f1Z h
    ·rfl
   ·rfl
  ·split
   ·exact mHZ h
   ·rfl
  ·split
   ·exact l2Z h
   ·rfl
  ·refine amZ fun _=> ?_;split
   ·exact m2Z h
   ·rfl
  ·rfl
 ·rfl
theorem pXZ{o:Oper}{r:Operand->AV}{k:AV->Option β}{res:β}(hn:natR P o=true)(h:evR P o r H k=some res):∃x,evR P o r H some=some x/\k x=some res:=by
 have e:evR P o r H k=(evR P o r H some).bind k:=qKZ hn fun _=>rfl;exact ZAH.1 (e▸h)
theorem pKZ{T:Tbl}{o:Oper}{an:Ann}{r:Operand->AV}{k:AV->Hp->Option β}{res:β}(h:evW P T o an r H k=some res):∃x H',evW P T o an r H (fun x H'=>some (x,H'))=some (x,H')/\k x H'=some res:=by
 have e:evW P T o an r H k=(evW P T o an r H fun x H'=>some (x,H')).bind fun p=>k p.1 p.2:=q7Z fun _ _=>rfl;obtain⟨⟨x,H'⟩,h1,h2⟩:=ZAH.1 (e▸h);exact⟨x,H',h1,h2⟩
end
end
end Go.Ab
namespace Go.Ab
theorem apZ{H:Hp}{id:Nat}(h:hkey H id=false):hget H id=none:=by
 cases hg:hget H id with
 |none=>rfl
 |some e=>rw[ahZ hg] at h;cases h
section
variable {z z' : Z} {H : Hp}
theorem ARep.live{a:AV}{v:Value}(h:ARep z a v):∀id∈AV.ids a,z.ρ id≠.no:=by
 have hL:∀{l:List AV},(∀(i:Nat) (x:AV),l[i]? =some x->∀id∈AV.ids x,z.ρ id≠.no)->∀id∈AV.idsL l,z.ρ id≠.no:=by
  intro l;induction l with
  |nil=>intro _ id h;cases h
  |cons a l ih=>
   intro h id hi;simp only[AV.idsL,ZAh] at hi;rcases hi with hi|hi
   ·exact h 0 a rfl id hi
   ·exact ih (fun i x hx=>h (i+1) x hx) id hi
 induction h with
 |p t x v h=>intro id h;cases h
 |pt t l i j b off h1 h2 h3=>intro id h;cases h
 |own es id i j g sz n h=>intro k hk;simp only[AV.ids,ZBP] at hk;subst hk;rw[h];intro h;cases h
 |rp f es k' i j g sz n h=>intro k hk;cases hk
 |slV es id off A h=>intro k hk;simp only[AV.ids,ZBP] at hk;subst hk;rw[h];intro h;cases h
 |slE es id off g sz m o h=>intro k hk;simp only[AV.ids,ZBP] at hk;subst hk;rw[h];intro h;cases h
 |sl es id off n g sz m c h hn hs hm=>intro k hk;simp only[AV.ids,ZBP] at hk;subst hk;rw[h];intro h;cases h
 |slfV es id A h=>intro k hk;simp only[AV.ids,ZBP] at hk;subst hk;rw[h];intro h;cases h
 |slf es id g sz n c h hn hs hm=>intro k hk;simp only[AV.ids,ZBP] at hk;subst hk;rw[h];intro h;cases h
 |mp id g sz n h=>intro k hk;simp only[AV.ids,ZBP] at hk;subst hk;rw[h];intro h;cases h
 |fn f a c va vc ha hc h1 h2 ih1 ih2=>
  intro k hk;simp only[AV.ids,ZAh] at hk;rcases hk with hk|hk
  ·refine hL (fun i x hx=> ?_) k hk;have hlt:i<va.size:=by rw[ha];exact(ZAB.1 hx).1
   exact ih1 i x va[i] hx (ZBA hlt)
  ·refine hL (fun i x hx=> ?_) k hk;have hlt:i<vc.size:=by rw[hc];exact(ZAB.1 hx).1
   exact ih2 i x vc[i] hx (ZBA hlt)
 |agg l cs hs h1 h ih=>
  intro k hk;refine hL (fun i x hx=> ?_) k hk;have hlt:i<cs.size:=by rw[hs];exact(ZAB.1 hx).1
  exact ih i x cs[i] hx (ZBA hlt)
 |tup l vs hs h ih=>
  intro k hk;refine hL (fun i x hx=> ?_) k hk;have hlt:i<vs.size:=by rw[hs];exact(ZAB.1 hx).1
  exact ih i x vs[i] hx (ZBA hlt)
 |junk v=>intro k hk;cases hk
theorem BRep.ren'{g sz n:Nat}{b:Blk}{f:Nat->Option Nat}{ρ':Rho}(h:BRep z g sz n b)(hd:SameDyn z.ρ ρ')(hf:∀{id k:Nat},z.ρ id≠.no->f id=some k->ρ' k=z.ρ id):BRep {z with ρ:=ρ'} g sz n (b.ren f):=by
 cases b with
 |vars c=>
  obtain⟨cs,e,fr,a1,a2,a3,⟨a4,an⟩,a5,a6⟩:=h;refine⟨cs,e,fr,a1,a2,a3,⟨by rw[chZ];exact a4,an⟩,fun i a v p1 p2=> ?_,a6⟩;rw[c6Z] at p1;obtain⟨y,p3,rfl⟩:=ZAI.1 p1;exact(a5 i y v p3 p2).ren rfl rfl (.inl hd) fun id k hi hk=>hf ((a5 i y v p3 p2).live id hi) hk
 |rows e t l=>
  obtain⟨cs,fr,a1,a2,a3,a4,a5,a6,a7⟩:=h;refine⟨cs,fr,a1,a2,a3,a4,a5,a6,fun i x hx=> ?_⟩;obtain⟨u,b1,b2⟩:=a7 i x hx;exact⟨u,b1.dyn hd,b2⟩
 |map kt vt m=>
  obtain⟨es,a1,a2,a3,a4⟩:=h;exact⟨es,a1,a2,fun i x e q1 q2=>⟨(a3 i x e q1 q2).1.dyn hd,(a3 i x e q1 q2).2.1.dyn hd,(a3 i x e q1 q2).2.2⟩,a4⟩
 |fmap kt l=>
  obtain⟨es,clock,a1,a2,a3⟩:=h;refine⟨es,clock,a1,by simp[a2],fun i x e q1 q2=> ?_⟩;rw[ZAa] at q1;obtain⟨y,q3,rfl⟩:=ZAI.1 q1;obtain⟨b1,b2⟩:=a3 i y e q3 q2;exact⟨b1.dyn hd,b2.ren rfl rfl (.inl hd) fun id k hi hk=>hf (b2.live id hi) hk⟩
 |fam e s ms=>exact h.elim
def Z.foc(z:Z)(H:Hp)(F:Nat->Bool):Z:=
 {z with C:=fun g=>∃id e sz n,F (rt id)=true/\hgetX H id=some e/\e.fz=false/\z.ρ id= .real g sz n,D:=fun id=>z.D id\/(hkeyX H id=true/\F (rt id)=false)}
theorem qRZ{H1:Hp}{F:Nat->Bool}(hH:HRep z H)(h1:∀id,hget H1 id=if F id then hget H id else none)(h2:∀id,hkey H1 id=(F id&&hkey H id)):HRep (z.foc H F) H1:=by
 have q:∀id e,hgetX H1 id=some e->F (rt id)=true/\hgetX H id=some e:=fun id e h=>by
  cases hF:F (rt id)
  ·exfalso;have e1:hget H1 (rt id)=none:=by rw[h1,hF];rfl
   have:hgetX H1 id=none:=by
    by_cases hd:dynBase<=id
    ·rw[a5Z hd,e1];rfl
    ·rw[aWZ (by omega)] at e1;unfold hgetX;rw[ZAM hd,e1,ite_self]
   rw[this] at h;cases h
  ·exact⟨rfl,by rw[<-cjZ (show hget H1 (rt id)=hget H (rt id) by rw[h1,hF];rfl)];exact h⟩
 refine⟨fun id e h=> ?_,fun id id' e e' g sz n g' sz' n' hii p1 p2 m1 m2 p3 p4=> ?_,fun id h=> ?_,fun g ⟨id,e,sz,n,q1,q2,q3,q4⟩=> ?_,fun id x h=> ?_,fun id h=> ?_,fun id hd h=> ?_,hH.nos⟩
 ·obtain⟨a1,a2⟩:=q id e h;exact(hH.ent _ _ a2).rho rfl rfl (.inl (.eq rfl)) rfl (fun _ _=>rfl) fun g sz n hr hf _=>⟨id,e,sz,n,a1,a2,hf,hr⟩
 ·exact hH.inj id id' e e' g sz n g' sz' n' hii (q _ _ p1).2 (q _ _ p2).2 m1 m2 p3 p4
 ·cases hF:F (rt id)
  ·cases hk:hkeyX H id
   ·exact(hH.fresh id hk).imp (fun h=>h) .inl
   ·exact .inr (.inr ⟨hk,hF⟩)
  ·rw[cXZ (show hget H1 (rt id)=hget H (rt id) by rw[h1,hF];rfl) (by rw[h2,hF];rfl)] at h;exact(hH.fresh id h).imp (fun h=>h) .inl
 ·exact hH.sub _ ((hH.realX q2 q4).2.1 q3)
 ·rw[h1] at h;split at h
  ·exact hH.fam id x h
  ·cases h
 ·rw[h2,ZAD] at h;exact hH.key id h.2
 ·rw[h2,ZAD] at h;rintro(hD|⟨_,hD⟩)
  ·exact hH.dyn id hd h.2 hD
  ·rw[h.1] at hD;cases hD
theorem kqZ{H2 H3:Hp}{F:Nat->Bool}{z2:Z}(hH:HRep z H)(hn:Nx (z.foc H F) z2)(h2:HRep z2 H2)(hF:∀id,hkey H2 id=true->F id=true)
 (h3:∀id,hget H3 id=if hkey H2 id then hget H2 id else if F id then none else hget H id)(h4:∀id,hkey H2 id=true\/hkey H id=true->hkey H3 id=true)(h5:∀id,hkey H3 id=true->hkey H2 id=true\/hkey H id=true\/(id<dynBase/\∀x,rt x=id->¬z.D x)):
 ∃z3,z3.w=z2.w/\z3.M=z2.M/\z3.ρ=z2.ρ/\HRep z3 H3/\Nx z z3:=by
 let z3:Z:={z2 with C:=fun g=>z2.C g\/(z.C g/\¬(z.foc H F).C g/\g<z.w.heap.size),D:=z.D}
 have hC1:∀g,(z.foc H F).C g->z.C g:=fun g ⟨id,e,sz,n,_,q2,q3,q4⟩=>(hH.realX q2 q4).2.1 q3;have hN:Nx z z3:=⟨hn.os,hn.tape,hn.output,hn.size,fun b hb hc=>hn.block b hb fun h=>hc (hC1 b h),hn.subM,fun g hg=>by
  rcases hg with hg|hg
  ·rcases hn.subC g hg with h|h
   ·exact .inl (hC1 g h)
   ·exact .inr h
  ·exact .inl hg.1,fun g hg hM hC=>hn.keepM g hg hM fun h=>hC (hC1 g h),hn.ext,rfl⟩
 have hkp:=hN.kp hH.sub;have key:∀id e,hgetX H3 id=some e->(hgetX H2 id=some e)\/(F (rt id)=false/\hgetX H id=some e):=fun id e h=>by
  have h3':=h3 (rt id);cases hk:hkey H2 (rt id)
  ·rw[hk] at h3';simp only[ZBD,ZB7] at h3';cases hf:F (rt id)
   ·rw[hf] at h3';exact .inr ⟨rfl,by rw[<-cjZ (H':=H3) (H:=H) h3'];exact h⟩
   ·exfalso;rw[hf] at h3';have e1:hget H3 (rt id)=none:=h3';have:hgetX H3 id=none:=by
     by_cases hd:dynBase<=id
     ·rw[a5Z hd,e1];rfl
     ·rw[aWZ (by omega)] at e1;unfold hgetX;rw[ZAM hd,e1,ite_self]
    rw[this] at h;cases h
  ·rw[hk] at h3';exact .inl (by rw[<-cjZ (H':=H3) (H:=H2) h3'];exact h)
 have hout:∀id e g sz n,F (rt id)=false->hgetX H id=some e->z.ρ id= .real g sz n->¬(z.foc H F).C g:=by
  rintro id e g sz n hf hg hr ⟨id',e',sz',n',a1,a2,a3,a4⟩;have hne:id≠id':=fun h=>by rw[h,a1] at hf;cases hf
  exact hH.ne hne hg a2 a3 hr a4 rfl
 have houtρ:∀id e,F (rt id)=false->hgetX H id=some e->z.ρ id≠.no:=fun id e _ hg hr=>by
  have:=hH.ent _ _ hg;unfold ERep at this;rw[hr] at this;exact this
 refine⟨z3,rfl,rfl,rfl,⟨fun id e h=> ?_,fun id id' e e' g sz n g' sz' n' hii p1 p2 m1 m2 p3 p4=> ?_,fun id h=> ?_,fun g hg=> ?_,fun id x h=> ?_,fun id h=> ?_,fun id hd h=> ?_,h2.nos⟩,hN⟩
 ·rcases key id e h with h|⟨hf,h⟩
  ·exact(h2.ent _ _ h).rho rfl rfl (.inl (.eq rfl)) rfl (fun _ _=>rfl) fun g _ _ _ _ hC=>.inl hC
  ·refine(hH.ent _ _ h).kp hkp fun g sz n hr=>⟨hn.block g (hH.realX h hr).1 (hout id e g sz n hf h hr),fun hC=>.inr ⟨hC,hout id e g sz n hf h hr,(hH.realX h hr).1⟩⟩
 ·have cross:∀i i' ee ee' gg ssz nn gg' ssz' nn',hgetX H2 i=some ee->F (rt i')=false->hgetX H i'=some ee'->ee.fz=false->z2.ρ i= .real gg ssz nn->z2.ρ i'= .real gg' ssz' nn'->gg≠gg':=by
   rintro i i' ee ee' gg ssz nn gg' ssz' nn' a1 a2 a3 a4 a5 a6 rfl;have hr':z.ρ i'= .real gg ssz' nn':=by rw[<-hN.ext i' (houtρ i' ee' a2 a3)];exact a6
   have hlt:=(hH.realX a3 hr').1;rcases hn.subC gg ((h2.realX a1 a5).2.1 a4) with h|h
   ·exact hout i' ee' gg ssz' nn' a2 a3 hr' h
   ·exact ZBE.2 hlt h
  rcases key id e p1 with q1|⟨f1,q1⟩<;>rcases key id' e' p2 with q2|⟨f2,q2⟩
  ·exact h2.inj id id' e e' g sz n g' sz' n' hii q1 q2 m1 m2 p3 p4
  ·exact cross id id' e e' g sz n g' sz' n' q1 f2 q2 m1 p3 p4
  ·exact fun h=>cross id' id e' e g' sz' n' g sz n q2 f1 q1 m2 p4 p3 h.symm
  ·have r1:z.ρ id= .real g sz n:=by rw[<-hN.ext id (houtρ id e f1 q1)];exact p3
   have r2:z.ρ id'= .real g' sz' n':=by rw[<-hN.ext id' (houtρ id' e' f2 q2)];exact p4
   exact hH.inj id id' e e' g sz n g' sz' n' hii q1 q2 m1 m2 r1 r2
 ·
  have h0:=d4Z;by_cases hfr:famBase<=id/\id<dynBase
  ·exact .inl (h2.nos id hfr.1 hfr.2)
  have hlk:∀(H:Hp),(dynBase<=id->hkeyX H id=(match hget H (rt id) with|some e=>e.has ((id-dynBase)/16)|none=>hkey H (rt id)))/\(¬dynBase<=id->hkeyX H id=hkey H (rt id)):=fun H=>
   ⟨fun hd=>ayZ hd,fun hd=>by rw[a6Z (by omega),aWZ (by omega)]⟩
  have k2:hkeyX H2 id=false:=by
   by_cases hd:dynBase<=id
   ·rw[(hlk H2).1 hd];rw[(hlk H3).1 hd] at h;cases hk:hkey H2 (rt id)
    ·rw[apZ hk]
    ·have h3':=h3 (rt id);rw[hk] at h3';rw[ZAO rfl] at h3';rw[h3'] at h;cases hg:hget H2 (rt id) with
     |none=>
      rw[hg] at h;have h:hkey H3 (rt id)=false:=h;rw[h4 (rt id) (.inl hk)] at h;cases h
     |some e=>rw[hg] at h;exact h
   ·rw[(hlk H2).2 hd];rw[(hlk H3).2 hd] at h;cases hk:hkey H2 (rt id)
    ·rfl
    ·rw[h4 (rt id) (.inl hk)] at h;cases h
  have k1:F (rt id)=false->hkeyX H id=false:=fun hf=>by
   have hk2:hkey H2 (rt id)=false:=by
    cases hk:hkey H2 (rt id)
    ·rfl
    ·have:=hF _ hk;rw[hf] at this;cases this
   by_cases hd:dynBase<=id
   ·rw[(hlk H).1 hd];rw[(hlk H3).1 hd] at h;have h3':=h3 (rt id);rw[hk2,hf] at h3';simp only[ZBD,ZB7] at h3';rw[h3'] at h;cases hg:hget H (rt id) with
    |none=>
     rw[hg] at h;have h:hkey H3 (rt id)=false:=h;show hkey H (rt id)=false;cases hk:hkey H (rt id)
     ·rfl
     ·rw[h4 (rt id) (.inr hk)] at h;cases h
    |some e=>rw[hg] at h;exact h
   ·rw[(hlk H).2 hd];rw[(hlk H3).2 hd] at h;cases hk:hkey H (rt id)
    ·rfl
    ·rw[h4 (rt id) (.inr hk)] at h;cases h
  rcases h2.fresh id k2 with h0|h0
  ·exact .inl h0
  ·rw[hn.dom] at h0;rcases h0 with h0|⟨h0,hf⟩
   ·exact .inr h0
   ·rw[k1 hf] at h0;cases h0
 ·rcases hg with hg|⟨hg,hng,hlt⟩
  ·exact h2.sub g hg
  ·exact hn.keepM g hlt (hH.sub g hg) hng
 ·rw[h3] at h;split at h
  ·exact h2.fam id x h
  ·split at h
   ·cases h
   ·exact hH.fam id x h
 ·rcases h5 id h with h|h|h
  ·exact h2.key id h
  ·exact hH.key id h
  ·exact h.1
 ·rcases h5 _ h with h|h|h
  ·have:=h2.dyn id hd h;rw[hn.dom] at this;exact fun hD=>this (.inl hD)
  ·exact hH.dyn id hd h
  ·exact h.2 id rfl
def frzE(e:Ent):Ent:=
 match e.b with
 |.fam e' s ms=>⟨e.fz,.fam e' s (ms.map frz1)⟩
 |_=>e
theorem dlZ:∀(H:Hp) (id:Nat),hget (frzF H) id=(hget H id).map frzE/\hkey (frzF H) id=hkey H id
 |[],id=>⟨rfl,rfl⟩
 |(i,none)::H,id=>by
  obtain⟨h1,h2⟩:=dlZ H id;simp only[frzF,hget,hkey];cases Nat.beq i id
  ·exact⟨h1,h2⟩
  ·exact⟨rfl,rfl⟩
 |(i,some ⟨fz,b⟩)::H,id=>by
  obtain⟨h1,h2⟩:=dlZ H id;cases b<;>simp only[frzF,hget,hkey]<;>cases Nat.beq i id<;>first|exact⟨h1,h2⟩|exact⟨rfl,rfl⟩
theorem oVZ(k:Nat)(e:Ent):pick k (frzE e)=(pick k e).map fun x=>⟨true,x.b⟩:=by
 obtain⟨fz,b⟩:=e;cases b with
 |fam e s ms=>
  simp only[frzE,pick,ZAa];cases hm:ms[k]? with
  |none=>rfl
  |some m=>
   obtain⟨st,l⟩:=m;simp only[ZBW,frz1];by_cases h:st=0
   ·subst h;rfl
   ·rw[ZAM h,aiZ h,bq_false,ZAM (by decide)];cases fz<;>rfl
 |_=>rfl
theorem okZ(e:Ent)(k:Nat):(frzE e).has k=e.has k:=by
 obtain⟨fz,b⟩:=e;cases b<;>simp[frzE,Ent.has]
theorem prZ(hH:HRep z H)(id:Nat):hgetX (frzF H) id=(hgetX H id).map (fun x=>⟨x.fz||decide (dynBase<=id),x.b⟩)/\hkeyX (frzF H) id=hkeyX H id:=by
 obtain⟨h1,h2⟩:=dlZ H (rt id);by_cases hd:dynBase<=id
 ·rw[a5Z hd,a5Z hd,ayZ hd,ayZ hd,h1,h2];refine⟨?_,?_⟩
  ·cases hget H (rt id) with
   |none=>rfl
   |some e=>
    simp only[ZBW,ZAA,oVZ,hd,decide_true,Bool.or_true]
  ·cases hget H (rt id) with
   |none=>rfl
   |some e=>simp only[ZBW,okZ]
 ·rw[aWZ (by omega)] at h1 h2;by_cases hf:famBase<=id
  ·unfold hgetX hkeyX;simp only[ZAM hd,ZAO hf];exact⟨rfl,trivial⟩
  ·rw[aoZ (by omega),aoZ (by omega),a6Z (by omega),a6Z (by omega),h1,h2];refine⟨?_,rfl⟩;cases hg:hget H id with
   |none=>rfl
   |some e=>
    have:=hH.fam id e hg;obtain⟨fz,b⟩:=e;cases b<;>first|(simp[frzE,hd];done)|(have:=this.1;omega)
theorem pSZ(hH:HRep z H):∃z',z'.w=z.w/\HRep z' (frzF H)/\Nx z z'/\z'.ρ=z.ρ:=by
 let mem:Nat->Prop:=fun g=>∃id e sz n,dynBase<=id/\hgetX H id=some e/\e.fz=false/\z.ρ id= .real g sz n
 let z':Z:={z with M:=fun x=>z.M x/\¬mem x,C:=fun x=>z.C x/\¬mem x}
 have hmC:∀g,mem g->z.C g:=fun g ⟨id,e,sz,n,_,q1,q2,q3⟩=>(hH.realX q1 q3).2.1 q2;have hn:Nx z z':=⟨rfl,⟨rfl,ZAK _⟩,rfl,ZAK _,fun _ _ _=>rfl,fun x hx=>.inl hx.1,fun x hx=>.inl hx.1,fun x _ hM hx=>⟨hM,fun h=>hx (hmC x h)⟩,fun _ _=>rfl,rfl⟩;have hkp:=hn.kp hH.sub;have hX:=fun id=>(prZ hH id).1;have hK:=fun id=>(prZ hH id).2;refine⟨z',rfl,⟨fun i e hi=> ?_,fun i i' e e' a sa na a' sa' na' hii h1 h2 m1 m2 h3 h4=> ?_,fun i hi=> ?_,fun x hx=>⟨hH.sub x hx.1,hx.2⟩,fun i x h=> ?_,fun i h=>hH.key i (by rw[<-(dlZ H i).2];exact h),fun i hd h=>hH.dyn i hd (by rw[<-(dlZ H _).2];exact h),hH.nos⟩,hn,rfl⟩
 ·rw[hX] at hi;obtain⟨e0,q1,rfl⟩:=ZAI.1 hi;have h0:=hH.ent _ _ q1;unfold ERep at h0⊢;show match z.ρ i with|.no=>False|.virt=>_|.real g sz n=>_
  cases hρ:z.ρ i with
  |no=>rw[hρ] at h0;exact h0
  |virt=>rw[hρ] at h0;exact h0
  |real g sz n=>
   rw[hρ] at h0;obtain⟨b1,b2,b3,b4⟩:=h0;refine⟨b1,fun hf=> ?_,fun hf hm=> ?_,b4.kp hkp rfl⟩
   ·simp only[ZBB,ZBM] at hf;refine⟨b2 hf.1,?_⟩;rintro⟨id',e',sz',n',p1,p2,p3,p4⟩;exact hH.inj i id' _ _ _ _ _ _ _ _ (fun h=>hf.2 (h▸p1)) q1 p2 hf.1 p3 hρ p4 rfl
   ·simp only[ZAl,ZAf] at hf;cases he:e0.fz
    ·rw[he] at hf;exact hm.2 ⟨i,e0,sz,n,hf.resolve_left (by simp),q1,he,hρ⟩
    ·exact b3 he hm.1
 ·rw[hX] at h1 h2;obtain⟨e1,q1,rfl⟩:=ZAI.1 h1;obtain⟨e2,q2,rfl⟩:=ZAI.1 h2;simp only[ZBB] at m1 m2;exact hH.inj i i' e1 e2 _ _ _ _ _ _ hii q1 q2 m1.1 m2.1 h3 h4
 ·rw[hK] at hi;exact hH.fresh i hi
 ·rw[(dlZ H i).1] at h;obtain⟨e0,q1,rfl⟩:=ZAI.1 h;have:=hH.fam i e0 q1;obtain⟨fz,b⟩:=e0;cases b<;>exact this
theorem j0Z{H:Hp}{f:Nat}{s:Ty}:∀{n:Nat} {ms:List (Nat×List s.den)},fmAt f s (fmsFrom H n)=some ms->∃fz e,hget H (famId f)=some ⟨fz,.fam e s ms⟩
 |0,ms,h=>by cases h
 |n+1,ms,h=>by
  simp only[fmsFrom] at h;split at h
  ·rename_i fz e s' ms' hg;simp only[fmAt] at h;cases hb:Nat.beq n (f%16)<;>rw[hb] at h<;>simp only[bq_true,bq_false] at h
   ·exact j0Z h
   ·rw[adZ] at hb;subst hb;rcases aRZ h with⟨hs,h⟩|h
    ·have hs:s'=s:=hs;subst hs;have:=ZAj h;subst this;exact⟨fz,e,hg⟩
    ·cases h
  ·exact j0Z h
theorem qLZ(hH:HRep z H){f:Nat}{s:Ty}{ms:List (Nat×List s.den)}(h:fmAt f s (fmsOf H)=some ms){k st:Nat}{l:List s.den}(hm:ms[k]? =some (st,l))(hst:2<=st):∃e,ERep z (enc f k) ⟨true,.rows e s l⟩:=by
 obtain⟨fz,e,hg⟩:=j0Z h;have:=fMZ hg hm (by simp only;omega);have h2:=hH.ent _ _ this;rw[show(fz||Nat.ble 2 st)=true by rw[ZAg hst,Bool.or_true]] at h2;exact⟨e,h2⟩
theorem cOZ(hH:HRep z H):{t:Ty}->{x:t.den}->{y:t.unref.den}->{vs:List Value}->unrefD (fmsOf H) t x=some y->Cl z.w z.M z.ρ t x vs->Cl z.w z.M z.ρ t.unref y vs
 |.one t,x,y,vs,h,hc=>cOZ hH (t:=t) h hc
 |.pair a b,x,y,vs,h,hc=>by
  obtain⟨u,v,rfl,h1,h2⟩:=hc;simp only[unrefD] at h;obtain⟨p,h3,h4⟩:=ZAH.1 h;obtain⟨q,h5,rfl⟩:=ZAI.1 h4;exact⟨u,v,rfl,cOZ hH h3 h1,cOZ hH h5 h2⟩
 |.ref f t,.inl l,y,vs,h,hc=>by
  obtain rfl:=ZAj h;exact hc
 |.ref f t,.inr none,y,vs,h,hc=>by
  obtain rfl:=ZAj h;obtain rfl:vs=[.slice none 0 0]:=hc;exact⟨none,0,rfl,ZAK _,by unfold maxLen;omega,fun _=>rfl,fun h=>absurd rfl h⟩
 |.ref f t,.inr (some (k,off,n)),y,vs,h,hc=>by
  have h:((fmAt f t (fmsOf H)).ob fun ms=>memb ms k off n)=some y:=h;obtain⟨ms,h1,h2⟩:=afZ.1 h;unfold memb at h2;split at h2
  ·rename_i st l hm;cases hb:(Nat.ble 2 st&&Nat.ble (off+n) l.length)<;>rw[hb] at h2<;>simp only[bq_true,bq_false] at h2
   ·cases h2
   simp only[ZAD,ZAu] at hb;obtain⟨hst,hn⟩:=hb;obtain rfl:(l.drop off).take n=y:=ZAj h2;obtain⟨e,hE⟩:=qLZ hH h1 hm hst;have hlen:((l.drop off).take n).length=n:=by rw[ZAW,ZAy];omega
   unfold ERep at hE;rcases hc with⟨A,hρ,rfl,rfl⟩|⟨g,sz,m,c,hρ,h3,h4,h5,rfl⟩
   ·refine⟨A,0,?_,?_,by unfold maxLen;omega,fun _=>rfl,fun h=>absurd hlen h⟩
    ·rw[show List.length (α:=t.den) (List.take 0 (List.drop off l))=0 from hlen]
    ·rw[show List.length (α:=t.den) (List.take 0 (List.drop off l))=0 from hlen];omega
   ·rw[hρ] at hE;obtain⟨q1,_,q2,q3⟩:=hE;refine⟨some ⟨g,off*t.cells,none⟩,c,?_,?_,h5,(fun h=>by cases h),fun _=>⟨g,off*t.cells,rfl,q2 rfl,q1,?_⟩⟩
    ·rw[show List.length (α:=t.den) (List.take n (List.drop off l))=n from hlen]
    ·rw[show List.length (α:=t.den) (List.take n (List.drop off l))=n from hlen];exact h3
    ·have:=q3.rowAt.sub off n;rwa [ZAm] at this
  ·cases h2
 |.int _,x,y,vs,h,hc|.byte,x,y,vs,h,hc|.bool,x,y,vs,h,hc|.str,x,y,vs,h,hc|.opq,x,y,vs,h,hc|.nat,x,y,vs,h,hc|.ptr _,x,y,vs,h,hc|.sl _,x,y,vs,h,hc|.arr _ _,x,y,vs,h,hc=>by
  obtain rfl:=ZAj h;exact hc
theorem gMZ{α γ:Type}{g:α->Option γ}:∀{l:List α} {l':List γ},unrefL g l=some l'->l'.length=l.length/\∀(i:Nat) y,l'[i]? =some y->∃x,l[i]? =some x/\g x=some y
 |[],l',h=>by
  obtain rfl:=ZAj h;exact⟨rfl,fun i y h=>by simp at h⟩
 |x::l,l',h=>by
  obtain⟨y,h1,h2⟩:=ZAH.1 h;obtain⟨l1,h3,rfl⟩:=ZAI.1 h2;obtain⟨q1,q2⟩:=gMZ h3;refine⟨by simp[q1],fun i y' hi=> ?_⟩
  match i with
  |0=>simp at hi;subst hi;exact⟨x,rfl,h1⟩
  |i+1=>exact q2 i y' (by simpa using hi)
theorem k2Z{t:Ty}{g:t.den->Option t.unref.den}(hg:∀{x:t.den} {y:t.unref.den} {vs:List Value},g x=some y->Cl z.w z.M z.ρ t x vs->Cl z.w z.M z.ρ t.unref y vs){l:List t.den}{l':List t.unref.den}{v:Value}(h:unrefL g l=some l')(hv:VRep z.w z.M z.ρ (.sl t) l v):VRep z.w z.M z.ρ (.sl t.unref) l' v:=by
 obtain⟨A,c,rfl,h1,h2,h3,h4⟩:=hv.sl;obtain⟨q1,q2⟩:=gMZ h;refine .mkSc ⟨A,c,?_,?_,h2,h3,fun h0=> ?_⟩ rfl
 ·rw[show List.length (α:=t.unref.den) l'=l.length from q1]
 ·rw[show List.length (α:=t.unref.den) l'=l.length from q1];exact h1
 ·rw[show List.length (α:=t.unref.den) l'=l.length from q1] at h0;obtain⟨b,off,p1,p2,p3,p4⟩:=h4 h0;refine⟨b,off,p1,p2,p3,fun i e he=> ?_⟩;obtain⟨x,hx,hxe⟩:=q2 i e he;obtain⟨u,r1,r2⟩:=p4 i x hx;exact⟨u,hg hxe r1,by rw[atZ];exact r2⟩
theorem VRep.unref{t:Ty}{x:t.den}{y:t.unref.den}{v:Value}(hv:VRep z.w z.M z.ρ t x v)(h:∀vs,Cl z.w z.M z.ρ t x vs->Cl z.w z.M z.ρ t.unref y vs):VRep z.w z.M z.ρ t.unref y v:=by
 obtain⟨vs,h1,h2⟩:=hv;exact⟨vs,h vs h1,by rw[fGZ];exact h2⟩
section
variable {β : Type}
theorem iIZ(hH:HRep z H){a:AV}{K:AV->Option β}{r:β}{v:Value}(h:unref1 (fmsOf H) a K=some r)(ha:ARep z a v):∃x,ARep z x v/\K x=some r:=by
 unfold unref1 at h;split at h
 ·rename_i t l;cases hn:t.noRef<;>rw[hn] at h<;>simp only[bq_true,bq_false] at h
  ·obtain⟨l',h1,h2⟩:=ZAH.1 h;exact⟨_,.p _ _ _ (k2Z (fun h hc=>cOZ hH h hc) h1 ha.v),h2⟩
  ·exact⟨_,ha,h⟩
 ·rename_i t x _;cases hn:t.noRef<;>rw[hn] at h<;>simp only[bq_true,bq_false] at h
  ·obtain⟨y,h1,h2⟩:=ZAH.1 h;exact⟨_,.p _ _ _ (ha.v.unref fun vs hc=>cOZ hH h1 hc),h2⟩
  ·exact⟨_,ha,h⟩
 ·exact⟨_,ha,(aeZ.1 h).2⟩
 ·exact⟨_,ha,h⟩
theorem gzZ(hH:HRep z H):∀{l:List AV} {K:List AV->Option β} {r:β} {vs:List Value},unref1L (fmsOf H) l K=some r->AReps z l vs->∃l',AReps z l' vs/\K l'=some r
 |[],K,r,vs,h,hv=>⟨[],hv,h⟩
 |a::l,K,r,[],h,hv=>by have:=hv.1;simp at this
 |a::l,K,r,v::vs,h,hv=>by
  obtain⟨x,h1,h2⟩:=iIZ hH h hv.head;obtain⟨l',h3,h4⟩:=gzZ hH h2 hv.tail;exact⟨x::l',.cons h1 h3,h4⟩
theorem nfZ{a:AV}{K:AV->Option β}{r:β}{v:Value}(h:low1 a K=some r)(ha:ARep z a v):∃x,ARep z x v/\K x=some r:=by
 unfold low1 at h;split at h
 ·rename_i t l;cases hn:t.noRef<;>rw[hn] at h<;>simp only[bq_true,bq_false] at h
  ·obtain⟨l',h1,h2⟩:=ZAH.1 h;exact⟨_,.p _ _ _ (k2Z (fun h hc=>fnZ h hc) h1 ha.v),h2⟩
  ·exact⟨_,ha,h⟩
 ·rename_i t x _;cases hn:t.noRef<;>rw[hn] at h<;>simp only[bq_true,bq_false] at h
  ·obtain⟨y,h1,h2⟩:=ZAH.1 h;exact⟨_,.p _ _ _ (ha.v.unref fun vs hc=>fnZ h1 hc),h2⟩
  ·exact⟨_,ha,h⟩
 ·exact⟨_,ha,h⟩
theorem kgZ:∀{l:List AV} {K:List AV->Option β} {r:β} {vs:List Value},low1L l K=some r->AReps z l vs->∃l',AReps z l' vs/\K l'=some r
 |[],K,r,vs,h,hv=>⟨[],hv,h⟩
 |a::l,K,r,[],h,hv=>by have:=hv.1;simp at this
 |a::l,K,r,v::vs,h,hv=>by
  obtain⟨x,h1,h2⟩:=nfZ h hv.head;obtain⟨l',h3,h4⟩:=kgZ h2 hv.tail;exact⟨x::l',.cons h1 h3,h4⟩
theorem pcZ{l:List AV}{cs:Array Value}(ha:ARep z (.agg l) (.agg cs)){z':Z}{l':List AV}(h:AReps z' l' cs.toList):ARep z' (.agg l') (.agg cs):=by
 cases ha with|agg _ _ hs h1 h2=>
 exact .agg _ _ (by have:=h.1;simpa using this.symm) h1 fun i x v p1 p2=>h.2 i x v p1 (by simpa using p2)
theorem o9Z{a:AV}{K:AV->Option β}{r:β}{v:Value}(h:lowAK a K=some r)(ha:ARep z a v):∃x,ARep z x v/\K x=some r:=by
 unfold lowAK at h;split at h
 ·rename_i l;cases hv:v<;>rw[hv] at ha<;>first|(cases ha;done)|skip;rename_i cs;obtain⟨l',h1,h2⟩:=kgZ h ha.reps;exact⟨_,pcZ ha h1,h2⟩
 ·exact nfZ h ha
theorem lJZ{a:AV}{K:AV->Hp->Option β}{r:β}{v:Value}(hH:HRep z H)(h:unrefAK H a K=some r)(ha:ARep z a v):∃x H' z',z'.w=z.w/\HRep z' H'/\Nx z z'/\z'.ρ=z.ρ/\ARep z' x v/\K x H'=some r:=by
 obtain⟨z',q1,q2,q3,q4⟩:=pSZ hH;have kp:=q3.kp hH.sub;unfold unrefAK at h;split at h
 ·rename_i l;cases hb:anyRefL l<;>rw[hb] at h<;>simp only[bq_true,bq_false] at h
  ·exact⟨_,H,z,rfl,hH,Nx.refl z,rfl,ha,h⟩
  ·cases hv:v<;>rw[hv] at ha<;>first|(cases ha;done)|skip;rename_i cs;obtain⟨l',h1,h2⟩:=gzZ q2 h (ha.reps.kp kp);exact⟨_,_,z',q1,q2,q3,q4,pcZ ha h1,h2⟩
 ·cases hb:a.anyRef<;>rw[hb] at h<;>simp only[bq_true,bq_false] at h
  ·exact⟨_,H,z,rfl,hH,Nx.refl z,rfl,ha,h⟩
  ·obtain⟨x,h1,h2⟩:=iIZ q2 h (ha.kp kp);exact⟨_,_,z',q1,q2,q3,q4,h1,h2⟩
theorem fdZ{a a':AV}{H':Hp}{v:Value}(hH:HRep z H)(h:pureF H a=some (a',H'))(ha:ARep z a v):
 ∃z',z'.w=z.w/\HRep z' H'/\Nx z z'/\z'.ρ=z.ρ/\ARep z' a' v:=by
 unfold pureF at h;obtain⟨⟨x,H1⟩,h1,h2⟩:=afZ.1 h;obtain⟨z1,p1,p2,p3,p4,p5⟩:=bHZ hH h1 ha;obtain⟨y,H2,z2,q1,q2,q3,q4,q5,q6⟩:=lJZ p2 h2 p5;obtain⟨rfl,rfl⟩:=Prod.mk.inj (ZAj q6);exact⟨z2,q1.trans p1,q2,p3.trans q3,q4.trans p4,q5⟩
end
end
end Go.Ab
namespace Go.Ab
section
variable {P : Program} {z : Z} {H : Hp} {β : Type}
theorem aPZ(H:Hp):∀(K:Hp) (id:Nat),hget (setAll H K) id=if hkey K id then hget K id else hget H id
 |[],id=>by simp[setAll,hkey]
 |(i,e)::K,id=>by
  simp only[setAll,alZ,hkey,hget];by_cases h:id=i
  ·subst h;simp[(adZ id id).2 rfl]
  ·simp[aiZ (ZBj h),h,aPZ H K id]
theorem aCZ(H:Hp):∀(K:Hp) (id:Nat),hkey (setAll H K) id=(hkey K id||hkey H id)
 |[],id=>by simp[setAll,hkey]
 |(i,e)::K,id=>by
  simp only[setAll,anZ,hkey];by_cases h:id=i
  ·subst h;simp[(adZ id id).2 rfl]
  ·simp[aiZ (ZBj h),h,aCZ H K id]
theorem aVZ:∀(l:List Nat) (H:Hp) (id:Nat),hget (killAll H l) id=if memN id l then none else hget H id
 |[],H,id=>by simp[killAll,memN]
 |i::l,H,id=>by
  rw[killAll,aVZ l,alZ];simp only[memN];by_cases h:id=i
  ·subst h;simp[(adZ id id).2 rfl]
  ·simp[aiZ (ZBj h),h]
theorem aNZ:∀(l:List Nat) (H:Hp) (id:Nat),hkey (killAll H l) id=(memN id l||hkey H id)
 |[],H,id=>by simp[killAll,memN]
 |i::l,H,id=>by
  rw[killAll,aNZ l,anZ];simp only[memN];by_cases h:id=i
  ·subst h;simp[(adZ id id).2 rfl]
  ·simp[aiZ (ZBj h),h]
theorem bGZ(H:Hp):∀(l:List Nat) (id:Nat),hget (hsub H l) id=(if memN id l then hget H id else none)/\hkey (hsub H l) id=(memN id l&&hkey H id)
 |[],id=>by simp[hsub,memN,hget,hkey]
 |i::l,id=>by
  obtain⟨h1,h2⟩:=bGZ H l id;simp only[hsub,memN];cases hk:hkey H i
  ·simp only[bq_false];rw[h1,h2];by_cases h:i=id
   ·subst h;simp only[(adZ i i).2 rfl,ZAF,if_true,hk,Bool.and_false,ZA9,ZBa];rw[apZ hk];split<;>rfl
   ·simp[aiZ h]
  ·simp only[bq_true,hget,hkey];by_cases h:i=id
   ·subst h;simp[(adZ i i).2 rfl,hk]
   ·simp[aiZ h,h1,h2]
theorem dLZ:∀{H:Hp} {id:Nat},hkey H id=true↔id∈hkeys H
 |[],id=>by simp[hkey,hkeys]
 |(i,e)::H,id=>by
  simp only[hkey,hkeys,ZAU];by_cases h:i=id
  ·subst h;simp[(adZ i i).2 rfl]
  ·simp only[aiZ h,ZAC,dLZ];exact⟨.inr,fun h'=>h'.resolve_left (ZBj h)⟩
theorem eaZ{id:Nat}:∀{l:List Nat},id∈nubN l↔id∈l
 |[]=>by simp[nubN]
 |i::l=>by
  simp only[nubN];cases hm:memN i l
  ·simp only[bq_false,ZAU,eaZ]
  ·simp only[bq_true,ZAU,eaZ];exact⟨.inr,fun h=>h.elim (fun e=>e▸agZ.1 hm) fun h=>h⟩
theorem jTZ:∀{l r:List Nat},eqN l r=true↔l=r
 |[],[]=>by simp[eqN]
 |[],_::_=>by simp[eqN]
 |_::_,[]=>by simp[eqN]
 |i::l,k::r=>by simp only[eqN,ZAD,adZ,jTZ,ZAn]
theorem ARep.less{z':Z}{a:AV}{v:Value}(h:ARep z a v)(hw:z'.w=z.w)(hr:z'.ρ=z.ρ)(hM:∀g,z'.M g->z.M g):ARep z' a v:=
 h.kp ⟨by rw[hw];exact ZAK _,fun _ _ _=>by rw[hw],fun g hg=>.inl (hM g hg),fun _ _=>by rw[hr]⟩
theorem AReps.less{z':Z}{l:List AV}{vs:List Value}(h:AReps z l vs)(hw:z'.w=z.w)(hr:z'.ρ=z.ρ)(hM:∀g,z'.M g->z.M g):AReps z' l vs:=
 ⟨h.1,fun i a v h1 h2=>(h.2 i a v h1 h2).less hw hr hM⟩
theorem nAZ{m:Nat}{a a':AV}{H':Hp}{v:Value}(hH:HRep z H)(hmd:m<4\/¬z.D (m+100000))(h:argM P H m a=some (a',H'))(ha:ARep z a v):
 ∃z1 Mf,z1.w=z.w/\HRep z1 H'/\Nx z z1/\(∀g,Mf g->z1.M g)/\ARep {z1 with M:=Mf} a' v/\(m≠2->Mf=z1.M):=by
 unfold argM at h;split at h
 ·simp only[ZAG,ZAp] at h;obtain⟨rfl,rfl⟩:=h;exact⟨z,z.M,rfl,hH,Nx.refl z,fun _ h=>h,ha,fun _=>rfl⟩
 ·obtain⟨z',q1,q2,q3,q4,q5⟩:=fdZ hH h ha;exact⟨z',z'.M,q1,q2,q3,fun _ h=>h,q5,fun _=>rfl⟩
 ·obtain⟨⟨x,H1⟩,h1,h2⟩:=ZAI.1 h;simp only[ZAp] at h2;obtain⟨rfl,rfl⟩:=h2;obtain⟨z',q1,q2,q3,q4,q5⟩:=fdZ hH h1 ha;refine⟨z,fun g=>z.M g/\z'.M g,rfl,hH,Nx.refl z,fun _ h=>h.1,?_,fun h=>absurd rfl h⟩;exact q5.less (z':={z with M:=fun g=>z.M g/\z'.M g}) q1.symm q4.symm fun g h=>h.2
 ·obtain⟨x,h1,h2⟩:=o9Z h ha;obtain⟨rfl,rfl⟩:=Prod.mk.inj (ZAj h2);exact⟨z,z.M,rfl,hH,Nx.refl z,fun _ h=>h,h1,fun _=>rfl⟩
 ·rename_i m' h0 h1 h2 h3';have hmm:¬z.D (m+100000):=by
   refine hmd.resolve_left fun hm=> ?_;have:m=0\/m=1\/m=2\/m=3:=by omega
   rcases this with rfl|rfl|rfl|rfl
   ·exact h0 rfl
   ·exact h1 rfl
   ·exact h2 rfl
   ·exact h3' rfl
  clear h0 h1 h2 h3' hmd;split at h
  ·rename_i f s x;split at h
   ·rename_i e s' ms hg;rcases aRZ h with⟨hs,hh⟩|hh
    ·clear h;subst hs;obtain⟨hb,h⟩:=aeZ.1 hh;simp only[ZAD,adZ,ZBq,ZAd] at hb;obtain⟨⟨rfl,hk⟩,hlow⟩:=hb;obtain⟨⟨l',ms'⟩,h1,h2⟩:=ZAH.1 h;obtain⟨rfl,rfl⟩:=Prod.mk.inj (ZAj h2);have hfo:=hH.fam _ _ hg;have hD:=hmm;have hne:famId f≠m+100000:=by have:=(cbZ f).1;omega
     clear h2 hh h;have hv:=ha.v.scal rfl rfl
     match x,h1,hv with
     |.inl l,h1,hv=>cases h1
     |.inr none,h1,hv=>
      obtain⟨rfl,rfl⟩:=Prod.mk.inj (ZAj h1);have hv:[v]=[Value.slice none 0 0]:=hv;simp only[ZAn,ZBa] at hv;subst hv;have hsame:HRep z (hset H (famId f) (some ⟨false,.fam ((m-10)%5000) s' ms⟩)):=by
       refine hH.same (fun id=> ?_) fun id=> ?_
       ·rw[alZ];by_cases hi:id=famId f
        ·rw[ZAO hi,hi];exact hg.symm
        ·rw[ZAM hi]
       ·rw[anZ];by_cases hi:id=famId f
        ·rw[hi,ahZ hg];simp
        ·simp[hi]
      obtain⟨z1,p1,p2,p3,p4⟩:=hsame.newV (id:=m+100000) ⟨by rw[anZ,hk];simp[ZBj hne],hlow⟩ hD (b:=.rows ((m-10)%5000) s' []) ⟨rfl,hfo.2.2.2.1⟩;exact⟨z1,z1.M,p1,p2,p3,fun _ h=>h,.slfV _ _ _ p4,fun _=>rfl⟩
     |.inr (some (k,off,n)),h1,hv=>
      obtain⟨⟨st,l⟩,h3,h4⟩:=ZAH.1 h1;obtain⟨h5,h6⟩:=aeZ.1 h4;simp only[ZAD,adZ,ZAu] at h5;obtain⟨⟨hst,rfl⟩,hn⟩:=h5;obtain⟨rfl,rfl⟩:=Prod.mk.inj (ZAj h6);subst hst;have hgX:hgetX H (enc f k)=some ⟨false,.rows ((m-10)%5000) s' l⟩:=fMZ hg h3 (by simp);have hlt:=(ZAB.1 h3).1;have hX1:∀i,hgetX (hset H (famId f) (some ⟨false,.fam ((m-10)%5000) s' (ms.set k (0,l))⟩)) i=if i=enc f k then none else hgetX H i:=fun i=>by
       by_cases hi:∃k',i=enc f k'
       ·obtain⟨k',rfl⟩:=hi;rw[(b6Z H f _ 0).1 k'];by_cases hk:k'=k
        ·subst hk;rw[ZAO rfl];simp only[ZAA,pick];rw[ZAX hlt]
         rfl
        ·rw[ZAM fun h=>hk (hcZ h).2,c4Z,hg];simp only[ZAA,pick];rw[ZAT (ZBj hk)]
       ·rw[(b6Z H f _ i).2 fun k' h=>hi ⟨k',h⟩,ZAM fun h=>hi ⟨k,h⟩]
      have hK1:∀i,hkeyX (hset H (famId f) (some ⟨false,.fam ((m-10)%5000) s' (ms.set k (0,l))⟩)) i=false->hkeyX H i=false:=fun i hi=>by
       by_cases hi':∃k',i=enc f k'
       ·obtain⟨k',rfl⟩:=hi';rw[(bSZ H f _ 0).1 k'] at hi;rw[ayZ (bDZ f k'),dyZ,ljZ,hg];simpa[Ent.has] using hi
       ·rwa [(bSZ H f _ i).2 fun k' h=>hi' ⟨k',h⟩] at hi
      have hk1:∀i,hkey (hset H (famId f) (some ⟨false,.fam ((m-10)%5000) s' (ms.set k (0,l))⟩)) i=hkey H i:=fun i=>by
       rw[anZ];by_cases hi:i=famId f
       ·rw[hi,ahZ hg];simp
       ·simp[hi]
      have h1H:HRep z (hset H (famId f) (some ⟨false,.fam ((m-10)%5000) s' (ms.set k (0,l))⟩)):=by
       have q:∀i e,hgetX (hset H (famId f) (some ⟨false,.fam ((m-10)%5000) s' (ms.set k (0,l))⟩)) i=some e->hgetX H i=some e:=fun i e h=>by
        rw[hX1] at h;split at h
        ·cases h
        ·exact h
       refine⟨fun i e h=>hH.ent i e (q i e h),fun i i' e e' g sz n g' sz' n' hii p1 p2 m1 m2 p3 p4=>hH.inj i i' e e' g sz n g' sz' n' hii (q _ _ p1) (q _ _ p2) m1 m2 p3 p4,fun i hi=>hH.fresh i (hK1 i hi),hH.sub,fun i x h=> ?_,fun i h=>hH.key i (by rw[<-hk1];exact h),fun i hd h=>hH.dyn i hd (by rw[<-hk1];exact h),hH.nos⟩;rw[alZ] at h;by_cases hi:i=famId f
       ·rw[ZAO hi] at h;injection h with h;subst h;rw[hi];exact hfo
       ·rw[ZAM hi] at h;exact hH.fam i x h
      have hkn:hkey (hset H (famId f) (some ⟨false,.fam ((m-10)%5000) s' (ms.set k (0,l))⟩)) (m+100000)=false:=by rw[hk1];exact hk
      rcases hv with⟨A,hρ,rfl,hv⟩|⟨g,sz,m',c,hρ,h7,h8,h9,hv⟩
      ·simp only[ZAn,ZBa] at hv;subst hv;have hE:=hH.ent _ _ hgX;unfold ERep at hE;rw[hρ] at hE;obtain⟨z1,p1,p2,p3,p4⟩:=h1H.newV (id:=m+100000) ⟨hkn,hlow⟩ hD (b:=.rows ((m-10)%5000) s' (l.take 0)) ⟨by simp,hfo.2.2.2.1⟩;exact⟨z1,z1.M,p1,p2,p3,fun _ h=>h,.slfV _ _ _ p4,fun _=>rfl⟩
      ·simp only[ZAn,ZBa] at hv;subst hv;obtain⟨z1,p1,p2,p3,p4⟩:=hH.moveX (w':=z.w) (id:=m+100000) (n':=n) (b:=.rows ((m-10)%5000) s' (l.take n)) hgX hρ h1H (fun i e h=>by
        rw[hX1] at h;split at h
        ·cases h
        ·rename_i hne';exact⟨h,hne'⟩) ⟨hkn,hlow⟩ hD rfl ⟨rfl,ZAK _⟩ rfl rfl (fun _ _=>rfl) (fun z1 hw kp=>by
        have hB:=(hH.realX hgX hρ).2.2.2;obtain⟨cs,fr,a1,a2,a3,a4,a5,a6,a7⟩:=hB.kp kp (by rw[hw]);refine⟨cs,fr,a1,a2,a3,by rw[ZAW];omega,?_,a6,fun i x hx=> ?_⟩
        ·rw[ZAW];exact ZBo (ZAo _ (Nat.min_le_right _ _)) a5
        ·rw[ZA5] at hx;split at hx
         ·exact a7 i x hx
         ·cases hx)
       refine⟨z1,z1.M,p1,p2,p3,fun _ h=>h,?_,fun _=>rfl⟩;rw[ZBR];exact .slf _ _ _ _ _ _ p4 h7 (by rw[ZAm] at h8;exact h8) h9
    ·cases hh
   ·cases h
  ·obtain⟨u,h3,h4⟩:=afZ.1 h;cases hk:(hkey H (m+100000)||Nat.ble famBase (m+100000))<;>rw[hk] at h4<;>simp only[bq_true,bq_false] at h4
   ·simp only[ZAG,ZAp] at h4;obtain⟨rfl,rfl⟩:=h4;simp only[ZBB] at hk;have hlow:m+100000<famBase:=ZBE.1 fun h=>by rw[ZAg h] at hk;cases hk.2
    obtain⟨z1,p1,p2,p3,p4⟩:=hH.newV ⟨hk.1,hlow⟩ (hmm) (b:=.rows ((m-10)%5000) u []) ⟨rfl,(cGZ h3).2.1⟩;obtain rfl:=ha.v.opq.1;exact⟨z1,z1.M,p1,p2,p3,fun _ h=>h,.slfV _ _ _ p4,fun _=>rfl⟩
   ·cases h4
  ·rename_i es old n;split at h
   ·rename_i e t l hg;cases hb:(Nat.beq es t.cells&& !hkey H (m+100000)&&Nat.blt (m+100000) famBase&&Nat.ble n l.length)<;>rw[hb] at h<;>simp only[bq_true,bq_false] at h
    ·cases h
    simp only[ZAD,adZ,ZAu,ZBq,ZAd] at hb;obtain⟨⟨⟨rfl,hk⟩,hlow⟩,hn⟩:=hb;simp only[ZAG,ZAp] at h;obtain⟨rfl,rfl⟩:=h;have hk':hkey (hset H old none) (m+100000)=false:=by
     rw[anZ,hk];have:m+100000≠old:=fun h=>by rw[h,ahZ hg] at hk;cases hk
     simp[this]
    have hD:=hmm;have hvirt:z.ρ old= .virt->∃z1,z1.w=z.w/\HRep z1 (hset (hset H old none) (m+100000) (some ⟨false,.rows e t (l.take n)⟩))/\Nx z z1/\z1.ρ (m+100000)= .virt:=fun hρ=>by
     obtain⟨rfl,hc⟩:=hH.virt hg hρ;exact(hH.kill (ahZ hg)).newV ⟨hk',hlow⟩ hD ⟨by simp,hc⟩
    have hreal:∀g sz k,z.ρ old= .real g sz k->∃z1,z1.w=z.w/\HRep z1 (hset (hset H old none) (m+100000) (some ⟨false,.rows e t (l.take n)⟩))/\Nx z z1/\z1.ρ (m+100000)= .real g sz n:=fun g sz k hρ=>by
     refine hH.move (w':=z.w) hg hρ ⟨hk',hlow⟩ hD rfl ⟨rfl,ZAK _⟩ rfl rfl (fun _ _=>rfl) fun z1 hw kp=> ?_;have hB:=(hH.real hg hρ).2.2.2;obtain⟨cs,fr,a1,a2,a3,a4,a5,a6,a7⟩:=hB.kp kp (by rw[hw]);refine⟨cs,fr,a1,a2,a3,by rw[ZAW];omega,?_,a6,fun i x hx=> ?_⟩
     ·rw[ZAW];exact ZBo (ZAo _ (Nat.min_le_right _ _)) a5
     ·rw[ZA5] at hx;split at hx
      ·exact a7 i x hx
      ·cases hx
    cases ha with
    |slV _ _ _ A hρ=>
     obtain⟨z1,p1,p2,p3,p4⟩:=hvirt hρ;exact⟨z1,z1.M,p1,p2,p3,fun _ h=>h,.slfV _ _ _ p4,fun _=>rfl⟩
    |slE _ _ _ g sz k o hρ=>
     obtain⟨_,_,_,cs,fr,a1,a2,a3,a4,a5,a6,a7⟩:=hH.real hg hρ;obtain⟨z1,p1,p2,p3,p4⟩:=(hH.kill (ahZ hg)).newV ⟨hk',hlow⟩ hD (b:=.rows e t (l.take 0)) ⟨by simp,a6⟩;exact⟨z1,z1.M,p1,p2,p3,fun _ h=>h,.slfV _ _ _ p4,fun _=>rfl⟩
    |sl _ _ _ _ g sz k c hρ hnc hs hm=>
     obtain⟨z1,p1,p2,p3,p4⟩:=hreal g sz k hρ;refine⟨z1,z1.M,p1,p2,p3,fun _ h=>h,?_,fun _=>rfl⟩;rw[ZBR];exact .slf _ _ _ _ _ _ p4 hnc (by rw[ZAm] at hs;exact hs) hm
   ·simp only[ZAG,ZAp] at h;obtain⟨rfl,rfl⟩:=h;exact⟨z,z.M,rfl,hH,Nx.refl z,fun _ h=>h,ha,fun _=>rfl⟩
  ·simp only[ZAG,ZAp] at h;obtain⟨rfl,rfl⟩:=h;exact⟨z,z.M,rfl,hH,Nx.refl z,fun _ h=>h,ha,fun _=>rfl⟩
theorem hFZ:∀{as:List AV} {ms:List Nat} {as':List AV} {z:Z} {H H':Hp} {vs:List Value},HRep z H->(∀m∈ms,m<4\/¬z.D (m+100000))->argsM P H ms as=some (as',H')->AReps z as vs->
 ∃z1 Mf,z1.w=z.w/\HRep z1 H'/\Nx z z1/\(∀g,Mf g->z1.M g)/\AReps {z1 with M:=Mf} as' vs/\(memN 2 ms=false->Mf=z1.M)
 |[],ms,as',z,H,H',vs,hH,hmd,h,hr=>by
  simp only[argsM,ZAG,ZAp] at h;obtain⟨rfl,rfl⟩:=h;exact⟨z,z.M,rfl,hH,Nx.refl z,fun _ h=>h,hr,fun _=>rfl⟩
 |a::as,ms,as',z,H,H',vs,hH,hmd,h,hr=>by
  simp only[argsM] at h;obtain⟨⟨x,H1⟩,h1,h2⟩:=afZ.1 h;obtain⟨⟨y,H2⟩,h3,h4⟩:=ZAI.1 h2;simp only[ZAp] at h4;obtain⟨rfl,rfl⟩:=h4
  match vs,hr with
  |[],hr=>have:=hr.1;simp at this
  |v::vs,hr=>
   have e1:ms.headD 0<4\/¬z.D (ms.headD 0+100000):=by cases ms with|nil=>exact .inl (by simp)|cons m ms=>exact hmd m (by simp)
   obtain⟨z1,Mf,q1,q2,q3,q4,q5,q6⟩:=nAZ hH e1 h1 hr.head;have e2:∀m∈ms.tail,m<4\/¬z1.D (m+100000):=fun m hm=>(hmd m (List.mem_of_mem_tail hm)).imp_right fun h=>by rw[q3.dom];exact h
   obtain⟨z2,Mg,p1,p2,p3,p4,p5,p6⟩:=hFZ q2 e2 h3 (hr.tail.kp (q3.kp hH.sub));have k:=p3.kp q2.sub;refine⟨z2,fun g=>Mg g/\(Mf g\/z1.w.heap.size<=g),p1.trans q1,p2,q3.trans p3,fun g h=>p4 g h.1,.cons ?_ (p5.less rfl rfl fun g h=>h.1),fun hm=> ?_⟩
   ·have kk:Kp {z1 with M:=Mf} {z2 with M:=fun g=>Mg g/\(Mf g\/z1.w.heap.size<=g)}:=⟨k.size,fun b _ _=>by show z2.w.heap[b]? =z1.w.heap[b]?;rw[p1],fun g h=>h.2,k.ext⟩;exact q5.kp kk
   ·have m1:ms.headD 0≠2/\memN 2 ms.tail=false:=by
     cases ms with
     |nil=>exact⟨by simp,rfl⟩
     |cons m ms=>
      simp only[memN] at hm;cases hb:Nat.beq m 2<;>rw[hb] at hm<;>simp at hm;exact⟨fun h=>by simp only[List.headD_cons] at h;rw[h] at hb;simp[Nat.beq] at hb,hm⟩
    have a1:=q6 m1.1;have a2:=p6 m1.2;subst a1;subst a2;funext g;refine propext ⟨fun h=>h.1,fun h=>⟨h,?_⟩⟩;exact k.subM g h
end
end Go.Ab
namespace Go.Ab
section
variable {P : Program} {z : Z} {H : Hp} {β : Type}
theorem Cl.scal{w w':World}{M M':Nat->Prop}{ρ ρ':Rho}:{t:Ty}->{x:t.den}->{vs:List Value}->t.scal=true->Cl w M ρ t x vs->Cl w' M' ρ' t x vs
 |.int _,_,_,_,h|.byte,_,_,_,h|.bool,_,_,_,h|.str,_,_,_,h=>h
 |.nat,_,_,_,h=>h.elim
 |.opq,_,_,hs,_=>by cases hs
 |.sl _,_,_,hs,_=>by cases hs
 |.ref _ _,_,_,hs,_=>by cases hs
 |.one t,_,_,hs,h=>Cl.scal (t:=t) hs h
 |.pair a b,_,_,hs,h=>by
  obtain⟨u,v,rfl,h1,h2⟩:=h;simp only[Ty.scal,ZAD] at hs;exact⟨u,v,rfl,Cl.scal hs.1 h1,Cl.scal hs.2 h2⟩
 |.arr n t,l,_,hs,h=>by
  obtain⟨hn,css,h1,rfl,h2⟩:=h;exact⟨hn,css,h1,rfl,fun i e u he hu=>Cl.scal (t:=t) hs (h2 i e u he hu)⟩
mutual
theorem mqZ:(k:Kd)->{r:List Ty}->allScal (k.lv r)=true->allScal r=true
 |.p _,r,h|.pt _,r,h|.ownx _ _ _,r,h=>by simp only[Kd.lv,allScal,ZAD] at h;exact h.2
 |.sl _ _,r,h=>by simp only[Kd.lv,allScal,ZAD] at h;exact h.2.2
 |.own _ _ _ _,r,h|.slf _ _,r,h|.mp _,r,h|.any,r,h|.nilp _,r,h=>h
 |.fn _ a c,r,h=>cWZ c (cWZ a h)
 |.agg l,r,h=>cWZ l h
 |.tup l,r,h=>cWZ l h
theorem cWZ:(k:KdL)->{r:List Ty}->allScal (k.lv r)=true->allScal r=true
 |.nil,r,h=>h
 |.cons k l,r,h=>cWZ l (mqZ k h)
end
mutual
theorem k0Z{fs:List Nat}:(k:Kd)->{r:List Ty}->allFamIn fs (k.lv r)=true->allFamIn fs r=true
 |.p _,r,h|.pt _,r,h|.ownx _ _ _,r,h=>by simp only[Kd.lv,allFamIn,ZAD] at h;exact h.2
 |.sl _ _,r,h=>by simp only[Kd.lv,allFamIn,ZAD] at h;exact h.2.2
 |.own _ _ _ _,r,h|.slf _ _,r,h|.mp _,r,h|.any,r,h|.nilp _,r,h=>h
 |.fn _ a c,r,h=>bAZ c (bAZ a h)
 |.agg l,r,h=>bAZ l h
 |.tup l,r,h=>bAZ l h
theorem bAZ{fs:List Nat}:(k:KdL)->{r:List Ty}->allFamIn fs (k.lv r)=true->allFamIn fs r=true
 |.nil,r,h=>h
 |.cons k l,r,h=>bAZ l (k0Z k h)
end
mutual
theorem nkZ{fs:List Nat}:(k:Kd)->{r:List Ty}->(y:HL (k.lv r))->allFamIn fs (k.lv r)=true->(emb k r y).1.famInT fs=true
 |.p t,r,y,h|.pt t,r,y,h=>by
  simp only[Kd.lv,allFamIn,ZAD] at h;exact h.1
 |.own _ _ _ _,r,y,h|.ownx _ _ _,r,y,h|.sl _ _,r,y,h|.slf _ _,r,y,h|.mp _,r,y,h|.any,r,y,h|.nilp _,r,y,h=>rfl
 |.fn g a c,r,y,h=>by
  simp only[emb,AV.famInT,ZAD];exact⟨blZ a (r:=c.lv r) y h,blZ c (r:=r) _ (bAZ a h)⟩
 |.agg l,r,y,h=>blZ l (r:=r) y h
 |.tup l,r,y,h=>blZ l (r:=r) y h
theorem blZ{fs:List Nat}:(k:KdL)->{r:List Ty}->(y:HL (k.lv r))->allFamIn fs (k.lv r)=true->AV.famInTL fs (embL k r y).1=true
 |.nil,r,y,h=>rfl
 |.cons k l,r,y,h=>by
  simp only[embL,AV.famInTL,ZAD];exact⟨nkZ k (r:=l.lv r) y h,blZ l (r:=r) _ (k0Z k h)⟩
end
theorem gLZ{fs:List Nat}:(hs:HK)->{r:List Ty}->(y:HL (hkLv hs r))->allFamIn fs (hkLv hs r)=true->∀id e,hget (embH hs r y).1 id=some e->e.b.famInT fs=true
 |[],r,y,h,id,e,he=>by simp[embH,hget] at he
 |(j,fz,k)::hs,r,y,h,id,e,he=>by
  have hb:(embB k (hkLv hs r) y).1.famInT fs=true/\allFamIn fs (hkLv hs r)=true:=by
   cases k with
   |vars l=>exact⟨blZ l (r:=hkLv hs r) y h,bAZ l h⟩
   |rows e t=>
    simp only[hkLv,BKd.lv,allFamIn,ZAD,Ty.famIn] at h;exact⟨h.1,h.2⟩
   |map kt vt=>
    simp only[hkLv,BKd.lv,mapTy,allFamIn,ZAD,Ty.famIn] at h;exact⟨by simp only[embB,Blk.famInT,ZAD];exact⟨h.1.1.1.1,h.1.1.1.2⟩,h.2⟩
   |fam e s=>
    simp only[hkLv,BKd.lv,allFamIn,ZAD,Ty.famIn] at h;exact⟨by simp only[embB,Blk.famInT];exact h.1.2,h.2⟩
  simp only[embH,hget] at he;cases hb':Nat.beq j id<;>rw[hb'] at he<;>simp only[ZAF,ZAC] at he
  ·exact gLZ hs _ hb.2 id e he
  ·injection he with he;subst he;exact hb.1
variable {z' : Z} {f : Nat → Option Nat}
mutual
theorem oKZ(hf:∀id,f id=none):(k:Kd)->{r:List Ty}->{y:HL (k.lv r)}->{v:Value}->allScal (k.lv r)=true->ARep z (emb k r y).1 v->ARep z' (AV.ren f (emb k r y).1) v
 |.p t,r,y,v,hs,h=>by
  simp only[Kd.lv,allScal,ZAD] at hs;obtain⟨vs,h1,h2⟩:=h.v;exact .p _ _ _ ⟨vs,Cl.scal hs.1 h1,h2⟩
 |.pt t,r,y,v,hs,h=>by simp[Kd.lv,allScal,Ty.scal] at hs
 |.own _ _ _ _,r,y,v,hs,h|.ownx _ _ _,r,y,v,hs,h|.sl _ _,r,y,v,hs,h|.slf _ _,r,y,v,hs,h|.mp _,r,y,v,hs,h=>by
  simp only[emb,AV.ren,hf];exact .junk v
 |.any,r,y,v,hs,h=>.junk v
 |.fn g a c,r,y,v,hs,h=>by
  simp only[emb,AV.ren];simp only[emb] at h;cases h with|fn _ _ _ va vc e1 e2 e3 e4=>
  have p1:=cyZ hf a (r:=c.lv r) (y:=y) (vs:=va.toList) hs ⟨by simp[e1],fun i x v q1 q2=>e3 i x v q1 (by simpa using q2)⟩;have p2:=cyZ hf c (r:=r) (y:=(embL a (c.lv r) y).2) (vs:=vc.toList) (cWZ a hs) ⟨by simp[e2],fun i x v q1 q2=>e4 i x v q1 (by simpa using q2)⟩;exact .fn _ _ _ _ _ (by have:=p1.1;simpa using this.symm) (by have:=p2.1;simpa using this.symm) (fun i x v q1 q2=>p1.2 i x v q1 (by simpa using q2)) (fun i x v q1 q2=>p2.2 i x v q1 (by simpa using q2))
 |.agg l,r,y,v,hs,h=>by
  simp only[emb,AV.ren];simp only[emb] at h;cases h with|agg _ cs e1 e2 e3=>
  have p1:=cyZ hf l (r:=r) (y:=y) (vs:=cs.toList) hs ⟨by simp[e1],fun i x v q1 q2=>e3 i x v q1 (by simpa using q2)⟩;exact .agg _ _ (by have:=p1.1;simpa using this.symm) e2 fun i x v q1 q2=>p1.2 i x v q1 (by simpa using q2)
 |.tup l,r,y,v,hs,h=>by
  simp only[emb,AV.ren];simp only[emb] at h;cases h with|tup _ cs e1 e3=>
  have p1:=cyZ hf l (r:=r) (y:=y) (vs:=cs.toList) hs ⟨by simp[e1],fun i x v q1 q2=>e3 i x v q1 (by simpa using q2)⟩;exact .tup _ _ (by have:=p1.1;simpa using this.symm) fun i x v q1 q2=>p1.2 i x v q1 (by simpa using q2)
 |.nilp u,r,y,v,hs,h=>by
  obtain⟨vs,h1,h2⟩:=h.v;exact .p _ _ _ ⟨vs,h1,h2⟩
theorem cyZ(hf:∀id,f id=none):(k:KdL)->{r:List Ty}->{y:HL (k.lv r)}->{vs:List Value}->allScal (k.lv r)=true->AReps z (embL k r y).1 vs->AReps z' (AV.renL f (embL k r y).1) vs
 |.nil,r,y,vs,hs,h=>⟨h.1,fun i a v h1 h2=>by simp[embL,AV.renL] at h1⟩
 |.cons k l,r,y,[],hs,h=>by have:=h.1;simp[embL] at this
 |.cons k l,r,y,v::vs,hs,h=>by
  simp only[embL] at h;simp only[embL,AV.renL];exact .cons (oKZ hf k hs h.head) (cyZ hf l (mqZ k hs) h.tail)
end
theorem ohZ(l:List AV):AV.ren f (tupA l)=tupA (AV.renL f l):=by
 match l with
 |[]=>simp[tupA,AV.ren,AV.renL]
 |[a]=>simp[tupA,AV.renL]
 |a::b::l=>simp[tupA,AV.ren,AV.renL]
theorem nGZ{l:List AV}{v:Value}(h:ARep z (tupA l) v):∃vs,AReps z l vs/\∀{z':Z} {l':List AV},AReps z' l' vs->l'.length=l.length->ARep z' (tupA l') v:=by
 match l with
 |[a]=>exact⟨[v],.cons h .nil,fun{z' l'} h' hl=>by
    match l',hl with
    |[b],_=>exact h'.head⟩
 |[]=>
  obtain⟨vs,rfl,h1,h2⟩:=hlZ (l:=[]) rfl h;refine⟨vs.toList,⟨by simp[h1],fun i a v h=>by simp at h⟩,fun{z' l'} h' hl=> ?_⟩
  match l',hl with
  |[],_=>exact .tup _ _ (by have:=h'.1;simpa using this.symm) fun i x v q1 q2=>h'.2 i x v q1 (by simpa using q2)
 |a::b::l=>
  obtain⟨vs,rfl,h1,h2⟩:=hlZ (l:=a::b::l) rfl h;refine⟨vs.toList,⟨by simp[h1],fun i a v q1 q2=>h2 i a v q1 (by simpa using q2)⟩,fun{z' l'} h' hl=> ?_⟩
  match l',hl with
  |c::d::l',_=>exact .tup _ _ (by have:=h'.1;simpa using this.symm) fun i x v q1 q2=>h'.2 i x v q1 (by simpa using q2)
def Bodied(P:Program)(f:FuncId):Prop:=∃fn c,P.funcs[f]? =some fn/\fn.body=some c/\(fn.name== "runtime.NumGoroutine")=false
def Does(P:Program)(f:FuncId)(args:Array Value)(w:World)(R:Ending->World->Prop):Prop:=
 (Bodied P f/\Calls P f args w R)\/∃v w',(callFunc f args).run P w= .ok (.value v) w'/\R (.returned v) w'
theorem Does.mono{P:Program}{f:FuncId}{args:Array Value}{w:World}{R R':Ending->World->Prop}(h:Does P f args w R)(hr:∀e w',R e w'->R' e w'):Does P f args w R':=by
 rcases h with⟨h1,h2⟩|⟨v,w',h1,h2⟩
 ·exact .inl ⟨h1,h2.mono hr⟩
 ·exact .inr ⟨v,w',h1,hr _ _ h2⟩
theorem Does.calls{P:Program}{f:FuncId}{args:Array Value}{w:World}{R:Ending->World->Prop}(h:Does P f args w R)(hb:Bodied P f):Calls P f args w R:=by
 rcases h with⟨_,h⟩|⟨v,w',h,_⟩
 ·exact h
 ·exfalso;obtain⟨fn,c,h1,h2,h3⟩:=hb;have hbd:fn.body.isNone=false:=by rw[h2];rfl
  unfold callFunc at h;simp only[Sem.run_bind,run_program,Result.andThen_ok,h1,h3,hbd] at h;simp at h
structure Told (P:Program) (e:FnT):Prop where
 spec:∀t r,e.spec t=some r->∀(z:Z) (vals:List Value),HRep z (e.i.emb t).2->AReps z (e.i.emb t).1 vals->(∀id,¬z.D id)->
  Does P e.f vals.toArray z.w fun en w'=>∃v z',en= .returned v/\z'.w=w'/\Nx z {z' with D:=z.D}/\(∀k,z'.D k->k∈hkKeys e.i.hs)/\OutS.on e.os r fun o x=>HRep z' (o.emb x).2/\ARep z' (tupA (o.emb x).1) v
theorem Told.of{P:Program}{e:FnT}(ent:Bodied P e.f)(spec:∀t r,e.spec t=some r->∀(z:Z) (vals:List Value),HRep z (e.i.emb t).2->AReps z (e.i.emb t).1 vals->(∀id,¬z.D id)->
 Calls P e.f vals.toArray z.w fun en w'=>∃v z',en= .returned v/\z'.w=w'/\Nx z {z' with D:=z.D}/\(∀k,z'.D k->k∈hkKeys e.i.hs)/\OutS.on e.os r fun o x=>HRep z' (o.emb x).2/\ARep z' (tupA (o.emb x).1) v):Told P e:=
 ⟨fun t r h z vals h1 h2 h3=>.inl ⟨ent,spec t r h z vals h1 h2 h3⟩⟩
theorem OutS.on_both:∀{l:List Shp} {x:OutS l} {K:(s:Shp)->s.D->Option β} {Q:(s:Shp)->s.D->Prop} {res:β},OutS.on l x K=some res->OutS.on l x Q->∃o y,o∈l/\K o y=some res/\Q o y
 |[],x,_,_,_,_,_=>Empty.elim x
 |[s],x,K,Q,res,h,hq=>⟨s,x,by simp,h,hq⟩
 |s::t::r,.inl y,K,Q,res,h,hq=>⟨s,y,by simp,h,hq⟩
 |s::t::r,.inr y,K,Q,res,h,hq=>by
  obtain⟨o,x,h1,h2,h3⟩:=OutS.on_both (l:=t::r) (x:=y) h hq;exact⟨o,x,ZAc _ h1,h2,h3⟩
theorem b9Z{H:Hp}{f:Nat->Option Nat}:∀{ps:List (Nat×Nat)},(sndN ps).Nodup->∀k,hget (renH H f ps) k=(idOf ps k).bind (fun id=>(hget H id).map (Ent.ren f))/\(hkey (renH H f ps) k=true↔∃id e,idOf ps k=some id/\hget H id=some e)
 |[],_,k=>⟨rfl,by simp[renH,hkey,idOf]⟩
 |(i,j)::ps,h,k=>by
  simp only[sndN,List.nodup_cons] at h;obtain⟨q1,q2⟩:=b9Z (H:=H) (f:=f) h.2 k;have hno:j=k->idOf ps k=none:=fun hj=>by
   cases hk:idOf ps k with
   |none=>rfl
   |some id=>exact absurd (drZ (aIZ hk)) (hj▸h.1)
  cases hg:hget H i with
  |none=>
   simp only[renH,hg,idOf];by_cases hj:j=k
   ·rw[(adZ j k).2 hj,ZAF];rw[hno hj] at q1 q2;refine⟨by rw[q1];simp[hg],⟨fun h=> ?_,fun⟨id,e,h1,h2⟩=> ?_⟩⟩
    ·obtain⟨id,e,h1,_⟩:=q2.1 h;cases h1
    ·simp only[ZAG] at h1;subst h1;rw[hg] at h2;cases h2
   ·rw[aiZ hj,ZAC];exact⟨q1,q2⟩
  |some e=>
   simp only[renH,hg,idOf,hget,hkey];by_cases hj:j=k
   ·simp[(adZ j k).2 hj,hg]
   ·rw[aiZ hj];exact⟨q1,q2⟩
theorem kJZ:∀{a b:List Nat},b.length<=a.length->sndN (zipN a b)=b/\∀i k,(i,k)∈zipN a b->i∈a
 |[],[],_=>⟨rfl,fun i k h=>by cases h⟩
 |[],_::_,h=>by simp at h
 |_::_,[],_=>⟨rfl,fun i k h=>by cases h⟩
 |x::a,y::b,h=>by
  obtain⟨q1,q2⟩:=kJZ (a:=a) (b:=b) (by simpa using h);refine⟨by simp[zipN,sndN,q1],fun i k hm=> ?_⟩;simp only[zipN,ZAU,ZAp] at hm;rcases hm with⟨rfl,_⟩|hm
  ·simp
  ·exact ZAc _ (q2 i k hm)
theorem g6Z:∀(n k:Nat),(rangeN k n).length=n
 |0,k=>rfl
 |n+1,k=>by simp[rangeN,g6Z n]
theorem gWZ:∀{a b:List Nat} {i k:Nat},(i,k)∈zipN a b->∃n:Nat,a[n]? =some i/\b[n]? =some k
 |[],_,i,k,h=>by cases h
 |_::_,[],i,k,h=>by cases h
 |x::a,y::b,i,k,h=>by
  simp only[zipN,ZAU,ZAp] at h;rcases h with⟨rfl,rfl⟩|h
  ·exact⟨0,rfl,rfl⟩
  ·obtain⟨n,h1,h2⟩:=gWZ h;exact⟨n+1,h1,h2⟩
theorem jAZ:∀{a b:List Nat} {n i k:Nat},a[n]? =some i->b[n]? =some k->(i,k)∈zipN a b
 |[],_,n,i,k,h,_=>by simp at h
 |_::_,[],n,i,k,_,h=>by simp at h
 |x::a,y::b,0,i,k,h1,h2=>by simp at h1 h2;subst h1;subst h2;simp[zipN]
 |x::a,y::b,n+1,i,k,h1,h2=>by
  simp only[zipN,ZAU];exact .inr (jAZ (by simpa using h1) (by simpa using h2))
theorem iQZ:∀{n k m:Nat},m<n->(rangeN k n)[m]? =some (k+m)
 |0,k,m,h=>by omega
 |n+1,k,0,h=>rfl
 |n+1,k,m+1,h=>by
  simp only[rangeN,ZBn];rw[iQZ (by omega)];congr 1;omega
theorem lFZ{n k m i:Nat}(h:(rangeN k n)[m]? =some i):i=k+m/\m<n:=by
 have hlt:m<n:=by have:=(ZAB.1 h).1;rwa [g6Z] at this
 rw[iQZ hlt] at h;exact⟨(ZAj h).symm,hlt⟩
end
end Go.Ab
namespace Go.Ab
section
variable {P : Program} {z : Z} {H : Hp} {β : Type}
theorem eKZ{H:Hp}:∀{l:List Nat},freshAll H l=true->∀id∈l,hkey H id=false
 |[],_,id,h=>by cases h
 |i::l,h,id,hm=>by
  simp only[freshAll,ZAD,ZAd] at h;rcases ZAU.1 hm with rfl|hm
  ·exact h.1
  ·exact eKZ h.2 id hm
def offF(fs:List Nat)(k:Nat):Prop:=dynBase<=k/\memN ((k-dynBase)%16) fs=false
instance (fs:List Nat) (k:Nat):Decidable (offF fs k):=inferInstanceAs (Decidable (_/\_))
theorem nWZ{fs:List Nat}{f k:Nat}:offF fs (enc f k)↔memN (f%16) fs=false:=by
 have h:(enc f k-dynBase)%16=f%16:=by unfold enc;generalize dynBase=d;omega
 unfold offF;rw[h];exact⟨fun h=>h.2,fun h=>⟨bDZ f k,h⟩⟩
def Z.clean(fs:List Nat)(z:Z):Z:={z with ρ:=fun k=>if offF fs k then .no else z.ρ k,D:=fun k=>z.D k/\¬offF fs k}
theorem Z.clean_at{z:Z}{fs:List Nat}{k:Nat}(h:k<dynBase):(z.clean fs).ρ k=z.ρ k:=ZAM fun h'=>ZBE.2 h h'.1
theorem Z.clean_on{z:Z}{fs:List Nat}{f k:Nat}(h:memN (f%16) fs=true):(z.clean fs).ρ (enc f k)=z.ρ (enc f k):=ZAM fun h'=>by rw[nWZ.1 h'] at h;cases h
theorem HRep.clean{fs:List Nat}(hH:HRep z H)(hs:∀id,offF fs id->hkey H (rt id)=false)(hn:∀id e,hgetX H id=some e->e.b.famInT fs=true/\∀i∈e.ids,i<dynBase):HRep (z.clean fs) H:=by
 have hon:SameOn fs z.ρ (z.clean fs).ρ:=fun f k hf _=>Z.clean_on hf;have hat:∀id e,hgetX H id=some e->(z.clean fs).ρ id=z.ρ id:=fun id e h=>by
  refine ZAM fun ho=> ?_;have:=hs id ho;rw[a5Z ho.1,apZ this] at h;cases h
 refine⟨fun id e h=>(hH.ent id e h).rho rfl rfl (.on hon (hn id e h).1) (hat id e h) (fun i hi=>Z.clean_at ((hn id e h).2 i hi)) fun _ _ _ _ _ h=>h,
  fun id id' e e' g sz n g' sz' n' hii h1 h2 m1 m2 p3 p4=> ?_,fun id h=> ?_,hH.sub,hH.fam,hH.key,fun id hd h hD=>hH.dyn id hd h hD.1,fun id h1 h2=>by rw[Z.clean_at h2];exact hH.nos id h1 h2⟩
 ·rw[hat id e h1] at p3;rw[hat id' e' h2] at p4;exact hH.inj id id' e e' g sz n g' sz' n' hii h1 h2 m1 m2 p3 p4
 ·by_cases hd:offF fs id
  ·exact .inl (ZAO hd)
  ·rcases hH.fresh id h with h|h
   ·exact .inl (by rw[show(z.clean fs).ρ id=z.ρ id from ZAM hd];exact h)
   ·exact .inr ⟨h,hd⟩
theorem dPZ:∀{l:List Nat} {f:Nat},(∀i∈l,i<dynBase)->f<16->(memN f (famNs l)=true↔famBase+f∈l)
 |[],f,_,_=>by simp[famNs,memN]
 |i::l,f,hl,hf=>by
  have h0:=d4Z;have hi:=hl i ZAk;have ih:=dPZ (l:=l) (f:=f) (fun i h=>hl i (ZAc _ h)) hf;simp only[famNs];by_cases hb:famBase<=i
  ·rw[ZAg hb,ZAF];simp only[memN,ZAU];by_cases h:i-famBase=f
   ·rw[(adZ _ _).2 h,ZAF];exact⟨fun _=>.inl (by omega),fun _=>rfl⟩
   ·rw[aiZ h,ZAC,ih];exact⟨.inr,fun h'=>h'.resolve_left (by omega)⟩
  ·have:Nat.ble famBase i=false:=by
    cases hc:Nat.ble famBase i
    ·rfl
    ·exact absurd (ZBK hc) hb
   rw[this,ZAC,ih,ZAU];exact⟨.inr,fun h'=>h'.resolve_left (by omega)⟩
theorem hzZ{l:List Nat}(hl:∀i∈l,i<dynBase){k:Nat}:offF (famNs l) k↔dynBase<=k/\rt k∉l:=by
 unfold offF;constructor
 ·rintro⟨h1,h2⟩;refine⟨h1,fun hm=> ?_⟩;unfold rt at hm;rw[ZAO h1] at hm;rw[(dPZ hl (ZB8 _ (by omega))).2 hm] at h2;cases h2
 ·rintro⟨h1,h2⟩;refine⟨h1,?_⟩;cases hc:memN ((k-dynBase)%16) (famNs l)
  ·rfl
  ·exfalso;apply h2;unfold rt;rw[ZAO h1];exact(dPZ hl (ZB8 _ (by omega))).1 hc
theorem ioZ{s:Shp}{t:s.D}{fs:List Nat}(hn:allFamIn fs s.tys=true){z:Z}(hH:HRep z (s.emb t).2){id:Nat}{e:Ent}(h:hgetX (s.emb t).2 id=some e):e.b.famInT fs=true:=by
 have h1:=fun id e he=>gLZ s.hs (r:=[]) (embL s.ks (hkLv s.hs []) (untidy s.tys t)).2 (bAZ s.ks hn) id e he;by_cases hd:dynBase<=id
 ·rw[a5Z hd] at h;obtain⟨e0,p1,p2⟩:=ZAH.1 h;have p3:=h1 _ _ p1;unfold pick at p2;split at p2
  ·rename_i e' s' ms hb;split at p2
   ·split at p2
    ·cases p2
    ·simp only[ZAG] at p2;subst p2;rw[hb] at p3;exact p3
   ·cases p2
  ·cases p2
 ·by_cases hf:famBase<=id
  ·unfold hgetX at h;rw[ZAM hd,ZAO hf] at h;cases h
  ·rw[aoZ (by omega)] at h;exact h1 _ _ h
theorem odZ{e x:Ent}{k:Nat}(h:pick k e=some x):x.ids=[]:=(ejZ h some).2
theorem jYZ{s:Shp}{t:s.D}{zc0:Z}{vals:List Value}(hn:allFamIn (famNs (hkKeys s.hs)) s.tys=true)(k4:HRep zc0 (s.emb t).2)(k5:AReps zc0 (s.emb t).1 vals)(hst:∀k,memN k (hkKeys s.hs)=true->k<dynBase)
 (hid:∀i,i∈s.ks.ids\/i∈hkIds s.hs->i∈hkKeys s.hs):
 ∃zc:Z,zc.w=zc0.w/\zc.M=zc0.M/\HRep zc (s.emb t).2/\AReps zc (s.emb t).1 vals/\(∀k,k<dynBase\/rt k∈hkKeys s.hs->zc.ρ k=zc0.ρ k)/\zc.C=zc0.C/\(∀k,zc.D k->zc0.D k/\(k<dynBase\/rt k∈hkKeys s.hs))/\∀k,dynBase<=k->rt k∉hkKeys s.hs->zc.ρ k= .no:=by
 have hg:=fun id=>bZZ s.hs (embL s.ks (hkLv s.hs []) (untidy s.tys t)).2 id;have hl:∀i∈hkKeys s.hs,i<dynBase:=fun i hi=>hst i (agZ.2 hi);have hlt:∀i,i∈s.ks.ids\/i∈hkIds s.hs->i<dynBase:=fun i hi=>hst i (agZ.2 (hid i hi));have hon:SameOn (famNs (hkKeys s.hs)) zc0.ρ (zc0.clean (famNs (hkKeys s.hs))).ρ:=fun f k hf _=>Z.clean_on hf;refine⟨zc0.clean (famNs (hkKeys s.hs)),rfl,rfl,k4.clean (fun id ho=> ?_) (fun id e he=>⟨ioZ hn k4 he,fun i hi=> ?_⟩),?_,fun k hk=> ?_,rfl,fun k h=>⟨h.1,?_⟩,fun k h1 h2=>ZAO ((hzZ hl).2 ⟨h1,h2⟩)⟩
 ·have:=((hzZ hl).1 ho).2;rw[show hkey (s.emb t).2 (rt id)=memN (rt id) (hkKeys s.hs) from(hg _).1];cases hm:memN (rt id) (hkKeys s.hs)
  ·rfl
  ·exact absurd (agZ.1 hm) this
 ·by_cases hd:dynBase<=id
  ·rw[a5Z hd] at he;obtain⟨e0,p1,p2⟩:=ZAH.1 he;rw[odZ p2] at hi;cases hi
  ·by_cases hf:famBase<=id
   ·unfold hgetX at he;rw[ZAM hd,ZAO hf] at he;cases he
   ·rw[aoZ (by omega)] at he;exact hlt i (.inr ((hg id).2.2 e he i hi))
 ·refine k5.rho rfl rfl (.on hon (blZ s.ks (r:=hkLv s.hs []) _ hn)) fun i hi=>Z.clean_at (hlt i (.inl ?_));rw[<-ccZ s.ks (r:=hkLv s.hs []) (untidy s.tys t)];exact hi
 ·refine ZAM fun ho=> ?_;have:=(hzZ hl).1 ho;rcases hk with hk|hk
  ·exact ZBE.2 hk this.1
  ·exact this.2 hk
 ·by_cases hk:k<dynBase
  ·exact .inl hk
  ·right;by_cases hm:rt k∈hkKeys s.hs
   ·exact hm
   ·exact absurd ((hzZ hl).2 ⟨Nat.not_lt.1 hk,hm⟩) h.2
theorem eGZ{a b:Nat}(h:¬a<=b):Nat.ble a b=false:=by
 cases hc:Nat.ble a b
 ·rfl
 ·exact absurd (ZBK hc) h
theorem aMZ:∀(l:List Nat) (n:Nat),(shKeys n l).length=l.length
 |[],_=>rfl
 |i::l,n=>by
  simp only[shKeys];by_cases h:famBase<=i
  ·rw[ZAg h,ZAF];simp[aMZ l]
  ·rw[eGZ h,ZAC];simp[aMZ l]
theorem bTZ:∀{l:List Nat} {n m k id:Nat},(shKeys n l)[m]? =some k->l[m]? =some id->(famBase<=id/\k=id)\/(id<famBase/\n<=k/\k<n+l.length)
 |[],n,m,k,id,h,_=>by simp[shKeys] at h
 |i::l,n,m,k,id,h,h'=>by
  simp only[shKeys] at h;by_cases hi:famBase<=i
  ·rw[ZAg hi,ZAF] at h
   match m with
   |0=>simp at h h';subst h;subst h';exact .inl ⟨hi,rfl⟩
   |m+1=>
    rcases bTZ (l:=l) (n:=n) (by simpa using h) (by simpa using h') with h|⟨h1,h2,h3⟩
    ·exact .inl h
    ·exact .inr ⟨h1,h2,by simp;omega⟩
  ·rw[eGZ hi,ZAC] at h
   match m with
   |0=>simp at h h';subst h;subst h';exact .inr ⟨by omega,ZAK _,by simp⟩
   |m+1=>
    rcases bTZ (l:=l) (n:=n+1) (by simpa using h) (by simpa using h') with h|⟨h1,h2,h3⟩
    ·exact .inl h
    ·exact .inr ⟨h1,by omega,by simp;omega⟩
theorem epZ:∀(l r:List Nat) (n:Nat),∃m,n<=m/\m<=n+l.length/\shKeys n (l++r)=shKeys n l++shKeys m r
 |[],r,n=>⟨n,ZAK _,by simp,rfl⟩
 |i::l,r,n=>by
  by_cases h:famBase<=i
  ·obtain⟨m,h1,h2,h3⟩:=epZ l r n;refine⟨m,h1,by simp;omega,?_⟩;simp only[List.cons_append,shKeys,ZAg h,ZAF,h3]
  ·obtain⟨m,h1,h2,h3⟩:=epZ l r (n+1);refine⟨m,by omega,by simp;omega,?_⟩;simp only[List.cons_append,shKeys,eGZ h,ZAC,h3]
theorem lwZ{l:List Nat}{n m id:Nat}(h:l[m]? =some id):∃k,(shKeys n l)[m]? =some k:=by
 have:m<(shKeys n l).length:=by rw[aMZ];exact(ZAB.1 h).1
 exact⟨_,ZAE this⟩
theorem e7Z:∀{l:List Nat} {n m m' k:Nat},l.Nodup->n+l.length<=famBase->(shKeys n l)[m]? =some k->(shKeys n l)[m']? =some k->m=m'
 |[],n,m,m',k,_,_,h,_=>by simp[shKeys] at h
 |i::l,n,m,m',k,hn,hb,h,h'=>by
  simp only[List.nodup_cons] at hn;simp only[ZBi] at hb;have q:∀(n' m k:Nat),(shKeys n' l)[m]? =some k->∃id,l[m]? =some id/\((famBase<=id/\k=id)\/(id<famBase/\n'<=k/\k<n'+l.length)):=fun n' m k h=>by
   have hlt:m<l.length:=by have:=(ZAB.1 h).1;rwa [aMZ] at this
   exact⟨_,ZAE hlt,bTZ h (ZAE hlt)⟩
  simp only[shKeys] at h h';by_cases hi:famBase<=i
  ·rw[ZAg hi,ZAF] at h h';have no:∀{m:Nat},(shKeys n l)[m]?≠some i:=fun{m} h=>by
    obtain⟨id,h1,h2⟩:=q n _ _ h;rcases h2 with⟨_,h3⟩|⟨_,_,h3⟩
    ·exact hn.1 (h3▸ZAQ h1)
    ·omega
   match m,m' with
   |0,0=>rfl
   |0,m'+1=>simp at h;subst h;exact absurd (by simpa using h') no
   |m+1,0=>simp at h';subst h';exact absurd (by simpa using h) no
   |m+1,m'+1=>exact congrArg (·+1) (e7Z (n:=n) hn.2 (by omega) (by simpa using h) (by simpa using h'))
  ·rw[eGZ hi,ZAC] at h h';have no:∀{m:Nat},(shKeys (n+1) l)[m]?≠some n:=fun{m} h=>by
    obtain⟨id,h1,h2⟩:=q (n+1) _ _ h;rcases h2 with⟨h2,h3⟩|⟨_,h2,h3⟩
    ·omega
    ·omega
   match m,m' with
   |0,0=>rfl
   |0,m'+1=>simp at h;subst h;exact absurd (by simpa using h') no
   |m+1,0=>simp at h';subst h';exact absurd (by simpa using h) no
   |m+1,m'+1=>exact congrArg (·+1) (e7Z (n:=n+1) hn.2 (by omega) (by simpa using h) (by simpa using h'))
theorem cLZ:∀{a b:List Nat},a.length=b.length->fstN (zipN a b)=a
 |[],[],_=>rfl
 |[],_::_,h=>by simp at h
 |_::_,[],h=>by simp at h
 |x::a,y::b,h=>by simp[zipN,fstN,cLZ (a:=a) (b:=b) (by simpa using h)]
theorem qlZ{z1 zc zd:Z}{H1 Hd:Hp}{sh ids:List Nat}{fs:List Nat}(hH:HRep z1 H1)(hfr:∀id∈ids,hkey H1 id=false)(hsh:∀id∈sh,hkey H1 id=true)(hst:∀id∈ids,id<dynBase)(hd:∀id,rt id∈ids->¬z1.D id)(hnd:(sh++ids).Nodup)(hlen:sh.length+ids.length<=famBase)
 (hw:zc.w=z1.w)(hM:zc.M=z1.M)(hC:∀g,zc.C g->∃id e sz n,rt id∈sh/\hgetX H1 id=some e/\e.fz=false/\z1.ρ id= .real g sz n)
 (hρ:∀(m:Nat) k id,(shKeys 0 sh)[m]? =some k->sh[m]? =some id->zc.ρ k=z1.ρ id/\(id<famBase->zc.ρ k≠.no))(hρd:∀id,dynBase<=id->rt id∈sh->zc.ρ id=z1.ρ id)(hDd:∀k,zd.D k->k<dynBase/\k∈shKeys 0 sh)(hn:Nx zc {zd with D:=zc.D})(hHd:HRep zd Hd)(hlive:∀k,hkey Hd k=true->∃e,hget Hd k=some e)(hnr:∀k e,hgetX Hd k=some e->e.b.famInT fs=true)
 (hfs:∀f,memN (f%16) fs=true->famId f∈sh++ids)
 (hk:allIn (hkeys Hd) (fstN (zipN (shKeys 0 (sh++ids)) (sh++ids)))=true):
 ∃z3,z3.w=zd.w/\HRep z3 (setAll (killAll H1 sh) (renH Hd (noOf (zipN (shKeys 0 (sh++ids)) (sh++ids))) (zipN (shKeys 0 (sh++ids)) (sh++ids))))/\Nx z1 z3/\
  ∀a v,a.famInT fs=true->ARep zd a v->ARep z3 (AV.ren (noOf (zipN (shKeys 0 (sh++ids)) (sh++ids))) a) v:=by
 have h0:=d4Z;have hkl:=aMZ (sh++ids) 0;obtain⟨ms,_,_,happ⟩:=epZ sh ids 0;have hkin:∀m k id,(shKeys 0 (sh++ids))[m]? =some k->(sh++ids)[m]? =some id->(famBase<=id/\k=id)\/(id<famBase/\k<famBase):=fun m k id h1 h2=>by
  rcases bTZ h1 h2 with h|⟨h,_,h3⟩
  ·exact .inl h
  ·refine .inr ⟨h,?_⟩;rw[ZAi] at h3;omega
 have hkinj:∀m m' k,(shKeys 0 (sh++ids))[m]? =some k->(shKeys 0 (sh++ids))[m']? =some k->m=m':=fun m m' k=>e7Z hnd (by rw[ZAi];omega);have hlow:∀m k id,(shKeys 0 (sh++ids))[m]? =some k->(sh++ids)[m]? =some id->m<sh.length->(shKeys 0 sh)[m]? =some k/\sh[m]? =some id:=fun m k id h1 h2 h3=>by
  rw[happ,ZAN (by rw[aMZ];exact h3)] at h1;rw[ZAN h3] at h2;exact⟨h1,h2⟩
 have hkeysOf:∀k,k∈shKeys 0 sh->∃m,(shKeys 0 (sh++ids))[m]? =some k/\m<sh.length:=fun k hk=>by
  obtain⟨m,hm⟩:=ZAY hk;have hlt:m<sh.length:=by have:=(ZAB.1 hm).1;rwa [aMZ] at this
  exact⟨m,by rw[happ,ZAN (by rw[aMZ];exact hlt)];exact hm,hlt⟩
 generalize hall:sh++ids=all at*;generalize hsk:shKeys 0 all=sk at*;generalize hback:zipN sk all=back at*;have hat:∀k id,(k,id)∈back↔∃m,sk[m]? =some k/\all[m]? =some id:=fun k id=>by
  rw[<-hback];exact⟨fun h=>gWZ h,fun⟨m,h1,h2⟩=>jAZ h1 h2⟩
 have hfix:∀k id,(k,id)∈back->(famBase<=id/\k=id)\/(id<famBase/\k<famBase):=fun k id h=>by
  obtain⟨m,h1,h2⟩:=(hat k id).1 h;exact hkin m k id h1 h2
 have hsnd:sndN back=all:=by rw[<-hback];exact(kJZ (by omega)).1
 have hfst:fstN back=sk:=by rw[<-hback];exact cLZ hkl
 have hsn:(sndN back).Nodup:=by rw[hsnd];exact hnd
 have hid:∀k id,(k,id)∈back->idOf back id=some k:=fun k id h=>e8Z hsn h;have hallm:∀id,id∈all->∃k,(k,id)∈back:=fun id h=>by
  obtain⟨m,hm⟩:=ZAY h;have hlt:m<sk.length:=by rw[hkl];exact(ZAB.1 hm).1
  exact⟨_,(hat _ id).2 ⟨m,ZAE hlt,hm⟩⟩
 have hbm:∀k id,(k,id)∈back->id∈all:=fun k id h=>by
  obtain⟨m,h1,h2⟩:=(hat k id).1 h;exact ZAQ h2
 have hfamb:∀id,famBase<=id->id∈all->(id,id)∈back:=fun id h1 h2=>by
  obtain⟨k,hk⟩:=hallm id h2;rcases hfix k id hk with⟨_,rfl⟩|h
  ·exact hk
  ·omega
 have hinj:∀k k' id,(k,id)∈back->(k',id)∈back->k=k':=fun k k' id h h'=>ZAj ((hid k id h).symm.trans (hid k' id h'));have hinj2:∀k id id',(k,id)∈back->(k,id')∈back->id=id':=fun k id id' h h'=>by
  obtain⟨m,h1,h2⟩:=(hat k id).1 h;obtain⟨m',h3,h4⟩:=(hat k id').1 h';have:=hkinj m m' k h1 h3;subst this;rw[h2] at h4;exact ZAj h4
 have halld:∀id∈all,id<dynBase:=fun id h=>by
  rw[<-hall] at h;rcases ZAh.1 h with h|h
  ·exact hH.key id (hsh id h)
  ·exact hst id h
 have hddyn:∀k,dynBase<=k->¬zd.D k:=fun k h h'=>by have:=(hDd k h').1;omega
 let F:Nat->Bool:=fun id=>memN id all
 have hF:∀id,F id=true↔id∈all:=fun id=>agZ
 let z2:Z:={w:=zd.w,M:=zd.M,ρ:=fun id=>match idOf back id with|some k=>zd.ρ k|none=>if dynBase<=id/\rt id∈all then zd.ρ id else z1.ρ id,
            C:=fun g=>∃k e sz n,hgetX Hd k=some e/\e.fz=false/\zd.ρ k= .real g sz n,D:=(z1.foc H1 F).D}
 have hρ2:∀k id,(k,id)∈back->z2.ρ id=zd.ρ k:=fun k id h=>by
  show(match idOf back id with|some k=>zd.ρ k|none=>_)=_;rw[hid k id h]
 have hno:∀id,id∉all->idOf back id=none:=fun id h=>by
  cases hk:idOf back id with
  |none=>rfl
  |some k=>exact absurd (hbm k id (aIZ hk)) h
 have hρ2d:∀id,dynBase<=id->rt id∈all->z2.ρ id=zd.ρ id:=fun id h1 h2=>by
  show(match idOf back id with|some k=>zd.ρ k|none=>_)=_;rw[hno id fun h=>by have:=halld id h;omega];exact ZAO ⟨h1,h2⟩
 have hρ2n:∀id,id∉all->¬(dynBase<=id/\rt id∈all)->z2.ρ id=z1.ρ id:=fun id h1 h2=>by
  show(match idOf back id with|some k=>zd.ρ k|none=>_)=_;rw[hno id h1];exact ZAM h2
 have hρX:∀k id,OfX back k id->z2.ρ id=zd.ρ k:=fun k id h=>by
  rcases h with⟨h,_,_⟩|⟨rfl,h1,h2⟩
  ·exact hρ2 k id h
  ·exact hρ2d k h1 (hbm _ _ h2)
 have hC1:∀g,zc.C g->(z1.foc H1 F).C g:=fun g h=>by
  obtain⟨id,e,sz,n,a1,a2,a3,a4⟩:=hC g h;exact⟨id,e,sz,n,agZ.2 (by rw[<-hall];exact ZBU _ a1),a2,a3,a4⟩
 have hCd:∀g,zd.C g->(z1.foc H1 F).C g\/z1.w.heap.size<=g:=fun g hg=>by
  rcases hn.subC g hg with h|h
  ·exact .inl (hC1 g h)
  ·rw[hw] at h;exact .inr h
 have hC2:∀g,z2.C g->zd.C g:=fun g ⟨k,e,sz,n,a2,a3,a4⟩=>(hHd.realX a2 a4).2.1 a3;have hN:Nx (z1.foc H1 F) z2:=by
  refine⟨hn.os.trans (by rw[hw];rfl),⟨hn.tape.1.trans (by rw[hw];rfl),by have:=hn.tape.2;rw[hw] at this;exact this⟩,hn.output.trans (by rw[hw];rfl),by have:=hn.size;rw[hw] at this;exact this,fun b hb hc=> ?_,fun g hg=> ?_,fun g hg=>hCd g (hC2 g hg),fun g hg hm hc=> ?_,fun id hne=> ?_,rfl⟩
  ·have:=hn.block b (by rw[hw];exact hb) fun h=>hc (hC1 b h);rw[hw] at this;exact this
  ·have:=hn.subM g hg;rw[hw,hM] at this;exact this
  ·exact hn.keepM g (by rw[hw];exact hg) (by rw[hM];exact hm) fun h=>hc (hC1 g h)
  ·have hne:z1.ρ id≠.no:=hne;show z2.ρ id=z1.ρ id;have hnf:¬(famBase<=id/\id<dynBase):=fun h=>hne (hH.nos id h.1 h.2);by_cases hm:id∈all
   ·obtain⟨k,hk⟩:=hallm id hm;rw[hρ2 k id hk];obtain⟨m,h1,h2⟩:=(hat k id).1 hk;have hlid:=halld id hm;by_cases hlt:m<sh.length
    ·obtain⟨b1,b2⟩:=hlow m k id h1 h2 hlt;obtain⟨b3,b4⟩:=hρ m k id b1 b2;rw[hn.ext k (b4 (by omega)),b3]
    ·rw[<-hall,ZAV (by omega)] at h2;have hmi:=ZAQ h2;exact absurd ((hH.fresh id (by rw[a6Z (by omega)];exact hfr id hmi)).resolve_right (hd id (by rw[aWZ hlid];exact hmi))) hne
   ·by_cases hdd:dynBase<=id/\rt id∈all
    ·rw[hρ2d id hdd.1 hdd.2];rw[<-hall] at hdd;rcases ZAh.1 hdd.2 with h|h
     ·have e1:=hρd id hdd.1 h;rw[<-e1] at hne⊢;exact hn.ext id hne
     ·exfalso;refine hne ((hH.fresh id ?_).resolve_right (hd id h));rw[ayZ hdd.1,apZ (hfr _ h)];exact hfr _ h
    ·exact hρ2n id hm hdd
 have hent0:∀id e',hget (renH Hd (noOf back) back) id=some e'->∃k e,(k,id)∈back/\hget Hd k=some e/\e'=e.ren (noOf back):=fun id e' h=>by
  rw[(b9Z hsn id).1] at h;obtain⟨k,q1,q2⟩:=ZAH.1 h;obtain⟨e,q3,q4⟩:=ZAI.1 q2;exact⟨k,e,aIZ q1,q3,q4.symm⟩
 generalize hH2:setAll (killAll [] sh) (renH Hd (noOf back) back)=H2;have hg2:∀id,hget H2 id=if hkey (renH Hd (noOf back) back) id then hget (renH Hd (noOf back) back) id else none:=fun id=>by
  rw[<-hH2,aPZ,aVZ];split
  ·rfl
  ·split<;>rfl
 have hk2:∀id,hkey H2 id=(hkey (renH Hd (noOf back) back) id||memN id sh):=fun id=>by
  rw[<-hH2,aCZ,aNZ];simp[hkey]
 have hgs:∀id e',hget H2 id=some e'->hget (renH Hd (noOf back) back) id=some e':=fun id e' h=>by
  rw[hg2] at h;split at h
  ·exact h
  ·cases h
 have hentX:∀id e',hgetX H2 id=some e'->∃k e,OfX back k id/\hgetX Hd k=some e/\e'=e.ren (noOf back):=fun id e' h=>by
  by_cases hdy:dynBase<=id
  ·rw[a5Z hdy] at h;obtain⟨e0,q1,q2⟩:=ZAH.1 h;obtain⟨k,e1,q3,q4,rfl⟩:=hent0 _ _ (hgs _ _ q1);have:k=rt id:=by
    rcases hfix k _ q3 with⟨_,h⟩|⟨h,_⟩
    ·exact h
    ·have:=(bLZ hdy).1;omega
   subst this;rw[(eDZ e1 _ _).2 (ZAK _)] at q2;exact⟨id,e',.inr ⟨rfl,hdy,q3⟩,by rw[a5Z hdy,q4];exact q2,(ejZ q2 _).1.symm⟩
  ·by_cases hf:famBase<=id
   ·unfold hgetX at h;rw[ZAM hdy,ZAO hf] at h;cases h
   ·rw[aoZ (by omega)] at h;obtain⟨k,e1,q3,q4,rfl⟩:=hent0 _ _ (hgs _ _ h);have hkf:k<famBase:=by
     rcases hfix k _ q3 with⟨h,_⟩|⟨_,h⟩
     ·omega
     ·exact h
    exact⟨k,e1,.inl ⟨q3,hkf,by omega⟩,by rw[aoZ hkf];exact q4,rfl⟩
 have hon:SameOn fs zd.ρ z2.ρ:=fun f k hf _=>hρ2d (enc f k) (bDZ f k) (by rw[dyZ];exact hfs f hf);have hR:HRep z2 H2:=by
  refine⟨fun id e' h=> ?_,fun i i' e e' g sz n g' sz' n' hii p1 p2 m1 m2 p3 p4=> ?_,fun id h=> ?_,fun g h=>hHd.sub g (hC2 g h),fun id x h=> ?_,fun id h=> ?_,fun id hdy h=> ?_,fun id h1 h2=> ?_⟩
  ·obtain⟨k,e,q1,q2,rfl⟩:=hentX id e' h;have h0:=hHd.ent _ _ q2;unfold ERep at h0⊢;rw[hρX k id q1];cases hr:zd.ρ k with
   |no=>rw[hr] at h0;exact h0.elim
   |virt=>
    rw[hr] at h0;obtain⟨fz,b⟩:=e;cases b<;>first|exact h0.elim|exact h0
   |real g sz n=>
    rw[hr] at h0;obtain⟨a1,a2,a3,a4⟩:=h0;exact⟨a1,fun hf=>⟨k,e,sz,n,q2,hf,hr⟩,a3,a4.ren (fz:=e.fz) rfl rfl (.on hon (hnr k e q2)) fun id' k' _ hk'=>hρ2 id' k' (dgZ hk')⟩
  ·obtain⟨k,e1,q1,q2,rfl⟩:=hentX i e p1;obtain⟨k',e2,q3,q4,rfl⟩:=hentX i' e' p2;rw[hρX k i q1] at p3;rw[hρX k' i' q3] at p4;have hkk:k≠k':=fun h=>by
    subst h;rcases q1 with⟨a1,a2,_⟩|⟨rfl,a1,_⟩<;>rcases q3 with⟨b1,b2,_⟩|⟨rfl,b1,_⟩
    ·exact hii (hinj2 k i i' a1 b1)
    ·omega
    ·omega
    ·exact hii rfl
   exact hHd.inj k k' e1 e2 g sz n g' sz' n' hkk q2 q4 m1 m2 p3 p4
  ·by_cases hdy:dynBase<=id
   ·by_cases hm:rt id∈all
    ·left;rw[hρ2d id hdy hm];have hbk:=hfamb _ (bLZ hdy).1 hm;refine(hHd.fresh id ?_).resolve_right (hddyn id hdy);rw[ayZ hdy] at h⊢;cases hg:hget Hd (rt id) with
     |some e0=>
      have hkr:=((b9Z (H:=Hd) (f:=noOf back) hsn (rt id)).2).2 ⟨_,e0,hid _ _ hbk,hg⟩;rw[hg2,ZAO hkr,(b9Z hsn (rt id)).1,hid _ _ hbk] at h;simp only[ZAA,hg,ZBW] at h;rw[(eDZ e0 _ _).1] at h;exact h
     |none=>
      show hkey Hd (rt id)=false;cases hkd:hkey Hd (rt id)
      ·rfl
      ·obtain⟨e,he⟩:=hlive _ hkd;rw[he] at hg;cases hg
    ·rw[hρ2n id (fun h=>by have:=halld id h;omega) fun h=>hm h.2];cases hk1:hkeyX H1 id
     ·exact(hH.fresh id hk1).imp (fun h=>h) .inl
     ·refine .inr (.inr ⟨hk1,?_⟩);cases hF':F (rt id)
      ·rfl
      ·exact absurd ((hF _).1 hF') hm
   ·by_cases hf:famBase<=id
    ·left;by_cases hm:id∈all
     ·rw[hρ2 id id (hfamb id hf hm)];exact hHd.nos id hf (by omega)
     ·rw[hρ2n id hm fun h=>hdy h.1];exact hH.nos id hf (by omega)
    ·rw[a6Z (by omega),hk2] at h;simp only[ZBB] at h;obtain⟨h,hshm⟩:=h;by_cases hm:id∈all
     ·obtain⟨k,hb⟩:=hallm id hm;have hkf:k<famBase:=by
       rcases hfix k id hb with⟨h,_⟩|⟨_,h⟩
       ·omega
       ·exact h
      left;rw[hρ2 k id hb];have hkd:hkey Hd k=false:=by
       cases hkd:hkey Hd k
       ·rfl
       ·obtain⟨e,he⟩:=hlive k hkd;rw[((b9Z (H:=Hd) (f:=noOf back) hsn id).2).2 ⟨k,e,hid k id hb,he⟩] at h;cases h
      refine(hHd.fresh k (by rw[a6Z hkf];exact hkd)).resolve_right fun hdk=> ?_;obtain⟨m',h1,h2⟩:=hkeysOf k (hDd k hdk).2;obtain⟨m,h3,h4⟩:=(hat k id).1 hb;have:=hkinj m m' k h3 h1;subst this;have h5:=(hlow m k id h3 h4 h2).2;rw[agZ.2 (ZAQ h5)] at hshm;cases hshm
     ·rw[hρ2n id hm fun h=>hdy h.1];cases hk1:hkeyX H1 id
      ·exact(hH.fresh id hk1).imp (fun h=>h) .inl
      ·refine .inr (.inr ⟨hk1,?_⟩);cases hF':F (rt id)
       ·rfl
       ·rw[aWZ (by omega)] at hF';exact absurd ((hF _).1 hF') hm
  ·obtain⟨k,e1,q3,q4,rfl⟩:=hent0 _ _ (hgs _ _ h);have hfo:=hHd.fam k e1 q4;obtain⟨fz,b⟩:=e1;cases b with
   |fam e s ms=>
    have:k=id:=by
     rcases hfix k id q3 with⟨_,h⟩|⟨_,h⟩
     ·exact h
     ·have:=hfo.1;omega
    subst this;exact hfo
   |_=>
    have hkf:k<famBase:=hfo;show id<famBase;rcases hfix k id q3 with⟨h,h'⟩|⟨h,_⟩
    ·omega
    ·exact h
  ·rw[hk2] at h;simp only[ZAl] at h;refine halld id ?_;rcases h with h|h
   ·obtain⟨k,e,h1,_⟩:=((b9Z hsn id).2).1 h;exact hbm k id (aIZ h1)
   ·rw[<-hall];exact ZBU _ (agZ.1 h)
  ·have hm:rt id∈all:=by
    rw[hk2] at h;simp only[ZAl] at h;rcases h with h|h
    ·obtain⟨k,e,h1,_⟩:=((b9Z hsn (rt id)).2).1 h;exact hbm k _ (aIZ h1)
    ·rw[<-hall];exact ZBU _ (agZ.1 h)
   rintro(hD|⟨_,hD⟩)
   ·rw[<-hall] at hm;rcases ZAh.1 hm with h'|h'
    ·exact hH.dyn id hdy (hsh _ h') hD
    ·exact hd id h' hD
   ·rw[(hF _).2 hm] at hD;cases hD
  ·by_cases hm:id∈all
   ·rw[hρ2 id id (hfamb id h1 hm)];exact hHd.nos id h1 h2
   ·rw[hρ2n id hm fun h=>by omega];exact hH.nos id h1 h2
 obtain⟨z3,r1,r2,r3,r4,r5⟩:=kqZ (H3:=setAll (killAll H1 sh) (renH Hd (noOf back) back)) hH hN hR (fun id h=>by
  rw[hk2] at h;simp only[ZAl] at h;rcases h with h|h
  ·obtain⟨k,e,h1,_⟩:=((b9Z hsn id).2).1 h;exact agZ.2 (hbm k id (aIZ h1))
  ·exact agZ.2 (by rw[<-hall];exact ZBU _ (agZ.1 h))) (fun id=>by
  rw[aPZ,aVZ,hk2,hg2];by_cases h2:hkey (renH Hd (noOf back) back) id=true
  ·simp[h2]
  ·simp only[h2,ZBD,ZB7,Bool.false_or];by_cases hs:memN id sh=true
   ·simp[hs]
   ·simp only[hs,ZBD,ZB7];by_cases hF':F id=true
    ·rw[ZAO hF'];have:=agZ.1 hF';rw[<-hall] at this;rcases ZAh.1 this with h|h
     ·exact absurd (agZ.2 h) hs
     ·exact apZ (hfr id h)
    ·rw[ZAM hF']) (fun id h=>by
  rw[hk2] at h;rw[aCZ,aNZ];rcases h with h|h
  ·simp only[ZAl] at h;rcases h with h|h
   ·simp[h]
   ·simp[h]
  ·simp[h]) (fun id h=>by
  rw[aCZ,aNZ] at h;rw[hk2];simp only[ZAl] at h⊢;rcases h with h|h|h
  ·exact .inl (.inl h)
  ·exact .inl (.inr h)
  ·exact .inr (.inl h))
 refine⟨z3,r1,r4,r5,fun a v hna ha=> ?_⟩;exact(ha.ren (z':=z2) rfl rfl (.on hon hna) fun id k _ hk=>hρ2 id k (dgZ hk)).less r1 r3 fun g h=>by rw[<-r2];exact h
theorem l9Z{fs:List Nat}{l:List AV}(h:AV.famInTL fs l=true):(tupA l).famInT fs=true:=by
 match l with
 |[]=>rfl
 |[a]=>
  simp only[AV.famInTL,ZAD] at h;exact h.1
 |a::b::l=>exact h
theorem c2Z(id:Nat):hgetX [] id=none:=by
 unfold hgetX;split
 ·rfl
 ·split<;>rfl
theorem jvZ{H:Hp}{l:List Nat}(h:liveAll H l=true):∀id∈l,hkey H id=true:=fun id hid=>by
 obtain⟨e,he⟩:=d9Z h id hid;exact ahZ he
theorem mQZ{e:FnT}{an:Ann}{args:List AV}{vals:List Value}{K:AV->Hp->Option β}{res:β}(hT:Told P e)(h:evCall P e args an H K=some res)(hH:HRep z H)(hd:∀id,rt id∈an.ids->¬z.D id)
 (hmd:∀m∈an.md,m<4\/¬z.D (m+100000))(ha:AReps z args vals):
 Does P e.f vals.toArray z.w fun en w'=>∃v x H' z',en= .returned v/\z'.w=w'/\HRep z' H'/\Nx z z'/\ARep z' x v/\K x H'=some res:=by
 have hb0:=d4Z;unfold evCall at h;rw[cIZ] at h;obtain⟨⟨as',H1⟩,h1,h2⟩:=afZ.1 h;obtain⟨h3,h4⟩:=aeZ.1 h2;simp only[ZAD,jTZ,ZAu] at h3;obtain⟨⟨⟨⟨⟨f1,f2⟩,f3⟩,f4⟩,f5,f6⟩,f7,f8⟩:=h3;obtain⟨z1,Mf,q1,q2,q3,q4,q5,q6⟩:=hFZ hH hmd h1 ha;have hno:∀o∈e.os,allFamIn (famNs (hkKeys o.hs)) o.tys=true:=fun o ho=>(ZBk.1 f6) o ho;simp only at h4;by_cases hm:memN 2 an.md=true
 ·rw[hm] at f4;simp only[ZAJ,Bool.false_or,ZAD,adZ,ZBk] at f4;obtain⟨⟨g1,g2⟩,g3⟩:=f4;have e1:an.sh=[]:=ZAR g2;have e2:an.ids=[]:=ZAR g3;rw[e1,e2] at h4;rw[e1] at f3
  let z1e:Z:={z1 with M:=Mf,C:=fun _=>False,D:=fun _=>True}
  have hHe:HRep z1e []:=⟨fun id e h=>(by rw[c2Z] at h;cases h),fun i i' e e' g sz n g' sz' n' _ h=>(by rw[c2Z] at h;cases h),fun id _=>.inr trivial,fun g h=>h.elim,fun i x h=>by simp[hget] at h,fun i h=>by simp[hkey] at h,fun i _ h=>by simp[hkey] at h,q2.nos⟩;obtain⟨t,zc0,k1,k2',k3',k4',k5',k6',k7,k8',k9',k10',k11,k12,k13,k14⟩:=Shp.rco_ok (H:=[]) (ps:=[]) (z:=z1e) (fun _=>.no) (fun _ _ _=>rfl) h4 hHe (q5.less rfl rfl fun g h=>h);obtain⟨zc,x1,x2,k4,k5,x3,x4,x5,x6⟩:=jYZ f5 k4' k5' k13 k14;have k2:=x1.trans k2';have k3:=x2.trans k3';have k8:∀g,zc.C g->_:=fun g h=>k8' g (by rw[<-x4];exact h);have hDc:∀id,¬zc.D id:=fun id h=>by
   obtain⟨y1,y2⟩:=x5 id h;rw[k10'] at y1;rcases y1.2 with h|h
   ·rcases y2 with y2|y2
    ·omega
    ·have:=agZ.2 y2;rw[this] at y1;cases y1.1
   ·exact h rfl
  obtain⟨r,r1,r2⟩:=ZAH.1 k1;have hw:zc.w=z.w:=k2.trans q1;have hcall:=hT.spec t r r1 zc vals k4 k5 hDc;rw[hw] at hcall;refine hcall.mono ?_;rintro en w' ⟨v,zd,rfl,rfl,hn,hDd,ho⟩;obtain⟨o,y,m1,m2,m3,m4⟩:=OutS.on_both r2 ho;rw[Shp.embC_eq] at m2;obtain⟨p1,p2⟩:=aeZ.1 m2;have hCf:∀g,¬zc.C g:=fun g h=>k8 g h
  let z3:Z:={z1 with w:=zd.w}
  have hN:Nx z1 z3:=by
   refine⟨hn.os.trans (by rw[k2]),⟨hn.tape.1.trans (by rw[k2]),by have:=hn.tape.2;rw[k2] at this;exact this⟩,hn.output.trans (by rw[k2]),by have:=hn.size;rw[k2] at this;exact this,fun b hb _=> ?_,fun g h=>.inl h,fun g h=>.inl h,fun _ _ h _=>h,fun _ _=>rfl,rfl⟩;have:=hn.block b (by rw[k2];exact hb) (hCf b);rw[k2] at this;exact this
  have hH3:HRep z3 H1:=by
   refine⟨fun id e he=>(q2.ent id e he).kp (hN.kp q2.sub) fun g sz n hr=>⟨?_,fun h=>h⟩,fun i i' e e' g sz n g' sz' n' hii h1 h2 f1 f2 h3 h4=>q2.inj i i' e e' g sz n g' sz' n' hii h1 h2 f1 f2 h3 h4,fun id hid=>q2.fresh id hid,fun g hg=>q2.sub g hg,q2.fam,q2.key,q2.dyn,q2.nos⟩;have:=hn.block g (by rw[k2];exact(q2.realX he hr).1) (hCf g);rw[k2] at this;exact this
  obtain⟨vs,b1,b2⟩:=nGZ m4;have hsc:=g1 o m1;have hren:AReps z3 (AV.renL (noOf []) (o.emb y).1) vs:=cyZ (z:=zd) (fun id=>rfl) o.ks hsc b1;refine⟨v,_,_,z3,rfl,rfl,hH3,q3.trans hN,?_,p2⟩;show ARep z3 (AV.ren (noOf []) (tupA (o.emb y).1)) v;rw[ohZ];exact b2 hren (chZ _ _)
 ·have hM:=q6 (by simpa using hm);subst hM;have hlive:liveAll H1 (fstN (zipN an.sh (shKeys 0 an.sh)))=true:=by
   unfold Shp.rco at h4;have:=(aeZ.1 h4).1;simp only[ZAD] at this;exact this.2
  rw[cLZ (by rw[aMZ])] at hlive;obtain⟨t,zc0,k1,k2',k3',k4',k5',k6',k7,k8',k9',k10',k11,k12,k13,k14⟩:=Shp.rco_ok (fun _=>.no) (fun _ _ _=>rfl) h4 q2 q5;obtain⟨zc,x1,x2,k4,k5,x3,x4,x5,x6⟩:=jYZ f5 k4' k5' k13 k14;have k2:=x1.trans k2';have k3:=x2.trans k3';have k8:∀g,zc.C g->_:=fun g h=>k8' g (by rw[<-x4];exact h);have k9:∀g,zc.C g->_:=fun g h=>k9' g (by rw[<-x4];exact h);have hDc:∀id,¬zc.D id:=fun id h=>by
   obtain⟨y1,y2⟩:=x5 id h;rw[k10'] at y1;rcases y1.2 with h|h
   ·rcases y2 with y2|y2
    ·omega
    ·have:=agZ.2 y2;rw[this] at y1;cases y1.1
   ·exact h rfl
  obtain⟨r,r1,r2⟩:=ZAH.1 k1;have hw:zc.w=z.w:=k2.trans q1;have hcall:=hT.spec t r r1 zc vals k4 k5 hDc;rw[hw] at hcall;refine hcall.mono ?_;rintro en w' ⟨v,zd,rfl,rfl,hn,hDd,ho⟩;obtain⟨o,y,m1,m2,m3,m4⟩:=OutS.on_both r2 ho;rw[Shp.embC_eq] at m2;obtain⟨p1,p2⟩:=aeZ.1 m2;simp only[ZAD] at p1;have hkm:∀id,id∈hkKeys e.i.hs->id<dynBase:=fun id h=>k13 id (agZ.2 h);have hshn:∀(m:Nat) k id,(shKeys 0 an.sh)[m]? =some k->an.sh[m]? =some id->zc.ρ k=z1.ρ id/\(id<famBase->zc.ρ k≠.no):=fun m k id hk1 hk2=>by
   have hmem:k∈hkKeys e.i.hs:=by rw[f3];exact ZAQ hk1
   have hkd:=hkm k hmem;obtain⟨id',a1,a2⟩:=k6' k (agZ.2 hmem);have hnd:(sndN (zipN an.sh (shKeys 0 an.sh))).Nodup:=by
    unfold Shp.rco at h4;have:=(aeZ.1 h4).1;simp only[ZAD] at this;exact cvZ.1 this.1.2.1
   have hid:id'=id:=by
    have e1:=e8Z hnd a1;have e2:=e8Z hnd (jAZ hk2 hk1);rw[e1] at e2;exact ZAj e2
   subst hid;have hρ:zc.ρ k=z1.ρ id':=(x3 k (.inl hkd)).trans a2;refine⟨hρ,fun hlow hno=> ?_⟩;obtain⟨ee,he⟩:=(bZZ e.i.hs (embL e.i.ks (hkLv e.i.hs []) (untidy e.i.tys t)).2 k).2.1 (agZ.2 hmem);have hkf:k<famBase:=by
    rcases bTZ hk1 hk2 with⟨h,_⟩|⟨_,_,h⟩
    ·omega
    ·omega
   have hee:=k4.ent k ee (by rw[aoZ hkf];exact he);unfold ERep at hee;rw[hno] at hee;exact hee
  have hshd:∀id,dynBase<=id->rt id∈an.sh->zc.ρ id=z1.ρ id:=fun id hdy hmem=>by
   have h1:=(bLZ hdy).1;have hmk:rt id∈hkKeys e.i.hs:=by
    rw[f3];obtain⟨m,hm⟩:=ZAY hmem;obtain⟨k,hk⟩:=lwZ (n:=0) hm;rcases bTZ hk hm with⟨_,rfl⟩|⟨h,_⟩
    ·exact ZAQ hk
    ·omega
   rw[x3 id (.inr hmk),k7 id,ZAO hdy];cases hc:memN id (hkKeys e.i.hs)
   ·rfl
   ·have:=hkm id (agZ.1 hc);omega
  have hokeys:∀k∈hkKeys o.hs,k∈shKeys 0 (an.sh++an.ids):=fun k hk=>by
   have:=(bUZ.1 p1.2) k (dLZ.1 (by rw[show hkey (o.emb y).2 k=memN k (hkKeys o.hs) from(bZZ o.hs (embL o.ks (hkLv o.hs []) (untidy o.tys y)).2 k).1];exact agZ.2 hk));rwa [cLZ (by rw[aMZ])] at this
  obtain⟨z3,c1,c2,c3,c4⟩:=qlZ (sh:=an.sh) (ids:=an.ids) (fs:=famNs (hkKeys o.hs)) q2 (eKZ f1) (jvZ hlive) (fun id hid=>b7Z f7 hid) (fun id hid=>by rw[q3.dom];exact hd id hid) (cvZ.1 p1.1.1) f8 k2 k3
   (fun g hg=>by
    obtain⟨id,ee,sz,n,a1,a2,a3,a4⟩:=k9 g hg;rw[cLZ (by rw[aMZ])] at a1;exact⟨id,ee,sz,n,a1,a2,a3,a4⟩) hshn hshd (fun k hk=>by
    have:=hDd k hk;rw[f3] at this;exact⟨hkm k (by rw[f3];exact this),this⟩) hn m3
   (fun k hk=>by
    have hg:=bZZ o.hs (embL o.ks (hkLv o.hs []) (untidy o.tys y)).2 k;exact hg.2.1 (by rw[<-hg.1];exact hk)) (fun k ee he=>ioZ (hno o m1) m3 he) (fun f hf=>by
    have hod:∀i∈hkKeys o.hs,i<dynBase:=fun i hi=>m3.key i (by rw[show hkey (o.emb y).2 i=memN i (hkKeys o.hs) from(bZZ o.hs (embL o.ks (hkLv o.hs []) (untidy o.tys y)).2 i).1];exact agZ.2 hi);have hmk:=hokeys _ ((dPZ hod (ZB8 f (by omega))).1 hf);obtain⟨m,hm1⟩:=ZAY hmk;have hlt:m<(an.sh++an.ids).length:=by have:=(ZAB.1 hm1).1;rwa [aMZ] at this
    rcases bTZ hm1 (ZAE hlt) with⟨_,h⟩|⟨_,_,h⟩
    ·show famBase+f%16∈_;rw[h];exact List.getElem_mem hlt
    ·rw[ZAi] at h;omega) p1.2
  exact⟨v,_,_,z3,rfl,c1,c2,q3.trans c3,c4 _ _ (l9Z (blZ o.ks (r:=hkLv o.hs []) _ (hno o m1))) m4,p2⟩
end
end Go.Ab
namespace Go.Ab
theorem Tr.get_put:∀(t:Tr) (k:Nat) (a:AV) (k':Nat),(k'≠k->(t.put k a).get k'=t.get k')/\((t.put k a).get k=a\/(t.put k a).get k= .junk)
 |.lf,k,a,k'=>⟨fun _=>rfl,.inr rfl⟩
 |.nd l v r,k,a,k'=>by
  by_cases h0:k=0
  ·subst h0;simp only[Tr.put,(adZ 0 0).2 rfl,ZAF,Tr.get];refine⟨fun h=> ?_,.inl trivial⟩;rw[aiZ h]
   rfl
  ·have e0:Nat.beq k 0=false:=aiZ h0;by_cases h1:k%2=1
   ·have e1:Nat.beq (k%2) 1=true:=(adZ _ _).2 h1;simp only[Tr.put,e0,e1,ZAF,ZAC,Tr.get];obtain⟨q1,q2⟩:=Tr.get_put l (k/2) a (k'/2);refine⟨fun h=> ?_,q2⟩;by_cases g0:k'=0
    ·subst g0;simp[Nat.beq]
    ·rw[aiZ g0,ZAC,ZAC];by_cases g1:k'%2=1
     ·rw[(adZ _ _).2 g1,ZAF,ZAF];exact q1 (by omega)
     ·rw[aiZ g1,ZAC,ZAC]
   ·have e1:Nat.beq (k%2) 1=false:=aiZ h1;simp only[Tr.put,e0,e1,ZAC,Tr.get];obtain⟨q1,q2⟩:=Tr.get_put r (k/2-1) a (k'/2-1);refine⟨fun h=> ?_,q2⟩;by_cases g0:k'=0
    ·subst g0;simp[Nat.beq]
    ·rw[aiZ g0,ZAC,ZAC];by_cases g1:k'%2=1
     ·rw[(adZ _ _).2 g1,ZAF,ZAF]
     ·rw[aiZ g1,ZAC,ZAC];exact q1 (by omega)
section
variable {P : Program} {T : Tbl} {z : Z} {H : Hp} {β : Type} {all : List Oper} {ops : Array Oper}
def Le(a b:AV):Prop:=∀(z:Z) v,ARep z a v->ARep z b v
theorem Le.refl(a:AV):Le a a:=fun _ _ h=>h
theorem Le.trans{a b c:AV}(h:Le a b)(k:Le b c):Le a c:=fun z v x=>k z v (h z v x)
theorem Le.junk(a:AV):Le a .junk:=fun _ v _=>.junk v
theorem Le.bool{a:AV}{t:Bool}(h:a.bool? =some t):Le a (.b t):=fun z v hv=>by
 rw[bFZ h hv];exact .mkB t
theorem o6Z(v:Value):ARep z (AV.lit v) v:=by
 cases v<;>first|exact .mkI _ _|exact .mkB _|exact .junk _|exact .p _ _ _ ⟨_,⟨rfl,rfl⟩,rfl⟩|skip;rename_i s;exact .mkS s.data.toList
theorem f7Z:∀{l:List Value},oneCells l=true->∀v∈l,v.oneCell'=true
 |[],_,v,h=>by cases h
 |u::l,h,v,hv=>by
  have h':u.oneCell'=true/\oneCells l=true:=by
   cases u<;>first|exact⟨rfl,h⟩|cases h
  rcases ZAU.1 hv with rfl|hv
  ·exact h'.1
  ·exact f7Z h'.2 v hv
theorem feZ{st:St}{a:Act}(h:∀t,ARep z (st.tm.get t) (a.eval (.tmp t)))(x:Operand):ARep z (st.opnd x) (a.eval x):=by
 cases x with
 |tmp t=>exact h t
 |const v=>
  by_cases hv:∃cs,v= .agg cs
  ·obtain⟨cs,rfl⟩:=hv;simp only[St.opnd];cases ho:oneCells cs.toList
   ·exact .junk _
   ·have h1:=f7Z ho;refine .agg _ _ (by simp) (fun v hv=>h1 v (ZBF.2 hv)) fun i x v e1 e2=> ?_;have e2:cs[i]? =some v:=e2;rw[ZAa] at e1;obtain⟨y,e3,rfl⟩:=ZAI.1 e1;have:y=v:=by rw[<-Array.getElem?_toList,e3] at e2;exact ZAj e2
    subst this;exact paZ y (.inl (h1 y (ZAQ e3)))
  ·have:st.opnd (.const v)= .lit v:=by
    cases v<;>first|rfl|exact absurd ⟨_,rfl⟩ hv
   rw[this];exact o6Z v
 |global g=>exact .junk _
 |func f=>exact .fn f [] [] #[] #[] rfl rfl (fun i x v h=>by simp at h) (fun i x v h=>by simp at h)
theorem pUZ{a:AV}{x:FuncId×List AV×List AV}{v:Value}(h:a.fnv? =some x)(ha:ARep z a v):∃va vc,v= .func (.func x.1) va vc/\AReps z x.2.1 va.toList/\AReps z x.2.2 vc.toList:=by
 unfold AV.fnv? at h;split at h
 ·rename_i f l c;simp only[ZAG] at h;subst h;cases ha with|fn _ _ _ va vc h1 h2 h3 h4=>
  exact⟨va,vc,rfl,⟨by simp[h1],fun i x v p1 p2=>h3 i x v p1 (by simpa using p2)⟩,⟨by simp[h2],fun i x v p1 p2=>h4 i x v p1 (by simpa using p2)⟩⟩
 ·rename_i f l c;cases hb:(Nat.beq l.size 0&&Nat.beq c.size 0)<;>rw[hb] at h<;>simp only[bq_true,bq_false] at h
  ·cases h
  simp only[ZAD,adZ] at hb;simp only[ZAG] at h;subst h;obtain rfl:=ha.v.opq.1;exact⟨l,c,rfl,⟨by simp[hb.1],fun i a v h=>by simp at h⟩,⟨by simp[hb.2],fun i a v h=>by simp at h⟩⟩
 ·cases h
theorem khZ{f:FuncId}:∀{T:Tbl} {e:FnT},findF f T=some e->e∈T/\e.f=f
 |[],e,h=>by cases h
 |x::T,e,h=>by
  unfold findF at h;cases hb:Nat.beq x.f f<;>rw[hb] at h
  ·obtain⟨h1,h2⟩:=khZ h;exact⟨ZAc _ h1,h2⟩
  ·simp only[bq_true,ZAG] at h;subst h;exact⟨ZAk,(adZ _ _).1 hb⟩
theorem owZ{T:Tbl}{n:Nat}{f:FuncId}{e:FnT}(h:tblAt T n f=some e):e∈T/\e.f=f:=by
 unfold tblAt at h;split at h
 ·rename_i x hx;cases hb:Nat.beq x.f f<;>rw[hb] at h
  ·exact khZ h
  ·simp only[bq_true,ZAG] at h;subst h;exact⟨ZAQ hx,(adZ _ _).1 hb⟩
 ·cases h
theorem ptZ{o:Oper}{an:Ann}{r:Operand->AV}{a:Act}{K:AV->Hp->Option β}{res:β}{next:Act->World->Prop}{Q:Exit->Act->World->Prop}(hT:∀e∈T,Told P e)
 (h:evW P T o an r H K=some res)(hH:HRep z H)(hids:∀id,rt id∈an.ids->¬z.D id)(hmk:mkOp P o=true->¬z.D (an.ids.headD 0))(hmd:∀m∈an.md,m<4\/¬z.D (m+100000))(hr:∀x,ARep z (r x) (a.eval x))
 (hk:∀x v H' z',HRep z' H'->Nx z z'->ARep z' x v->K x H'=some res->next (a.put o.dst v) z'.w):o.wp P a z.w next Q:=by
 unfold Oper.wp;cases hc:isCall o
 ·obtain⟨x,H',z',nx,h1,h2,h3,h4,h5⟩:=q6Z h hH hmk hr hc;rw[h1];rcases h4 with⟨v,rfl,hv⟩|⟨rfl,rfl⟩
  ·exact hk x v H' z' h2 h3 hv h5
  ·exact hk .junk undef H' z' h2 h3 (.junk _) h5
 ·unfold isCall at hc;split at hc
  ·rename_i c ho;split at hc
   ·rename_i f hcb;unfold evW at h;simp only[ho,hcb] at h;obtain⟨x,h1,h2⟩:=afZ.1 h;obtain⟨va,vc,hv,q1,q2⟩:=pUZ h1 (hr f);split at h2
    ·rename_i e he;obtain⟨he',hb⟩:=owZ he;have hte:=hT e he';have hcall:=mQZ (vals:=va.toList++c.args.toList.map a.eval++vc.toList) hte h2 hH hids hmd (.append (.append q1 (.map hr)) q2);have harr:va++c.args.map a.eval++vc=(va.toList++c.args.toList.map a.eval++vc.toList).toArray:=by
      apply ZBX;simp
     rcases hcall with⟨⟨fn,cd,e1,e2,e3⟩,hcall⟩|⟨v,w',hrun,v',x',H',z',hv',rfl,p1,p2,p3,p4⟩
     rotate_left
     ·have hexec:(execOp a.eval o).run P z.w= .ok (.value v) z'.w:=by
       unfold execOp;simp only[ho,resolve,hcb,hv,Deferred.ofValue,Sem.run_bind,Sem.run_pure,Result.andThen_ok,invoke];rw[<-hb,harr];exact hrun
      rw[hexec];injection hv' with hv';subst hv';exact hk x' v H' z' p1 p2 p3 p4
     have hexec:(execOp a.eval o).run P z.w= .ok (.enter e.f (va.toList++c.args.toList.map a.eval++vc.toList).toArray) z.w:=by
      have hbd:fn.body.isNone=false:=by rw[e2];rfl
      have harr:va++c.args.map a.eval++vc=(va.toList++c.args.toList.map a.eval++vc.toList).toArray:=by
       apply ZBX;simp
      unfold execOp;simp only[ho,resolve,hcb,hv,Deferred.ofValue,Sem.run_bind,Sem.run_pure,Result.andThen_ok,invoke,callFunc,run_program];rw[<-hb] at*;simp only[e1,e3,hbd,harr]
      rfl
     rw[hexec];show Calls P e.f _ z.w _;refine hcall.mono ?_;rintro en w' ⟨v,x',H',z',rfl,rfl,p1,p2,p3,p4⟩;exact hk x' v H' z' p1 p2 p3 p4
    ·cases h2
   ·cases hc
  ·cases hc
theorem pdZ{o:Oper}{r:Operand->AV}{a:Act}{K:AV->Option β}{res:β}{next:Act->World->Prop}{Q:Exit->Act->World->Prop}(h:evR P o r H K=some res)(hH:HRep z H)(hr:∀x,ARep z (r x) (a.eval x))
 (hk:∀x v,ARep z x v->K x=some res->next (a.put o.dst v) z.w):o.wp P a z.w next Q:=by
 unfold Oper.wp;obtain⟨x,v,h1,h2,h3⟩:=q1Z h hH hr;rw[h1];exact hk x v h2 h3
def Inv(z0:Z)(N:Nat)(L:List (Nat×AV))(st:St)(a:Act)(w:World):Prop:=
 ∃z,z.w=w/\Nx z0 z/\(∀id,¬z.D id)/\HRep z st.hp/\(∀t,ARep z (st.tm.get t) (a.eval (.tmp t)))/\(∀p∈L,ARep z p.2 (a.eval (.tmp p.1)))/\a.defers=[]/\(st.nt<=N/\a.tmps.size=N)/\∀id,id<dynBase->z0.ρ id≠.no->id<st.n0
theorem dMZ{a:Act}{d:Nat}{v:Value}(h:d<a.tmps.size):(a.put (some d) v).eval (.tmp d)=v:=by
 simp[Act.eval,Act.put,h]
theorem cAZ{a:Act}{o:Option Tmp}{t:Nat}{v:Value}(h:o≠some t):(a.put o v).eval (.tmp t)=a.eval (.tmp t):=by
 cases o with
 |none=>rfl
 |some d=>
  have:d≠t:=fun e=>h (by rw[e]);simp[Act.eval,Act.put,Array.getElem?_setIfInBounds_ne this]
theorem put_ok{tm:Tr}{nt:Nat}{a:Act}{o:Option Tmp}{x:AV}{v:Value}(h:∀t,ARep z (tm.get t) (a.eval (.tmp t)))(hd:dstOk nt o=true)(hn:nt<=a.tmps.size)(hx:ARep z x v):
 ∀t,ARep z ((St.putO ⟨tm,nt,0,[]⟩ o x).tm.get t) ((a.put o v).eval (.tmp t)):=by
 intro t;cases o with
 |none=>exact h t
 |some d=>
  simp only[dstOk,ZBq] at hd;simp only[St.putO];by_cases ht:t=d
  ·subst ht;rw[dMZ (by omega)];rcases(Tr.get_put tm t x t).2 with e|e<;>rw[e]
   ·exact hx
   ·exact .junk _
  ·rw[(Tr.get_put tm d x t).1 ht,cAZ (by simpa using ZBj ht)];exact h t
theorem cFZ(st:St)(o:Option Nat)(x:AV):(st.putO o x).tm=(St.putO ⟨st.tm,st.nt,0,[]⟩ o x).tm/\(st.putO o x).nt=st.nt/\(st.putO o x).n0=st.n0/\(st.putO o x).hp=st.hp:=by
 cases o<;>exact⟨rfl,rfl,rfl,rfl⟩
theorem eZZ(a:Act)(o:Option Tmp)(v:Value):(a.put o v).tmps.size=a.tmps.size/\(a.put o v).defers=a.defers:=by
 cases o<;>simp[Act.put]
theorem Inv.put{z0 z':Z}{N:Nat}{L:List (Nat×AV)}{st:St}{a:Act}{o:Option Tmp}{x:AV}{v:Value}{H':Hp}(hn:Nx z0 z')(hD:∀id,¬z'.D id)(hH:HRep z' H')(hs:∀t,ARep z' (st.tm.get t) (a.eval (.tmp t)))
 (hL:∀p∈L,ARep z' p.2 (a.eval (.tmp p.1)))(hLd:∀p∈L,o≠some p.1)(hdf:a.defers=[])(hnt:st.nt<=N/\a.tmps.size=N)(h0:∀id,id<dynBase->z0.ρ id≠.no->id<st.n0)(hd:dstOk st.nt o=true)(hx:ARep z' x v):
 Inv z0 N L {st.putO o x with hp:=H'} (a.put o v) z'.w:=by
 obtain⟨e1,e2,e3,e4⟩:=cFZ st o x;refine⟨z',rfl,hn,hD,hH,?_,fun p hp=> ?_,(eZZ a o v).2.trans hdf,⟨by show(st.putO o x).nt<=N;rw[e2];exact hnt.1,by rw[(eZZ a o v).1];exact hnt.2⟩,fun id hdy hid=>by show id<(st.putO o x).n0;rw[e3];exact h0 id hdy hid⟩
 ·show∀t,ARep z' ((st.putO o x).tm.get t) _;rw[e1];exact put_ok hs hd (by rw[hnt.2];exact hnt.1) hx
 ·rw[cAZ (hLd p hp)];exact hL p hp
theorem qSZ{o:Oper}{an:Ann}{z0:Z}{N:Nat}{L:List (Nat×AV)}{st:St}{a:Act}{w:World}{K:St->Option β}{res:β}{next:Act->World->Prop}{Q:Exit->Act->World->Prop}(hT:∀e∈T,Told P e)
 (h:ev1 P T o an st K=some res)(hd:dstOk st.nt o.dst=true)(hi:Inv z0 N L st a w)(hL:∀p∈L,o.dst≠some p.1)(hk:∀st' a' w',K st'=some res->Inv z0 N L st' a' w'->next a' w'):o.wp P a w next Q:=by
 obtain⟨z,rfl,hn,hD,hH,hs,hLs,hdf,hnt,h0⟩:=hi;unfold ev1 at h;cases hR:isR P o<;>rw[hR] at h<;>simp only[bq_true,bq_false] at h
 ·refine ptZ hT h hH (fun id _=>hD id) (fun _=>hD _) (fun _ _=>.inr (hD _)) (feZ hs) fun x v H' z' h1 h2 h3 h4=> ?_;have kp:=h2.kp hH.sub;exact hk _ _ _ h4 (.put (hn.trans h2) (fun id=>by rw[h2.dom];exact hD id) h1 (fun t=>(hs t).kp kp) (fun p hp=>(hLs p hp).kp kp) hL hdf hnt h0 hd h3)
 ·refine pdZ h hH (feZ hs) fun x v h1 h2=> ?_;have:=Inv.put (st:=st) (H':=st.hp) hn hD hH hs hLs hL hdf hnt h0 hd h1;refine hk _ _ _ h2 ?_;have e:({st.putO o.dst x with hp:=st.hp}:St)=st.putO o.dst x:=by cases o.dst<;>rfl
  rwa [e] at this
def GuardIs(all:List Oper)(o:Oper)(get:Nat->AV)(b:Bool):Prop:=
 (o.guard=none/\b=true)\/∃j want d,o.guard=some (j,want)/\(all[j]?).bind (·.dst)=some d/\((get d= .tup []/\b=false)\/∃t,(get d).bool? =some t/\b=(t==want))
theorem GuardIs.wanted{o:Oper}{get:Nat->AV}{b:Bool}{a:Act}(h:GuardIs ops.toList o get b)(hs:∀j want d,o.guard=some (j,want)->(ops.toList[j]?).bind (·.dst)=some d->ARep z (get d) (a.eval (.tmp d))):
 Region.wanted o (yielded ops a.tmps)=b:=by
 rcases h with⟨h1,rfl⟩|⟨j,want,d,h1,h2,h3⟩
 ·simp[Region.wanted,h1]
 ·have hd:=hs j want d h1 h2;have e:(ops[j]?).bind (·.dst)=some d:=by rw[<-Array.getElem?_toList];exact h2
  simp only[Region.wanted,h1,yielded,e,ZAA];simp only[Act.eval] at hd;rcases h3 with⟨h3,rfl⟩|⟨t,h3,rfl⟩
  ·rw[h3] at hd;cases hv:a.tmps[d]? with
   |none=>rfl
   |some v=>
    have e2:a.tmps.getD d undef=v:=by simp[hv]
    rw[e2] at hd;cases hd
    rfl
  ·have hb:=bFZ h3 hd;cases hv:a.tmps[d]? with
   |none=>
    have e2:a.tmps.getD d undef=undef:=by simp[hv]
    rw[e2] at hb;cases hb
   |some v=>
    have e2:a.tmps.getD d undef=v:=by simp[hv]
    rw[e2] at hb;subst hb;cases t<;>cases want<;>rfl
theorem phZ{o:Oper}{st:St}{go skip:St->Option β}{res:β}(h:evG all o st go skip=some res):
 dstOk st.nt o.dst=true/\∃st1 b,st1.hp=st.hp/\st1.nt=st.nt/\st1.n0=st.n0/\(∀t,Le (st.tm.get t) (st1.tm.get t))/\GuardIs all o st.tm.get b/\((b=true/\go st1=some res)\/(b=false/\skip (st1.skip o)=some res)):=by
 unfold evG at h;cases hd:dstOk st.nt o.dst<;>rw[hd] at h<;>simp only[bq_true,bq_false] at h
 ·cases h
 refine⟨rfl,?_⟩;split at h
 ·rename_i hg;exact⟨st,true,rfl,rfl,rfl,fun _=>.refl _,.inl ⟨hg,rfl⟩,.inl ⟨rfl,h⟩⟩
 ·rename_i j want hg;obtain⟨d,h1,h2⟩:=afZ.1 h;obtain⟨oj,h3,h4⟩:=afZ.1 h1;have hj:(all[j]?).bind (·.dst)=some d:=by rw[h3];exact h4
  split at h2
  ·rename_i ht;exact⟨st,false,rfl,rfl,rfl,fun _=>.refl _,.inr ⟨j,want,d,hg,hj,.inl ⟨ht,rfl⟩⟩,.inr ⟨rfl,h2⟩⟩
  ·rename_i ht;obtain⟨t,h5,h6⟩:=afZ.1 h2;have hle:∀k,Le (st.tm.get k) ((st.tm.put d (.b t)).get k):=fun k=>by
    by_cases hk:k=d
    ·subst hk;rcases(Tr.get_put st.tm k (.b t) k).2 with e|e<;>rw[e]
     ·exact .bool h5
     ·exact .junk _
    ·rw[(Tr.get_put st.tm d (.b t) k).1 hk];exact .refl _
   refine⟨{st with tm:=st.tm.put d (.b t)},t==want,rfl,rfl,rfl,hle,.inr ⟨j,want,d,hg,hj,.inr ⟨t,h5,rfl⟩⟩,?_⟩;cases t<;>cases want<;>simp only[bq_true,bq_false] at h6
   ·exact .inl ⟨rfl,h6⟩
   ·exact .inr ⟨rfl,h6⟩
   ·exact .inr ⟨rfl,h6⟩
   ·exact .inl ⟨rfl,h6⟩
theorem kGZ:ARep z (.tup []) undef:=.tup [] #[] rfl fun i x v h=>by simp at h
theorem Inv.le{z0:Z}{N:Nat}{L:List (Nat×AV)}{st st1:St}{a:Act}{w:World}(hi:Inv z0 N L st a w)(h1:st1.hp=st.hp)(h2:st1.nt=st.nt)(h3:st1.n0=st.n0)(h4:∀t,Le (st.tm.get t) (st1.tm.get t)):Inv z0 N L st1 a w:=by
 obtain⟨z,rfl,hn,hD,hH,hs,hLs,hdf,hnt,h0⟩:=hi;exact⟨z,rfl,hn,hD,by rw[h1];exact hH,fun t=>h4 t _ _ (hs t),hLs,hdf,by rw[h2];exact hnt,by rw[h3];exact h0⟩
theorem Inv.skip{z0:Z}{N:Nat}{L:List (Nat×AV)}{st:St}{a:Act}{w:World}{o:Oper}(hi:Inv z0 N L st a w)(hd:dstOk st.nt o.dst=true)(hL:∀p∈L,o.dst≠some p.1):Inv z0 N L (st.skip o) (a.put o.dst undef) w:=by
 obtain⟨z,rfl,hn,hD,hH,hs,hLs,hdf,hnt,h0⟩:=hi;have:=Inv.put (st:=st) (H':=st.hp) hn hD hH hs hLs hL hdf hnt h0 hd (kGZ (z:=z));have e:({st.putO o.dst (.tup []) with hp:=st.hp}:St)=st.skip o:=by unfold St.skip;cases o.dst<;>rfl
 rwa [e] at this
theorem fUZ{z0:Z}{N:Nat}{L:List (Nat×AV)}{K:St->Option β}{res:β}{Q:Exit->Act->World->Prop}(hT:∀e∈T,Told P e){tail:List Nat}(hk:∀st' a' w',K st'=some res->Inv z0 N L st' a' w'->wpOps P ops Q tail a' w'):
 ∀(l:List (Oper×Ann)) (k:Nat),(∀(i:Nat) x,l[i]? =some x->ops[k+i]? =some x.1)->(∀x∈l,∀p∈L,x.1.dst≠some p.1)->∀(st:St) (a:Act) (w:World),evOps P T l ops.toList st K=some res->Inv z0 N L st a w->
  wpOps P ops Q (List.range' k l.length++tail) a w
 |[],k,_,_,st,a,w,h,hi=>hk st a w h hi
 |(o,an)::l,k,hl,hL,st,a,w,h,hi=>by
  simp only[evOps] at h;obtain⟨hd,st1,b,e1,e2,e3,e4,hg,hb⟩:=phZ h;have ho:ops[k]? =some o:=by have:=hl 0 (o,an) rfl;simpa using this
  have hrest:∀(i:Nat) x,l[i]? =some x->ops[k+1+i]? =some x.1:=fun i x hx=>by
   have:=hl (i+1) x hx;rwa [show k+(i+1)=k+1+i by omega] at this
  have hLo:∀p∈L,o.dst≠some p.1:=hL (o,an) (by simp);have hw:Region.wanted o (yielded ops a.tmps)=b:=by
   obtain⟨z,_,_,_,_,hs,_⟩:=hi;exact hg.wanted fun j want d _ _=>hs d
  have hi1:Inv z0 N L st1 a w:=hi.le e1 e2 e3 e4;simp only[ZBi,List.range'_succ,List.cons_append,wpOps,ho,hw];rcases hb with⟨rfl,hgo⟩|⟨rfl,hsk⟩
  ·simp only[if_true];refine .inl (qSZ hT hgo (by rw[e2];exact hd) hi1 hLo fun st' a' w' h' hi'=> ?_);exact fUZ hT hk l (k+1) hrest (fun x hx=>hL x (by simp[hx])) st' a' w' h' hi'
  ·simp only[ZBD,ZB7];exact fUZ hT hk l (k+1) hrest (fun x hx=>hL x (by simp[hx])) _ _ w hsk (hi1.skip (by rw[e2];exact hd) hLo)
theorem ocZ{z0:Z}{N:Nat}{L:List (Nat×AV)}{K:St->Option β}{res:β}{Q:Exit->Act->World->Prop}(hT:∀e∈T,Told P e)(hk:∀st' a' w',K st'=some res->Inv z0 N L st' a' w'->Q .normal a' w')
 (l:List (Oper×Ann))(k:Nat)(h1:∀(i:Nat) x,l[i]? =some x->ops[k+i]? =some x.1)(h2:∀x∈l,∀p∈L,x.1.dst≠some p.1)(st:St)(a:Act)(w:World)(h:evOps P T l ops.toList st K=some res)(hi:Inv z0 N L st a w):
  wpOps P ops Q (List.range' k l.length) a w:=by
 have:=fUZ (tail:=[]) hT hk l k h1 h2 st a w h hi;rwa [ZA2] at this
end
end Go.Ab
namespace Go.Ab
section
variable {P : Program} {T : Tbl} {z : Z} {H : Hp} {β : Type} {all : List Oper} {ops : Array Oper}
theorem bIZ{α β:Type}{f g:α->β}{l:List α}(h:∀x∈l,f x=g x):l.map f=l.map g:=List.map_congr_left h
theorem mrZ{o:Oper}{r r':Operand->AV}{K:AV->Option β}(h:∀x∈o.op.operands,r x=r' x):evR P o r H K=evR P o r' H K:=by
 obtain⟨dst,op,type,pos,after,guard⟩:=o;cases op<;>simp only[Op.operands] at h<;>simp only[evR]
 case build t ps=>
  have e:(ps.toList.map fun x=>(x.1,r x.2))=ps.toList.map fun x=>(x.1,r' x.2):=bIZ fun x hx=>by
   rw[h x.2 (by simp only[List.mem_toArray,List.mem_map];exact⟨x,hx,rfl⟩)]
  rw[e]
 case makeFunc f a c=>
  have e1:a.toList.map r=a.toList.map r':=bIZ fun x hx=>h x (by simp[ZBF.1 hx]);have e2:c.toList.map r=c.toList.map r':=bIZ fun x hx=>h x (by simp[ZBF.1 hx]);cases f<;>simp only[e1,e2]
 case slice t x lo hi mx=>cases lo<;>cases hi<;>cases mx<;>simp_all
 case call c=>
  have e1:c.args.toList.map r=c.args.toList.map r':=bIZ fun x hx=>h x (by simp[Call.operands,ZBF.1 hx]);have e2:∀a,c.args.toList=[a]->r a=r' a:=fun a ha=>by
   rw[ha] at e1;simpa using e1
  rw[e1];split
  ·split
   ·rename_i a t ha _;rw[e2 a ha]
   ·rfl
  ·split
   ·rename_i a t ha _;rw[e2 a ha]
   ·rfl
  ·rfl
  ·rfl
  ·rfl
 all_goals(first|rfl|(simp_all;done)|(split<;>simp_all;done))
theorem m4Z{o:Oper}{an:Ann}{r r':Operand->AV}{K:AV->Hp->Option β}(h:∀x∈o.op.operands,r x=r' x):evW P T o an r H K=evW P T o an r' H K:=by
 obtain⟨dst,op,type,pos,after,guard⟩:=o;cases op<;>simp only[Op.operands] at h<;>simp only[evW]
 case buildSlice t n ps=>
  have e:(ps.toList.map fun x=>(x.1,r x.2))=ps.toList.map fun x=>(x.1,r' x.2):=bIZ fun x hx=>by
   rw[h x.2 (by simp only[List.mem_toArray,List.mem_map];exact⟨x,hx,rfl⟩)]
  rw[e]
 case makeMap t q=>cases q<;>simp_all
 case call c=>
  have e1:c.args.toList.map r=c.args.toList.map r':=bIZ fun x hx=>h x (by simp[Call.operands,ZBF.1 hx]);have e2:∀a b,c.args.toList=[a,b]->r a=r' a/\r b=r' b:=fun a b ha=>by
   rw[ha] at e1;simpa using e1
  split
  ·split
   ·rename_i a b t u ha _;rw[(e2 a b ha).1,(e2 a b ha).2]
   ·rfl
  ·split
   ·rename_i a b t _ ha _;rw[(e2 a b ha).1,(e2 a b ha).2]
   ·rfl
  ·split
   ·rename_i a t ha _;have:r a=r' a:=by rw[ha] at e1;simpa using e1
    rw[this]
   ·rfl
  ·rename_i f hc;rw[e1,h f (by simp[Call.operands,hc])]
  ·rfl
 all_goals(first|rfl|(simp_all;done)|(split<;>simp_all;done))
structure Rc where
 i:Nat
 o:Oper
 an:Ann
 pre:Nat->AV
 st:St
 go:Bool
 x:AV
 H2:Option Hp
def Rc.ft(r:Rc):List Nat:=foot r.o r.an r.st.opnd
def Rc.wr(r:Rc):List Nat:=wrIds r.st.hp r.ft
theorem cMZ(H:Hp)(id:Nat):∀l:List Nat,memN id (fzIds H l)=(memN id l&&isFz H id)/\memN id (wrIds H l)=(memN id l&& !isFz H id)
 |[]=>⟨rfl,rfl⟩
 |i::l=>by
  obtain⟨h1,h2⟩:=cMZ H id l;unfold fzIds wrIds;by_cases h:id=i
  ·subst h;cases hf:isFz H id<;>simp[memN,h1,h2,hf,Nat.beq_refl]
  ·have e:Nat.beq i id=false:=aiZ (ZBj h);cases hf:isFz H i<;>simp[memN,h1,h2,e]
theorem j4Z{H:Hp}{i:Nat}(h:isFz H i=true):i<famBase/\∃b,hget H i=some ⟨true,b⟩:=by
 unfold isFz at h;rw[ZAD,ZBq] at h;refine⟨h.1,?_⟩;have h2:=h.2;split at h2
 ·rename_i b hb;exact⟨b,hb⟩
 ·cases h2
def Rc.tmE(t:Nat)(r:Rc):Option AV:=if r.o.dst=some t then some r.x else none
def Rc.hpE(id:Nat)(r:Rc):Option (Bool×Option Ent):=
 match r.H2 with
 |some H2=>if memN id r.wr=true then some (true,if hkey H2 id=true then hget H2 id else none) else none
 |none=>none
def layF{ν:Type}(f:Rc->Option ν):List Rc->ν->ν
 |[],b=>b
 |r::l,b=>layF f l ((f r).getD b)
def hpAt(H:Hp)(id:Nat):Bool×Option Ent:=(hkey H id,hget H id)
structure Rc.Ok (P:Program) (T:Tbl) (all:List Oper) (r:Rc):Prop where
 dst:dstOk r.st.nt r.o.dst=true
 grd:GuardIs all r.o r.pre r.go
 le:∀t,Le (r.pre t) (r.st.tm.get t)
 no:r.go=false->r.x= .tup []/\r.H2=none
 yes:r.go=true->(isR P r.o=true/\evR P r.o r.st.opnd (hsub r.st.hp r.ft) some=some r.x/\r.H2=none)\/
  (isR P r.o=false/\(mkOp P r.o=true->r.an.ids≠[])/\mdIn r.an.md r.ft=true/\∃Hr,r.H2=some Hr/\evW P T r.o r.an r.st.opnd (hsub r.st.hp r.ft) (fun x H=>some (x,H))=some (r.x,Hr)/\(allIn (hkeys Hr) r.ft=true/\statN r.ft=true))
def fpsOf(P:Program):List Rc->List Fp
 |[]=>[]
 |r::l=>if r.go=true then⟨r.i,r.ft,bq (isR P r.o) [] r.wr⟩::fpsOf P l else fpsOf P l
theorem jiZ{t:Nat}:∀{l:List Rc} {a b:AV},Le a b->Le (layF (Rc.tmE t) l a) (layF (Rc.tmE t) l b)
 |[],a,b,h=>h
 |r::l,a,b,h=>jiZ (l:=l) (by
   cases r.tmE t with
   |none=>exact h
   |some x=>exact .refl _)
theorem kIZ:∀(l:List (Nat×Oper×Ann)) (st:St) (fs:List Fp) {K:St->List Fp->Option β} {res:β},evOpsD P T l all st fs K=some res->
 ∃(recs:List Rc) (st':St),recs.map (fun r=>(r.i,r.o))=l.map (fun x=>(x.1,x.2.1))/\(∀r∈recs,r.Ok P T all)/\K st' ((fpsOf P recs).reverse++fs)=some res/\
  (∀l1 r l2,recs=l1++r::l2->(∀t,Le (layF (Rc.tmE t) l1 (st.tm.get t)) (r.pre t))/\(∀id,layF (Rc.hpE id) l1 (hpAt st.hp id)=hpAt r.st.hp id)/\r.st.nt=st.nt)/\
  (∀t,Le (layF (Rc.tmE t) recs (st.tm.get t)) (st'.tm.get t))/\(∀id,layF (Rc.hpE id) recs (hpAt st.hp id)=hpAt st'.hp id)/\st'.nt=st.nt/\st'.n0=st.n0
 |[],st,fs,K,res,h=>⟨[],st,rfl,fun r h=>(by cases h),h,fun l1 r l2 h=>(by cases l1<;>cases h),fun t=>.refl _,fun id=>rfl,rfl,rfl⟩
 |(i,o,an)::l,st,fs,K,res,h=>by
  simp only[evOpsD] at h;obtain⟨hd,st1,b,e1,e2,e3,e4,hg,hb⟩:=phZ h;generalize hA:an.at st1.hp=an' at hb;have step:∃(r:Rc) (st2:St) (fs2:List Fp),r.i=i/\r.o=o/\r.pre=st.tm.get/\r.st=st1/\r.Ok P T all/\evOpsD P T l all st2 fs2 K=some res/\(∀t,Le ((r.tmE t).getD (st.tm.get t)) (st2.tm.get t))/\
   (∀id,(r.hpE id).getD (hpAt st.hp id)=hpAt st2.hp id)/\st2.nt=st.nt/\st2.n0=st.n0/\fs2=fpsOf P [r]++fs:=by
   have slots:∀(x:AV) t,Le ((if o.dst=some t then some x else none:Option AV).getD (st.tm.get t)) ((st1.putO o.dst x).tm.get t):=fun x t=>by
    cases ho:o.dst with
    |none=>simp only[reduceCtorEq,ZB7,Option.getD_none,St.putO];exact e4 t
    |some d=>
     simp only[ZAG,St.putO];by_cases hdt:d=t
     ·subst hdt;rw[ZAO rfl];rcases(Tr.get_put st1.tm d x d).2 with e|e<;>rw[e]
      ·exact .refl _
      ·exact .junk _
     ·rw[ZAM hdt,(Tr.get_put st1.tm d x t).1 (ZBj hdt)];exact e4 t
   rcases hb with⟨rfl,hgo⟩|⟨rfl,hsk⟩
   ·unfold ev1D at hgo;cases hR:isR P o<;>rw[hR] at hgo<;>simp only[bq_true,bq_false] at hgo
    ·obtain⟨h1,h2⟩:=aeZ.1 hgo;obtain⟨x,Hr,h3,h4⟩:=pKZ h2;obtain⟨h5,h6⟩:=aeZ.1 h4;simp only[ZAD,ZAl,ZAd] at h1
     let r:Rc:=⟨i,o,an',st.tm.get,st1,true,x,some Hr⟩
     have hok:r.Ok P T all:=⟨by show dstOk st1.nt o.dst=true;rw[e2];exact hd,hg,e4,fun h=>(by cases h),fun _=>.inr ⟨hR,fun hm hid=>(by
      rcases h1.1 with h|h
      ·rw[hm] at h;cases h
      ·rw[show an'.ids=[] from hid] at h;cases h),h1.2,Hr,rfl,h3,Bool.and_eq_true_iff.1 h5⟩⟩
     refine⟨r,_,_,rfl,rfl,rfl,rfl,hok,h6,fun t=>slots x t,fun id=> ?_,?_,?_,?_⟩
     ·show(Rc.hpE id r).getD (hpAt st.hp id)=hpAt (setAll (setAll (killAll st1.hp (foot o an' st1.opnd)) Hr) (hsub st1.hp (fzIds st1.hp (foot o an' st1.opnd)))) id;unfold hpAt;rw[aCZ,aPZ,aCZ,aPZ,aNZ,aVZ,(bGZ _ _ id).1,(bGZ _ _ id).2,(cMZ st1.hp id _).1,<-e1];simp only[Rc.hpE,Rc.ft,Rc.wr,r,(cMZ st1.hp id _).2];by_cases hm:memN id (foot o an' st1.opnd)=true
      ·cases hz:isFz st1.hp id
       ·simp[hm]
       ·obtain⟨_,b,hb⟩:=j4Z hz;simp[hm,ahZ hb]
      ·have hk:hkey Hr id=false:=by
        cases hk:hkey Hr id
        ·rfl
        ·exact absurd (agZ.2 (bUZ.1 (Bool.and_eq_true_iff.1 h5).1 id (dLZ.1 hk))) hm
       simp[hm,hk]
     ·show(st1.putO o.dst x).nt=st.nt;rw[(cFZ st1 o.dst x).2.1,e2]
     ·show(st1.putO o.dst x).n0=st.n0;rw[(cFZ st1 o.dst x).2.2.1,e3]
     ·simp[fpsOf,r,Rc.ft,Rc.wr,hR,e1]
    ·obtain⟨h1,h2⟩:=aeZ.1 hgo;obtain⟨x,h3,h4⟩:=pXZ h1 h2
     let r:Rc:=⟨i,o,an',st.tm.get,st1,true,x,none⟩
     have hok:r.Ok P T all:=⟨by show dstOk st1.nt o.dst=true;rw[e2];exact hd,hg,e4,fun h=>(by cases h),fun _=>.inl ⟨hR,h3,rfl⟩⟩;refine⟨r,_,_,rfl,rfl,rfl,rfl,hok,h4,fun t=>slots x t,fun id=> ?_,?_,?_,?_⟩
     ·show hpAt st.hp id=hpAt (st1.putO o.dst x).hp id;rw[(cFZ st1 o.dst x).2.2.2,e1]
     ·rw[(cFZ st1 o.dst x).2.1,e2]
     ·rw[(cFZ st1 o.dst x).2.2.1,e3]
     ·simp[fpsOf,r,Rc.ft,hR]
   ·let r:Rc:=⟨i,o,an',st.tm.get,st1,false,.tup [],none⟩
    have hok:r.Ok P T all:=⟨by show dstOk st1.nt o.dst=true;rw[e2];exact hd,hg,e4,fun _=>⟨rfl,rfl⟩,fun h=>(by cases h)⟩;refine⟨r,_,_,rfl,rfl,rfl,rfl,hok,hsk,fun t=>slots (.tup []) t,fun id=> ?_,?_,?_,?_⟩
    ·show hpAt st.hp id=hpAt (st1.putO o.dst (.tup [])).hp id;rw[(cFZ st1 o.dst (.tup [])).2.2.2,e1]
    ·show(st1.putO o.dst (.tup [])).nt=st.nt;rw[(cFZ st1 o.dst (.tup [])).2.1,e2]
    ·show(st1.putO o.dst (.tup [])).n0=st.n0;rw[(cFZ st1 o.dst (.tup [])).2.2.1,e3]
    ·simp[fpsOf,r]
  obtain⟨r,st2,fs2,r1,r2,r4,r5,r6,r7,r8,r9,r10,r11,r12⟩:=step;obtain⟨recs,st',q1,q2,q3,q4,q5,q6,q7,q8⟩:=kIZ l st2 fs2 r7;refine⟨r::recs,st',by simp[r1,r2,q1],fun x hx=> ?_,?_,fun l1 r' l2 he=> ?_,fun t=> ?_,fun id=> ?_,q7.trans r10,q8.trans r11⟩
  ·rcases ZAU.1 hx with rfl|hx
   ·exact r6
   ·exact q2 x hx
  ·rw[r12] at q3;have:(fpsOf P (r::recs)).reverse++fs=(fpsOf P recs).reverse++(fpsOf P [r]++fs):=by
    simp only[fpsOf];split<;>simp
   rw[this];exact q3
  ·cases l1 with
   |nil=>
    simp only[ZBI,ZAn] at he;obtain⟨rfl,rfl⟩:=he;exact⟨fun t=>by rw[r4];exact .refl _,fun id=>by rw[r5,e1];rfl,by rw[r5];exact e2⟩
   |cons r0 l1=>
    simp only[List.cons_append,ZAn] at he;obtain⟨rfl,he⟩:=he;obtain⟨a1,a2,a3⟩:=q4 l1 r' l2 he;refine⟨fun t=> ?_,fun id=> ?_,a3.trans r10⟩
    ·exact(jiZ (r8 t)).trans (a1 t)
    ·simp only[layF];rw[r9];exact a2 id
  ·exact(jiZ (r8 t)).trans (q5 t)
  ·simp only[layF];rw[r9];exact q6 id
theorem fCZ{cl:List (Nat×List Nat)}:∀{l:List Fp},pairsOk cl l=true->l.Pairwise fun b a=>pairOk cl a b=true
 |[],_=>.nil
 |b::l,h=>by
  simp only[pairsOk,ZAD,ZBk] at h;exact .cons h.1 (fCZ h.2)
theorem iuZ{a:Nm}:∀{l:List Nm},nmAll a l=true->∀b∈l,memN a.i b.cl=true\/apartN a b=true
 |[],_,b,h=>by cases h
 |c::l,h,b,hb=>by
  simp only[nmAll,ZAD,ZAl] at h;rcases ZAU.1 hb with rfl|hb
  ·exact h.1
  ·exact iuZ h.2 b hb
theorem iyZ:∀{l:List Nm},nmsOk l=true->l.Pairwise fun a b=>memN a.i b.cl=true\/apartN a b=true
 |[],_=>.nil
 |a::l,h=>by
  simp only[nmsOk,ZAD] at h;exact .cons (iuZ h.1) (iyZ h.2)
def Rc.nm(cl:List (Nat×List Nat))(all:List Oper)(r:Rc):Nm:=⟨r.i,(cl.lookup r.i).getD [],guardOf all r.o++tmpsOf r.o.op.operands.toList,r.o.dst⟩
theorem pnZ{cl:List (Nat×List Nat)}:∀{recs:List Rc} {l:List (Oper×Ann)} {k:Nat},recs.map (fun r=>(r.i,r.o))=(numb k l).map (fun x=>(x.1,x.2.1))->nms cl all k (l.map (·.1))=recs.map (Rc.nm cl all)
 |[],[],k,_=>rfl
 |[],_::_,k,h=>by simp[numb] at h
 |_::_,[],k,h=>by simp[numb] at h
 |r::recs,(o,an)::l,k,h=>by
  simp only[List.map_cons,numb,ZAn,ZAp] at h;obtain⟨⟨rfl,rfl⟩,h⟩:=h;simp only[List.map_cons,nms,pnZ h]
  rfl
theorem nBZ{α:Type}:∀{l:List α} {k:Nat},(numb k l).Pairwise fun a b=>a.1<b.1
 |[],k=>.nil
 |a::l,k=>.cons (fun b hb=>by
   have:∀{l:List α} {k:Nat} {b:Nat×α},b∈numb k l->k<=b.1:=fun{l}=>by
    induction l with
    |nil=>intro k b h;cases h
    |cons a l ih=>
     intro k b h;rcases ZAU.1 h with rfl|h
     ·exact ZAK _
     ·exact Nat.le_of_succ_le (ih h)
   exact this hb) nBZ
theorem h8Z{α:Type}:∀{l:List α} {k i:Nat},(numb k l)[i]? =(l[i]?).map fun a=>(k+i,a)
 |[],k,i=>by simp[numb]
 |a::l,k,0=>by simp[numb]
 |a::l,k,i+1=>by
  simp only[numb,ZBn,h8Z];congr 1;funext a;rw[show k+1+i=k+(i+1) by omega]
def edgesIn(all:List Oper)(S:Nat->Prop)(j:Nat):Prop:=∀o,all[j]? =some o->∀e∈o.after,Region.binds .any e=true->S e.on
theorem hgZ{done:List (Nat×List Nat)}:∀{es:List Edge} {k:Nat},k∈closN done es->∃e∈es,Region.binds .any e=true/\(k=e.on\/k∈(done.lookup e.on).getD [])
 |[],k,h=>by cases h
 |e::es,k,h=>by
  simp only[closN] at h;cases hb:Region.binds .any e<;>rw[hb] at h<;>simp only[bq_true,bq_false] at h
  ·obtain⟨e',h1,h2⟩:=hgZ h;exact⟨e',ZAc _ h1,h2⟩
  ·rcases ZAU.1 h with rfl|h
   ·exact⟨e,ZAk,hb,.inl rfl⟩
   ·rcases ZAh.1 h with h|h
    ·exact⟨e,ZAk,hb,.inr h⟩
    ·obtain⟨e',h1,h2⟩:=hgZ h;exact⟨e',ZAc _ h1,h2⟩
theorem nHZ{S:Nat->Prop}(hc:∀j,S j->edgesIn all S j):∀(l:List Oper) (k:Nat) (done:List (Nat×List Nat)),(∀i,l[i]? =all[k+i]?)->(∀j,edgesIn all S j->∀m∈(done.lookup j).getD [],S m)->
 ∀j,edgesIn all S j->∀m∈((clos k l done).lookup j).getD [],S m
 |[],k,done,_,hd=>hd
 |o::l,k,done,hl,hd=>by
  simp only[clos];refine nHZ hc l (k+1) _ (fun i=>by have:=hl (i+1);rw[ZBn] at this;rw[this];congr 1;omega) fun j hj m hm=> ?_;simp only[List.lookup_cons] at hm;cases hk:(j==k)
  ·rw[hk] at hm;exact hd j hj m hm
  ·rw[hk] at hm;have:j=k:=by simpa using hk
   subst this;simp only[Option.getD_some,eaZ] at hm;obtain⟨e,h1,h2,h3⟩:=hgZ hm;have he:S e.on:=hj o (by have:=hl 0;simpa using this.symm) e (ZBF.1 h1) h2;rcases h3 with rfl|h3
   ·exact he
   ·exact hd e.on (hc _ he) m h3
end
end Go.Ab
namespace Go.Ab
section
variable {P : Program} {T : Tbl} {β : Type} {ops : Array Oper}
theorem d6Z{ν:Type}{f:Rc->Option ν}{S:Nat->Bool}:∀{l:List Rc} {b:ν},(∀r∈l,(f r).isSome=true->S r.i=true)->layF f (l.filter fun r=>S r.i) b=layF f l b
 |[],b,_=>rfl
 |r::l,b,h=>by
  have h':∀r∈l,(f r).isSome=true->S r.i=true:=fun x hx=>h x (ZAc _ hx);cases hs:S r.i
  ·rw[List.filter_cons_of_neg (by simp[hs])];have hn:f r=none:=by
    cases hf:f r with
    |none=>rfl
    |some v=>have:=h r ZAk (by rw[hf];rfl);rw[hs] at this;cases this
   rw[d6Z h'];simp[layF,hn]
  ·rw[List.filter_cons_of_pos (by simp[hs])];simp only[layF];exact d6Z h'
theorem dXZ{ν:Type}{f:Rc->Option ν}{S:Nat->Bool}:∀{l:List Rc} {b:ν},(∀r∈l,(f r).isSome=true->S r.i=false)->layF f (l.filter fun r=>S r.i) b=b
 |[],b,_=>rfl
 |r::l,b,h=>by
  have h':∀r∈l,(f r).isSome=true->S r.i=false:=fun x hx=>h x (ZAc _ hx);cases hs:S r.i
  ·rw[List.filter_cons_of_neg (by simp[hs])];exact dXZ h'
  ·rw[List.filter_cons_of_pos (by simp[hs])];have hn:f r=none:=by
    cases hf:f r with
    |none=>rfl
    |some v=>have:=h r ZAk (by rw[hf];rfl);rw[hs] at this;cases this
   simp only[layF,hn,Option.getD_none];exact dXZ h'
theorem bKZ{ν:Type}{f:Rc->Option ν}:∀{l m:List Rc} {b:ν},layF f (l++m) b=layF f m (layF f l b)
 |[],m,b=>rfl
 |r::l,m,b=>by simp only[List.cons_append,layF];exact bKZ
theorem i3Z{ν:Type}{f:Rc->Option ν}{S:Nat->Bool}{l1 l2:List Rc}{r:Rc}{b:ν}(hr:S r.i=false)(h1:∀x∈l1,(f x).isSome=true->S x.i=true)(h2:∀x∈l2,(f x).isSome=true->S x.i=false):
 layF f ((l1++r::l2).filter fun r=>S r.i) b=layF f l1 b:=by
 rw[List.filter_append,List.filter_cons_of_neg (by simp[hr]),bKZ,d6Z h1,dXZ h2]
theorem fFZ{ν:Type}{f:Rc->Option ν}{S S':Nat->Bool}{l1 l2:List Rc}{r:Rc}{b:ν}(hr:S r.i=false)(hS:S' r.i=true)(hS1:∀x∈l1,S' x.i=S x.i)(hS2:∀x∈l2,S' x.i=S x.i):
 (∀v,f r=some v->(∀x∈l2,(f x).isSome=true->S x.i=false)->layF f ((l1++r::l2).filter fun r=>S' r.i) b=v)/\
 (f r=none->layF f ((l1++r::l2).filter fun r=>S' r.i) b=layF f ((l1++r::l2).filter fun r=>S r.i) b):=by
 have e1:(l1.filter fun r=>S' r.i)=l1.filter fun r=>S r.i:=List.filter_congr fun x hx=>by rw[hS1 x hx]
 have e2:(l2.filter fun r=>S' r.i)=l2.filter fun r=>S r.i:=List.filter_congr fun x hx=>by rw[hS2 x hx]
 refine⟨fun v hv h2=> ?_,fun hv=> ?_⟩
 ·rw[List.filter_append,List.filter_cons_of_pos (by simp[hS]),bKZ,e1,e2];simp only[layF,hv,Option.getD_some];exact dXZ h2
 ·rw[List.filter_append,List.filter_cons_of_pos (by simp[hS]),bKZ,e1,e2,List.filter_append,List.filter_cons_of_neg (by simp[hr]),bKZ];simp only[layF,hv,Option.getD_none]
theorem fWZ:∀{l:List Oper} {k:Nat},edgesOk k l=true->∀(i:Nat) o,l[i]? =some o->(∀e∈o.after,Region.binds .any e=true->e.on<k+i)/\∀cs b,o.op≠.select cs b
 |[],k,_,i,o,h=>by simp at h
 |x::l,k,h,i,o,ho=>by
  simp only[edgesOk,ZAD] at h;obtain⟨⟨h1,h2⟩,h3⟩:=h;cases i with
  |zero=>
   simp only[ZAt,ZAG] at ho;subst ho;refine⟨fun e he hb=> ?_,fun cs b hs=>by rw[hs] at h2;cases h2⟩;have:∀{es:List Edge},edgesLt k es=true->∀e∈es,Region.binds .any e=true->e.on<k:=fun{es}=>by
    induction es with
    |nil=>intro _ e he;cases he
    |cons e0 es ih=>
     intro h e he hb;simp only[edgesLt,ZAD,ZAl,ZAd,ZBq] at h;rcases ZAU.1 he with rfl|he
     ·exact h.1.resolve_left (by rw[hb];simp)
     ·exact ih h.2 e he hb
   exact this h1 e (ZBF.2 he) hb
  |succ i=>
   have:=fWZ h3 i o (by simpa using ho);rwa [show k+1+i=k+(i+1) by omega] at this
theorem e5Z{t:Nat}:∀{l:List Operand},Operand.tmp t∈l->t∈tmpsOf l
 |[],h=>by cases h
 |x::l,h=>by
  cases x with
  |tmp u=>
   simp only[tmpsOf,ZAU];rcases ZAU.1 h with h|h
   ·injection h with h;exact .inl h
   ·exact .inr (e5Z h)
  |_=>
   simp only[tmpsOf];rcases ZAU.1 h with h|h
   ·cases h
   ·exact e5Z h
theorem o8Z{z:Z}{st:St}{a:Act}(x:Operand)(h:∀t,x= .tmp t->ARep z (st.tm.get t) (a.eval x)):ARep z (st.opnd x) (a.eval x):=by
 cases x with
 |tmp t=>exact h t rfl
 |const v=>
  have e:st.opnd (.const v)=({st with tm:=.lf}:St).opnd (.const v):=by cases v<;>rfl
  rw[e];exact feZ (z:=z) (st:={st with tm:=.lf}) (a:=a) (fun t=>.junk _) (.const v)
 |global g=>exact .junk _
 |func f=>exact feZ (z:=z) (st:={st with tm:=.lf}) (a:=a) (fun t=>.junk _) (.func f)
theorem ghZ{n:Nat}{listed:Array Bool}{i:Nat}(hs:listed.size=n)(hi:listed.getD i true=false):
 ((List.range n).filter fun j=> !listed.getD j true).length=((List.range n).filter fun j=> !(listed.setIfInBounds i true).getD j true).length+1:=by
 have hlt:i<n:=by
  rcases ZBp i listed.size with h|h
  ·omega
  ·simp[Array.getElem?_eq_none h] at hi
 have hmem:i∈(List.range n).filter fun j=> !listed.getD j true:=by
  rw[List.mem_filter];exact⟨ZB5.2 hlt,by rw[hi];rfl⟩
 have hnd:((List.range n).filter fun j=> !listed.getD j true).Nodup:=List.Pairwise.sublist List.filter_sublist List.nodup_range;have he:((List.range n).filter fun j=> !(listed.setIfInBounds i true).getD j true)=((List.range n).filter fun j=> !listed.getD j true).erase i:=by
  rw[List.Nodup.erase_eq_filter hnd,List.filter_filter];refine List.filter_congr fun j hj=> ?_;by_cases hij:i=j
  ·subst hij;simp[show i<listed.size by omega]
  ·have:(j !=i)=true:=by simp;exact fun h=>hij h.symm
   rw[this,getD_set_ne true hij];simp
 rw[he,List.length_erase_of_mem hmem];have:=List.length_pos_of_mem hmem;omega
theorem HRep.lay{z:Z}{H:Hp}(hH:HRep z H){i:Nat}{e:Ent}(hi:i<famBase)(he:ERep z i e)(hf:e.fz=true)(hfam:famOk i e):HRep z (hset H i (some e)):=by
 have hfd:famBase<dynBase:=by unfold famBase dynBase;omega
 refine⟨fun id e' h=> ?_,fun id id' e1 e2 g sz n g' sz' n' hne h1 h2 f1 f2=> ?_,fun id h=> ?_,hH.sub,fun id e' h=> ?_,fun id h=> ?_,fun id hd h=> ?_,hH.nos⟩
 ·rw[a3Z hi] at h;split at h
  ·rename_i hid;subst hid;simp only[ZAG] at h;subst h;exact he
  ·exact hH.ent id e' h
 ·rw[a3Z hi] at h1 h2;split at h1
  ·simp only[ZAG] at h1;subst h1;rw[hf] at f1;cases f1
  ·split at h2
   ·simp only[ZAG] at h2;subst h2;rw[hf] at f2;cases f2
   ·exact hH.inj id id' e1 e2 g sz n g' sz' n' hne h1 h2 f1 f2
 ·rw[bpZ hi] at h;exact hH.fresh id (by simp only[ZBB] at h;exact h.2)
 ·rw[alZ] at h;split at h
  ·rename_i hid;subst hid;simp only[ZAG] at h;subst h;exact hfam
  ·exact hH.fam id e' h
 ·rw[anZ] at h;by_cases hid:id=i
  ·omega
  ·exact hH.key id (by simpa[hid] using h)
 ·rw[anZ] at h;have:rt id≠i:=by
   unfold rt;rw[ZAO hd];omega
  exact hH.dyn id hd (by simpa[this] using h)
theorem HRep.refz{z z3:Z}{H H1 H3:Hp}(kp:Kp z z3)(hH:HRep z H)(h3:HRep z3 H3):∀{F:List Nat},(∀i∈F,∃b,i<famBase/\hget H1 i=some ⟨true,b⟩/\hget H i=some ⟨true,b⟩)->HRep z3 (setAll H3 (hsub H1 F))
 |[],_=>h3
 |i::F,h=>by
  have ih:=HRep.refz kp hH h3 (F:=F) fun j hj=>h j (ZAc _ hj);obtain⟨b,q1,q2,q3⟩:=h i ZAk;unfold hsub;rw[ahZ q2];simp only[bq_true,setAll];rw[q2];refine ih.lay q1 ?_ rfl (hH.fam i _ q3);have he:=hH.ent i ⟨true,b⟩ (by rw[aoZ q1];exact q3);refine he.kp kp fun g sz n hρ=> ?_;unfold ERep at he;rw[hρ] at he;exact⟨kp.block g he.1 (he.2.2.1 rfl),fun hC=>absurd (hH.sub g hC) (he.2.2.1 rfl)⟩
def J(z0:Z)(N:Nat)(L:List (Nat×AV))(ops:Array Oper)(recs:List Rc)(st:St)(listed:Array Bool)(a:Act)(w:World):Prop:=
 ∃z H,z.w=w/\Nx z0 z/\(∀id,¬z.D id)/\HRep z H/\(∀id,layF (Rc.hpE id) (recs.filter fun r=>listed.getD r.i false) (hpAt st.hp id)=hpAt H id)/\
  (∀t,ARep z (layF (Rc.tmE t) (recs.filter fun r=>listed.getD r.i false) (st.tm.get t)) (a.eval (.tmp t)))/\(∀p∈L,ARep z p.2 (a.eval (.tmp p.1)))/\a.defers=[]/\(st.nt<=N/\a.tmps.size=N)/\
  listed.size=ops.size/\(∀j,listed.getD j false=true->edgesIn ops.toList (fun j=>listed.getD j false=true) j)
theorem kAZ:∀{ms l:List Nat},mdIn ms l=true↔∀m∈ms,m<4\/m+100000∈l
 |[],l=>by simp[mdIn]
 |m::ms,l=>by
  simp only[mdIn,ZAD,ZAl,ZBq,agZ,kAZ (ms:=ms),ZAU];constructor
  ·rintro⟨h1,h2⟩ x (rfl|hx)
   ·exact h1
   ·exact h2 x hx
  ·intro h;exact⟨h m (.inl rfl),fun x hx=>h x (.inr hx)⟩
theorem nVZ{z0:Z}{N:Nat}{L:List (Nat×AV)}{st:St}{a:Act}{w:World}{K:St->Option β}{res:β}{Q:Exit->Act->World->Prop}{opsA:List (Oper×Ann)}(hT:∀e∈T,Told P e)(hops:opsA.map (·.1)=ops.toList)
 (hL:∀x∈opsA,∀p∈L,x.1.dst≠some p.1)(hk:∀st' a' w',K st'=some res->Inv z0 N L st' a' w'->Q .normal a' w')
 (hed:edgesOk 0 ops.toList=true)(hnm:nmsOk (nms (clos 0 ops.toList []) ops.toList 0 ops.toList)=true)
 (h:evOpsD P T (numb 0 opsA) ops.toList st [] (fun st' fs=>need (pairsOk (clos 0 ops.toList []) fs) (K st'))=some res)(hi:Inv z0 N L st a w):
 wpAny P .any ops Q ops.size (Array.replicate ops.size false) a w:=by
 obtain⟨recs,st',t1,t2,t3,t4,t5,t6,t7,t8⟩:=kIZ _ _ _ h;obtain⟨hpair,hK⟩:=aeZ.1 t3;have hi0:=hi;obtain⟨_,_,_,_,_,_,_,_,_,hn0⟩:=hi0;rw[ZA2] at hpair;generalize hcl:clos 0 ops.toList []=cl at*;have hnames:recs.Pairwise fun a b=>memN a.i ((cl.lookup b.i).getD [])=true\/apartN (a.nm cl ops.toList) (b.nm cl ops.toList)=true:=by
  have:=iyZ hnm;have e:=pnZ (cl:=cl) (all:=ops.toList) t1;rw[hops] at e;rw[e,List.pairwise_map] at this;exact this
 have hfp:(fpsOf P recs).Pairwise fun a b=>pairOk cl a b=true:=by
  have:=fCZ hpair;rwa [List.pairwise_reverse] at this
 have hrec:recs.Pairwise fun r1 r2=>r1.go=true->r2.go=true->memN r1.i ((cl.lookup r2.i).getD [])=true\/clash ⟨r1.i,r1.ft,bq (isR P r1.o) [] r1.wr⟩ ⟨r2.i,r2.ft,bq (isR P r2.o) [] r2.wr⟩=false:=by
  clear t1 t2 t3 t4 t5 t6 hpair hnames;have mem:∀{l:List Rc} {r:Rc},r∈l->r.go=true->(⟨r.i,r.ft,bq (isR P r.o) [] r.wr⟩:Fp)∈fpsOf P l:=fun{l}=>by
   induction l with
   |nil=>intro r h;cases h
   |cons x l ih=>
    intro r h hg;simp only[fpsOf];rcases ZAU.1 h with rfl|h
    ·rw[ZAO hg];exact ZAk
    ·split
     ·exact ZAc _ (ih h hg)
     ·exact ih h hg
  induction recs with
  |nil=>exact .nil
  |cons x l ih=>
   simp only[fpsOf] at hfp;refine .cons (fun y hy hx hy'=> ?_) (ih ?_)
   ·rw[ZAO hx] at hfp;have:=(ZBJ.1 hfp).1 _ (mem hy hy');simp only[pairOk,ZAl,ZAd] at this;exact this.symm
   ·split at hfp
    ·exact(ZBJ.1 hfp).2
    ·exact hfp
 have hat:∀(i:Nat) r,recs[i]? =some r->r.i=i/\ops[i]? =some r.o:=fun i r hr=>by
  have e:(recs.map fun r=>(r.i,r.o))[i]? =some (r.i,r.o):=by rw[ZAa,hr];rfl
  rw[t1,ZAa,h8Z,Option.map_map] at e;obtain⟨x,hx,hxe⟩:=ZAI.1 e;simp only[Function.comp,ZAp] at hxe;obtain⟨h1,h2⟩:=hxe;refine⟨by omega,?_⟩;have h3:(opsA.map (·.1))[i]? =some r.o:=by rw[ZAa,hx,<-h2];rfl
  rw[hops] at h3;rwa [<-Array.getElem?_toList]
 have hlen:recs.length=ops.size:=by
  have h1:(recs.map fun r=>(r.i,r.o)).length=opsA.length:=by
   rw[t1,ZBb];have:∀{α:Type} (l:List α) k,(numb k l).length=l.length:=fun l=>by
    induction l with
    |nil=>intro k;rfl
    |cons a l ih=>intro k;simp[numb,ih]
   exact this _ _
  have h2:=congrArg List.length hops;simp at h1 h2;omega
 have hlt:∀{l1:List Rc} {r l2},recs=l1++r::l2->(∀x∈l1,x.i≠r.i)/\(∀x∈l2,x.i≠r.i):=fun{l1 r l2} he=>by
  have hp:recs.Pairwise fun a b=>a.i<b.i:=by
   have:=nBZ (l:=opsA) (k:=0);have h2:((numb 0 opsA).map fun x=>(x.1,x.2.1)).Pairwise fun a b=>a.1<b.1:=List.pairwise_map.2 this;rw[<-t1,List.pairwise_map] at h2;exact h2
  rw[he,ZBm] at hp;exact⟨fun x hx=>Nat.ne_of_lt (hp.2.2 x hx r ZAk),fun x hx=>(Nat.ne_of_lt ((ZBJ.1 hp.2.1).1 x hx)).symm⟩
 have main:∀(fuel:Nat) (listed:Array Bool) (a:Act) (w:World),fuel=((List.range ops.size).filter fun j=> !listed.getD j true).length->J z0 N L ops recs st listed a w->wpAny P .any ops Q fuel listed a w:=by
  have fin:∀(listed:Array Bool) (a:Act) (w:World),Region.ready .any ops listed=[]->J z0 N L ops recs st listed a w->Q .normal a w:=by
   rintro listed a w hr ⟨z,H,rfl,hn,hD,hH,hhp,htm,hLs,hdf,hnt,hsz,hcs⟩;have hall:∀i,i<ops.size->listed.getD i false=true:=by
    intro i;induction i using Nat.strongRecOn with
    |_ i ih=>
     intro hi;cases hb:listed.getD i false
     ·exfalso;have hb':listed.getD i true=false:=by
       have:i<listed.size:=by omega
       simp[this] at hb⊢;exact hb
      have:i∈Region.ready .any ops listed:=by
       rw[mem_ready];refine⟨hb',ops[i],ZBA hi,fun e he hbd=> ?_⟩;have:=(fWZ hed i ops[i] (by rw[ZAx];exact ZBA hi)).1 e he hbd;rw[ZAm] at this;exact ih e.on this (by omega)
      rw[hr] at this;cases this
     ·rfl
   have hfil:(recs.filter fun r=>listed.getD r.i false)=recs:=by
    rw[ZBs];intro r hr';obtain⟨i,hi⟩:=ZAY hr';obtain⟨h1,h2⟩:=hat i r hi;rw[h1];exact hall i (ZBC.1 h2).1
   rw[hfil] at hhp htm;refine hk st' a z.w hK ⟨z,rfl,hn,hD,hH.same (fun id=> ?_) (fun id=> ?_),fun t=>t5 t _ _ (htm t),hLs,hdf,by rw[t7];exact hnt,by rw[t8];exact hn0⟩
   ·have:=(t6 id).symm.trans (hhp id);exact congrArg Prod.snd this
   ·have:=(t6 id).symm.trans (hhp id);exact congrArg Prod.fst this
  have step:∀(listed:Array Bool) (a:Act) (w:World) (i:Nat) (next:Act->World->Prop),i∈Region.ready .any ops listed->J z0 N L ops recs st listed a w->
   (∀a' w',J z0 N L ops recs st (listed.setIfInBounds i true) a' w'->next a' w')->wpOp P ops Q i next a w:=by
   rintro listed a w i next hr ⟨z,H,rfl,hn,hD,hH,hhp,htm,hLs,hdf,hnt,hsz,hcs⟩ hnext;obtain⟨hun,o,ho,hedge⟩:=mem_ready.1 hr;have hilt:i<ops.size:=(ZBC.1 ho).1;obtain⟨r,hri⟩:∃r,recs[i]? =some r:=⟨_,ZAE (by omega)⟩;obtain⟨hr1,hr2⟩:=hat i r hri;rw[ho] at hr2;simp only[ZAG] at hr2;subst hr2;obtain⟨l1,l2,hsplit⟩:=List.append_of_mem (ZAQ hri);have hmem:=ZAQ hri;have hok:=t2 r hmem;obtain⟨u1,u2,u3⟩:=t4 l1 r l2 hsplit;have hSi:listed.getD r.i false=false:=by
    rw[hr1];have:i<listed.size:=by omega
    simp[this] at hun⊢;exact hun
   have hclS:∀j,edgesIn ops.toList (fun j=>listed.getD j false=true) j->∀m∈(cl.lookup j).getD [],listed.getD m false=true:=fun j hj m hm=>by
    rw[<-hcl] at hm;exact nHZ (S:=fun j=>listed.getD j false=true) hcs ops.toList 0 [] (fun i=>by rw[ZAm]) (fun j _ m hm=>by simp at hm) j hj m hm
   have hA:∀m∈(cl.lookup r.i).getD [],listed.getD m false=true:=hclS r.i fun o' ho' e he hb=>by
    rw[hr1,ZAx,ho] at ho';simp only[ZAG] at ho';subst ho';exact hedge e he hb
   have hB:∀x,r.i∈(cl.lookup x).getD []->listed.getD x false=false:=fun x hx=>by
    cases hb:listed.getD x false
    ·rfl
    ·have:=hclS x (hcs x hb) r.i hx;rw[hSi] at this;cases this
   rw[hsplit] at hnames hrec;have hn1:=ZBm.1 hnames;have hf1:=ZBm.1 hrec;have slot1:∀t,(t∈(r.nm cl ops.toList).rd\/r.o.dst=some t)->∀x∈l1,(x.tmE t).isSome=true->listed.getD x.i false=true:=fun t ht x hx hs=>by
    rcases hn1.2.2 x hx r ZAk with h|h
    ·exact hA _ (agZ.1 h)
    ·exfalso;have hxd:x.o.dst=some t:=by
      unfold Rc.tmE at hs;split at hs
      ·assumption
      ·cases hs
     simp only[apartN,ZAD,ZAd,Rc.nm,hxd,hasN,sameO] at h;rcases ht with ht|ht
     ·have ht':memN t (guardOf ops.toList r.o++tmpsOf r.o.op.operands.toList)=true:=agZ.2 ht;rw[ht'] at h;exact absurd h.1.1 (by simp)
     ·rw[ht] at h;simp[Nat.beq_refl,adZ] at h
   have slot2:∀t,(t∈(r.nm cl ops.toList).rd\/r.o.dst=some t)->∀x∈l2,(x.tmE t).isSome=true->listed.getD x.i false=false:=fun t ht x hx hs=>by
    rcases(ZBJ.1 hn1.2.1).1 x hx with h|h
    ·exact hB _ (agZ.1 h)
    ·exfalso;have hxd:x.o.dst=some t:=by
      unfold Rc.tmE at hs;split at hs
      ·assumption
      ·cases hs
     simp only[apartN,ZAD,ZAd,Rc.nm,hxd,hasN,sameO] at h;rcases ht with ht|ht
     ·have ht':memN t (guardOf ops.toList r.o++tmpsOf r.o.op.operands.toList)=true:=agZ.2 ht;rw[ht'] at h;exact absurd h.1.2 (by simp)
     ·rw[ht] at h;simp[adZ] at h
   have hslot:∀t∈(r.nm cl ops.toList).rd,ARep z (r.pre t) (a.eval (.tmp t)):=fun t ht=>by
    have:=htm t;rw[hsplit,i3Z (f:=Rc.tmE t) (S:=fun i=>listed.getD i false) hSi (slot1 t (.inl ht)) (slot2 t (.inl ht))] at this;exact u1 t _ _ this
   have hwant:Region.wanted r.o (yielded ops a.tmps)=r.go:=hok.grd.wanted fun j want d h1 h2=>hslot d (by
    obtain⟨x,h3,h4⟩:=ZAH.1 h2;simp[Rc.nm,guardOf,h1,h3,h4])
   have hopn:∀x∈r.o.op.operands,ARep z (r.st.opnd x) (a.eval x):=fun x hx=>o8Z x fun t ht=>by
    subst ht;exact hok.le t _ _ (hslot t (by
     simp only[Rc.nm,ZAh];exact .inr (e5Z (ZBF.2 hx))))
   have hS':(listed.setIfInBounds i true).getD r.i false=true:=by rw[hr1];simp[show i<listed.size by omega]
   have hSo:∀x,x≠i->(listed.setIfInBounds i true).getD x false=listed.getD x false:=fun x hx=>getD_set_ne false (ZBj hx);obtain⟨v1,v2⟩:=hlt hsplit;have hS1:∀x∈l1,(listed.setIfInBounds i true).getD x.i false=listed.getD x.i false:=fun x hx=>hSo _ (by rw[<-hr1];exact v1 x hx);have hS2:∀x∈l2,(listed.setIfInBounds i true).getD x.i false=listed.getD x.i false:=fun x hx=>hSo _ (by rw[<-hr1];exact v2 x hx);have hcs':∀j,(listed.setIfInBounds i true).getD j false=true->edgesIn ops.toList (fun j=>(listed.setIfInBounds i true).getD j false=true) j:=fun j hj o' ho' e he hb=>by
    refine getD_set_true ?_;by_cases hji:j=i
    ·subst hji;rw[ZAx,ho] at ho';simp only[ZAG] at ho';subst ho';exact hedge e he hb
    ·rw[hSo j hji] at hj;exact hcs j hj o' ho' e he hb
   have hLr:∀p∈L,r.o.dst≠some p.1:=by
    have h3:(recs.map fun r=>(r.i,r.o))[i]? =some (r.i,r.o):=by rw[ZAa,hri];rfl
    rw[t1,ZAa,h8Z,Option.map_map] at h3;obtain⟨x,hx,hxe⟩:=ZAI.1 h3;simp only[Function.comp,ZAp] at hxe;have:=hL x (ZAQ hx);rw[hxe.2] at this;exact this
   have hdst:=hok.dst;rw[u3] at hdst;have put:∀(z3:Z) (H3:Hp) (v:Value),Nx z z3->HRep z3 H3->ARep z3 r.x v->(∀id,layF (Rc.hpE id) (recs.filter fun r=>(listed.setIfInBounds i true).getD r.i false) (hpAt st.hp id)=hpAt H3 id)->
    J z0 N L ops recs st (listed.setIfInBounds i true) (a.put r.o.dst v) z3.w:=fun z3 H3 v k1 k2 k3 k4=>by
    have kp:=k1.kp hH.sub;refine⟨z3,H3,rfl,hn.trans k1,fun id=>by rw[k1.dom];exact hD id,k2,k4,fun t=> ?_,fun p hp=> ?_,(eZZ _ _ _).2.trans hdf,by rw[(eZZ _ _ _).1];exact hnt,by simpa using hsz,hcs'⟩
    ·by_cases ht:r.o.dst=some t
     ·rw[hsplit,(fFZ (f:=Rc.tmE t) (S:=fun i=>listed.getD i false) (S':=fun j=>(listed.setIfInBounds i true).getD j false) hSi hS' hS1 hS2).1 r.x (by simp[Rc.tmE,ht]) (slot2 t (.inr ht)),ht,dMZ (by
       rw[ht] at hdst;simp only[dstOk,ZBq] at hdst;omega)]
      exact k3
     ·rw[hsplit,(fFZ (f:=Rc.tmE t) (S:=fun i=>listed.getD i false) (S':=fun j=>(listed.setIfInBounds i true).getD j false) hSi hS' hS1 hS2).2 (by simp[Rc.tmE,ht]),cAZ ht,<-hsplit];exact(htm t).kp kp
    ·rw[cAZ (hLr p hp)];exact(hLs p hp).kp kp
   have same:r.H2=none->∀id,layF (Rc.hpE id) (recs.filter fun r=>(listed.setIfInBounds i true).getD r.i false) (hpAt st.hp id)=hpAt H id:=fun h2 id=>by
    rw[hsplit,(fFZ (f:=Rc.hpE id) (S:=fun i=>listed.getD i false) (S':=fun j=>(listed.setIfInBounds i true).getD j false) hSi hS' hS1 hS2).2 (by simp[Rc.hpE,h2]),<-hsplit];exact hhp id
   unfold wpOp;simp only[ho,hwant];cases hgo:r.go
   ·simp only[ZBD,ZB7];obtain⟨x1,x2⟩:=hok.no hgo;exact hnext _ _ (put z H undef (Nx.refl z) hH (by rw[x1];exact kGZ) (same x2))
   ·simp only[if_true];refine .inl ?_;have foot1:∀id∈r.ft,∀x∈l1,(x.hpE id).isSome=true->listed.getD x.i false=true:=fun id hid x hx hs=>by
     have hxt:=t2 x (by rw[hsplit];exact ZBU _ hx);have hxg:x.go=true:=by
      cases hxg:x.go
      ·have:=(hxt.no hxg).2;simp[Rc.hpE,this] at hs
      ·rfl
     have hxw:isR P x.o=false/\memN id x.wr=true:=by
      rcases hxt.yes hxg with⟨_,_,y⟩|⟨y,_⟩
      ·simp[Rc.hpE,y] at hs
      ·refine⟨y,?_⟩;unfold Rc.hpE at hs;split at hs
       ·split at hs
        ·assumption
        ·cases hs
       ·cases hs
     rcases hf1.2.2 x hx r ZAk hxg hgo with h|h
     ·exact hA _ (agZ.1 h)
     ·exfalso;have hmt:meetN x.wr r.ft=true:=by
       have:∀{l:List Nat},id∈l->meetN l r.ft=true:=fun{l}=>by
        induction l with
        |nil=>intro h;cases h
        |cons y l ih=>
         intro h;simp only[meetN,ZAl];rcases ZAU.1 h with rfl|h
         ·exact .inl (agZ.2 hid)
         ·exact .inr (ih h)
       exact this (agZ.1 hxw.2)
      simp[clash,hxw.1,hmt] at h
    have foot2:∀id∈r.ft,∀x∈l2,(x.hpE id).isSome=true->listed.getD x.i false=false:=fun id hid x hx hs=>by
     have hxt:=t2 x (by rw[hsplit];exact List.mem_append_right _ (ZAc _ hx));have hxg:x.go=true:=by
      cases hxg:x.go
      ·have:=(hxt.no hxg).2;simp[Rc.hpE,this] at hs
      ·rfl
     have hxw:isR P x.o=false/\memN id x.wr=true:=by
      rcases hxt.yes hxg with⟨_,_,y⟩|⟨y,_⟩
      ·simp[Rc.hpE,y] at hs
      ·refine⟨y,?_⟩;unfold Rc.hpE at hs;split at hs
       ·split at hs
        ·assumption
        ·cases hs
       ·cases hs
     rcases(ZBJ.1 hf1.2.1).1 x hx hgo hxg with h|h
     ·exact hB _ (agZ.1 h)
     ·exfalso;have hmt:meetN x.wr r.ft=true:=by
       have:∀{l:List Nat},id∈l->meetN l r.ft=true:=fun{l}=>by
        induction l with
        |nil=>intro h;cases h
        |cons y l ih=>
         intro h;simp only[meetN,ZAl];rcases ZAU.1 h with rfl|h
         ·exact .inl (agZ.2 hid)
         ·exact .inr (ih h)
       exact this (agZ.1 hxw.2)
      simp[clash,hxw.1,hmt] at h
    have hfoot:∀id∈r.ft,hpAt H id=hpAt r.st.hp id:=fun id hid=>by
     rw[<-hhp id,hsplit,i3Z (f:=Rc.hpE id) (S:=fun i=>listed.getD i false) hSi (foot1 id hid) (foot2 id hid)];exact u2 id
    let F:Nat->Bool:=fun id=>memN id r.ft
    have hfoc:HRep (z.foc H F) (hsub r.st.hp r.ft):=qRZ hH (fun id=>by
     rw[(bGZ _ _ id).1];show _=if memN id r.ft=true then _ else _;split
     ·rename_i hm;exact(congrArg Prod.snd (hfoot id (agZ.1 hm))).symm
     ·rfl) (fun id=>by
     rw[(bGZ _ _ id).2];show _=(memN id r.ft&&_);cases hm:memN id r.ft
     ·rfl
     ·rw[show hkey r.st.hp id=hkey H id from(congrArg Prod.fst (hfoot id (agZ.1 hm))).symm])
    classical
    let r':Operand->AV:=fun x=>if x∈r.o.op.operands then r.st.opnd x else .junk
    have hr':∀x∈r.o.op.operands,r.st.opnd x=r' x:=fun x hx=>(ZAO hx).symm;have hrep:∀x,ARep (z.foc H F) (r' x) (a.eval x):=fun x=>by
     by_cases hx:x∈r.o.op.operands
     ·rw[<-hr' x hx];exact(hopn x hx).less rfl rfl fun g h=>h
     ·show ARep _ (if x∈r.o.op.operands then r.st.opnd x else .junk) _;rw[ZAM hx];exact .junk _
    rcases hok.yes hgo with⟨_,y1,y2⟩|⟨_,y1,y2,Hr,y3,y4,y5'⟩
    ·rw[mrZ hr'] at y1;refine pdZ (z:=z.foc H F) y1 hfoc hrep fun x v q1 q2=> ?_;simp only[ZAG] at q2;subst q2;exact hnext _ _ (put z H v (Nx.refl z) hH (q1.less rfl rfl fun g h=>h) (same y2))
    ·have y5:=y5'.1;rw[m4Z hr'] at y4;have hidF:∀id,rt id∈r.an.ids->¬(z.foc H F).D id:=fun id hid hd=>by
      rcases hd with hd|⟨_,hd⟩
      ·exact hD id hd
      ·have:F (rt id)=true:=agZ.2 (by
        unfold Rc.ft foot;rw[eaZ];exact ZBU _ (List.mem_append_right _ hid))
       rw[this] at hd;cases hd
     refine ptZ (z:=z.foc H F) hT y4 hfoc hidF (fun hm hdd=>by
      have hmem:r.an.ids.headD 0∈r.an.ids:=by
       cases hids:r.an.ids with
       |nil=>exact absurd hids (y1 hm)
       |cons x l=>simp
      rcases hdd with hdd|⟨hkx,hdd⟩
      ·exact hD _ hdd
      ·have hst:=b7Z y5'.2 (show r.an.ids.headD 0∈r.ft from by
        unfold Rc.ft foot;rw[eaZ];exact ZBU _ (List.mem_append_right _ hmem))
       exact hidF _ (by rw[aWZ hst];exact hmem) (.inr ⟨hkx,hdd⟩)) (fun m hm=>by
      rcases kAZ.1 y2 m hm with h4|h4
      ·exact .inl h4
      ·refine .inr fun hdd=> ?_;rcases hdd with hdd|⟨_,hdd⟩
       ·exact hD _ hdd
       ·have hst:=b7Z y5'.2 h4;rw[aWZ hst] at hdd;have:F (m+100000)=true:=agZ.2 h4;rw[this] at hdd;cases hdd) hrep fun x v H' z' q1 q2 q3 q4=> ?_
     simp only[ZAG,ZAp] at q4;obtain⟨rfl,rfl⟩:=q4;have hkF:∀id,hkey H' id=true->F id=true:=fun id hkk=>agZ.2 (bUZ.1 y5 id (dLZ.1 hkk));obtain⟨z3,m1,m2,m3,m4,m5⟩:=kqZ (H3:=setAll (killAll H r.ft) H') hH q2 q1 hkF (fun id=>by
      rw[aPZ,aVZ]) (fun id hh=>by
      rw[aCZ,aNZ];rcases hh with hh|hh<;>simp[hh]) (fun id hh=>by
      rw[aCZ,aNZ] at hh;simp only[ZAl] at hh;rcases hh with hh|hh|hh
      ·exact .inl hh
      ·exact .inr (.inr ⟨b7Z y5'.2 (agZ.1 hh),fun x _=>hD x⟩)
      ·exact .inr (.inl hh))
     rw[<-m1];have m6:=HRep.refz (F:=fzIds r.st.hp r.ft) (m5.kp hH.sub) hH m4 (H1:=r.st.hp) fun i hi=>by
      have hi2:=agZ.2 hi;rw[(cMZ r.st.hp i _).1,ZAD] at hi2;obtain⟨q5,b,q6⟩:=j4Z hi2.2;exact⟨b,q5,q6,by rw[<-q6];exact congrArg Prod.snd (hfoot i (agZ.1 hi2.1))⟩
     refine hnext _ _ (put z3 _ v m5 m6 (q3.less m1 m3 fun g h=>by rw[<-m2];exact h) fun id=> ?_);by_cases hm:memN id r.wr=true
     ·have hm':=hm;rw[show r.wr=wrIds r.st.hp r.ft from rfl,(cMZ r.st.hp id _).2,ZAD,ZAd] at hm';rw[hsplit,(fFZ (f:=Rc.hpE id) (S:=fun i=>listed.getD i false) (S':=fun j=>(listed.setIfInBounds i true).getD j false) hSi hS' hS1 hS2).1 (true,if hkey H' id=true then hget H' id else none) (by simp[Rc.hpE,y3,hm]) (foot2 id (agZ.1 hm'.1))];unfold hpAt;rw[aCZ,aPZ,aCZ,aPZ,aNZ,aVZ,(bGZ _ _ id).1,(bGZ _ _ id).2,(cMZ r.st.hp id _).1];simp[hm'.1,hm'.2]
     ·rw[hsplit,(fFZ (f:=Rc.hpE id) (S:=fun i=>listed.getD i false) (S':=fun j=>(listed.setIfInBounds i true).getD j false) hSi hS' hS1 hS2).2 (by simp[Rc.hpE,y3,hm]),<-hsplit];rw[hhp id];have hm':=Bool.eq_false_iff.2 hm;rw[show r.wr=wrIds r.st.hp r.ft from rfl,(cMZ r.st.hp id _).2] at hm';unfold hpAt;rw[aCZ,aPZ,aCZ,aPZ,aNZ,aVZ,(bGZ _ _ id).1,(bGZ _ _ id).2,(cMZ r.st.hp id _).1];cases hft:memN id r.ft
      ·have hk0:hkey H' id=false:=by
        cases hk0:hkey H' id
        ·rfl
        ·have:=hkF id hk0;rw[show F id=memN id r.ft from rfl,hft] at this;cases this
       simp[hk0]
      ·rw[hft] at hm';have hz:isFz r.st.hp id=true:=by simpa using hm'
       obtain⟨_,b,hb⟩:=j4Z hz;have hh:=hfoot id (agZ.1 hft);simp only[hpAt,ZAp] at hh;simp[hz,ahZ hb,hh.1,hh.2,hb]
  intro fuel;induction fuel with
  |zero=>
   intro listed a w hf hj;have hr:Region.ready .any ops listed=[]:=by
    cases hr:Region.ready .any ops listed with
    |nil=>rfl
    |cons i l=>
     have hi:i∈Region.ready .any ops listed:=by rw[hr];exact ZAk
     obtain⟨h1,o,h2,_⟩:=mem_ready.1 hi;have:i∈(List.range ops.size).filter fun j=> !listed.getD j true:=by
      rw[List.mem_filter];exact⟨ZB5.2 (ZBC.1 h2).1,by rw[h1];rfl⟩
     have:=List.length_pos_of_mem this;omega
   exact⟨hr,fin listed a w hr hj⟩
  |succ fuel ih=>
   intro listed a w hf hj;refine⟨fun hr=>fin listed a w hr hj,fun i hi=> ?_⟩;refine step listed a w i _ hi hj fun a' w' hj'=>ih _ a' w' ?_ hj';obtain⟨_,_,_,_,_,_,_,_,_,_,_,hsz,_⟩:=hj;have:=ghZ hsz (mem_ready.1 hi).1;omega
 obtain⟨z,rfl,hn,hD,hH,hs,hLs,hdf,hnt,_⟩:=hi;have hempty:(recs.filter fun r=>(Array.replicate ops.size false).getD r.i false)=[]:=by
  rw[List.filter_eq_nil_iff];intro r _;simp[Array.getElem?_replicate];split<;>rfl
 refine main ops.size _ a z.w ?_ ⟨z,st.hp,rfl,hn,hD,hH,fun id=>by rw[hempty];rfl,fun t=>by rw[hempty];exact hs t,hLs,hdf,hnt,by simp,fun j hj=> ?_⟩
 ·have:((List.range ops.size).filter fun j=> !(Array.replicate ops.size false).getD j true)=List.range ops.size:=by
   rw[ZBs];intro j hj;simp[ZB5.1 hj]
  rw[this];simp
 ·exfalso;simp[Array.getElem?_replicate] at hj;split at hj<;>simp at hj
end
end Go.Ab
