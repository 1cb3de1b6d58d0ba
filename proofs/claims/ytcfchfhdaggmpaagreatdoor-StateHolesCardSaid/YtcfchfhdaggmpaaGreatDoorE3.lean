/- An evaluator of the model's code over plain values, and its soundness; of no program. -/
import Derived.Test.YtcfchfhdaggmpaaGreatDoorE2
import Derived.Orders
set_option linter.all false
namespace Go.Ab
theorem ZAX.{u}:type_of% @List.getElem?_cons_zero.{u}:=@List.getElem?_cons_zero.{u}
theorem ZAl.{u}:type_of% @List.mem_cons_self.{u}:=@List.mem_cons_self.{u}
theorem ZBE:type_of% @Bool.or_eq_false_iff:=@Bool.or_eq_false_iff
theorem ZBJ.{u}:type_of% @List.pairwise_cons.{u}:=@List.pairwise_cons.{u}
theorem ZBQ.{u}:type_of% @List.mem_singleton.{u}:=@List.mem_singleton.{u}
theorem ZBc.{u}:type_of% @List.mem_append_left.{u}:=@List.mem_append_left.{u}
theorem ZBh.{u}:type_of% @Option.isSome_iff_exists.{u}:=@Option.isSome_iff_exists.{u}
theorem ZBz.{u}:type_of% @List.pairwise_append.{u}:=@List.pairwise_append.{u}
theorem ZCC:type_of% @List.mem_range:=@List.mem_range
end Go.Ab
namespace Go.Ab
theorem flZ:(ts:List Ty)->(x:HL ts)->untidy ts (tidy ts x)=x
 |[],_=>rfl
 |[_],x=>rfl
 |_::u::r,x=>by
  show(x.1,untidy (u::r) (tidy (u::r) x.2))=x;rw[flZ (u::r) x.2]
  rfl
section
variable {β : Type} {z : Z}
theorem qdZ{es id i j:Nat}{a:AV}(h:a.own? es id i j=true):a= .own es id i j:=by
 unfold AV.own? at h;split at h
 ·simp only[ZAB,acZ] at h;obtain⟨⟨⟨rfl,rfl⟩,rfl⟩,rfl⟩:=h
  rfl
 ·cases h
theorem owZ{es id i j:Nat}{a:AV}(h:a.ownx? es id j=some i):a= .own es id i j:=by
 unfold AV.ownx? at h;split at h
 ·rename_i es' id' i' j';cases hb:(Nat.beq es es'&&Nat.beq id id'&&Nat.beq j j')<;>rw[hb] at h<;>simp at h;simp only[ZAB,acZ] at hb;obtain⟨⟨rfl,rfl⟩,rfl⟩:=hb;rw[h]
 ·cases h
theorem rqZ{es id:Nat}{y:Nat×Nat}{a:AV}(h:a.sl? es id=some y):a= .sl es id y.1 y.2:=by
 unfold AV.sl? at h;split at h
 ·rename_i es' id' i n;cases hb:(Nat.beq es es'&&Nat.beq id id')<;>rw[hb] at h<;>simp at h;simp only[ZAB,acZ] at hb;obtain⟨rfl,rfl⟩:=hb;rw[<-h]
 ·cases h
theorem qsZ{es id:Nat}{a:AV}(h:a.slf? es id=true):a= .slf es id:=by
 unfold AV.slf? at h;split at h
 ·simp only[ZAB,acZ] at h;obtain⟨rfl,rfl⟩:=h
  rfl
 ·cases h
theorem qWZ{id:Nat}{a:AV}(h:a.mp? id=true):a= .mp id:=by
 unfold AV.mp? at h;split at h
 ·rw[acZ] at h;rw[h]
 ·cases h
theorem qOZ{u:Ty}{l:List u.den}{a:AV}(h:a.pt? u=some l):a= .pt u l 0 0:=by
 unfold AV.pt? at h;split at h
 ·split at h
  ·rename_i t l' ht;subst ht;simp at h;rw[h]
  ·cases h
 ·cases h
theorem qVZ{f:FuncId}{y:List AV×List AV}{a:AV}{v:Value}(h:a.fn? f=some y)(ha:ARep z a v):ARep z (.fn f y.1 y.2) v:=by
 unfold AV.fn? at h;split at h
 ·rename_i g a c;cases hb:Nat.beq f g<;>rw[hb] at h<;>simp at h;rw[acZ] at hb;subst hb;subst h;exact ha
 ·rename_i g a c;cases hb:(Nat.beq f g&&(Nat.beq a.size 0&&Nat.beq c.size 0))<;>rw[hb] at h<;>simp at h;simp only[ZAB,acZ] at hb;obtain⟨rfl,h1,h2⟩:=hb;subst h;obtain rfl:=ha.v.opq.1;exact .fn _ _ _ _ _ h1 h2 (fun i x v h=>by simp at h) (fun i x v h=>by simp at h)
 ·cases h
theorem omZ{v x:Value}(h:nilV? v x=true):x=v:=by
 unfold nilV? at h;split at h<;>first|rfl|cases h
theorem qEZ{v:Value}{a:AV}(h:a.nil? v=true):a= .p .opq v:=by
 unfold AV.nil? at h;split at h
 ·rw[omZ h]
 ·cases h
theorem qoZ{a:AV}{l:List AV}{v:Value}(h:cellsA a=some l)(hg:aggA a=true)(ha:ARep z a v):∃cs,v= .agg cs:=by
 obtain⟨_,_,q3⟩:=caZ h ha;rw[hg] at q3;exact⟨_,q3⟩
mutual
theorem co_ok:(k:Kd)->{r:List Ty}->{a:AV}->{x:HL r}->{K:HL (k.lv r)->Option β}->{res:β}->{v:Value}->co k r a x K=some res->ARep z a v->
 ∃y,K y=some res/\ARep z (emb k r y).1 v/\(emb k r y).2=x
 |.p t,r,a,x,K,res,v,h,ha=>by
  have h:asA t a (fun y=>K (y,x))=some res:=h;obtain⟨y,h1,h2⟩:=bxZ h ha;exact⟨(y,x),h2,.p _ _ _ h1,rfl⟩
 |.pt t,r,a,x,K,res,v,h,ha=>by
  obtain⟨l,h1,h2⟩:=agZ.1 h;rw[qOZ h1] at ha;exact⟨(l,x),h2,ha,rfl⟩
 |.own es id i j,r,a,x,K,res,v,h,ha=>by
  obtain⟨h1,h2⟩:=aeZ.1 h;rw[qdZ h1] at ha;exact⟨x,h2,ha,rfl⟩
 |.ownx es id j,r,a,x,K,res,v,h,ha=>by
  obtain⟨i,h1,h2⟩:=agZ.1 h;rw[owZ h1] at ha;exact⟨(i,x),h2,ha,rfl⟩
 |.sl es id,r,a,x,K,res,v,h,ha=>by
  obtain⟨y,h1,h2⟩:=agZ.1 h;rw[rqZ h1] at ha;exact⟨(y.1,y.2,x),h2,ha,rfl⟩
 |.slf es id,r,a,x,K,res,v,h,ha=>by
  obtain⟨h1,h2⟩:=aeZ.1 h;rw[qsZ h1] at ha;exact⟨x,h2,ha,rfl⟩
 |.mp id,r,a,x,K,res,v,h,ha=>by
  obtain⟨h1,h2⟩:=aeZ.1 h;rw[qWZ h1] at ha;exact⟨x,h2,ha,rfl⟩
 |.any,r,a,x,K,res,v,h,ha=>⟨x,h,.junk v,rfl⟩
 |.fn f ka kc,r,a,x,K,res,v,h,ha=>by
  obtain⟨y,h1,h2⟩:=agZ.1 h;obtain⟨h3,h4⟩:=aeZ.1 h2;simp only[ZAB,acZ] at h3;have hf:=qVZ h1 ha;cases hf with|fn _ _ _ va vc e1 e2 e3 e4=>
  obtain⟨y1,q1,q2,q3⟩:=fdZ kc (vs:=vc.toList) h4 ⟨by simp[e2],fun i a v p1 p2=>e4 i a v p1 (by simpa using p2)⟩ h3.2;obtain⟨y2,q4,q5,q6⟩:=fdZ ka (vs:=va.toList) q1 ⟨by simp[e1],fun i a v p1 p2=>e3 i a v p1 (by simpa using p2)⟩ h3.1;refine⟨y2,q4,?_,by simp only[emb,q6,q3]⟩;simp only[emb,q6];refine .fn _ _ _ _ _ (by have:=q5.1;simpa using this.symm) (by have:=q2.1;simpa using this.symm) (fun i x v p1 p2=>q5.2 i x v p1 (by simpa using p2)) (fun i x v p1 p2=>q2.2 i x v p1 (by simpa using p2))
 |.agg l,r,a,x,K,res,v,h,ha=>by
  obtain⟨c,h1,h2⟩:=agZ.1 h;obtain⟨h3,h4⟩:=aeZ.1 h2;simp only[ZAB,acZ] at h3;obtain⟨cs,rfl⟩:=qoZ h1 h3.1 ha;obtain⟨p1,p2,_⟩:=caZ h1 ha;obtain⟨y,q1,q2,q3⟩:=fdZ l (vs:=cs.toList) h4 p1 h3.2;refine⟨y,q1,?_,by simp only[emb,q3]⟩;simp only[emb];exact .agg _ _ (by have:=q2.1;simpa using this.symm) (fun v hv=>p2 v hv) fun i x v e1 e2=>q2.2 i x v e1 (by simpa using e2)
 |.tup l,r,a,x,K,res,v,h,ha=>by
  obtain⟨c,h1,h2⟩:=agZ.1 h;obtain⟨h3,h4⟩:=aeZ.1 h2;rw[acZ] at h3;obtain⟨vs,rfl,p1,p2⟩:=hEZ h1 ha;obtain⟨y,q1,q2,q3⟩:=fdZ l (vs:=vs.toList) h4 ⟨by simp[p1],fun i a v e1 e2=>p2 i a v e1 (by simpa using e2)⟩ h3;refine⟨y,q1,?_,by simp only[emb,q3]⟩;simp only[emb];exact .tup _ _ (by have:=q2.1;simpa using this.symm) fun i x v e1 e2=>q2.2 i x v e1 (by simpa using e2)
 |.nilp u,r,a,x,K,res,v,h,ha=>by
  obtain⟨h1,h2⟩:=aeZ.1 h;rw[qEZ h1] at ha;exact⟨x,h2,ha,rfl⟩
theorem fdZ:(k:KdL)->{r:List Ty}->{c:List AV}->{x:HL r}->{K:HL (k.lv r)->Option β}->{res:β}->{vs:List Value}->coL k r c x K=some res->AReps z c vs->c.length=k.length->
 ∃y,K y=some res/\AReps z (embL k r y).1 vs/\(embL k r y).2=x
 |.nil,r,c,x,K,res,vs,h,hc,hl=>by
  obtain rfl:c=[]:=ZAR hl;exact⟨x,h,hc,rfl⟩
 |.cons k l,r,[],x,K,res,vs,h,hc,hl=>by simp[KdL.length] at hl
 |.cons k l,r,a::c,x,K,res,[],h,hc,hl=>by have:=hc.1;simp at this
 |.cons k l,r,a::c,x,K,res,v::vs,h,hc,hl=>by
  simp only[coL,List.tail_cons,List.headD_cons] at h;obtain⟨y1,q1,q2,q3⟩:=fdZ l h hc.tail (by simpa[KdL.length] using hl);obtain⟨y2,q4,q5,q6⟩:=co_ok k q1 hc.head;refine⟨y2,q4,?_,by simp only[embL,q6,q3]⟩;simp only[embL,q6];exact .cons q5 q2
end
def Blk.isFam:Blk->Bool
 |.fam _ _ _=>true
 |_=>false
def EX(z:Z)(id:Nat)(e:Ent):Prop:=e.b.isFam=false->ERep z id e
theorem HRep.ex{H:Hp}(hH:HRep z H){id:Nat}{e:Ent}(h:hget H id=some e):EX z id e:=fun hf=>by
 have h1:=hH.fam id e h;obtain⟨fz,b⟩:=e;have h2:id<famBase:=by cases b<;>first|exact h1|cases hf
 exact hH.ent id _ (by rw[aqZ h2];exact h)
theorem qfZ{k:BKd}{r:List Ty}{b:Blk}{x:HL r}{K:HL (k.lv r)->Option β}{res:β}(h:coB k r b x K=some res):
 (b.isFam=true->∃y,K y=some res/\(embB k r y).1=b/\(embB k r y).2=x)/\∀y:HL (k.lv r),(embB k r y).1.isFam=b.isFam:=by
 cases k with
 |vars l=>
  obtain⟨c,h1,h2⟩:=agZ.1 h;unfold Blk.vars? at h1;split at h1
  ·exact⟨fun h=>(by cases h),fun _=>rfl⟩
  ·cases h1
 |rows e t=>
  obtain⟨l,h1,h2⟩:=agZ.1 h;unfold Blk.rows? at h1;split at h1
  ·exact⟨fun h=>(by cases h),fun _=>rfl⟩
  ·cases h1
 |map kt vt=>
  obtain⟨m,h1,h2⟩:=agZ.1 h;unfold Blk.map? at h1;split at h1
  ·exact⟨fun h=>(by cases h),fun _=>rfl⟩
  ·cases h1
 |fam e s=>
  obtain⟨m,h1,h2⟩:=agZ.1 h;unfold Blk.fam? at h1;split at h1
  ·rename_i e' t' l';cases hb:Nat.beq e e'<;>rw[hb] at h1<;>simp at h1;rw[acZ] at hb;subst hb;obtain⟨ht,h1⟩:=h1;subst ht;subst h1;exact⟨fun _=>⟨(l',x),h2,rfl,rfl⟩,fun _=>rfl⟩
  ·cases h1
theorem p9Z{k:BKd}{r:List Ty}{b:Blk}{x:HL r}{K:HL (k.lv r)->Option β}{res:β}(h:coB k r b x K=some res):
 (∀{g sz n:Nat},BRep z g sz n b->∃y,K y=some res/\BRep z g sz n (embB k r y).1/\(embB k r y).2=x)/\(BEmpty b->∃y,K y=some res/\BEmpty (embB k r y).1/\(embB k r y).2=x):=by
 cases k with
 |vars l=>
  obtain⟨c,h1,h2⟩:=agZ.1 h;unfold Blk.vars? at h1;split at h1
  ·rename_i c';cases hb:Nat.beq c'.length l.length<;>rw[hb] at h1<;>simp at h1;subst h1;rw[acZ] at hb;refine⟨fun{g sz n} hB=> ?_,fun hB=>hB.elim⟩;obtain⟨cs,e,fr,a1,a2,a3,⟨a4,an⟩,a5,a6⟩:=hB;obtain⟨y,q1,q2,q3⟩:=fdZ l (vs:=cs.toList) h2 ⟨by simp[a4,a3],fun i a v p1 p2=>a5 i a v p1 (by simpa using p2)⟩ hb;refine⟨y,q1,?_,by simp only[embB,q3]⟩;simp only[embB];exact⟨cs,e,fr,a1,a2,a3,⟨by have:=q2.1;simp[a3] at this;exact this,an⟩,fun i a v p1 p2=>q2.2 i a v p1 (by simpa using p2),a6⟩
  ·cases h1
 |rows e t=>
  obtain⟨l,h1,h2⟩:=agZ.1 h;unfold Blk.rows? at h1;split at h1
  ·rename_i e' t' l';cases hb:Nat.beq e e'<;>rw[hb] at h1<;>simp at h1;rw[acZ] at hb;subst hb;obtain⟨ht,h1⟩:=h1;subst ht;subst h1;exact⟨fun hB=>⟨(l',x),h2,hB,rfl⟩,fun hB=>⟨(l',x),h2,hB,rfl⟩⟩
  ·cases h1
 |map kt vt=>
  obtain⟨m,h1,h2⟩:=agZ.1 h;unfold Blk.map? at h1;split at h1
  ·rename_i k' v' m';split at h1
   ·rename_i hm;have e1:k'=kt/\v'=vt:=by
     unfold mapTy at hm;injection hm with e1 e2;injection e1 with e1;injection e1 with e1 e3;injection e1 with e1 e4;exact⟨e1,e4⟩
    obtain⟨rfl,rfl⟩:=e1;simp only[ZAI] at h1;subst h1;exact⟨fun hB=>⟨(m',x),h2,hB,rfl⟩,fun hB=>hB.elim⟩
   ·cases h1
  ·cases h1
 |fam e s=>
  obtain⟨m,h1,h2⟩:=agZ.1 h;unfold Blk.fam? at h1;split at h1
  ·exact⟨fun hB=>hB.elim,fun hB=>hB.elim⟩
  ·cases h1
theorem q6Z{k:BKd}{r:List Ty}{id:Nat}{e:Ent}{x:HL r}{K:HL (k.lv r)->Option β}{res:β}(h:coB k r e.b x K=some res)(he:ERep z id e):
 ∃y,K y=some res/\ERep z id ⟨e.fz,(embB k r y).1⟩/\(embB k r y).2=x:=by
 unfold ERep at*;cases hρ:z.ρ id with
 |no=>rw[hρ] at he;exact he.elim
 |virt=>
  rw[hρ] at he;exact(p9Z (z:=z) h).2 he
 |real g sz n=>
  rw[hρ] at he;obtain⟨h1,h2,h3,h4⟩:=he;obtain⟨y,q1,q2,q3⟩:=(p9Z h).1 h4;exact⟨y,q1,⟨h1,h2,h3,q2⟩,q3⟩
theorem rlZ{k:BKd}{r:List Ty}{id:Nat}{e:Ent}{x:HL r}{K:HL (k.lv r)->Option β}{res:β}(h:coB k r e.b x K=some res)(he:EX z id e):
 ∃y,K y=some res/\EX z id ⟨e.fz,(embB k r y).1⟩/\(embB k r y).2=x/\(embB k r y).1.isFam=e.b.isFam/\(e.b.isFam=true->(embB k r y).1=e.b):=by
 obtain⟨q1,q2⟩:=qfZ h;cases hf:e.b.isFam
 ·obtain⟨y,p1,p2,p3⟩:=q6Z h (he hf);exact⟨y,p1,fun _=>p2,p3,(q2 y).trans hf,fun h=>by cases h⟩
 ·obtain⟨y,p1,p2,p3⟩:=q1 hf;refine⟨y,p1,fun h=> ?_,p3,(q2 y).trans hf,fun _=>p2⟩;have h':(embB k r y).1.isFam=false:=h;rw[q2 y,hf] at h';cases h'
theorem oBZ{fz:Bool}{H:Hp}{id:Nat}{b:Blk}(h:hblk? fz H id=some b):hget H id=some ⟨fz,b⟩:=by
 unfold hblk? at h;split at h
 ·rename_i e he;cases hb:(e.fz==fz)<;>rw[hb] at h<;>simp at h;obtain⟨f,b'⟩:=e;simp at hb h;rw[he,hb,h]
 ·cases h
structure Made (H:Hp) (id:Nat) (e:Ent):Prop where
 from_:∃e0,hget H id=some e0/\e0.fz=e.fz/\e.b.isFam=e0.b.isFam/\(e0.b.isFam=true->e=e0)
theorem pEZ{H:Hp}(hH:∀id e,hget H id=some e->EX z id e):(hs:HK)->{r:List Ty}->{x:HL r}->{K:HL (hkLv hs r)->Option β}->{res:β}->coH hs r H x K=some res->
 ∃y,K y=some res/\(embH hs r y).2=x/\∀id e,hget (embH hs r y).1 id=some e->EX z id e/\Made H id e
 |[],r,x,K,res,h=>⟨x,h,rfl,fun id e h=>by simp[embH,hget] at h⟩
 |(id,fz,k)::hs,r,x,K,res,h=>by
  obtain⟨b,h1,h2⟩:=agZ.1 h;have hb:=oBZ h1;obtain⟨y1,q1,q2,q3⟩:=pEZ hH hs h2;obtain⟨y2,q4,q5,q6,q7,q8⟩:=rlZ (e:=⟨fz,b⟩) q1 (hH _ _ hb);refine⟨y2,q4,by simp only[embH,q6,q2],fun i e he=> ?_⟩;simp only[embH,q6,hget] at he;cases hi:Nat.beq id i<;>rw[hi] at he<;>simp only[ZAK,ZAE] at he
  ·exact q3 i e he
  ·rw[acZ] at hi;subst hi;injection he with he;subst he;exact⟨q5,⟨_,hb,rfl,q7,fun h=>by rw[q8 h]⟩⟩
theorem Shp.co_ok{s:Shp}{vs:List AV}{H:Hp}{K:s.D->Option β}{res:β}{vals:List Value}(h:s.co vs H K=some res)(hH:∀id e,hget H id=some e->EX z id e)(hv:AReps z vs vals):
 s.ok=true/\∃t,K t=some res/\AReps z (s.emb t).1 vals/\∀id e,hget (s.emb t).2 id=some e->EX z id e/\Made H id e:=by
 unfold Shp.co at h;obtain⟨h1,h2⟩:=aeZ.1 h;simp only[ZAB,acZ] at h1;obtain⟨y,q1,q2,q3⟩:=pEZ hH s.hs h2;obtain⟨y2,q4,q5,q6⟩:=fdZ s.ks q1 hv h1.2;refine⟨h1.1,_,q4,?_⟩;have key:s.emb (tidy s.tys y2)=((embL s.ks (hkLv s.hs []) y2).1,(embH s.hs [] y).1):=by
  show((embL s.ks (hkLv s.hs []) (untidy s.tys (tidy s.tys y2))).1,(embH s.hs [] (embL s.ks (hkLv s.hs []) (untidy s.tys (tidy s.tys y2))).2).1)=_;rw[show untidy s.tys (tidy s.tys y2)=y2 from flZ _ _,q6]
 rw[key];exact⟨q5,q3⟩
end
end Go.Ab
namespace Go.Ab
theorem aiZ{n:Nat}:∀{l:List Nat},memN n l=true↔n∈l
 |[]=>by simp[memN]
 |i::l=>by
  simp only[memN,ZAa];by_cases h:i=n
  ·subst h;simp[(acZ i i).2 rfl]
  ·rw[afZ h,ZAE,aiZ];constructor
   ·exact .inr
   ·rintro(h'|h')
    ·exact absurd h'.symm h
    ·exact h'
theorem bFZ{l:List Nat}:∀{r:List Nat},allIn r l=true↔∀i∈r,i∈l
 |[]=>by simp[allIn]
 |i::r=>by simp only[allIn,ZAB,aiZ,bFZ,ZAa,forall_eq_or_imp]
theorem bVZ:∀{l:List Nat},nodupN l=true↔l.Nodup
 |[]=>by simp[nodupN]
 |i::l=>by
  simp only[nodupN,ZAB,ZAc,List.nodup_cons,bVZ];constructor
  ·rintro⟨h1,h2⟩;exact⟨fun h=>(by rw[aiZ.2 h] at h1;cases h1),h2⟩
  ·rintro⟨h1,h2⟩;refine⟨?_,h2⟩;cases hm:memN i l
   ·rfl
   ·exact absurd (aiZ.1 hm) h1
theorem cHZ{l:List AV}{a:AV}{id:Nat}(h:a∈l)(hi:id∈AV.ids a):id∈AV.idsL l:=by
 induction l with
 |nil=>cases h
 |cons b l ih=>
  simp only[AV.idsL,ZAh];rcases ZAa.1 h with rfl|h
  ·exact .inl hi
  ·exact .inr (ih h)
theorem cuZ(f:Nat->Option Nat)(l:List AV)(i:Nat):(AV.renL f l)[i]? =(l[i]?).map (AV.ren f):=by
 induction l generalizing i with
 |nil=>simp[AV.renL]
 |cons a l ih=>
  match i with
  |0=>simp[AV.renL]
  |i+1=>simpa[AV.renL] using ih i
theorem bNZ(f:Nat->Option Nat)(l:List AV):(AV.renL f l).length=l.length:=by
 induction l with
 |nil=>rfl
 |cons a l ih=>simp[AV.renL,ih]
section
variable {z z' : Z}
theorem ARep.ren{a:AV}{v:Value}{f:Nat->Option Nat}(h:ARep z a v)(hw:z'.w=z.w)(hM:z'.M=z.M)(hd:Agr z.ρ z'.ρ fun fs=>a.famInT fs)(hf:∀id k,id∈AV.ids a->f id=some k->z'.ρ k=z.ρ id):ARep z' (AV.ren f a) v:=by
 obtain⟨w',M',C',ρ',D'⟩:=z';simp only at hw hM hd hf;subst hw;subst hM;induction h with
 |p t x v h=>exact .p t x v (h.to hd)
 |pt t l i j b off h1 h2 h3=>exact .pt t l i j b off h1 h2 (h3.to hd)
 |own es id i j g sz n h=>
  simp only[AV.ren];cases hk:f id with
  |none=>exact .junk _
  |some k=>exact .own es k i j g sz n (by show ρ' k=_;rw[hf id k (by simp[AV.ids]) hk,h])
 |rp g es k' i j g' sz n h=>
  refine .rp g es k' i j g' sz n ?_;show ρ' (enc g k')=_;rcases hd with hd|⟨fs,h1,h2⟩
  ·rw[hd _ (bvZ g k') (by rw[h];intro h;cases h),h]
  ·rw[h1 g k' h2 (by rw[h];intro h;cases h),h]
 |slV es id off A h=>
  simp only[AV.ren];cases hk:f id with
  |none=>exact .junk _
  |some k=>exact .slV es k off A (by show ρ' k=_;rw[hf id k (by simp[AV.ids]) hk,h])
 |slE es id off g sz m o h=>
  simp only[AV.ren];cases hk:f id with
  |none=>exact .junk _
  |some k=>exact .slE es k off g sz m o (by show ρ' k=_;rw[hf id k (by simp[AV.ids]) hk,h])
 |sl es id off n g sz m c h h1 h2 h3=>
  simp only[AV.ren];cases hk:f id with
  |none=>exact .junk _
  |some k=>exact .sl es k off n g sz m c (by show ρ' k=_;rw[hf id k (by simp[AV.ids]) hk,h]) h1 h2 h3
 |slfV es id A h=>
  simp only[AV.ren];cases hk:f id with
  |none=>exact .junk _
  |some k=>exact .slfV es k A (by show ρ' k=_;rw[hf id k (by simp[AV.ids]) hk,h])
 |slf es id g sz n c h h1 h2 h3=>
  simp only[AV.ren];cases hk:f id with
  |none=>exact .junk _
  |some k=>exact .slf es k g sz n c (by show ρ' k=_;rw[hf id k (by simp[AV.ids]) hk,h]) h1 h2 h3
 |mp id g sz n h=>
  simp only[AV.ren];cases hk:f id with
  |none=>exact .junk _
  |some k=>exact .mp k g sz n (by show ρ' k=_;rw[hf id k (by simp[AV.ids]) hk,h])
 |fn g a c va vc ha hc h1 h2 ih1 ih2=>
  simp only[AV.ren];refine .fn g _ _ va vc (by rw[bNZ];exact ha) (by rw[bNZ];exact hc) (fun i x v p1 p2=> ?_) (fun i x v p1 p2=> ?_)
  ·rw[cuZ] at p1;obtain⟨y,p3,rfl⟩:=ZAH.1 p1;exact ih1 i y v p3 p2 (hd.mono fun fs h=>by simp only[AV.famInT,ZAB] at h;exact aXZ h.1 (ZAN p3)) fun id k hi hk=>hf id k (by simp only[AV.ids,ZAh];exact .inl (cHZ (ZAN p3) hi)) hk
  ·rw[cuZ] at p1;obtain⟨y,p3,rfl⟩:=ZAH.1 p1;exact ih2 i y v p3 p2 (hd.mono fun fs h=>by simp only[AV.famInT,ZAB] at h;exact aXZ h.2 (ZAN p3)) fun id k hi hk=>hf id k (by simp only[AV.ids,ZAh];exact .inr (cHZ (ZAN p3) hi)) hk
 |agg l cs hs h1 h ih=>
  simp only[AV.ren];refine .agg _ cs (by rw[bNZ];exact hs) h1 fun i x v p1 p2=> ?_;rw[cuZ] at p1;obtain⟨y,p3,rfl⟩:=ZAH.1 p1;exact ih i y v p3 p2 (hd.mono fun fs h=>aXZ h (ZAN p3)) fun id k hi hk=>hf id k (by simp only[AV.ids];exact cHZ (ZAN p3) hi) hk
 |tup l vs hs h ih=>
  simp only[AV.ren];refine .tup _ vs (by rw[bNZ];exact hs) fun i x v p1 p2=> ?_;rw[cuZ] at p1;obtain⟨y,p3,rfl⟩:=ZAH.1 p1;exact ih i y v p3 p2 (hd.mono fun fs h=>aXZ h (ZAN p3)) fun id k hi hk=>hf id k (by simp only[AV.ids];exact cHZ (ZAN p3) hi) hk
 |junk v=>exact .junk v
theorem AReps.ren{l:List AV}{vs:List Value}{f:Nat->Option Nat}(h:AReps z l vs)(hw:z'.w=z.w)(hM:z'.M=z.M)(hd:Agr z.ρ z'.ρ fun fs=>AV.famInTL fs l)(hf:∀id k,id∈AV.idsL l->f id=some k->z'.ρ k=z.ρ id):AReps z' (AV.renL f l) vs:=by
 refine⟨by rw[bNZ];exact h.1,fun i a v p1 p2=> ?_⟩;rw[cuZ] at p1;obtain⟨y,p3,rfl⟩:=ZAH.1 p1;exact(h.2 i y v p3 p2).ren hw hM (hd.mono fun fs h=>aXZ h (ZAN p3)) fun id k hi hk=>hf id k (cHZ (ZAN p3) hi) hk
mutual
theorem hiZ:(a:AV)->AV.ren some a=a
 |.p _ _|.pt _ _ _ _|.own _ _ _ _|.rp _ _ _ _ _|.sl _ _ _ _|.slf _ _|.mp _|.junk=>rfl
 |.fn g a c=>by simp only[AV.ren,b7Z a,b7Z c]
 |.agg l=>by simp only[AV.ren,b7Z l]
 |.tup l=>by simp only[AV.ren,b7Z l]
theorem b7Z:(l:List AV)->AV.renL some l=l
 |[]=>rfl
 |a::l=>by simp only[AV.renL,hiZ a,b7Z l]
end
theorem ARep.rho{a:AV}{v:Value}(h:ARep z a v)(hw:z'.w=z.w)(hM:z'.M=z.M)(hd:Agr z.ρ z'.ρ fun fs=>a.famInT fs)(hf:∀id∈AV.ids a,z'.ρ id=z.ρ id):ARep z' a v:=by
 have:=h.ren (f:=some) hw hM hd fun id k hi hk=>by
  injection hk with hk;subst hk;exact hf id hi
 rwa [hiZ] at this
theorem AReps.rho{l:List AV}{vs:List Value}(h:AReps z l vs)(hw:z'.w=z.w)(hM:z'.M=z.M)(hd:Agr z.ρ z'.ρ fun fs=>AV.famInTL fs l)(hf:∀id∈AV.idsL l,z'.ρ id=z.ρ id):AReps z' l vs:=by
 have:=h.ren (f:=some) hw hM hd fun id k hi hk=>by
  injection hk with hk;subst hk;exact hf id hi
 rwa [b7Z] at this
theorem BRep.ren{g sz n:Nat}{b:Blk}{f:Nat->Option Nat}{fz:Bool}(h:BRep z g sz n b)(hw:z'.w=z.w)(hM:z'.M=z.M)(hd:Agr z.ρ z'.ρ fun fs=>b.famInT fs)(hf:∀id k,id∈Ent.ids ⟨fz,b⟩->f id=some k->z'.ρ k=z.ρ id):BRep z' g sz n (b.ren f):=by
 cases b with
 |vars c=>
  obtain⟨cs,e,fr,a1,a2,a3,⟨a4,an⟩,a5,a6⟩:=h;refine⟨cs,e,fr,by rw[hw];exact a1,a2,a3,⟨by rw[bNZ];exact a4,an⟩,fun i a v p1 p2=> ?_,a6⟩;rw[cuZ] at p1;obtain⟨y,p3,rfl⟩:=ZAH.1 p1;exact(a5 i y v p3 p2).ren hw hM (hd.mono fun fs h=>aXZ h (ZAN p3)) fun id k hi hk=>hf id k (by simp only[Ent.ids];exact cHZ (ZAN p3) hi) hk
 |rows e t l=>
  obtain⟨cs,fr,a1,a2,a3,a4,a5,a6,a7⟩:=h;refine⟨cs,fr,by rw[hw];exact a1,a2,a3,a4,a5,a6,fun i x hx=> ?_⟩;obtain⟨u,b1,b2⟩:=a7 i x hx;exact⟨u,by rw[hw,hM];exact b1.to hd,b2⟩
 |fam e s ms=>exact h.elim
 |map kt vt m=>
  obtain⟨es,a1,a2,a3,a4⟩:=h;exact⟨es,by rw[hw];exact a1,a2,fun i x e q1 q2=>by rw[hw,hM];exact⟨(a3 i x e q1 q2).1.to (hd.mono fun fs h=>by simp only[Blk.famInT,ZAB] at h;exact h.1),(a3 i x e q1 q2).2.1.to (hd.mono fun fs h=>by simp only[Blk.famInT,ZAB] at h;exact h.2),(a3 i x e q1 q2).2.2⟩,a4⟩
 |fmap kt l=>
  obtain⟨es,clock,a1,a2,a3⟩:=h;refine⟨es,clock,by rw[hw];exact a1,by simp[a2],fun i x e q1 q2=> ?_⟩;rw[ZAW] at q1;obtain⟨y,q3,rfl⟩:=ZAH.1 q1;obtain⟨b1,b2⟩:=a3 i y e q3 q2;refine⟨by rw[hw,hM];exact b1.to (hd.mono fun fs h=>by simp only[Blk.famInT,ZAB] at h;exact h.1),b2.ren hw hM (hd.mono fun fs h=>by simp only[Blk.famInT,ZAB,ZB4] at h;exact h.2 y (ZAN q3)) fun id k hi hk=>hf id k ?_ hk⟩;simp only[Ent.ids,List.mem_flatMap];exact⟨y,ZAN q3,hi⟩
end
end Go.Ab
namespace Go.Ab
theorem cPZ:∀{ps:List (Nat×Nat)} {id k:Nat},noOf ps id=some k->(id,k)∈ps
 |(i,j)::ps,id,k,h=>by
  simp only[noOf] at h;cases hb:Nat.beq i id<;>rw[hb] at h<;>simp only[ZAK,ZAE] at h
  ·exact ZAb _ (cPZ h)
  ·rw[acZ] at hb;simp only[ZAI] at h;subst hb;subst h;exact ZAl
def idOf:List (Nat×Nat)->Nat->Option Nat
 |[],_=>none
 |(i,k)::r,n=>bif Nat.beq k n then some i else idOf r n
theorem aAZ:∀{ps:List (Nat×Nat)} {id k:Nat},idOf ps k=some id->(id,k)∈ps
 |(i,j)::ps,id,k,h=>by
  simp only[idOf] at h;cases hb:Nat.beq j k<;>rw[hb] at h<;>simp only[ZAK,ZAE] at h
  ·exact ZAb _ (aAZ h)
  ·rw[acZ] at hb;simp only[ZAI] at h;subst hb;subst h;exact ZAl
theorem cCZ{ps:List (Nat×Nat)}{id k:Nat}(h:(id,k)∈ps):k∈sndN ps:=by
 induction ps with
 |nil=>cases h
 |cons x ps ih=>
  obtain⟨i,j⟩:=x;rcases ZAa.1 h with h|h
  ·injection h with h1 h2;subst h2;exact ZAl
  ·exact ZAb _ (ih h)
theorem e5Z{ps:List (Nat×Nat)}{id k:Nat}(h:(id,k)∈ps):id∈fstN ps:=by
 induction ps with
 |nil=>cases h
 |cons x ps ih=>
  obtain⟨i,j⟩:=x;rcases ZAa.1 h with h|h
  ·injection h with h1 h2;subst h1;exact ZAl
  ·exact ZAb _ (ih h)
theorem emZ:∀{ps:List (Nat×Nat)} {id k:Nat},(sndN ps).Nodup->(id,k)∈ps->idOf ps k=some id
 |(i,j)::ps,id,k,hn,h=>by
  simp only[sndN,List.nodup_cons] at hn;simp only[idOf];rcases ZAa.1 h with h|h
  ·injection h with h1 h2;subst h1;subst h2;simp[(acZ k k).2 rfl]
  ·have:j≠k:=fun e=>hn.1 (e▸cCZ h);rw[afZ this,ZAE];exact emZ hn.2 h
theorem jAZ:∀{ps:List (Nat×Nat)} {id k:Nat},(fstN ps).Nodup->(id,k)∈ps->noOf ps id=some k
 |(i,j)::ps,id,k,hn,h=>by
  simp only[fstN,List.nodup_cons] at hn;simp only[noOf];rcases ZAa.1 h with h|h
  ·injection h with h1 h2;subst h1;subst h2;simp[(acZ id id).2 rfl]
  ·have:i≠id:=fun e=>hn.1 (e▸e5Z h);rw[afZ this,ZAE];exact jAZ hn.2 h
theorem dnZ{H:Hp}:∀{l:List Nat},liveAll H l=true->∀i∈l,∃e,hget H i=some e
 |[],_,i,h=>by cases h
 |j::l,h,i,hi=>by
  simp only[liveAll,ZAB] at h;rcases ZAa.1 hi with rfl|hi
  ·cases hg:hget H i with
   |none=>rw[hg] at h;exact absurd h.1 (by simp)
   |some e=>exact⟨e,rfl⟩
  ·exact dnZ h.2 i hi
theorem bnZ{H:Hp}{f:Nat->Option Nat}:∀{ps:List (Nat×Nat)},liveAll H (fstN ps)=true->∀k,hget (renH H f ps) k=(idOf ps k).bind (fun id=>(hget H id).map (Ent.ren f))/\hkey (renH H f ps) k=(idOf ps k).isSome
 |[],_,k=>⟨rfl,rfl⟩
 |(i,j)::ps,h,k=>by
  simp only[fstN,liveAll,ZAB] at h;cases hg:hget H i with
  |none=>rw[hg] at h;exact absurd h.1 (by simp)
  |some e=>
   obtain⟨q1,q2⟩:=bnZ (H:=H) (f:=f) h.2 k;simp only[renH,hg,hget,hkey,idOf];cases hb:Nat.beq j k
   ·simp only[ZAE];exact⟨q1,q2⟩
   ·simp[hg]
section
variable {z : Z} {H : Hp}
def Z.ren(z:Z)(H:Hp)(ps:List (Nat×Nat)):Z:=
 {z with ρ:=fun k=>match idOf ps k with|some id=>z.ρ id|none=>if dynBase<=k then z.ρ k else .no,C:=fun g=>∃id e sz n,rt id∈fstN ps/\hgetX H id=some e/\e.fz=false/\z.ρ id= .real g sz n,D:=fun k=>dynBase<=k/\rt k∉sndN ps}
theorem boZ:∀{l:List Nat} {k:Nat},statN l=true->k∈l->k<dynBase
 |[],k,_,h=>by cases h
 |i::l,k,hs,h=>by
  simp only[statN,ZAB] at hs;rcases ZAa.1 h with rfl|h
  ·exact ZBC hs.1
  ·exact boZ hs.2 h
theorem bdZ:∀{ps:List (Nat×Nat)} {i k:Nat},famFix ps=true->(i,k)∈ps->i=k\/(i<famBase/\k<famBase)
 |[],i,k,_,h=>by cases h
 |(a,b)::ps,i,k,hs,h=>by
  simp only[famFix,ZAB,ZAp,acZ,ZBW] at hs;rcases ZAa.1 h with h|h
  ·injection h with h1 h2;subst h1;subst h2;exact hs.1
  ·exact bdZ hs.2 h
theorem Z.ren_dyn{ps:List (Nat×Nat)}(hs:statN (sndN ps)=true){k:Nat}(hk:dynBase<=k):(z.ren H ps).ρ k=z.ρ k:=by
 show(match idOf ps k with|some id=>z.ρ id|none=>if dynBase<=k then z.ρ k else .no)=_;cases h:idOf ps k with
 |none=>simp only[ZAT hk]
 |some id=>
  have:=boZ hs (cCZ (aAZ h));omega
theorem dXZ(e:Ent)(f:Nat->Option Nat)(k:Nat):(e.ren f).has k=e.has k/\(dynBase<=dynBase->pick k (e.ren f)=pick k e):=by
 obtain⟨fz,b⟩:=e;cases b<;>exact⟨rfl,fun _=>rfl⟩
theorem dzZ{e x:Ent}{k:Nat}(h:pick k e=some x)(f:Nat->Option Nat):x.ren f=x/\x.ids=[]:=by
 unfold pick at h;split at h
 ·split at h
  ·split at h
   ·cases h
   ·simp only[ZAI] at h;subst h;exact⟨rfl,rfl⟩
  ·cases h
 ·cases h
def OfX(ps:List (Nat×Nat))(id k:Nat):Prop:=((id,k)∈ps/\id<famBase/\k<famBase)\/(id=k/\dynBase<=k/\(rt k,rt k)∈ps)
theorem OfX.fst{ps:List (Nat×Nat)}{id k:Nat}(h:OfX ps id k):rt id∈fstN ps:=by
 have h0:=cAZ;rcases h with⟨h1,h2,_⟩|⟨rfl,_,h1⟩
 ·rw[aOZ (by omega)];exact e5Z h1
 ·exact e5Z h1
theorem OfX.inj{ps:List (Nat×Nat)}{id k k':Nat}(hn:(fstN ps).Nodup)(h:OfX ps id k)(h':OfX ps id k'):k=k':=by
 have h0:=cAZ;rcases h with⟨h1,h2,_⟩|⟨rfl,h2,h1⟩<;>rcases h' with⟨h3,h4,_⟩|⟨rfl,h4,h3⟩
 ·have a1:=jAZ hn h1;have a2:=jAZ hn h3;rw[a1] at a2;exact ZAk a2
 ·omega
 ·omega
 ·rfl
theorem OfX.ro{ps:List (Nat×Nat)}{id k:Nat}(h:OfX ps id k)(hr:Ro id):Ro k:=by
 rcases h with⟨_,h,_⟩|⟨rfl,_⟩
 ·exact absurd hr (bwZ h)
 ·exact hr
theorem renX{H:Hp}{f:Nat->Option Nat}{ps:List (Nat×Nat)}(h1:(fstN ps).Nodup)(h2:(sndN ps).Nodup)(h3:liveAll H (fstN ps)=true)(hf:famFix ps=true){k:Nat}{e':Ent}(h:hgetX (renH H f ps) k=some e'):
 ∃id e,OfX ps id k/\hgetX H id=some e/\e'=e.ren f:=by
 have h0:=cAZ;by_cases hd:dynBase<=k
 ·rw[a2Z hd,(bnZ h3 (rt k)).1] at h;obtain⟨e0,q1,q2⟩:=ZAF.1 h;obtain⟨id,q3,q4⟩:=ZAF.1 q1;obtain⟨e1,q5,rfl⟩:=ZAH.1 q4;have hm:=aAZ q3;have:id=rt k:=(bdZ hf hm).resolve_right fun h=>by have:=(buZ hd).1;omega
  subst this;rw[(dXZ e1 f _).2 (ZAM _)] at q2;refine⟨k,e',.inr ⟨rfl,hd,hm⟩,?_,(dzZ q2 f).1.symm⟩;rw[a2Z hd,q5];exact q2
 ·by_cases hk:famBase<=k
  ·unfold hgetX at h;rw[ZAQ hd,ZAT hk] at h;cases h
  ·have hk':k<famBase:=ZBK.1 hk;rw[aqZ hk',(bnZ h3 k).1] at h;obtain⟨id,q1,q2⟩:=ZAF.1 h;obtain⟨e,q3,q4⟩:=ZAH.1 q2;have hm:=aAZ q1;have hid:id<famBase:=by
    rcases bdZ hf hm with h|h
    ·omega
    ·exact h.1
   exact⟨id,e,.inl ⟨hm,hid,hk'⟩,by rw[aqZ hid];exact q3,q4.symm⟩
theorem reZ{ps:List (Nat×Nat)}(hH:HRep z H)(h1:nodupN (fstN ps)=true)(h2:nodupN (sndN ps)=true)(h3:liveAll H (fstN ps)=true)(hs:statN (sndN ps)=true)(hf:famFix ps=true):
 HRep (z.ren H ps) (renH H (noOf ps) ps)/\(∀id k,(id,k)∈ps->(z.ren H ps).ρ k=z.ρ id)/\∀g,(z.ren H ps).C g->z.C g:=by
 have h0:=cAZ;rw[bVZ] at h1 h2;have hd:SameDyn z.ρ (z.ren H ps).ρ:=fun id hid _=>Z.ren_dyn hs hid;have hρ:∀id k,(id,k)∈ps->(z.ren H ps).ρ k=z.ρ id:=fun id k h=>by
  show(match idOf ps k with|some id=>z.ρ id|none=>if dynBase<=k then z.ρ k else .no)=_;rw[emZ h2 h]
 have hρX:∀id k,OfX ps id k->(z.ren H ps).ρ k=z.ρ id:=fun id k h=>by
  rcases h with⟨h,_⟩|⟨rfl,h,_⟩
  ·exact hρ id k h
  ·exact Z.ren_dyn hs h
 have hC:∀g,(z.ren H ps).C g->z.C g:=fun g ⟨id,e,sz,n,q1,q2,q3,q4⟩=>(hH.realX q2 q4).2.1 q3;have hlive:∀k,k∈sndN ps->∃id,(id,k)∈ps/\∃e,hget H id=some e:=fun k hk=>by
  have:∀{ps:List (Nat×Nat)},k∈sndN ps->∃id,(id,k)∈ps:=fun{ps}=>by
   induction ps with
   |nil=>intro h;cases h
   |cons x ps ih=>
    obtain⟨i,j⟩:=x;intro h;rcases ZAa.1 h with rfl|h
    ·exact⟨i,ZAl⟩
    ·obtain⟨id,h⟩:=ih h;exact⟨id,ZAb _ h⟩
  obtain⟨id,h⟩:=this hk;obtain⟨e,he⟩:=dnZ h3 id (e5Z h);exact⟨id,h,e,he⟩
 refine⟨⟨fun k e' h=> ?_,fun k k' e e' g sz n g' sz' n' hkk p1 p2 m1 m2 p3 p4=> ?_,fun k h=> ?_,fun g h=>hH.sub g (hC g h),fun k x h=> ?_,fun k h=> ?_,fun k hdk h=> ?_,fun k hk1 hk2=> ?_⟩,hρ,hC⟩
 ·obtain⟨id,e,q1,q2,rfl⟩:=renX h1 h2 h3 hf h;have h0:=hH.ent _ _ q2;unfold ERep at h0⊢;rw[hρX id k q1];cases hr:z.ρ id with
  |no=>rw[hr] at h0;exact h0.elim
  |virt=>
   rw[hr] at h0;obtain⟨fz,b⟩:=e;cases b<;>first|exact h0.elim|exact h0
  |real g sz n=>
   rw[hr] at h0;obtain⟨a1,a2,a3,a4⟩:=h0;exact⟨a1,fun hf=>⟨id,e,sz,n,q1.fst,q2,hf,hr⟩,a3,a4.ren (fz:=e.fz) rfl rfl (.inl hd) fun id' k' _ hk'=>hρ id' k' (cPZ hk')⟩
 ·obtain⟨id,e1,q1,q2,rfl⟩:=renX h1 h2 h3 hf p1;obtain⟨id',e2,q3,q4,rfl⟩:=renX h1 h2 h3 hf p2;rw[hρX id k q1] at p3;rw[hρX id' k' q3] at p4;have hid:id≠id':=fun h=>by
   subst h;exact hkk (q1.inj h1 q3)
  exact fun p5=>hH.inj id id' e1 e2 g sz n g' sz' n' hid q2 q4 m1 m2 p3 p4 fun h=>p5 ⟨q1.ro h.1,q3.ro h.2⟩
 ·by_cases hd:dynBase<=k
  ·by_cases hk:rt k∈sndN ps
   ·left;obtain⟨id,hm,e,he⟩:=hlive _ hk;have:id=rt k:=(bdZ hf hm).resolve_right fun h=>by have:=(buZ hd).1;omega
    subst this;rw[Z.ren_dyn hs hd];refine(hH.fresh k ?_).resolve_right (hH.dyn k hd (ahZ he));rw[awZ hd,(bnZ h3 (rt k)).1,emZ h2 hm] at h;rw[awZ hd,he];simp only[ZAA,he,ZBk] at h;rw[(dXZ e _ _).1] at h;exact h
   ·exact .inr ⟨hd,hk⟩
  ·left;by_cases hk:famBase<=k
   ·show(match idOf ps k with|some id=>z.ρ id|none=>if dynBase<=k then z.ρ k else .no)=_;cases hi:idOf ps k with
    |none=>simp only[ZAQ hd]
    |some id=>
     have:id=k:=(bdZ hf (aAZ hi)).resolve_right fun h=>by omega
     subst this;exact hH.nos id hk (by omega)
   ·rw[a3Z (by omega),(bnZ h3 k).2] at h;show(match idOf ps k with|some id=>z.ρ id|none=>if dynBase<=k then z.ρ k else .no)=_;cases hk:idOf ps k with
    |none=>simp only[ZAQ hd]
    |some id=>rw[hk] at h;cases h
 ·rw[(bnZ h3 k).1] at h;obtain⟨id,q1,q2⟩:=ZAF.1 h;obtain⟨e,q3,rfl⟩:=ZAH.1 q2;have hm:=aAZ q1;have hfo:=hH.fam id e q3;obtain⟨fz,b⟩:=e;cases b with
  |fam e s ms=>
   have:id=k:=(bdZ hf hm).resolve_right fun h=>by have:=hfo.1;omega
   subst this;exact hfo
  |_=>
   have hid:id<famBase:=hfo;show k<famBase;rcases bdZ hf hm with h|h
   ·omega
   ·exact h.2
 ·rw[(bnZ h3 k).2] at h;obtain⟨id,hid⟩:=ZBh.1 h;exact boZ hs (cCZ (aAZ hid))
 ·rw[(bnZ h3 (rt k)).2] at h;obtain⟨id,hid⟩:=ZBh.1 h;exact fun hD=>hD.2 (cCZ (aAZ hid))
 ·show(match idOf ps k with|some id=>z.ρ id|none=>if dynBase<=k then z.ρ k else .no)=_;cases hi:idOf ps k with
  |none=>simp only[ZAQ (show¬dynBase<=k by omega)]
  |some id=>
   have:id=k:=(bdZ hf (aAZ hi)).resolve_right fun h=>by omega
   subst this;exact hH.nos id hk1 hk2
end
end Go.Ab
namespace Go.Ab
mutual
theorem qrZ:(k:Kd)->{r:List Ty}->(y:HL (k.lv r))->AV.ids (emb k r y).1=k.ids
 |.p _,r,y|.pt _,r,y|.own _ _ _ _,r,y|.ownx _ _ _,r,y|.sl _ _,r,y|.slf _ _,r,y|.mp _,r,y|.any,r,y|.nilp _,r,y=>rfl
 |.fn f a c,r,y=>congr (congrArg HAppend.hAppend (bQZ a (r:=c.lv r) y)) (bQZ c (r:=r) _)
 |.agg l,r,y=>bQZ l (r:=r) y
 |.tup l,r,y=>bQZ l (r:=r) y
theorem bQZ:(k:KdL)->{r:List Ty}->(y:HL (k.lv r))->AV.idsL (embL k r y).1=k.ids
 |.nil,r,y=>rfl
 |.cons k l,r,y=>congr (congrArg HAppend.hAppend (qrZ k (r:=l.lv r) y)) (bQZ l (r:=r) _)
end
theorem oQZ{k:BKd}{r:List Ty}{fz:Bool}(y:HL (k.lv r)):Ent.ids ⟨fz,(embB k r y).1⟩=k.ids:=by
 cases k with
 |vars l=>exact bQZ l (r:=r) y
 |rows e t=>rfl
 |map kt vt=>rfl
 |fam e s=>rfl
theorem bPZ:(hs:HK)->{r:List Ty}->(y:HL (hkLv hs r))->∀id,hkey (embH hs r y).1 id=memN id (hkKeys hs)/\(memN id (hkKeys hs)=true->∃e,hget (embH hs r y).1 id=some e)/\∀e,hget (embH hs r y).1 id=some e->∀i∈e.ids,i∈hkIds hs
 |[],r,y,id=>⟨rfl,fun h=>by simp[hkKeys,memN] at h,fun e h=>by simp[embH,hget] at h⟩
 |(j,fz,k)::hs,r,y,id=>by
  obtain⟨q1,q2,q3⟩:=bPZ hs (embB k (hkLv hs r) y).2 id;simp only[embH,hkey,hget,hkKeys,memN];cases hb:Nat.beq j id
  ·simp only[ZAE];exact⟨q1,q2,fun e he i hi=>by simp only[hkIds,ZAh];exact .inr (q3 e he i hi)⟩
  ·simp only[ZAK];refine⟨trivial,fun _=>⟨_,rfl⟩,fun e he i hi=> ?_⟩;injection he with he;subst he;have hi:i∈k.ids:=by
    have:=oQZ (k:=k) (r:=hkLv hs r) (fz:=fz) y;rw[<-this];exact hi
   simp only[hkIds,ZAh];exact .inl hi
section
variable {z : Z} {H : Hp} {β : Type}
def Z.cut(z:Z)(ks:List Nat)(ρ0:Rho)(C':Nat->Prop):Z:={z with ρ:=fun k=>bif memN k ks then z.ρ k else if dynBase<=k then z.ρ k else ρ0 k,C:=C',D:=fun k=>memN (rt k) ks=false/\(dynBase<=k\/ρ0 k≠.no)}
theorem Z.cut_dyn(z:Z)(ks:List Nat)(ρ0:Rho)(C':Nat->Prop):SameDyn z.ρ (z.cut ks ρ0 C').ρ:=fun id hid _=>by
 show(bif memN id ks then z.ρ id else if dynBase<=id then z.ρ id else ρ0 id)=_;rw[ZAT hid];cases memN id ks<;>rfl
theorem ERep.rho{z z':Z}{id:Nat}{e:Ent}(h:ERep z id e)(hw:z'.w=z.w)(hM:z'.M=z.M)(hd:Agr z.ρ z'.ρ fun fs=>e.b.famInT fs)(hid:z'.ρ id=z.ρ id)(hf:∀i∈e.ids,z'.ρ i=z.ρ i)(hC:∀g sz n,z.ρ id= .real g sz n->e.fz=false->z.C g->z'.C g):ERep z' id e:=by
 unfold ERep at*;rw[hid];cases hr:z.ρ id with
 |no=>rw[hr] at h;exact h
 |virt=>rw[hr] at h;exact h
 |real g sz n=>
  rw[hr] at h;obtain⟨h1,h2,h3,h4⟩:=h;refine⟨by rw[hw];exact h1,fun hf=>hC g sz n hr hf (h2 hf),fun hf=>by rw[hM];exact h3 hf,?_⟩;have:=h4.ren (z':=z') (f:=some) (fz:=e.fz) hw hM hd fun i k hi hk=>by
   injection hk with hk;subst hk;exact hf i hi
  have e1:e.b.ren some=e.b:=by
   cases e.b with
   |vars c=>simp only[Blk.ren,b7Z]
   |rows _ _ _=>rfl
   |map _ _ _=>rfl
   |fam _ _ _=>rfl
   |fmap k l=>
    simp only[Blk.ren];congr 1
    conv=>rhs;rw[<-List.map_id l]
    apply List.map_congr_left;intro x _;simp[hiZ]
  rwa [e1] at this
theorem Shp.rco_ok{s:Shp}{vs:List AV}{ps:List (Nat×Nat)}{K:s.D->Option β}{res:β}{vals:List Value}(ρ0:Rho)(hρ0:∀k,famBase<=k->k<dynBase->ρ0 k= .no)(h:s.rco vs H ps K=some res)(hH:HRep z H)(hv:AReps z vs vals):
 ∃t z',K t=some res/\z'.w=z.w/\z'.M=z.M/\HRep z' (s.emb t).2/\AReps z' (s.emb t).1 vals/\(∀k,memN k (hkKeys s.hs)=true->∃id,(id,k)∈ps/\z'.ρ k=z.ρ id)/\(∀k,memN k (hkKeys s.hs)=false->z'.ρ k=if dynBase<=k then z.ρ k else ρ0 k)/\
  (∀g,z'.C g->z.C g)/\(∀g,z'.C g->∃id e sz n,rt id∈fstN ps/\hgetX H id=some e/\e.fz=false/\z.ρ id= .real g sz n)/\z'.D=(fun k=>memN (rt k) (hkKeys s.hs)=false/\(dynBase<=k\/ρ0 k≠.no))/\(∀k,hkey (s.emb t).2 k=memN k (hkKeys s.hs))/\SameDyn z.ρ z'.ρ/\(∀k,memN k (hkKeys s.hs)=true->k<dynBase)/\(∀i,i∈s.ks.ids\/i∈hkIds s.hs->i∈hkKeys s.hs):=by
 have h0:=cAZ;unfold Shp.rco at h;obtain⟨h1,h2⟩:=aeZ.1 h;simp only[ZAB] at h1;obtain⟨⟨g1,g2,g3,g4⟩,g5⟩:=h1;obtain⟨r1,r2,r3⟩:=reZ hH g1 g2 g5 g3 g4;have hd1:SameDyn z.ρ (z.ren H ps).ρ:=fun id hid _=>Z.ren_dyn g3 hid;have hv':AReps (z.ren H ps) (AV.renL (noOf ps) vs) vals:=hv.ren rfl rfl (.inl hd1) fun id k _ hk=>r2 id k (cPZ hk);obtain⟨k1,t,k2,k3,k4⟩:=Shp.co_ok h2 (fun id e he=>r1.ex he) hv';unfold Shp.ok at k1;simp only[ZAB,bFZ,ZAh] at k1;have hg:=fun id=>bPZ s.hs (embL s.ks (hkLv s.hs []) (untidy s.tys t)).2 id;have hvi:AV.idsL (s.emb t).1=s.ks.ids:=bQZ s.ks _
 let z':=(z.ren H ps).cut (hkKeys s.hs) ρ0 (z.ren H ps).C
 have hd2:SameDyn (z.ren H ps).ρ z'.ρ:=Z.cut_dyn _ _ _ _;have hin:∀k,k∈hkKeys s.hs->z'.ρ k=(z.ren H ps).ρ k:=fun k hk=>by
  show(bif memN k (hkKeys s.hs) then(z.ren H ps).ρ k else if dynBase<=k then(z.ren H ps).ρ k else ρ0 k)=_;rw[aiZ.2 hk];rfl
 have hkm:∀k e,hget (s.emb t).2 k=some e->k∈hkKeys s.hs:=fun k e he=>by
  have:=ahZ he;rw[show hkey (s.emb t).2 k=memN k (hkKeys s.hs) from(hg k).1] at this;exact aiZ.1 this
 have hkd:∀k,memN k (hkKeys s.hs)=true->k<dynBase:=fun k hk=>by
  obtain⟨e,he⟩:=(hg k).2.1 hk;obtain⟨_,⟨e0,q1,_⟩⟩:=k4 k e he;have:=ahZ q1;rw[(bnZ g5 k).2] at this;obtain⟨id,hid⟩:=ZBh.1 this;exact boZ g3 (cCZ (aAZ hid))
 have hfam:∀k e,hget (s.emb t).2 k=some e->famBase<=k->hget (renH H (noOf ps) ps) k=some e:=fun k e he hk=>by
  obtain⟨_,⟨e0,q1,q2,q3,q4⟩⟩:=k4 k e he;have hfo:=r1.fam k e0 q1;have hf0:e0.b.isFam=true:=by
   obtain⟨fz,b⟩:=e0;cases b<;>first|rfl|(have:k<famBase:=hfo;omega)
  rw[q4 hf0];exact q1
 have hlowf:∀k e,hget (s.emb t).2 k=some e->k<famBase->e.b.isFam=false:=fun k e he hk=>by
  obtain⟨_,⟨e0,q1,q2,q3,q4⟩⟩:=k4 k e he;have hfo:=r1.fam k e0 q1;rw[q3];obtain⟨fz,b⟩:=e0;cases b<;>first|rfl|(have:=hfo.1;omega)
 have hX:∀k e,hgetX (s.emb t).2 k=some e->ERep (z.ren H ps) k e/\(∃e1,hgetX (renH H (noOf ps) ps) k=some e1/\e1.fz=e.fz)/\(k∈hkKeys s.hs\/dynBase<=k)/\∀i∈e.ids,i∈hkKeys s.hs:=fun k e he=>by
  by_cases hd:dynBase<=k
  ·rw[a2Z hd] at he;obtain⟨e0,p1,p2⟩:=ZAF.1 he;have p3:=hfam _ _ p1 (buZ hd).1;have p4:hgetX (renH H (noOf ps) ps) k=some e:=by rw[a2Z hd,p3];exact p2
   exact⟨r1.ent _ _ p4,⟨e,p4,rfl⟩,.inr hd,fun i hi=>by rw[(dzZ p2 some).2] at hi;cases hi⟩
  ·by_cases hk:famBase<=k
   ·unfold hgetX at he;rw[ZAQ hd,ZAT hk] at he;cases he
   ·have hk':k<famBase:=ZBK.1 hk;rw[aqZ hk'] at he;obtain⟨q0,⟨e0,q1,q2,_⟩⟩:=k4 k e he;have hids:=(hg k).2.2 e he;exact⟨q0 (hlowf k e he hk'),⟨e0,by rw[aqZ hk'];exact q1,q2⟩,.inl (hkm k e he),fun i hi=>k1.2 i (.inr (hids i hi))⟩
 have hρX:∀k,k∈hkKeys s.hs\/dynBase<=k->z'.ρ k=(z.ren H ps).ρ k:=fun k hk=>by
  rcases hk with hk|hk
  ·exact hin k hk
  ·show(bif memN k (hkKeys s.hs) then(z.ren H ps).ρ k else if dynBase<=k then(z.ren H ps).ρ k else ρ0 k)=_;rw[ZAT hk];cases memN k (hkKeys s.hs)<;>rfl
 refine⟨t,z',k2,rfl,rfl,⟨fun k e he=> ?_,fun i i' e e' g sz n g' sz' n' hii p1 p2 m1 m2 p3 p4=> ?_,fun k hk=> ?_,r1.sub,fun k x hx=> ?_,fun k hk=>hkd k (by rw[<-(hg k).1];exact hk),fun k hd hk=> ?_,fun k hk1 hk2=> ?_⟩,?_,fun k hk=> ?_,fun k hk=> ?_,r3,fun g hC=>hC,rfl,fun k=>(hg k).1,fun id hid hn=> ?_,hkd,k1.2⟩
 ·obtain⟨q1,_,q3,q4⟩:=hX k e he;exact q1.rho rfl rfl (.inl hd2) (hρX k q3) (fun i hi=>hin i (q4 i hi)) (fun g sz n _ _ h=>h)
 ·obtain⟨_,⟨e0,q1,q2⟩,q3,_⟩:=hX i e p1;obtain⟨_,⟨e0',q4,q5⟩,q6,_⟩:=hX i' e' p2;rw[hρX i q3] at p3;rw[hρX i' q6] at p4;exact r1.inj i i' e0 e0' g sz n g' sz' n' hii q1 q4 (by rw[q2];exact m1) (by rw[q5];exact m2) p3 p4
 ·by_cases hdk:dynBase<=k
  ·rw[awZ hdk] at hk;cases he:hget (s.emb t).2 (rt k) with
   |none=>
    rw[he] at hk;have hk:hkey (s.emb t).2 (rt k)=false:=hk;rw[show hkey (s.emb t).2 (rt k)=memN (rt k) (hkKeys s.hs) from(hg _).1] at hk;exact .inr ⟨hk,.inl hdk⟩
   |some e0=>
    rw[he] at hk;have p3:=hfam _ _ he (buZ hdk).1;left;rw[hρX k (.inr hdk)];refine(r1.fresh k (by rw[awZ hdk,p3];exact hk)).resolve_right (r1.dyn k hdk (ahZ p3))
  ·by_cases hkf:famBase<=k
   ·left;show(bif memN k (hkKeys s.hs) then(z.ren H ps).ρ k else if dynBase<=k then(z.ren H ps).ρ k else ρ0 k)=_;rw[ZAQ hdk];cases memN k (hkKeys s.hs)
    ·exact hρ0 k hkf (by omega)
    ·exact r1.nos k hkf (by omega)
   ·rw[a3Z (by omega),show hkey (s.emb t).2 k=memN k (hkKeys s.hs) from(hg k).1] at hk;have e1:z'.ρ k=ρ0 k:=by
     show(bif memN k (hkKeys s.hs) then(z.ren H ps).ρ k else if dynBase<=k then(z.ren H ps).ρ k else ρ0 k)=_;rw[hk,ZAQ hdk];rfl
    by_cases h0:ρ0 k= .no
    ·left;rw[e1,h0]
    ·exact .inr ⟨by rw[aOZ (by omega)];exact hk,.inr h0⟩
 ·obtain⟨_,⟨e0,q1,q2,q3,q4⟩⟩:=k4 k x hx;have hfo:=r1.fam k e0 q1;by_cases hkf:famBase<=k
  ·have:=hfam k x hx hkf;rw[this] at q1;injection q1 with q1;rw[q1];exact hfo
  ·have:=hlowf k x hx (by omega);obtain⟨fz,b⟩:=x;cases b<;>first|(show k<famBase;omega)|cases this
 ·rw[show hkey (s.emb t).2 (rt k)=memN (rt k) (hkKeys s.hs) from(hg _).1] at hk;exact fun hD=>by have:=hD.1;rw[hk] at this;cases this
 ·show(bif memN k (hkKeys s.hs) then(z.ren H ps).ρ k else if dynBase<=k then(z.ren H ps).ρ k else ρ0 k)=_;rw[ZAQ (show¬dynBase<=k by omega)];cases memN k (hkKeys s.hs)
  ·exact hρ0 k hk1 hk2
  ·exact r1.nos k hk1 hk2
 ·exact k3.rho rfl rfl (.inl hd2) fun i hi=>hin i (k1.2 i (.inl (by rw[<-hvi];exact hi)))
 ·obtain⟨e,he⟩:=(hg k).2.1 hk;obtain⟨_,⟨e0,q1,_⟩⟩:=k4 k e he;have:=ahZ q1;rw[(bnZ g5 k).2] at this;obtain⟨id,hid⟩:=ZBh.1 this;exact⟨id,aAZ hid,by rw[hin k (aiZ.1 hk),r2 id k (aAZ hid)]⟩
 ·show(bif memN k (hkKeys s.hs) then(z.ren H ps).ρ k else if dynBase<=k then(z.ren H ps).ρ k else ρ0 k)=_;rw[hk];by_cases hdk:dynBase<=k
  ·rw[ZAT hdk,ZAT hdk];exact Z.ren_dyn g3 hdk
  ·rw[ZAQ hdk,ZAQ hdk];rfl
 ·rw[hd2 id hid (by rw[Z.ren_dyn g3 hid];exact hn),Z.ren_dyn g3 hid]
end
end Go.Ab
namespace Go.Ab
section
variable {P : Program} {β γ : Type} {H : Hp} {F : γ → Option β}
theorem apZ{α:Type}{x:Option α}{f:α->Option β}{g:α->Option γ}(h:∀a,f a=(g a).bind F):x.ob f=(x.ob g).bind F:=by
 cases x with
 |none=>rfl
 |some a=>exact h a
theorem axZ{α:Type}{x:Option α}{f:α->Option β}{g:α->Option γ}(h:∀a,f a=(g a).bind F):x.bind f=(x.bind g).bind F:=by
 cases x with
 |none=>rfl
 |some a=>exact h a
theorem ajZ{b:Bool}{f:Option β}{g:Option γ}(h:f=g.bind F):need b f=(need b g).bind F:=by
 cases b
 ·rfl
 ·exact h
theorem a6Z{b:Bool}{f f':Option β}{g g':Option γ}(h:f=g.bind F)(h':f'=g'.bind F):bq b f f'=(bq b g g').bind F:=by
 cases b
 ·exact h'
 ·exact h
theorem bCZ{t u:Ty}{f:t=u->Option β}{f':Option β}{g:t=u->Option γ}{g':Option γ}(h:∀e,f e=(g e).bind F)(h':f'=g'.bind F):dq t u f f'=(dq t u g g').bind F:=by
 unfold dq;simp only;split
 ·exact h _
 ·exact h'
theorem j6Z{δ:Type}{fa:List AV->(δ->Option β)->Option β}{fb:List AV->(δ->Option γ)->Option γ}(hf:∀c (k:δ->Option β) (k':δ->Option γ),(∀x,k x=(k' x).bind F)->fa c k=(fb c k').bind F)(c:Nat):
 ∀(n:Nat) (cs:List AV) {k:List δ->Option β} {k':List δ->Option γ},(∀x,k x=(k' x).bind F)->asmN fa c n cs k=(asmN fb c n cs k').bind F
 |0,cs,k,k',h=>h _
 |n+1,cs,k,k',h=>hf _ _ _ fun x=>j6Z hf c n _ fun l=>h _
theorem gxZ:(t:Ty)->{cs:List AV}->{k:t.den->Option β}->{k':t.den->Option γ}->(∀x,k x=(k' x).bind F)->asm t cs k=(asm t cs k').bind F
 |.byte,cs,k,k',h=>apZ fun n=>axZ h
 |.one t,cs,k,k',h=>gxZ t h
 |.pair a b,cs,k,k',h=>gxZ a fun x=>gxZ b fun y=>h _
 |.arr n t,cs,k,k',h=>j6Z (fa:=asm t) (fb:=asm t) (fun c _ _ h=>gxZ t (cs:=c) h) t.cells n cs h
 |.int _,cs,k,k',h|.bool,cs,k,k',h|.str,cs,k,k',h|.opq,cs,k,k',h|.nat,cs,k,k',h|.sl _,cs,k,k',h|.ref _ _,cs,k,k',h=>apZ h
 |.ptr t,cs,k,k',h=>by
  simp only[asm];split
  ·exact bCZ (fun _=>axZ h) rfl
  ·exact apZ h
theorem p3Z{u:Ty}{a:AV}{k:u.den->Option β}{k':u.den->Option γ}(h:∀x,k x=(k' x).bind F):asC u a k=(asC u a k').bind F:=
 apZ fun _=>ajZ (gxZ u h)
theorem bhZ{u:Ty}{a:AV}{k:u.den->Option β}{k':u.den->Option γ}(h:∀x,k x=(k' x).bind F):asA u a k=(asA u a k').bind F:=by
 unfold asA;split
 ·exact bCZ (fun _=>h _) (p3Z h)
 ·exact p3Z h
theorem kkZ:(t:Ty)->{x:t.den}->{o:Nat}->{u:Ty}->{k:u.den->Option β}->{k':u.den->Option γ}->(∀x,k x=(k' x).bind F)->sub t x o u k=(sub t x o u k').bind F
 |.one t,x,o,u,k,k',h=>bCZ (fun _=>a6Z (h _) rfl) (kkZ t h)
 |.pair a b,x,o,u,k,k',h=>bCZ (fun _=>a6Z (h _) rfl) (a6Z (kkZ a h) (kkZ b h))
 |.int _,x,o,u,k,k',h|.bool,x,o,u,k,k',h|.byte,x,o,u,k,k',h|.str,x,o,u,k,k',h|.opq,x,o,u,k,k',h|.nat,x,o,u,k,k',h|.ptr _,x,o,u,k,k',h|.sl _,x,o,u,k,k',h|.arr _ _,x,o,u,k,k',h|.ref _ _,x,o,u,k,k',h=>bCZ (fun _=>a6Z (h _) rfl) rfl
theorem gmZ:(t:Ty)->{x:t.den}->{o:Nat}->{u:Ty}->{y:u.den}->{k:t.den->Option β}->{k':t.den->Option γ}->(∀x,k x=(k' x).bind F)->upd t x o u y k=(upd t x o u y k').bind F
 |.one t,x,o,u,y,k,k',h=>bCZ (fun _=>a6Z (h _) rfl) (gmZ t h)
 |.pair a b,x,o,u,y,k,k',h=>bCZ (fun _=>a6Z (h _) rfl) (a6Z (gmZ a fun _=>h _) (gmZ b fun _=>h _))
 |.int _,x,o,u,y,k,k',h|.bool,x,o,u,y,k,k',h|.byte,x,o,u,y,k,k',h|.str,x,o,u,y,k,k',h|.opq,x,o,u,y,k,k',h|.nat,x,o,u,y,k,k',h|.ptr _,x,o,u,y,k,k',h|.sl _,x,o,u,y,k,k',h|.arr _ _,x,o,u,y,k,k',h|.ref _ _,x,o,u,y,k,k',h=>bCZ (fun _=>a6Z (h _) rfl) rfl
theorem h3Z:(t:Ty)->{x:t.den}->{o:Nat}->{u:Ty}->{k:AV->Option β}->{k':AV->Option γ}->(∀x,k x=(k' x).bind F)->subR t x o u k=(subR t x o u k').bind F
 |.one t,x,o,u,k,k',h=>a6Z (h _) (h3Z t h)
 |.pair a b,x,o,u,k,k',h=>a6Z (h _) (a6Z (h3Z a h) (h3Z b h))
 |.int _,x,o,u,k,k',h|.bool,x,o,u,k,k',h|.byte,x,o,u,k,k',h|.str,x,o,u,k,k',h|.opq,x,o,u,k,k',h|.nat,x,o,u,k,k',h|.ptr _,x,o,u,k,k',h|.sl _,x,o,u,k,k',h|.arr _ _,x,o,u,k,k',h|.ref _ _,x,o,u,k,k',h=>a6Z (h _) rfl
theorem gRZ:(t:Ty)->{x:t.den}->{o:Nat}->{u:Ty}->{v:AV}->{k:t.den->Option β}->{k':t.den->Option γ}->(∀x,k x=(k' x).bind F)->updR t x o u v k=(updR t x o u v k').bind F
 |.one t,x,o,u,v,k,k',h=>a6Z (bhZ h) (gRZ t h)
 |.pair a b,x,o,u,v,k,k',h=>a6Z (bhZ h) (a6Z (gRZ a fun _=>h _) (gRZ b fun _=>h _))
 |.int _,x,o,u,v,k,k',h|.bool,x,o,u,v,k,k',h|.byte,x,o,u,v,k,k',h|.str,x,o,u,v,k,k',h|.opq,x,o,u,v,k,k',h|.nat,x,o,u,v,k,k',h|.ptr _,x,o,u,v,k,k',h|.sl _,x,o,u,v,k,k',h|.arr _ _,x,o,u,v,k,k',h|.ref _ _,x,o,u,v,k,k',h=>a6Z (bhZ h) rfl
section
variable {k : AV → Option β} {k' : AV → Option γ}
theorem hgZ{u:Ty}{t:TypeId}{x:u.den}{j:Nat}(h:∀x,k x=(k' x).bind F):rdRow P u t x j k=(rdRow P u t x j k').bind F:=apZ fun _=>a6Z (kkZ u fun _=>h _) (h3Z u h)
theorem f7Z{u:Ty}{t:TypeId}{l:List u.den}{i j:Nat}(h:∀x,k x=(k' x).bind F):rdRows P t u l i j k=(rdRows P t u l i j k').bind F:=by
 unfold rdRows;split
 ·exact a6Z (ajZ (h _)) (axZ fun _=>hgZ h)
 ·exact axZ fun _=>hgZ h
theorem mfZ{t:TypeId}{c:List AV}{j:Nat}(h:∀x,k x=(k' x).bind F):rdVars P t c j k=(rdVars P t c j k').bind F:=a6Z (ajZ (h _)) (a6Z (apZ h) rfl)
theorem mnZ{t:TypeId}{a:AV}(h:∀x,k x=(k' x).bind F):evLoad P t a H k=(evLoad P t a H k').bind F:=by
 unfold evLoad;split
 ·split
  ·exact mfZ h
  ·exact a6Z (f7Z h) rfl
  ·rfl
 ·exact f7Z h
 ·split
  ·exact axZ fun _=>ajZ (f7Z h)
  ·rfl
 ·rfl
theorem m3Z{t:TypeId}{c a b:AV}(h:∀x,k x=(k' x).bind F):evPick P t c a b k=(evPick P t c a b k').bind F:=by
 unfold evPick;refine apZ fun q=> ?_;split
 ·split
  ·exact h _
  ·exact ajZ (h _)
  ·exact ajZ (h _)
  ·rfl
 ·exact a6Z (h _) (h _)
theorem lAZ{t:TypeId}{ps:List (Nat×AV)}(h:∀x,k x=(k' x).bind F):evBuild P t ps k=(evBuild P t ps k').bind F:=by
 unfold evBuild;refine apZ fun q=> ?_;split
 ·exact apZ fun _=>apZ fun _=>h _
 ·exact apZ fun _=>apZ fun _=>h _
 ·rfl
theorem oVZ{op:BinOp}{kk:IntKind}{a b:Int}(h:∀x,k x=(k' x).bind F):evInt op kk a b k=(evInt op kk a b k').bind F:=by
 unfold evInt;split<;>first|exact h _|exact ajZ (h _)
theorem o3Z{op:BinOp}{a b:List UInt8}(h:∀x,k x=(k' x).bind F):evStr op a b k=(evStr op a b k').bind F:=by
 unfold evStr;split<;>first|exact h _|exact ajZ (h _)|rfl
theorem qnZ{op:UnOp}{t:TypeId}{a:AV}(h:∀x,k x=(k' x).bind F):evUn P op t a k=(evUn P op t a k').bind F:=by
 unfold evUn;split<;>first|exact apZ fun _=>h _|rfl
theorem f6Z{u:Ty}{a:AV}{k:List u.den->Option β}{k':List u.den->Option γ}(h:∀x,k x=(k' x).bind F):rowsOf H u a k=(rowsOf H u a k').bind F:=by
 unfold rowsOf;split
 ·exact bCZ (fun _=>h _) (bCZ (fun _=>bCZ (fun _=>h _) rfl) (apZ h))
 ·split
  ·exact bCZ (fun _=>a6Z (h _) rfl) rfl
  ·rfl
 ·split
  ·exact bCZ (fun _=>a6Z (h _) rfl) rfl
  ·rfl
 ·rfl
theorem eyZ{s d:TypeId}{a:AV}(h:∀x,k x=(k' x).bind F):evConvert P s d a H k=(evConvert P s d a H k').bind F:=by
 unfold evConvert;split
 ·exact apZ fun _=>h _
 ·exact apZ fun _=>h _
 ·exact a6Z (f6Z fun _=>h _) rfl
 ·rfl
 ·rfl
theorem cRZ{es id:Nat}{k:(u:Ty)->List u.den->Option β}{k':(u:Ty)->List u.den->Option γ}(h:∀u x,k u x=(k' u x).bind F):ownRows H es id k=(ownRows H es id k').bind F:=by
 unfold ownRows;split
 ·exact a6Z (h _ _) rfl
 ·rfl
theorem qlZ{a:AV}{k:Nat->Option β}{k':Nat->Option γ}(h:∀x,k x=(k' x).bind F):lenS H a k=(lenS H a k').bind F:=by
 unfold lenS;split
 ·exact h _
 ·split
  ·exact h _
  ·exact cRZ fun _ _=>h _
 ·exact h _
 ·exact h _
 ·exact h _
 ·rfl
theorem qkZ{a:AV}{k:Nat->Option β}{k':Nat->Option γ}(h:∀x,k x=(k' x).bind F):lenM H a k=(lenM H a k').bind F:=by
 unfold lenM;split
 ·exact h _
 ·split
  ·exact h _
  ·rfl
 ·rfl
theorem qhZ{t:TypeId}{a:AV}{k:Nat->Option β}{k':Nat->Option γ}(h:∀x,k x=(k' x).bind F):lenT P t H a k=(lenT P t H a k').bind F:=by
 unfold lenT;split
 ·exact apZ fun _=>h _
 ·exact qlZ h
 ·exact qkZ h
 ·exact h _
 ·rfl
theorem fSZ{s:TypeId}{a:AV}{f:Nat}(h:∀x,k x=(k' x).bind F):evFieldAddr P s a f k=(evFieldAddr P s a f k').bind F:=by
 unfold evFieldAddr;split<;>first|exact h _|rfl
theorem bRZ{a:Option AV}{d m:Nat}{k:Nat->Option β}{k':Nat->Option γ}(h:∀x,k x=(k' x).bind F):optI a d m k=(optI a d m k').bind F:=by
 unfold optI;split
 ·exact h _
 ·exact apZ fun _=>axZ h
theorem jsZ{α:Type}{l:List α}{lo hi:Option AV}{k:List α->Option β}{k':List α->Option γ}(h:∀x,k x=(k' x).bind F):cutL l lo hi k=(cutL l lo hi k').bind F:=by
 unfold cutL;split
 ·exact h _
 ·exact apZ fun _=>axZ fun _=>h _
 ·exact apZ fun _=>axZ fun _=>h _
 ·exact apZ fun _=>axZ fun _=>apZ fun _=>axZ fun _=>h _
theorem lIZ{t:TypeId}{a:AV}{lo hi:Option AV}(h:∀x,k x=(k' x).bind F):evSlice P t a lo hi H k=(evSlice P t a lo hi H k').bind F:=by
 unfold evSlice;split
 ·exact apZ fun _=>jsZ fun _=>h _
 ·split
  ·refine a6Z ?_ rfl;split
   ·exact h _
   ·exact cRZ fun _ _=>bRZ fun _=>bRZ fun _=>h _
  ·exact a6Z (bRZ fun _=>bRZ fun _=>h _) rfl
  ·exact a6Z (jsZ fun _=>h _) rfl
  ·exact ajZ (bRZ fun _=>bRZ fun _=>h _)
  ·exact a6Z (bRZ fun _=>bRZ fun _=>h _) rfl
  ·rfl
 ·split
  ·refine a6Z (cRZ fun _ _=>ajZ ?_) rfl;split
   ·exact h _
   ·exact bRZ fun _=>bRZ fun _=>h _
  ·exact a6Z (jsZ fun _=>h _) rfl
  ·rfl
 ·rfl
theorem jqZ{t:TypeId}{a hi mx:AV}{lo:Option AV}(h:∀x,k x=(k' x).bind F):evSlice3 P t a lo hi mx k=(evSlice3 P t a lo hi mx k').bind F:=by
 unfold evSlice3;split
 ·split
  ·refine a6Z (apZ fun _=>axZ fun _=>apZ fun _=>axZ fun _=> ?_) rfl;split
   ·exact h _
   ·exact apZ fun _=>axZ fun _=>h _
  ·rfl
 ·rfl
theorem lhZ{t:TypeId}{a ix:AV}(h:∀x,k x=(k' x).bind F):evIndex P t a ix k=(evIndex P t a ix k').bind F:=by
 unfold evIndex;refine apZ fun x=> ?_;split
 ·exact apZ fun _=>axZ fun _=>axZ fun _=>h _
 ·exact apZ fun _=>bhZ fun _=>axZ fun _=>axZ fun _=>h _
 ·rfl
theorem fVZ{t:TypeId}{a ix:AV}(h:∀x,k x=(k' x).bind F):evIndexAddr P t a ix H k=(evIndexAddr P t a ix H k').bind F:=by
 unfold evIndexAddr;refine apZ fun x=> ?_;split
 ·refine ajZ ?_;split<;>first|rfl|exact a6Z (axZ fun _=>h _) (axZ fun _=>h _)
 ·refine ajZ ?_;split
  ·refine a6Z ?_ rfl;split
   ·exact axZ fun _=>h _
   ·exact cRZ fun _ _=>axZ fun _=>h _
  ·exact a6Z (axZ fun _=>h _) rfl
  ·exact a6Z (axZ fun _=>h _) rfl
  ·exact a6Z (axZ fun _=>axZ fun _=>h _) rfl
  ·rfl
 ·rfl
theorem lwZ{s:TypeId}{a:AV}{f:Nat}(h:∀x,k x=(k' x).bind F):evField P s a f k=(evField P s a f k').bind F:=by
 unfold evField;split
 ·exact a6Z (ajZ (h _)) (a6Z (apZ h) rfl)
 ·exact a6Z (hgZ h) rfl
 ·rfl
theorem iDZ{kt:Ty}{x:kt.den}{k:Option AV->Option β}{k':Option AV->Option γ}(h:∀x,k x=(k' x).bind F):∀l:List (kt.den×AV),fchain l x k=(fchain l x k').bind F
 |[]=>h _
 |(_,_)::r=>a6Z (h _) (iDZ h r)
theorem jeZ{t:TypeId}{m ix:AV}{c:Bool}(h:∀x,k x=(k' x).bind F):evLookup P t m ix c H k=(evLookup P t m ix c H k').bind F:=by
 unfold evLookup;split
 ·split
  ·exact ajZ (bhZ fun _=>h _)
  ·refine ajZ (bhZ fun _=>iDZ (fun r=> ?_) _);split<;>exact h _
  ·rfl
 ·split
  ·exact apZ fun _=>apZ fun _=>ajZ (bhZ fun _=>h _)
  ·rfl
 ·rfl
theorem nyZ{t:TypeId}{a b:AV}{k:Bool->Option β}{k':Bool->Option γ}(hn:natBin P t=true)(h:∀x,k x=(k' x).bind F):evEq P t a b H k=(evEq P t a b H k').bind F:=by
 unfold evEq;split
 ·exact apZ h
 ·exact apZ h
 ·exact apZ h
 ·rename_i e he;simp[natBin,he] at hn
 ·exact apZ fun _=>ajZ (bhZ fun _=>bhZ fun _=>h _)
theorem pfZ{op:BinOp}{t u:TypeId}{a b:AV}(hn:natBin P t=true)(h:∀x,k x=(k' x).bind F):evBin P op t u a b H k=(evBin P op t u a b H k').bind F:=by
 unfold evBin;split
 ·split
  ·exact apZ fun _=>apZ fun _=>ajZ (oVZ h)
  ·rfl
 ·exact apZ fun _=>apZ fun _=>o3Z h
 ·split
  ·exact nyZ hn fun _=>h _
  ·exact nyZ hn fun _=>h _
  ·rfl
theorem r6Z{o:Oper}{r:Operand->AV}(hn:natR P o=true)(h:∀x,k x=(k' x).bind F):evR P o r H k=(evR P o r H k').bind F:=by
 unfold evR;unfold natR at hn;split
 ·exact h _
 ·exact h _
 ·exact m3Z h
 ·exact lAZ h
 ·exact mnZ h
 ·split<;>first|exact h _|rfl|exact ajZ (h _)
 ·rename_i ho;rw[ho] at hn;exact pfZ hn h
 ·exact jeZ h
 ·exact qnZ h
 ·exact eyZ h
 ·exact h _
 ·exact lIZ h
 ·exact jqZ h
 ·exact fSZ h
 ·exact lwZ h
 ·exact fVZ h
 ·exact lhZ h
 ·exact apZ fun _=>apZ h
 ·rename_i c ho;rw[ho] at hn;simp only at hn;split
  ·split
   ·exact qhZ fun _=>h _
   ·rfl
  ·rename_i hc;rw[hc] at hn;cases hn
  ·split
   ·refine apZ fun l=> ?_;split
    ·exact h _
    ·rfl
   ·rfl
  ·split
   ·refine apZ fun l=> ?_;split
    ·exact h _
    ·rfl
   ·rfl
  ·rfl
 ·rfl
end
section
variable {k : AV → Hp → Option β} {k' : AV → Hp → Option γ}
theorem a9Z{id:Nat}{b:Blk}{k:Hp->Option β}{k':Hp->Option γ}(h:∀H,k H=(k' H).bind F):newAt H id b k=(newAt H id b k').bind F:=a6Z rfl (h _)
theorem lHZ{t:TypeId}{id:Nat}(h:∀x H,k x H=(k' x H).bind F):evAlloc P t id H k=(evAlloc P t id H k').bind F:=by
 unfold evAlloc;split
 ·exact apZ fun _=>ajZ (a9Z fun _=>h _ _)
 ·exact apZ fun _=>a9Z fun _=>h _ _
theorem oTZ{t:TypeId}{v:AV}{id:Nat}(h:∀x H,k x H=(k' x H).bind F):evBox P t v id H k=(evBox P t v id H k').bind F:=by
 unfold evBox;split
 ·exact apZ fun _=>apZ fun _=>bhZ fun _=>ajZ (a9Z fun _=>h _ _)
 ·exact apZ fun _=>a9Z fun _=>h _ _
theorem jjZ{t:TypeId}{id:Nat}(h:∀x H,k x H=(k' x H).bind F):evAlloc1 P t id H k=(evAlloc1 P t id H k').bind F:=
 apZ fun _=>ajZ (a9Z fun _=>h _ _)
theorem nXZ{t:TypeId}{v:AV}{id:Nat}(h:∀x H,k x H=(k' x H).bind F):evBox1 P t v id H k=(evBox1 P t v id H k').bind F:=
 apZ fun _=>apZ fun _=>bhZ fun _=>a9Z fun _=>h _ _
theorem mwZ{t e:TypeId}{u:Ty}{l:List u.den}{i j id:Nat}{v:AV}(h:∀x H,k x H=(k' x H).bind F):wrRows P t e u l i j id v H k=(wrRows P t e u l i j id v H k').bind F:=by
 unfold wrRows;split
 ·exact a6Z (ajZ (bhZ fun _=>ajZ (h _ _))) (bhZ fun _=>axZ fun _=>gmZ _ fun _=>h _ _)
 ·exact bhZ fun _=>axZ fun _=>gmZ _ fun _=>h _ _
 ·rfl
theorem laZ{t:TypeId}{a v:AV}(h:∀x H,k x H=(k' x H).bind F):evStore P t a v H k=(evStore P t a v H k').bind F:=by
 unfold evStore;split
 ·split
  ·exact apZ fun _=>ajZ (h _ _)
  ·exact a6Z (a6Z (apZ fun _=>ajZ (mwZ h)) (apZ fun _=>apZ fun _=>apZ fun _=>apZ fun _=>ajZ (axZ fun _=>gRZ _ fun _=>h _ _))) rfl
  ·rfl
 ·unfold wrMem;refine apZ fun _=>apZ fun _=> ?_;split
  ·exact ajZ (axZ fun _=>ajZ (bhZ fun _=>axZ fun _=>gmZ _ fun _=>h _ _))
  ·rfl
 ·rfl
theorem hdZ{s d:TypeId}{a:AV}{id:Nat}(h:∀x H,k x H=(k' x H).bind F):evConvertW P s d a id H k=(evConvertW P s d a id H k').bind F:=by
 unfold evConvertW;split
 ·exact a6Z (apZ fun _=>ajZ (a9Z fun _=>h _ _)) rfl
 ·split
  ·split
   ·exact a6Z (ajZ (h _ _)) rfl
   ·rfl
  ·rfl
 ·rfl
theorem nMZ{t:TypeId}{l c:AV}{id:Nat}(h:∀x H,k x H=(k' x H).bind F):evMake P t l c id H k=(evMake P t l c id H k').bind F:=by
 unfold evMake;split
 ·exact apZ fun _=>apZ fun _=>axZ fun _=>axZ fun _=>apZ fun _=>ajZ (a9Z fun _=>h _ _)
 ·rfl
theorem ieZ{t:TypeId}{q:Option AV}{md:List Nat}{id:Nat}(h:∀x H,k x H=(k' x H).bind F):evMakeMap P t q md id H k=(evMakeMap P t q md id H k').bind F:=by
 unfold evMakeMap;split
 ·exact apZ fun _=>ajZ (a6Z (a9Z fun _=>h _ _) (apZ fun _=>a9Z fun _=>h _ _))
 ·rfl
theorem f5Z{t:TypeId}{m key x:AV}(h:∀x H,k x H=(k' x H).bind F):evMapUpd P t m key x H k=(evMapUpd P t m key x H k').bind F:=by
 unfold evMapUpd;split
 ·split
  ·exact ajZ (bhZ fun _=>ajZ (apZ fun _=>ajZ (h _ _)))
  ·refine apZ fun _=> ?_;split
   ·exact ajZ (bhZ fun _=>bhZ fun _=>h _ _)
   ·rfl
 ·rfl
theorem fcZ{t:TypeId}{n:Nat}{ps:List (Nat×AV)}{vs:Bool}{rb:Option Nat}{id:Nat}(h:∀x H,k x H=(k' x H).bind F):evBuildSlice P t n ps vs rb id H k=(evBuildSlice P t n ps vs rb id H k').bind F:=by
 unfold evBuildSlice;simp only[dqZ];split
 ·exact apZ fun _=>apZ fun u=>ajZ (apZ fun _=>a6Z (ajZ (a9Z fun _=>h _ _))<|apZ fun _=>j6Z (fa:=asm (rowTy _ rb u)) (fb:=asm (rowTy _ rb u)) (fun c _ _ h=>gxZ (rowTy _ rb u) (cs:=c) h) _ _ _ fun _=>a9Z fun _=>h _ _)
 ·rfl
theorem eEZ{t:TypeId}{s x:AV}{id:Nat}(h:∀x H,k x H=(k' x H).bind F):evAppend P t s x id H k=(evAppend P t s x id H k').bind F:=by
 unfold evAppend;split
 ·refine apZ fun _=>f6Z fun _=> ?_;split
  ·exact ajZ (a9Z fun _=>h _ _)
  ·split
   ·exact bCZ (fun _=>ajZ (a9Z fun _=>h _ _)) (bCZ (fun _=>ajZ (a9Z fun _=>h _ _)) rfl)
   ·rfl
  ·split
   ·exact bCZ (fun _=>ajZ (a9Z fun _=>h _ _)) rfl
   ·rfl
  ·rfl
 ·rfl
theorem i5Z{t:TypeId}{s x:AV}{id:Nat}(h:∀x H,k x H=(k' x H).bind F):evAppendZ P t s x id H k=(evAppendZ P t s x id H k').bind F:=by
 unfold evAppendZ;split
 ·refine apZ fun _=>ajZ (apZ fun _=>axZ fun _=> ?_);split
  ·exact ajZ (a9Z fun _=>h _ _)
  ·split
   ·exact bCZ (fun _=>ajZ (a9Z fun _=>h _ _)) rfl
   ·rfl
  ·rfl
 ·rfl
theorem nnZ{t:TypeId}{s x:AV}(h:∀x H,k x H=(k' x H).bind F):evCopy P t s x H k=(evCopy P t s x H k').bind F:=by
 unfold evCopy;split
 ·refine apZ fun _=>f6Z fun _=> ?_;split
  ·split
   ·exact bCZ (fun _=>ajZ (h _ _)) rfl
   ·rfl
  ·split
   ·exact bCZ (fun _=>ajZ (h _ _)) rfl
   ·rfl
  ·refine ajZ ?_;split
   ·exact bCZ (fun _=>bCZ (fun _=>axZ fun _=>h _ _) rfl) rfl
   ·rfl
  ·rfl
 ·rfl
theorem kVZ{t:TypeId}{d:AV}(h:∀x H,k x H=(k' x H).bind F):evClear P t d H k=(evClear P t d H k').bind F:=by
 unfold evClear;split
 ·refine apZ fun _=>ajZ ?_;split
  ·exact h _ _
  ·split
   ·exact bCZ (fun _=>ajZ (h _ _)) rfl
   ·rfl
  ·split
   ·exact bCZ (fun _=>ajZ (h _ _)) rfl
   ·rfl
  ·rfl
 ·rfl
theorem OutS.on_nt:∀{l:List Shp} {x:OutS l} {k:(s:Shp)->s.D->Option β} {k':(s:Shp)->s.D->Option γ},(∀s t,k s t=(k' s t).bind F)->OutS.on l x k=(OutS.on l x k').bind F
 |[],x,_,_,_=>Empty.elim x
 |[s],x,k,k',h=>h s x
 |s::t::r,.inl y,k,k',h=>h s y
 |s::t::r,.inr y,k,k',h=>OutS.on_nt (l:=t::r) (x:=y) h
mutual
theorem co_nt:(q:Kd)->{r:List Ty}->{a:AV}->{x:HL r}->{k:HL (q.lv r)->Option β}->{k':HL (q.lv r)->Option γ}->(∀y,k y=(k' y).bind F)->co q r a x k=(co q r a x k').bind F
 |.p t,r,a,x,k,k',h=>bhZ (u:=t) (k:=fun y=>k (y,x)) (k':=fun y=>k' (y,x)) fun y=>h _
 |.pt t,r,a,x,k,k',h=>apZ fun _=>h _
 |.own es id i j,r,a,x,k,k',h=>ajZ (h _)
 |.ownx es id j,r,a,x,k,k',h=>apZ fun _=>h _
 |.sl es id,r,a,x,k,k',h=>apZ fun _=>h _
 |.slf es id,r,a,x,k,k',h=>ajZ (h _)
 |.mp id,r,a,x,k,k',h=>ajZ (h _)
 |.any,r,a,x,k,k',h=>h _
 |.fn f ka kc,r,a,x,k,k',h=>apZ fun _=>ajZ (eYZ kc fun _=>eYZ ka h)
 |.agg l,r,a,x,k,k',h=>apZ fun _=>ajZ (eYZ l h)
 |.tup l,r,a,x,k,k',h=>apZ fun _=>ajZ (eYZ l h)
 |.nilp v,r,a,x,k,k',h=>ajZ (h _)
theorem eYZ:(q:KdL)->{r:List Ty}->{c:List AV}->{x:HL r}->{k:HL (q.lv r)->Option β}->{k':HL (q.lv r)->Option γ}->(∀y,k y=(k' y).bind F)->coL q r c x k=(coL q r c x k').bind F
 |.nil,r,c,x,k,k',h=>h _
 |.cons q l,r,c,x,k,k',h=>eYZ l fun _=>co_nt q h
end
theorem rrZ{q:BKd}{r:List Ty}{b:Blk}{x:HL r}{k:HL (q.lv r)->Option β}{k':HL (q.lv r)->Option γ}(h:∀y,k y=(k' y).bind F):coB q r b x k=(coB q r b x k').bind F:=by
 cases q with
 |vars l=>exact apZ fun _=>eYZ l h
 |rows e t=>exact apZ fun _=>h _
 |map kt vt=>exact apZ fun _=>h _
 |fam e s=>exact apZ fun _=>h _
theorem pxZ:(hs:HK)->{r:List Ty}->{x:HL r}->{k:HL (hkLv hs r)->Option β}->{k':HL (hkLv hs r)->Option γ}->(∀y,k y=(k' y).bind F)->coH hs r H x k=(coH hs r H x k').bind F
 |[],r,x,k,k',h=>h _
 |(_,_,q)::l,r,x,k,k',h=>apZ fun _=>pxZ l fun _=>rrZ h
theorem Shp.co_nt{s:Shp}{vs:List AV}{k:s.D->Option β}{k':s.D->Option γ}(h:∀y,k y=(k' y).bind F):s.co vs H k=(s.co vs H k').bind F:=
 ajZ (pxZ s.hs fun _=>eYZ s.ks fun _=>h _)
theorem Shp.rco_nt{s:Shp}{vs:List AV}{ps:List (Nat×Nat)}{k:s.D->Option β}{k':s.D->Option γ}(h:∀y,k y=(k' y).bind F):s.rco vs H ps k=(s.rco vs H ps k').bind F:=
 ajZ (Shp.co_nt h)
theorem n7Z{e:FnT}{args:List AV}{an:Ann}(h:∀x H,k x H=(k' x H).bind F):evCall P e args an H k=(evCall P e args an H k').bind F:=by
 unfold evCall;rw[czZ,czZ];exact apZ fun _=>ajZ (Shp.rco_nt fun _=>axZ fun _=>OutS.on_nt fun _ _=>by
  rw[Shp.embC_eq,Shp.embC_eq];exact ajZ (h _ _))
theorem rxZ{T:Tbl}{o:Oper}{an:Ann}{r:Operand->AV}(h:∀x H,k x H=(k' x H).bind F):evW P T o an r H k=(evW P T o an r H k').bind F:=by
 unfold evW;split
 ·exact a6Z (lHZ h) (jjZ h)
 ·exact a6Z (oTZ h) (nXZ h)
 ·exact fcZ h
 ·exact laZ h
 ·split
  ·exact eyZ fun _=>h _ _
  ·exact hdZ h
 ·exact nMZ h
 ·exact ieZ h
 ·exact f5Z h
 ·exact f5Z h
 ·split
  ·split
   ·split
    ·exact i5Z h
    ·exact eEZ h
    ·exact eEZ h
    ·rfl
   ·rfl
  ·split
   ·exact nnZ h
   ·rfl
  ·split
   ·exact kVZ h
   ·rfl
  ·refine apZ fun _=> ?_;split
   ·exact n7Z h
   ·rfl
  ·rfl
 ·rfl
theorem qwZ{o:Oper}{r:Operand->AV}{k:AV->Option β}{res:β}(hn:natR P o=true)(h:evR P o r H k=some res):∃x,evR P o r H some=some x/\k x=some res:=by
 have e:evR P o r H k=(evR P o r H some).bind k:=r6Z hn fun _=>rfl;exact ZAF.1 (e▸h)
theorem qDZ{T:Tbl}{o:Oper}{an:Ann}{r:Operand->AV}{k:AV->Hp->Option β}{res:β}(h:evW P T o an r H k=some res):∃x H',evW P T o an r H (fun x H'=>some (x,H'))=some (x,H')/\k x H'=some res:=by
 have e:evW P T o an r H k=(evW P T o an r H fun x H'=>some (x,H')).bind fun p=>k p.1 p.2:=rxZ fun _ _=>rfl;obtain⟨⟨x,H'⟩,h1,h2⟩:=ZAF.1 (e▸h);exact⟨x,H',h1,h2⟩
end
end
end Go.Ab
namespace Go.Ab
theorem atZ{H:Hp}{id:Nat}(h:hkey H id=false):hget H id=none:=by
 cases hg:hget H id with
 |none=>rfl
 |some e=>rw[ahZ hg] at h;cases h
section
variable {z z' : Z} {H : Hp}
theorem ARep.live{a:AV}{v:Value}(h:ARep z a v):∀id∈AV.ids a,z.ρ id≠.no:=by
 have hL:∀{l:List AV},(∀(i:Nat) (x:AV),l[i]? =some x->∀id∈AV.ids x,z.ρ id≠.no)->∀id∈AV.idsL l,z.ρ id≠.no:=by
  intro l;induction l with
  |nil=>intro _ id h;cases h
  |cons a l ih=>
   intro h id hi;simp only[AV.idsL,ZAh] at hi;rcases hi with hi|hi
   ·exact h 0 a rfl id hi
   ·exact ih (fun i x hx=>h (i+1) x hx) id hi
 induction h with
 |p t x v h=>intro id h;cases h
 |pt t l i j b off h1 h2 h3=>intro id h;cases h
 |own es id i j g sz n h=>intro k hk;simp only[AV.ids,ZBQ] at hk;subst hk;rw[h];intro h;cases h
 |rp f es k' i j g sz n h=>intro k hk;cases hk
 |slV es id off A h=>intro k hk;simp only[AV.ids,ZBQ] at hk;subst hk;rw[h];intro h;cases h
 |slE es id off g sz m o h=>intro k hk;simp only[AV.ids,ZBQ] at hk;subst hk;rw[h];intro h;cases h
 |sl es id off n g sz m c h hn hs hm=>intro k hk;simp only[AV.ids,ZBQ] at hk;subst hk;rw[h];intro h;cases h
 |slfV es id A h=>intro k hk;simp only[AV.ids,ZBQ] at hk;subst hk;rw[h];intro h;cases h
 |slf es id g sz n c h hn hs hm=>intro k hk;simp only[AV.ids,ZBQ] at hk;subst hk;rw[h];intro h;cases h
 |mp id g sz n h=>intro k hk;simp only[AV.ids,ZBQ] at hk;subst hk;rw[h];intro h;cases h
 |fn f a c va vc ha hc h1 h2 ih1 ih2=>
  intro k hk;simp only[AV.ids,ZAh] at hk;rcases hk with hk|hk
  ·refine hL (fun i x hx=> ?_) k hk;have hlt:i<va.size:=by rw[ha];exact(ZAC.1 hx).1
   exact ih1 i x va[i] hx (ZA7 hlt)
  ·refine hL (fun i x hx=> ?_) k hk;have hlt:i<vc.size:=by rw[hc];exact(ZAC.1 hx).1
   exact ih2 i x vc[i] hx (ZA7 hlt)
 |agg l cs hs h1 h ih=>
  intro k hk;refine hL (fun i x hx=> ?_) k hk;have hlt:i<cs.size:=by rw[hs];exact(ZAC.1 hx).1
  exact ih i x cs[i] hx (ZA7 hlt)
 |tup l vs hs h ih=>
  intro k hk;refine hL (fun i x hx=> ?_) k hk;have hlt:i<vs.size:=by rw[hs];exact(ZAC.1 hx).1
  exact ih i x vs[i] hx (ZA7 hlt)
 |junk v=>intro k hk;cases hk
theorem BRep.ren'{g sz n:Nat}{b:Blk}{f:Nat->Option Nat}{ρ':Rho}(h:BRep z g sz n b)(hd:SameDyn z.ρ ρ')(hf:∀{id k:Nat},z.ρ id≠.no->f id=some k->ρ' k=z.ρ id):BRep {z with ρ:=ρ'} g sz n (b.ren f):=by
 cases b with
 |vars c=>
  obtain⟨cs,e,fr,a1,a2,a3,⟨a4,an⟩,a5,a6⟩:=h;refine⟨cs,e,fr,a1,a2,a3,⟨by rw[bNZ];exact a4,an⟩,fun i a v p1 p2=> ?_,a6⟩;rw[cuZ] at p1;obtain⟨y,p3,rfl⟩:=ZAH.1 p1;exact(a5 i y v p3 p2).ren rfl rfl (.inl hd) fun id k hi hk=>hf ((a5 i y v p3 p2).live id hi) hk
 |rows e t l=>
  obtain⟨cs,fr,a1,a2,a3,a4,a5,a6,a7⟩:=h;refine⟨cs,fr,a1,a2,a3,a4,a5,a6,fun i x hx=> ?_⟩;obtain⟨u,b1,b2⟩:=a7 i x hx;exact⟨u,b1.dyn hd,b2⟩
 |map kt vt m=>
  obtain⟨es,a1,a2,a3,a4⟩:=h;exact⟨es,a1,a2,fun i x e q1 q2=>⟨(a3 i x e q1 q2).1.dyn hd,(a3 i x e q1 q2).2.1.dyn hd,(a3 i x e q1 q2).2.2⟩,a4⟩
 |fmap kt l=>
  obtain⟨es,clock,a1,a2,a3⟩:=h;refine⟨es,clock,a1,by simp[a2],fun i x e q1 q2=> ?_⟩;rw[ZAW] at q1;obtain⟨y,q3,rfl⟩:=ZAH.1 q1;obtain⟨b1,b2⟩:=a3 i y e q3 q2;exact⟨b1.dyn hd,b2.ren rfl rfl (.inl hd) fun id k hi hk=>hf (b2.live id hi) hk⟩
 |fam e s ms=>exact h.elim
def Z.foc(z:Z)(H:Hp)(F:Nat->Bool):Z:=
 {z with C:=fun g=>∃id e sz n,F (rt id)=true/\hgetX H id=some e/\e.fz=false/\z.ρ id= .real g sz n,D:=fun id=>z.D id\/(hkeyX H id=true/\F (rt id)=false)}
theorem rbZ{H1:Hp}{F:Nat->Bool}(hH:HRep z H)(h1:∀id,hget H1 id=if F id then hget H id else none)(h2:∀id,hkey H1 id=(F id&&hkey H id)):HRep (z.foc H F) H1:=by
 have q:∀id e,hgetX H1 id=some e->F (rt id)=true/\hgetX H id=some e:=fun id e h=>by
  cases hF:F (rt id)
  ·exfalso;have e1:hget H1 (rt id)=none:=by rw[h1,hF];rfl
   have:hgetX H1 id=none:=by
    by_cases hd:dynBase<=id
    ·rw[a2Z hd,e1];rfl
    ·rw[aOZ (by omega)] at e1;unfold hgetX;rw[ZAQ hd,e1,ite_self]
   rw[this] at h;cases h
  ·exact⟨rfl,by rw[<-bOZ (show hget H1 (rt id)=hget H (rt id) by rw[h1,hF];rfl)];exact h⟩
 refine⟨fun id e h=> ?_,fun id id' e e' g sz n g' sz' n' hii p1 p2 m1 m2 p3 p4=> ?_,fun id h=> ?_,fun g ⟨id,e,sz,n,q1,q2,q3,q4⟩=> ?_,fun id x h=> ?_,fun id h=> ?_,fun id hd h=> ?_,hH.nos⟩
 ·obtain⟨a1,a2⟩:=q id e h;exact(hH.ent _ _ a2).rho rfl rfl (.inl (.eq rfl)) rfl (fun _ _=>rfl) fun g sz n hr hf _=>⟨id,e,sz,n,a1,a2,hf,hr⟩
 ·exact hH.inj id id' e e' g sz n g' sz' n' hii (q _ _ p1).2 (q _ _ p2).2 m1 m2 p3 p4
 ·cases hF:F (rt id)
  ·cases hk:hkeyX H id
   ·exact(hH.fresh id hk).imp (fun h=>h) .inl
   ·exact .inr (.inr ⟨hk,hF⟩)
  ·rw[cBZ (show hget H1 (rt id)=hget H (rt id) by rw[h1,hF];rfl) (by rw[h2,hF];rfl)] at h;exact(hH.fresh id h).imp (fun h=>h) .inl
 ·exact hH.sub _ ((hH.realX q2 q4).2.1 q3)
 ·rw[h1] at h;split at h
  ·exact hH.fam id x h
  ·cases h
 ·rw[h2,ZAB] at h;exact hH.key id h.2
 ·rw[h2,ZAB] at h;rintro(hD|⟨_,hD⟩)
  ·exact hH.dyn id hd h.2 hD
  ·rw[h.1] at hD;cases hD
theorem k5Z{H2 H3:Hp}{F:Nat->Bool}{z2:Z}(hH:HRep z H)(hn:Nx (z.foc H F) z2)(h2:HRep z2 H2)(hF:∀id,hkey H2 id=true->F id=true)
 (h3:∀id,hget H3 id=if hkey H2 id then hget H2 id else if F id then none else hget H id)(h4:∀id,hkey H2 id=true\/hkey H id=true->hkey H3 id=true)(h5:∀id,hkey H3 id=true->hkey H2 id=true\/hkey H id=true\/(id<dynBase/\∀x,rt x=id->¬z.D x)):
 ∃z3,z3.w=z2.w/\z3.M=z2.M/\z3.ρ=z2.ρ/\HRep z3 H3/\Nx z z3:=by
 let z3:Z:={z2 with C:=fun g=>z2.C g\/(z.C g/\¬(z.foc H F).C g/\g<z.w.heap.size),D:=z.D}
 have hC1:∀g,(z.foc H F).C g->z.C g:=fun g ⟨id,e,sz,n,_,q2,q3,q4⟩=>(hH.realX q2 q4).2.1 q3;have hN:Nx z z3:=⟨hn.os,hn.tape,hn.output,hn.size,fun b hb hc=>hn.block b hb fun h=>hc (hC1 b h),hn.subM,fun g hg=>by
  rcases hg with hg|hg
  ·rcases hn.subC g hg with h|h
   ·exact .inl (hC1 g h)
   ·exact .inr h
  ·exact .inl hg.1,fun g hg hM hC=>hn.keepM g hg hM fun h=>hC (hC1 g h),hn.ext,rfl⟩
 have hkp:=hN.kp hH.sub;have key:∀id e,hgetX H3 id=some e->(hgetX H2 id=some e)\/(F (rt id)=false/\hgetX H id=some e):=fun id e h=>by
  have h3':=h3 (rt id);cases hk:hkey H2 (rt id)
  ·rw[hk] at h3';simp only[ZBP,if_false] at h3';cases hf:F (rt id)
   ·rw[hf] at h3';exact .inr ⟨rfl,by rw[<-bOZ (H':=H3) (H:=H) h3'];exact h⟩
   ·exfalso;rw[hf] at h3';have e1:hget H3 (rt id)=none:=h3';have:hgetX H3 id=none:=by
     by_cases hd:dynBase<=id
     ·rw[a2Z hd,e1];rfl
     ·rw[aOZ (by omega)] at e1;unfold hgetX;rw[ZAQ hd,e1,ite_self]
    rw[this] at h;cases h
  ·rw[hk] at h3';exact .inl (by rw[<-bOZ (H':=H3) (H:=H2) h3'];exact h)
 have hout:∀id e g sz n,F (rt id)=false->hgetX H id=some e->z.ρ id= .real g sz n->¬(z.foc H F).C g:=by
  rintro id e g sz n hf hg hr ⟨id',e',sz',n',a1,a2,a3,a4⟩;have hne:id≠id':=fun h=>by rw[h,a1] at hf;cases hf
  exact hH.ne hne hg a2 a3 hr a4 (fun h=>by rw[h.1.rt,<-h.2.rt,a1] at hf;cases hf) rfl
 have houtρ:∀id e,F (rt id)=false->hgetX H id=some e->z.ρ id≠.no:=fun id e _ hg hr=>by
  have:=hH.ent _ _ hg;unfold ERep at this;rw[hr] at this;exact this
 refine⟨z3,rfl,rfl,rfl,⟨fun id e h=> ?_,fun id id' e e' g sz n g' sz' n' hii p1 p2 m1 m2 p3 p4=> ?_,fun id h=> ?_,fun g hg=> ?_,fun id x h=> ?_,fun id h=> ?_,fun id hd h=> ?_,h2.nos⟩,hN⟩
 ·rcases key id e h with h|⟨hf,h⟩
  ·exact(h2.ent _ _ h).rho rfl rfl (.inl (.eq rfl)) rfl (fun _ _=>rfl) fun g _ _ _ _ hC=>.inl hC
  ·refine(hH.ent _ _ h).kp hkp fun g sz n hr=>⟨hn.block g (hH.realX h hr).1 (hout id e g sz n hf h hr),fun hC=>.inr ⟨hC,hout id e g sz n hf h hr,(hH.realX h hr).1⟩⟩
 ·have cross:∀i i' ee ee' gg ssz nn gg' ssz' nn',hgetX H2 i=some ee->F (rt i')=false->hgetX H i'=some ee'->ee.fz=false->z2.ρ i= .real gg ssz nn->z2.ρ i'= .real gg' ssz' nn'->gg≠gg':=by
   rintro i i' ee ee' gg ssz nn gg' ssz' nn' a1 a2 a3 a4 a5 a6 rfl;have hr':z.ρ i'= .real gg ssz' nn':=by rw[<-hN.ext i' (houtρ i' ee' a2 a3)];exact a6
   have hlt:=(hH.realX a3 hr').1;rcases hn.subC gg ((h2.realX a1 a5).2.1 a4) with h|h
   ·exact hout i' ee' gg ssz' nn' a2 a3 hr' h
   ·exact ZBK.2 hlt h
  rcases key id e p1 with q1|⟨f1,q1⟩<;>rcases key id' e' p2 with q2|⟨f2,q2⟩
  ·exact h2.inj id id' e e' g sz n g' sz' n' hii q1 q2 m1 m2 p3 p4
  ·exact fun _=>cross id id' e e' g sz n g' sz' n' q1 f2 q2 m1 p3 p4
  ·exact fun _ h=>cross id' id e' e g' sz' n' g sz n q2 f1 q1 m2 p4 p3 h.symm
  ·have r1:z.ρ id= .real g sz n:=by rw[<-hN.ext id (houtρ id e f1 q1)];exact p3
   have r2:z.ρ id'= .real g' sz' n':=by rw[<-hN.ext id' (houtρ id' e' f2 q2)];exact p4
   exact hH.inj id id' e e' g sz n g' sz' n' hii q1 q2 m1 m2 r1 r2
 ·
  have h0:=cAZ;by_cases hfr:famBase<=id/\id<dynBase
  ·exact .inl (h2.nos id hfr.1 hfr.2)
  have hlk:∀(H:Hp),(dynBase<=id->hkeyX H id=(match hget H (rt id) with|some e=>e.has ((id-dynBase)/16)|none=>hkey H (rt id)))/\(¬dynBase<=id->hkeyX H id=hkey H (rt id)):=fun H=>
   ⟨fun hd=>awZ hd,fun hd=>by rw[a3Z (by omega),aOZ (by omega)]⟩
  have k2:hkeyX H2 id=false:=by
   by_cases hd:dynBase<=id
   ·rw[(hlk H2).1 hd];rw[(hlk H3).1 hd] at h;cases hk:hkey H2 (rt id)
    ·rw[atZ hk]
    ·have h3':=h3 (rt id);rw[hk] at h3';rw[ZAT rfl] at h3';rw[h3'] at h;cases hg:hget H2 (rt id) with
     |none=>
      rw[hg] at h;have h:hkey H3 (rt id)=false:=h;rw[h4 (rt id) (.inl hk)] at h;cases h
     |some e=>rw[hg] at h;exact h
   ·rw[(hlk H2).2 hd];rw[(hlk H3).2 hd] at h;cases hk:hkey H2 (rt id)
    ·rfl
    ·rw[h4 (rt id) (.inl hk)] at h;cases h
  have k1:F (rt id)=false->hkeyX H id=false:=fun hf=>by
   have hk2:hkey H2 (rt id)=false:=by
    cases hk:hkey H2 (rt id)
    ·rfl
    ·have:=hF _ hk;rw[hf] at this;cases this
   by_cases hd:dynBase<=id
   ·rw[(hlk H).1 hd];rw[(hlk H3).1 hd] at h;have h3':=h3 (rt id);rw[hk2,hf] at h3';simp only[ZBP,if_false] at h3';rw[h3'] at h;cases hg:hget H (rt id) with
    |none=>
     rw[hg] at h;have h:hkey H3 (rt id)=false:=h;show hkey H (rt id)=false;cases hk:hkey H (rt id)
     ·rfl
     ·rw[h4 (rt id) (.inr hk)] at h;cases h
    |some e=>rw[hg] at h;exact h
   ·rw[(hlk H).2 hd];rw[(hlk H3).2 hd] at h;cases hk:hkey H (rt id)
    ·rfl
    ·rw[h4 (rt id) (.inr hk)] at h;cases h
  rcases h2.fresh id k2 with h0|h0
  ·exact .inl h0
  ·rw[hn.dom] at h0;rcases h0 with h0|⟨h0,hf⟩
   ·exact .inr h0
   ·rw[k1 hf] at h0;cases h0
 ·rcases hg with hg|⟨hg,hng,hlt⟩
  ·exact h2.sub g hg
  ·exact hn.keepM g hlt (hH.sub g hg) hng
 ·rw[h3] at h;split at h
  ·exact h2.fam id x h
  ·split at h
   ·cases h
   ·exact hH.fam id x h
 ·rcases h5 id h with h|h|h
  ·exact h2.key id h
  ·exact hH.key id h
  ·exact h.1
 ·rcases h5 _ h with h|h|h
  ·have:=h2.dyn id hd h;rw[hn.dom] at this;exact fun hD=>this (.inl hD)
  ·exact hH.dyn id hd h
  ·exact h.2 id rfl
def frzE(e:Ent):Ent:=
 match e.b with
 |.fam e' s ms=>⟨e.fz,.fam e' s (ms.map frz1)⟩
 |_=>e
theorem cNZ:∀(H:Hp) (id:Nat),hget (frzF H) id=(hget H id).map frzE/\hkey (frzF H) id=hkey H id
 |[],id=>⟨rfl,rfl⟩
 |(i,none)::H,id=>by
  obtain⟨h1,h2⟩:=cNZ H id;simp only[frzF,hget,hkey];cases Nat.beq i id
  ·exact⟨h1,h2⟩
  ·exact⟨rfl,rfl⟩
 |(i,some ⟨fz,b⟩)::H,id=>by
  obtain⟨h1,h2⟩:=cNZ H id;cases b<;>simp only[frzF,hget,hkey]<;>cases Nat.beq i id<;>first|exact⟨h1,h2⟩|exact⟨rfl,rfl⟩
theorem pdZ(k:Nat)(e:Ent):pick k (frzE e)=(pick k e).map fun x=>⟨true,x.b⟩:=by
 obtain⟨fz,b⟩:=e;cases b with
 |fam e s ms=>
  simp only[frzE,pick,ZAW];cases hm:ms[k]? with
  |none=>rfl
  |some m=>
   obtain⟨st,l⟩:=m;simp only[ZBk,frz1];by_cases h:st=0
   ·subst h;rfl
   ·rw[ZAQ h,afZ h,bq_false,ZAQ (by decide)];cases fz<;>rfl
 |_=>rfl
theorem oPZ(e:Ent)(k:Nat):(frzE e).has k=e.has k:=by
 obtain⟨fz,b⟩:=e;cases b<;>simp[frzE,Ent.has]
theorem ptZ(hH:HRep z H)(id:Nat):hgetX (frzF H) id=(hgetX H id).map (fun x=>⟨x.fz||decide (dynBase<=id),x.b⟩)/\hkeyX (frzF H) id=hkeyX H id:=by
 obtain⟨h1,h2⟩:=cNZ H (rt id);by_cases hd:dynBase<=id
 ·rw[a2Z hd,a2Z hd,awZ hd,awZ hd,h1,h2];refine⟨?_,?_⟩
  ·cases hget H (rt id) with
   |none=>rfl
   |some e=>
    simp only[ZBk,ZAA,pdZ,hd,decide_true,Bool.or_true]
  ·cases hget H (rt id) with
   |none=>rfl
   |some e=>simp only[ZBk,oPZ]
 ·rw[aOZ (by omega)] at h1 h2;by_cases hf:famBase<=id
  ·unfold hgetX hkeyX;simp only[ZAQ hd,ZAT hf];exact⟨rfl,trivial⟩
  ·rw[aqZ (by omega),aqZ (by omega),a3Z (by omega),a3Z (by omega),h1,h2];refine⟨?_,rfl⟩;cases hg:hget H id with
   |none=>rfl
   |some e=>
    have:=hH.fam id e hg;obtain⟨fz,b⟩:=e;cases b<;>first|(simp[frzE,hd];done)|(have:=this.1;omega)
theorem qpZ(hH:HRep z H):∃z',z'.w=z.w/\HRep z' (frzF H)/\Nx z z'/\z'.ρ=z.ρ:=by
 let mem:Nat->Prop:=fun g=>∃id e sz n,dynBase<=id/\hgetX H id=some e/\e.fz=false/\z.ρ id= .real g sz n
 let z':Z:={z with M:=fun x=>z.M x/\¬mem x,C:=fun x=>z.C x/\¬mem x}
 have hmC:∀g,mem g->z.C g:=fun g ⟨id,e,sz,n,_,q1,q2,q3⟩=>(hH.realX q1 q3).2.1 q2;have hn:Nx z z':=⟨rfl,⟨rfl,ZAM _⟩,rfl,ZAM _,fun _ _ _=>rfl,fun x hx=>.inl hx.1,fun x hx=>.inl hx.1,fun x _ hM hx=>⟨hM,fun h=>hx (hmC x h)⟩,fun _ _=>rfl,rfl⟩;have hkp:=hn.kp hH.sub;have hX:=fun id=>(ptZ hH id).1;have hK:=fun id=>(ptZ hH id).2;refine⟨z',rfl,⟨fun i e hi=> ?_,fun i i' e e' a sa na a' sa' na' hii h1 h2 m1 m2 h3 h4=> ?_,fun i hi=> ?_,fun x hx=>⟨hH.sub x hx.1,hx.2⟩,fun i x h=> ?_,fun i h=>hH.key i (by rw[<-(cNZ H i).2];exact h),fun i hd h=>hH.dyn i hd (by rw[<-(cNZ H _).2];exact h),hH.nos⟩,hn,rfl⟩
 ·rw[hX] at hi;obtain⟨e0,q1,rfl⟩:=ZAH.1 hi;have h0:=hH.ent _ _ q1;unfold ERep at h0⊢;show match z.ρ i with|.no=>False|.virt=>_|.real g sz n=>_
  cases hρ:z.ρ i with
  |no=>rw[hρ] at h0;exact h0
  |virt=>rw[hρ] at h0;exact h0
  |real g sz n=>
   rw[hρ] at h0;obtain⟨b1,b2,b3,b4⟩:=h0;refine⟨b1,fun hf=> ?_,fun hf hm=> ?_,b4.kp hkp rfl⟩
   ·simp only[ZBE,ZA6] at hf;refine⟨b2 hf.1,?_⟩;rintro⟨id',e',sz',n',p1,p2,p3,p4⟩;exact hH.inj i id' _ _ _ _ _ _ _ _ (fun h=>hf.2 (h▸p1)) q1 p2 hf.1 p3 hρ p4 (fun h=>hf.2 h.1.1) rfl
   ·simp only[ZAp,ZAd] at hf;cases he:e0.fz
    ·rw[he] at hf;exact hm.2 ⟨i,e0,sz,n,hf.resolve_left (by simp),q1,he,hρ⟩
    ·exact b3 he hm.1
 ·rw[hX] at h1 h2;obtain⟨e1,q1,rfl⟩:=ZAH.1 h1;obtain⟨e2,q2,rfl⟩:=ZAH.1 h2;simp only[ZBE] at m1 m2;exact hH.inj i i' e1 e2 _ _ _ _ _ _ hii q1 q2 m1.1 m2.1 h3 h4
 ·rw[hK] at hi;exact hH.fresh i hi
 ·rw[(cNZ H i).1] at h;obtain⟨e0,q1,rfl⟩:=ZAH.1 h;have:=hH.fam i e0 q1;obtain⟨fz,b⟩:=e0;cases b<;>exact this
theorem jEZ{H:Hp}{f:Nat}{s:Ty}:∀{n:Nat} {ms:List (Nat×List s.den)},fmAt f s (fmsFrom H n)=some ms->∃fz e,hget H (famId f)=some ⟨fz,.fam e s ms⟩
 |0,ms,h=>by cases h
 |n+1,ms,h=>by
  simp only[fmsFrom] at h;split at h
  ·rename_i fz e s' ms' hg;simp only[fmAt] at h;cases hb:Nat.beq n (f%16)<;>rw[hb] at h<;>simp only[bq_true,bq_false] at h
   ·exact jEZ h
   ·rw[acZ] at hb;subst hb;rcases aFZ h with⟨hs,h⟩|h
    ·have hs:s'=s:=hs;subst hs;have:=ZAk h;subst this;exact⟨fz,e,hg⟩
    ·cases h
  ·exact jEZ h
theorem riZ(hH:HRep z H){f:Nat}{s:Ty}{ms:List (Nat×List s.den)}(h:fmAt f s (fmsOf H)=some ms){k st:Nat}{l:List s.den}(hm:ms[k]? =some (st,l))(hst:2<=st):∃e,ERep z (enc f k) ⟨true,.rows e s l⟩:=by
 obtain⟨fz,e,hg⟩:=jEZ h;have:=fgZ hg hm (by simp only;omega);have h2:=hH.ent _ _ this;rw[show(fz||Nat.ble 2 st)=true by rw[ZAi hst,Bool.or_true]] at h2;exact⟨e,h2⟩
theorem c2Z(hH:HRep z H):{t:Ty}->{x:t.den}->{y:t.unref.den}->{vs:List Value}->unrefD (fmsOf H) t x=some y->Cl z.w z.M z.ρ t x vs->Cl z.w z.M z.ρ t.unref y vs
 |.one t,x,y,vs,h,hc=>c2Z hH (t:=t) h hc
 |.pair a b,x,y,vs,h,hc=>by
  obtain⟨u,v,rfl,h1,h2⟩:=hc;simp only[unrefD] at h;obtain⟨p,h3,h4⟩:=ZAF.1 h;obtain⟨q,h5,rfl⟩:=ZAH.1 h4;exact⟨u,v,rfl,c2Z hH h3 h1,c2Z hH h5 h2⟩
 |.ref f t,.inl l,y,vs,h,hc=>by
  obtain rfl:=ZAk h;exact hc
 |.ref f t,.inr none,y,vs,h,hc=>by
  obtain rfl:=ZAk h;obtain rfl:vs=[.slice none 0 0]:=hc;exact⟨none,0,rfl,ZAM _,by unfold maxLen;omega,fun _=>rfl,fun h=>absurd rfl h⟩
 |.ref f t,.inr (some (k,off,n)),y,vs,h,hc=>by
  have h:((fmAt f t (fmsOf H)).ob fun ms=>memb ms k off n)=some y:=h;obtain⟨ms,h1,h2⟩:=agZ.1 h;unfold memb at h2;split at h2
  ·rename_i st l hm;cases hb:(Nat.ble 2 st&&Nat.ble (off+n) l.length)<;>rw[hb] at h2<;>simp only[bq_true,bq_false] at h2
   ·cases h2
   simp only[ZAB,ZAm] at hb;obtain⟨hst,hn⟩:=hb;obtain rfl:(l.drop off).take n=y:=ZAk h2;obtain⟨e,hE⟩:=riZ hH h1 hm hst;have hlen:((l.drop off).take n).length=n:=by rw[ZAS,ZAv];omega
   unfold ERep at hE;rcases hc with⟨A,hρ,rfl,rfl⟩|⟨g,sz,m,c,hρ,h3,h4,h5,rfl⟩
   ·refine⟨A,0,?_,?_,by unfold maxLen;omega,fun _=>rfl,fun h=>absurd hlen h⟩
    ·rw[show List.length (α:=t.den) (List.take 0 (List.drop off l))=0 from hlen]
    ·rw[show List.length (α:=t.den) (List.take 0 (List.drop off l))=0 from hlen];omega
   ·rw[hρ] at hE;obtain⟨q1,_,q2,q3⟩:=hE;refine⟨some ⟨g,off*t.cells,none⟩,c,?_,?_,h5,(fun h=>by cases h),fun _=>⟨g,off*t.cells,rfl,q2 rfl,q1,?_⟩⟩
    ·rw[show List.length (α:=t.den) (List.take n (List.drop off l))=n from hlen]
    ·rw[show List.length (α:=t.den) (List.take n (List.drop off l))=n from hlen];exact h3
    ·have:=q3.rowAt.sub off n;rwa [ZAj] at this
  ·cases h2
 |.int _,x,y,vs,h,hc|.byte,x,y,vs,h,hc|.bool,x,y,vs,h,hc|.str,x,y,vs,h,hc|.opq,x,y,vs,h,hc|.nat,x,y,vs,h,hc|.ptr _,x,y,vs,h,hc|.sl _,x,y,vs,h,hc|.arr _ _,x,y,vs,h,hc=>by
  obtain rfl:=ZAk h;exact hc
theorem guZ{α γ:Type}{g:α->Option γ}:∀{l:List α} {l':List γ},unrefL g l=some l'->l'.length=l.length/\∀(i:Nat) y,l'[i]? =some y->∃x,l[i]? =some x/\g x=some y
 |[],l',h=>by
  obtain rfl:=ZAk h;exact⟨rfl,fun i y h=>by simp at h⟩
 |x::l,l',h=>by
  obtain⟨y,h1,h2⟩:=ZAF.1 h;obtain⟨l1,h3,rfl⟩:=ZAH.1 h2;obtain⟨q1,q2⟩:=guZ h3;refine⟨by simp[q1],fun i y' hi=> ?_⟩
  match i with
  |0=>simp at hi;subst hi;exact⟨x,rfl,h1⟩
  |i+1=>exact q2 i y' (by simpa using hi)
theorem kwZ{t:Ty}{g:t.den->Option t.unref.den}(hg:∀{x:t.den} {y:t.unref.den} {vs:List Value},g x=some y->Cl z.w z.M z.ρ t x vs->Cl z.w z.M z.ρ t.unref y vs){l:List t.den}{l':List t.unref.den}{v:Value}(h:unrefL g l=some l')(hv:VRep z.w z.M z.ρ (.sl t) l v):VRep z.w z.M z.ρ (.sl t.unref) l' v:=by
 obtain⟨A,c,rfl,h1,h2,h3,h4⟩:=hv.sl;obtain⟨q1,q2⟩:=guZ h;refine .mkSc ⟨A,c,?_,?_,h2,h3,fun h0=> ?_⟩ rfl
 ·rw[show List.length (α:=t.unref.den) l'=l.length from q1]
 ·rw[show List.length (α:=t.unref.den) l'=l.length from q1];exact h1
 ·rw[show List.length (α:=t.unref.den) l'=l.length from q1] at h0;obtain⟨b,off,p1,p2,p3,p4⟩:=h4 h0;refine⟨b,off,p1,p2,p3,fun i e he=> ?_⟩;obtain⟨x,hx,hxe⟩:=q2 i e he;obtain⟨u,r1,r2⟩:=p4 i x hx;exact⟨u,hg hxe r1,by rw[azZ];exact r2⟩
theorem VRep.unref{t:Ty}{x:t.den}{y:t.unref.den}{v:Value}(hv:VRep z.w z.M z.ρ t x v)(h:∀vs,Cl z.w z.M z.ρ t x vs->Cl z.w z.M z.ρ t.unref y vs):VRep z.w z.M z.ρ t.unref y v:=by
 obtain⟨vs,h1,h2⟩:=hv;exact⟨vs,h vs h1,by rw[fwZ];exact h2⟩
section
variable {β : Type}
theorem ipZ(hH:HRep z H){a:AV}{K:AV->Option β}{r:β}{v:Value}(h:unref1 (fmsOf H) a K=some r)(ha:ARep z a v):∃x,ARep z x v/\K x=some r:=by
 unfold unref1 at h;split at h
 ·rename_i t l;cases hn:t.noRef<;>rw[hn] at h<;>simp only[bq_true,bq_false] at h
  ·obtain⟨l',h1,h2⟩:=ZAF.1 h;exact⟨_,.p _ _ _ (kwZ (fun h hc=>c2Z hH h hc) h1 ha.v),h2⟩
  ·exact⟨_,ha,h⟩
 ·rename_i t x _;cases hn:t.noRef<;>rw[hn] at h<;>simp only[bq_true,bq_false] at h
  ·obtain⟨y,h1,h2⟩:=ZAF.1 h;exact⟨_,.p _ _ _ (ha.v.unref fun vs hc=>c2Z hH h1 hc),h2⟩
  ·exact⟨_,ha,h⟩
 ·exact⟨_,ha,(aeZ.1 h).2⟩
 ·exact⟨_,ha,h⟩
theorem g7Z(hH:HRep z H):∀{l:List AV} {K:List AV->Option β} {r:β} {vs:List Value},unref1L (fmsOf H) l K=some r->AReps z l vs->∃l',AReps z l' vs/\K l'=some r
 |[],K,r,vs,h,hv=>⟨[],hv,h⟩
 |a::l,K,r,[],h,hv=>by have:=hv.1;simp at this
 |a::l,K,r,v::vs,h,hv=>by
  obtain⟨x,h1,h2⟩:=ipZ hH h hv.head;obtain⟨l',h3,h4⟩:=g7Z hH h2 hv.tail;exact⟨x::l',.cons h1 h3,h4⟩
theorem mJZ{a:AV}{K:AV->Option β}{r:β}{v:Value}(h:low1 a K=some r)(ha:ARep z a v):∃x,ARep z x v/\K x=some r:=by
 unfold low1 at h;split at h
 ·rename_i t l;cases hn:t.noRef<;>rw[hn] at h<;>simp only[bq_true,bq_false] at h
  ·obtain⟨l',h1,h2⟩:=ZAF.1 h;exact⟨_,.p _ _ _ (kwZ (fun h hc=>f8Z h hc) h1 ha.v),h2⟩
  ·exact⟨_,ha,h⟩
 ·rename_i t x _;cases hn:t.noRef<;>rw[hn] at h<;>simp only[bq_true,bq_false] at h
  ·obtain⟨y,h1,h2⟩:=ZAF.1 h;exact⟨_,.p _ _ _ (ha.v.unref fun vs hc=>f8Z h1 hc),h2⟩
  ·exact⟨_,ha,h⟩
 ·exact⟨_,ha,h⟩
theorem kvZ:∀{l:List AV} {K:List AV->Option β} {r:β} {vs:List Value},low1L l K=some r->AReps z l vs->∃l',AReps z l' vs/\K l'=some r
 |[],K,r,vs,h,hv=>⟨[],hv,h⟩
 |a::l,K,r,[],h,hv=>by have:=hv.1;simp at this
 |a::l,K,r,v::vs,h,hv=>by
  obtain⟨x,h1,h2⟩:=mJZ h hv.head;obtain⟨l',h3,h4⟩:=kvZ h2 hv.tail;exact⟨x::l',.cons h1 h3,h4⟩
theorem pzZ{l:List AV}{cs:Array Value}(ha:ARep z (.agg l) (.agg cs)){z':Z}{l':List AV}(h:AReps z' l' cs.toList):ARep z' (.agg l') (.agg cs):=by
 cases ha with|agg _ _ hs h1 h2=>
 exact .agg _ _ (by have:=h.1;simpa using this.symm) h1 fun i x v p1 p2=>h.2 i x v p1 (by simpa using p2)
theorem oRZ{a:AV}{K:AV->Option β}{r:β}{v:Value}(h:lowAK a K=some r)(ha:ARep z a v):∃x,ARep z x v/\K x=some r:=by
 unfold lowAK at h;split at h
 ·rename_i l;cases hv:v<;>rw[hv] at ha<;>first|(cases ha;done)|skip;rename_i cs;obtain⟨l',h1,h2⟩:=kvZ h ha.reps;exact⟨_,pzZ ha h1,h2⟩
 ·exact mJZ h ha
theorem lpZ{a:AV}{K:AV->Hp->Option β}{r:β}{v:Value}(hH:HRep z H)(h:unrefAK H a K=some r)(ha:ARep z a v):∃x H' z',z'.w=z.w/\HRep z' H'/\Nx z z'/\z'.ρ=z.ρ/\ARep z' x v/\K x H'=some r:=by
 obtain⟨z',q1,q2,q3,q4⟩:=qpZ hH;have kp:=q3.kp hH.sub;unfold unrefAK at h;split at h
 ·rename_i l;cases hb:anyRefL l<;>rw[hb] at h<;>simp only[bq_true,bq_false] at h
  ·exact⟨_,H,z,rfl,hH,Nx.refl z,rfl,ha,h⟩
  ·cases hv:v<;>rw[hv] at ha<;>first|(cases ha;done)|skip;rename_i cs;obtain⟨l',h1,h2⟩:=g7Z q2 h (ha.reps.kp kp);exact⟨_,_,z',q1,q2,q3,q4,pzZ ha h1,h2⟩
 ·cases hb:a.anyRef<;>rw[hb] at h<;>simp only[bq_true,bq_false] at h
  ·exact⟨_,H,z,rfl,hH,Nx.refl z,rfl,ha,h⟩
  ·obtain⟨x,h1,h2⟩:=ipZ q2 h (ha.kp kp);exact⟨_,_,z',q1,q2,q3,q4,h1,h2⟩
theorem eDZ{a a':AV}{H':Hp}{v:Value}(hH:HRep z H)(h:pureF H a=some (a',H'))(ha:ARep z a v):
 ∃z',z'.w=z.w/\HRep z' H'/\Nx z z'/\z'.ρ=z.ρ/\ARep z' a' v:=by
 unfold pureF at h;obtain⟨⟨x,H1⟩,h1,h2⟩:=agZ.1 h;obtain⟨z1,p1,p2,p3,p4,p5⟩:=byZ hH h1 ha;obtain⟨y,H2,z2,q1,q2,q3,q4,q5,q6⟩:=lpZ p2 h2 p5;obtain⟨rfl,rfl⟩:=Prod.mk.inj (ZAk q6);exact⟨z2,q1.trans p1,q2,p3.trans q3,q4.trans p4,q5⟩
end
end
end Go.Ab
namespace Go.Ab
section
variable {P : Program} {z : Z} {H : Hp} {β : Type}
theorem aEZ(H:Hp):∀(K:Hp) (id:Nat),hget (setAll H K) id=if hkey K id then hget K id else hget H id
 |[],id=>by simp[setAll,hkey]
 |(i,e)::K,id=>by
  simp only[setAll,aoZ,hkey,hget];by_cases h:id=i
  ·subst h;simp[(acZ id id).2 rfl]
  ·simp[afZ (ZBd h),h,aEZ H K id]
theorem a7Z(H:Hp):∀(K:Hp) (id:Nat),hkey (setAll H K) id=(hkey K id||hkey H id)
 |[],id=>by simp[setAll,hkey]
 |(i,e)::K,id=>by
  simp only[setAll,asZ,hkey];by_cases h:id=i
  ·subst h;simp[(acZ id id).2 rfl]
  ·simp[afZ (ZBd h),h,a7Z H K id]
theorem aNZ:∀(l:List Nat) (H:Hp) (id:Nat),hget (killAll H l) id=if memN id l then none else hget H id
 |[],H,id=>by simp[killAll,memN]
 |i::l,H,id=>by
  rw[killAll,aNZ l,aoZ];simp only[memN];by_cases h:id=i
  ·subst h;simp[(acZ id id).2 rfl]
  ·simp[afZ (ZBd h),h]
theorem aDZ:∀(l:List Nat) (H:Hp) (id:Nat),hkey (killAll H l) id=(memN id l||hkey H id)
 |[],H,id=>by simp[killAll,memN]
 |i::l,H,id=>by
  rw[killAll,aDZ l,asZ];simp only[memN];by_cases h:id=i
  ·subst h;simp[(acZ id id).2 rfl]
  ·simp[afZ (ZBd h),h]
theorem b0Z(H:Hp):∀(l:List Nat) (id:Nat),hget (hsub H l) id=(if memN id l then hget H id else none)/\hkey (hsub H l) id=(memN id l&&hkey H id)
 |[],id=>by simp[hsub,memN,hget,hkey]
 |i::l,id=>by
  obtain⟨h1,h2⟩:=b0Z H l id;simp only[hsub,memN];cases hk:hkey H i
  ·simp only[bq_false];rw[h1,h2];by_cases h:i=id
   ·subst h;simp only[(acZ i i).2 rfl,ZAK,ZCH,hk,Bool.and_false,ZA4,ZBi];rw[atZ hk];split<;>rfl
   ·simp[afZ h]
  ·simp only[bq_true,hget,hkey];by_cases h:i=id
   ·subst h;simp[(acZ i i).2 rfl,hk]
   ·simp[afZ h,h1,h2]
theorem dPZ:∀{H:Hp} {id:Nat},hkey H id=true↔id∈hkeys H
 |[],id=>by simp[hkey,hkeys]
 |(i,e)::H,id=>by
  simp only[hkey,hkeys,ZAa];by_cases h:i=id
  ·subst h;simp[(acZ i i).2 rfl]
  ·simp only[afZ h,ZAE,dPZ];exact⟨.inr,fun h'=>h'.resolve_left (ZBd h)⟩
theorem dBZ{id:Nat}:∀{l:List Nat},id∈nubN l↔id∈l
 |[]=>by simp[nubN]
 |i::l=>by
  simp only[nubN];cases hm:memN i l
  ·simp only[bq_false,ZAa,dBZ]
  ·simp only[bq_true,ZAa,dBZ];exact⟨.inr,fun h=>h.elim (fun e=>e▸aiZ.1 hm) fun h=>h⟩
theorem jLZ:∀{l r:List Nat},eqN l r=true↔l=r
 |[],[]=>by simp[eqN]
 |[],_::_=>by simp[eqN]
 |_::_,[]=>by simp[eqN]
 |i::l,k::r=>by simp only[eqN,ZAB,acZ,jLZ,ZAq]
theorem ARep.less{z':Z}{a:AV}{v:Value}(h:ARep z a v)(hw:z'.w=z.w)(hr:z'.ρ=z.ρ)(hM:∀g,z'.M g->z.M g):ARep z' a v:=
 h.kp ⟨by rw[hw];exact ZAM _,fun _ _ _=>by rw[hw],fun g hg=>.inl (hM g hg),fun _ _=>by rw[hr]⟩
theorem AReps.less{z':Z}{l:List AV}{vs:List Value}(h:AReps z l vs)(hw:z'.w=z.w)(hr:z'.ρ=z.ρ)(hM:∀g,z'.M g->z.M g):AReps z' l vs:=
 ⟨h.1,fun i a v h1 h2=>(h.2 i a v h1 h2).less hw hr hM⟩
theorem myZ{α:Type}(f:Nat)(ms:List (Nat×List α))(l:List α)(y:List α×List (Nat×List α)):openF f ms (.inl l)≠some y:=by
 unfold openF;cases nro f<;>exact fun h=>by cases h
theorem nUZ{α:Type}{f:Nat}{ms ms':List (Nat×List α)}{l:List α}(h:openF f ms (.inr none)=some (l,ms')):[]=l/\ms=ms':=by
 unfold openF at h;cases hn:nro f<;>rw[hn] at h
 ·cases h
 ·exact Prod.mk.inj (ZAk h)
theorem mBZ{α:Type}{f k off n:Nat}{ms ms':List (Nat×List α)}{l':List α}(h:openF f ms (.inr (some (k,off,n)))=some (l',ms')):
 ∃l,ms[k]? =some (1,l)/\0=off/\n<=l.length/\l.take n=l'/\ms'.length=ms.length/\∀k' m',ms'[k']? =some m'->m'.1≠0->ms[k']? =some m'/\k'≠k/\nro f=true:=by
 unfold openF at h;cases hn:nro f<;>rw[hn] at h
 ·obtain⟨⟨st,l⟩,h3,h4⟩:=ZAF.1 (show ms[k]?.bind _=_ from h);obtain⟨h5,h6⟩:=aeZ.1 h4;simp only[ZAB,acZ,ZAm] at h5;obtain⟨⟨rfl,rfl⟩,hn⟩:=h5;obtain⟨rfl,rfl⟩:=Prod.mk.inj (ZAk h6);refine⟨l,h3,rfl,hn,rfl,ZBB _,fun k' m' q1 q2=> ?_⟩;rw[ZAW] at q1;obtain⟨y,_,rfl⟩:=ZAH.1 q1;exact absurd rfl q2
 ·obtain⟨⟨st,l⟩,h3,h4⟩:=ZAF.1 (show ms[k]?.bind _=_ from h);obtain⟨h5,h6⟩:=aeZ.1 h4;simp only[ZAB,acZ,ZAm] at h5;obtain⟨⟨rfl,rfl⟩,hn⟩:=h5;obtain⟨rfl,rfl⟩:=Prod.mk.inj (ZAk h6);refine⟨l,h3,rfl,hn,rfl,ZA2,fun k' m' q1 q2=> ?_⟩;by_cases hk:k'=k
  ·subst hk;rw[ZAU (ZAC.1 h3).1] at q1;cases q1;exact absurd rfl q2
  ·rw[ZAg (ZBd hk)] at q1;exact⟨q1,hk,rfl⟩
theorem miZ{m:Nat}{a a':AV}{H':Hp}{v:Value}(hH:HRep z H)(hmd:m<4\/¬z.D (m+100000))(h:argM P H m a=some (a',H'))(ha:ARep z a v):
 ∃z1 Mf,z1.w=z.w/\HRep z1 H'/\Nx z z1/\(∀g,Mf g->z1.M g)/\ARep {z1 with M:=Mf} a' v/\(m≠2->Mf=z1.M):=by
 unfold argM at h;split at h
 ·simp only[ZAI,ZAs] at h;obtain⟨rfl,rfl⟩:=h;exact⟨z,z.M,rfl,hH,Nx.refl z,fun _ h=>h,ha,fun _=>rfl⟩
 ·obtain⟨z',q1,q2,q3,q4,q5⟩:=eDZ hH h ha;exact⟨z',z'.M,q1,q2,q3,fun _ h=>h,q5,fun _=>rfl⟩
 ·obtain⟨⟨x,H1⟩,h1,h2⟩:=ZAH.1 h;simp only[ZAs] at h2;obtain⟨rfl,rfl⟩:=h2;obtain⟨z',q1,q2,q3,q4,q5⟩:=eDZ hH h1 ha;refine⟨z,fun g=>z.M g/\z'.M g,rfl,hH,Nx.refl z,fun _ h=>h.1,?_,fun h=>absurd rfl h⟩;exact q5.less (z':={z with M:=fun g=>z.M g/\z'.M g}) q1.symm q4.symm fun g h=>h.2
 ·obtain⟨x,h1,h2⟩:=oRZ h ha;obtain⟨rfl,rfl⟩:=Prod.mk.inj (ZAk h2);exact⟨z,z.M,rfl,hH,Nx.refl z,fun _ h=>h,h1,fun _=>rfl⟩
 ·rename_i m' h0 h1 h2 h3';have hmm:¬z.D (m+100000):=by
   refine hmd.resolve_left fun hm=> ?_;have:m=0\/m=1\/m=2\/m=3:=by omega
   rcases this with rfl|rfl|rfl|rfl
   ·exact h0 rfl
   ·exact h1 rfl
   ·exact h2 rfl
   ·exact h3' rfl
  clear h0 h1 h2 h3' hmd;split at h
  ·rename_i f s x;split at h
   ·rename_i e s' ms hg;rcases aFZ h with⟨hs,hh⟩|hh
    ·clear h;subst hs;obtain⟨hb,h⟩:=aeZ.1 hh;simp only[ZAB,acZ,ZBW,ZAc] at hb;obtain⟨⟨rfl,hk⟩,hlow⟩:=hb;obtain⟨⟨l',ms'⟩,h1,h2⟩:=ZAF.1 h;obtain⟨rfl,rfl⟩:=Prod.mk.inj (ZAk h2);have hfo:=hH.fam _ _ hg;have hD:=hmm;have hne:famId f≠m+100000:=by have:=(bzZ f).1;omega
     clear h2 hh h;have hv:=ha.v.scal rfl rfl
     match x,h1,hv with
     |.inl l,h1,hv=>exact absurd h1 (myZ f ms l _)
     |.inr none,h1,hv=>
      obtain⟨rfl,rfl⟩:=nUZ h1;have hv:[v]=[Value.slice none 0 0]:=hv;simp only[ZAq,ZBi] at hv;subst hv;have hsame:HRep z (hset H (famId f) (some ⟨false,.fam ((m-10)%5000) s' ms⟩)):=by
       refine hH.same (fun id=> ?_) fun id=> ?_
       ·rw[aoZ];by_cases hi:id=famId f
        ·rw[ZAT hi,hi];exact hg.symm
        ·rw[ZAQ hi]
       ·rw[asZ];by_cases hi:id=famId f
        ·rw[hi,ahZ hg];simp
        ·simp[hi]
      obtain⟨z1,p1,p2,p3,p4⟩:=hsame.newV (id:=m+100000) ⟨by rw[asZ,hk];simp[ZBd hne],hlow⟩ hD (b:=.rows ((m-10)%5000) s' []) ⟨rfl,hfo.2.2.2.1⟩;exact⟨z1,z1.M,p1,p2,p3,fun _ h=>h,.slfV _ _ _ p4,fun _=>rfl⟩
     |.inr (some (k,off,n)),h1,hv=>
      obtain⟨l,h3,rfl,hn,rfl,hlen,hms⟩:=mBZ h1;have hgX:hgetX H (enc f k)=some ⟨false,.rows ((m-10)%5000) s' l⟩:=fgZ hg h3 (by simp);obtain⟨h1H,hX,hk1⟩:=hH.cut hg hlen fun k' m' q1 q2=>(hms k' m' q1 q2).1;have hX1:∀i e,hgetX (hset H (famId f) (some ⟨false,.fam ((m-10)%5000) s' ms'⟩)) i=some e->hgetX H i=some e/\i≠enc f k/\¬(Ro i/\Ro (enc f k)):=fun i e h=>by
       obtain⟨q1,q2⟩:=hX i e h;refine⟨q1,fun hi=> ?_,fun hr=> ?_⟩
       ·obtain⟨m',r1,r2⟩:=q2 k hi;exact(hms k m' r1 r2).2.1 rfl
       ·obtain⟨k',hk'⟩:=hlZ (f:=f) hr.1.1 (by rw[hr.1.rt,famId,mxZ.1 hr.2]);obtain⟨m',r1,r2⟩:=q2 k' hk';exact jwZ (hms _ _ r1 r2).2.2 hr.2
      have hkn:hkey (hset H (famId f) (some ⟨false,.fam ((m-10)%5000) s' ms'⟩)) (m+100000)=false:=by rw[hk1];exact hk
      rcases hv with⟨A,hρ,rfl,hv⟩|⟨g,sz,m',c,hρ,h7,h8,h9,hv⟩
      ·simp only[ZAq,ZBi] at hv;subst hv;have hE:=hH.ent _ _ hgX;unfold ERep at hE;rw[hρ] at hE;obtain⟨z1,p1,p2,p3,p4⟩:=h1H.newV (id:=m+100000) ⟨hkn,hlow⟩ hD (b:=.rows ((m-10)%5000) s' (l.take 0)) ⟨by simp,hfo.2.2.2.1⟩;exact⟨z1,z1.M,p1,p2,p3,fun _ h=>h,.slfV _ _ _ p4,fun _=>rfl⟩
      ·simp only[ZAq,ZBi] at hv;subst hv;obtain⟨z1,p1,p2,p3,p4⟩:=hH.moveX (w':=z.w) (id:=m+100000) (n':=n) (b:=.rows ((m-10)%5000) s' (l.take n)) hgX hρ h1H hX1 ⟨hkn,hlow⟩ hD rfl ⟨rfl,ZAM _⟩ rfl rfl (fun _ _=>rfl) (fun z1 hw kp=>by
        have hB:=(hH.realX hgX hρ).2.2.2;obtain⟨cs,fr,a1,a2,a3,a4,a5,a6,a7⟩:=hB.kp kp (by rw[hw]);refine⟨cs,fr,a1,a2,a3,by rw[ZAS];omega,?_,a6,fun i x hx=> ?_⟩
        ·rw[ZAS];exact ZBI (ZAf _ (Nat.min_le_right _ _)) a5
        ·rw[ZAn] at hx;split at hx
         ·exact a7 i x hx
         ·cases hx)
       refine⟨z1,z1.M,p1,p2,p3,fun _ h=>h,?_,fun _=>rfl⟩;rw[ZBa];exact .slf _ _ _ _ _ _ p4 h7 (by rw[ZAj] at h8;exact h8) h9
    ·cases hh
   ·cases h
  ·obtain⟨u,h3,h4⟩:=agZ.1 h;cases hk:(hkey H (m+100000)||Nat.ble famBase (m+100000))<;>rw[hk] at h4<;>simp only[bq_true,bq_false] at h4
   ·simp only[ZAI,ZAs] at h4;obtain⟨rfl,rfl⟩:=h4;simp only[ZBE] at hk;have hlow:m+100000<famBase:=ZBK.1 fun h=>by rw[ZAi h] at hk;cases hk.2
    obtain⟨z1,p1,p2,p3,p4⟩:=hH.newV ⟨hk.1,hlow⟩ (hmm) (b:=.rows ((m-10)%5000) u []) ⟨rfl,(cmZ h3).2.1⟩;obtain rfl:=ha.v.opq.1;exact⟨z1,z1.M,p1,p2,p3,fun _ h=>h,.slfV _ _ _ p4,fun _=>rfl⟩
   ·cases h4
  ·rename_i es old n;split at h
   ·rename_i e t l hg;cases hb:(Nat.beq es t.cells&& !hkey H (m+100000)&&Nat.blt (m+100000) famBase&&Nat.ble n l.length)<;>rw[hb] at h<;>simp only[bq_true,bq_false] at h
    ·cases h
    simp only[ZAB,acZ,ZAm,ZBW,ZAc] at hb;obtain⟨⟨⟨rfl,hk⟩,hlow⟩,hn⟩:=hb;simp only[ZAI,ZAs] at h;obtain⟨rfl,rfl⟩:=h;have hk':hkey (hset H old none) (m+100000)=false:=by
     rw[asZ,hk];have:m+100000≠old:=fun h=>by rw[h,ahZ hg] at hk;cases hk
     simp[this]
    have hD:=hmm;have hvirt:z.ρ old= .virt->∃z1,z1.w=z.w/\HRep z1 (hset (hset H old none) (m+100000) (some ⟨false,.rows e t (l.take n)⟩))/\Nx z z1/\z1.ρ (m+100000)= .virt:=fun hρ=>by
     obtain⟨rfl,hc⟩:=hH.virt hg hρ;exact(hH.kill (ahZ hg)).newV ⟨hk',hlow⟩ hD ⟨by simp,hc⟩
    have hreal:∀g sz k,z.ρ old= .real g sz k->∃z1,z1.w=z.w/\HRep z1 (hset (hset H old none) (m+100000) (some ⟨false,.rows e t (l.take n)⟩))/\Nx z z1/\z1.ρ (m+100000)= .real g sz n:=fun g sz k hρ=>by
     refine hH.move (w':=z.w) hg hρ ⟨hk',hlow⟩ hD rfl ⟨rfl,ZAM _⟩ rfl rfl (fun _ _=>rfl) fun z1 hw kp=> ?_;have hB:=(hH.real hg hρ).2.2.2;obtain⟨cs,fr,a1,a2,a3,a4,a5,a6,a7⟩:=hB.kp kp (by rw[hw]);refine⟨cs,fr,a1,a2,a3,by rw[ZAS];omega,?_,a6,fun i x hx=> ?_⟩
     ·rw[ZAS];exact ZBI (ZAf _ (Nat.min_le_right _ _)) a5
     ·rw[ZAn] at hx;split at hx
      ·exact a7 i x hx
      ·cases hx
    cases ha with
    |slV _ _ _ A hρ=>
     obtain⟨z1,p1,p2,p3,p4⟩:=hvirt hρ;exact⟨z1,z1.M,p1,p2,p3,fun _ h=>h,.slfV _ _ _ p4,fun _=>rfl⟩
    |slE _ _ _ g sz k o hρ=>
     obtain⟨_,_,_,cs,fr,a1,a2,a3,a4,a5,a6,a7⟩:=hH.real hg hρ;obtain⟨z1,p1,p2,p3,p4⟩:=(hH.kill (ahZ hg)).newV ⟨hk',hlow⟩ hD (b:=.rows e t (l.take 0)) ⟨by simp,a6⟩;exact⟨z1,z1.M,p1,p2,p3,fun _ h=>h,.slfV _ _ _ p4,fun _=>rfl⟩
    |sl _ _ _ _ g sz k c hρ hnc hs hm=>
     obtain⟨z1,p1,p2,p3,p4⟩:=hreal g sz k hρ;refine⟨z1,z1.M,p1,p2,p3,fun _ h=>h,?_,fun _=>rfl⟩;rw[ZBa];exact .slf _ _ _ _ _ _ p4 hnc (by rw[ZAj] at hs;exact hs) hm
   ·simp only[ZAI,ZAs] at h;obtain⟨rfl,rfl⟩:=h;exact⟨z,z.M,rfl,hH,Nx.refl z,fun _ h=>h,ha,fun _=>rfl⟩
  ·simp only[ZAI,ZAs] at h;obtain⟨rfl,rfl⟩:=h;exact⟨z,z.M,rfl,hH,Nx.refl z,fun _ h=>h,ha,fun _=>rfl⟩
theorem h2Z:∀{as:List AV} {ms:List Nat} {as':List AV} {z:Z} {H H':Hp} {vs:List Value},HRep z H->(∀m∈ms,m<4\/¬z.D (m+100000))->argsM P H ms as=some (as',H')->AReps z as vs->
 ∃z1 Mf,z1.w=z.w/\HRep z1 H'/\Nx z z1/\(∀g,Mf g->z1.M g)/\AReps {z1 with M:=Mf} as' vs/\(memN 2 ms=false->Mf=z1.M)
 |[],ms,as',z,H,H',vs,hH,hmd,h,hr=>by
  simp only[argsM,ZAI,ZAs] at h;obtain⟨rfl,rfl⟩:=h;exact⟨z,z.M,rfl,hH,Nx.refl z,fun _ h=>h,hr,fun _=>rfl⟩
 |a::as,ms,as',z,H,H',vs,hH,hmd,h,hr=>by
  simp only[argsM] at h;obtain⟨⟨x,H1⟩,h1,h2⟩:=agZ.1 h;obtain⟨⟨y,H2⟩,h3,h4⟩:=ZAH.1 h2;simp only[ZAs] at h4;obtain⟨rfl,rfl⟩:=h4
  match vs,hr with
  |[],hr=>have:=hr.1;simp at this
  |v::vs,hr=>
   have e1:ms.headD 0<4\/¬z.D (ms.headD 0+100000):=by cases ms with|nil=>exact .inl (by simp)|cons m ms=>exact hmd m (by simp)
   obtain⟨z1,Mf,q1,q2,q3,q4,q5,q6⟩:=miZ hH e1 h1 hr.head;have e2:∀m∈ms.tail,m<4\/¬z1.D (m+100000):=fun m hm=>(hmd m (List.mem_of_mem_tail hm)).imp_right fun h=>by rw[q3.dom];exact h
   obtain⟨z2,Mg,p1,p2,p3,p4,p5,p6⟩:=h2Z q2 e2 h3 (hr.tail.kp (q3.kp hH.sub));have k:=p3.kp q2.sub;refine⟨z2,fun g=>Mg g/\(Mf g\/z1.w.heap.size<=g),p1.trans q1,p2,q3.trans p3,fun g h=>p4 g h.1,.cons ?_ (p5.less rfl rfl fun g h=>h.1),fun hm=> ?_⟩
   ·have kk:Kp {z1 with M:=Mf} {z2 with M:=fun g=>Mg g/\(Mf g\/z1.w.heap.size<=g)}:=⟨k.size,fun b _ _=>by show z2.w.heap[b]? =z1.w.heap[b]?;rw[p1],fun g h=>h.2,k.ext⟩;exact q5.kp kk
   ·have m1:ms.headD 0≠2/\memN 2 ms.tail=false:=by
     cases ms with
     |nil=>exact⟨by simp,rfl⟩
     |cons m ms=>
      simp only[memN] at hm;cases hb:Nat.beq m 2<;>rw[hb] at hm<;>simp at hm;exact⟨fun h=>by simp only[List.headD_cons] at h;rw[h] at hb;simp[Nat.beq] at hb,hm⟩
    have a1:=q6 m1.1;have a2:=p6 m1.2;subst a1;subst a2;funext g;refine propext ⟨fun h=>h.1,fun h=>⟨h,?_⟩⟩;exact k.subM g h
end
end Go.Ab
namespace Go.Ab
section
variable {P : Program} {z : Z} {H : Hp} {β : Type}
theorem Cl.scal{w w':World}{M M':Nat->Prop}{ρ ρ':Rho}:{t:Ty}->{x:t.den}->{vs:List Value}->t.scal=true->Cl w M ρ t x vs->Cl w' M' ρ' t x vs
 |.int _,_,_,_,h|.byte,_,_,_,h|.bool,_,_,_,h|.str,_,_,_,h=>h
 |.nat,_,_,_,h=>h.elim
 |.opq,_,_,hs,_=>by cases hs
 |.sl _,_,_,hs,_=>by cases hs
 |.ref _ _,_,_,hs,_=>by cases hs
 |.one t,_,_,hs,h=>Cl.scal (t:=t) hs h
 |.pair a b,_,_,hs,h=>by
  obtain⟨u,v,rfl,h1,h2⟩:=h;simp only[Ty.scal,ZAB] at hs;exact⟨u,v,rfl,Cl.scal hs.1 h1,Cl.scal hs.2 h2⟩
 |.arr n t,l,_,hs,h=>by
  obtain⟨hn,css,h1,rfl,h2⟩:=h;exact⟨hn,css,h1,rfl,fun i e u he hu=>Cl.scal (t:=t) hs (h2 i e u he hu)⟩
mutual
theorem n5Z:(k:Kd)->{r:List Ty}->allScal (k.lv r)=true->allScal r=true
 |.p _,r,h|.pt _,r,h|.ownx _ _ _,r,h=>by simp only[Kd.lv,allScal,ZAB] at h;exact h.2
 |.sl _ _,r,h=>by simp only[Kd.lv,allScal,ZAB] at h;exact h.2.2
 |.own _ _ _ _,r,h|.slf _ _,r,h|.mp _,r,h|.any,r,h|.nilp _,r,h=>h
 |.fn _ a c,r,h=>cIZ c (cIZ a h)
 |.agg l,r,h=>cIZ l h
 |.tup l,r,h=>cIZ l h
theorem cIZ:(k:KdL)->{r:List Ty}->allScal (k.lv r)=true->allScal r=true
 |.nil,r,h=>h
 |.cons k l,r,h=>cIZ l (n5Z k h)
end
mutual
theorem k6Z{fs:List Nat}:(k:Kd)->{r:List Ty}->allFamIn fs (k.lv r)=true->allFamIn fs r=true
 |.p _,r,h|.pt _,r,h|.ownx _ _ _,r,h=>by simp only[Kd.lv,allFamIn,ZAB] at h;exact h.2
 |.sl _ _,r,h=>by simp only[Kd.lv,allFamIn,ZAB] at h;exact h.2.2
 |.own _ _ _ _,r,h|.slf _ _,r,h|.mp _,r,h|.any,r,h|.nilp _,r,h=>h
 |.fn _ a c,r,h=>bsZ c (bsZ a h)
 |.agg l,r,h=>bsZ l h
 |.tup l,r,h=>bsZ l h
theorem bsZ{fs:List Nat}:(k:KdL)->{r:List Ty}->allFamIn fs (k.lv r)=true->allFamIn fs r=true
 |.nil,r,h=>h
 |.cons k l,r,h=>bsZ l (k6Z k h)
end
mutual
theorem ntZ{fs:List Nat}:(k:Kd)->{r:List Ty}->(y:HL (k.lv r))->allFamIn fs (k.lv r)=true->(emb k r y).1.famInT fs=true
 |.p t,r,y,h|.pt t,r,y,h=>by
  simp only[Kd.lv,allFamIn,ZAB] at h;exact h.1
 |.own _ _ _ _,r,y,h|.ownx _ _ _,r,y,h|.sl _ _,r,y,h|.slf _ _,r,y,h|.mp _,r,y,h|.any,r,y,h|.nilp _,r,y,h=>rfl
 |.fn g a c,r,y,h=>by
  simp only[emb,AV.famInT,ZAB];exact⟨bcZ a (r:=c.lv r) y h,bcZ c (r:=r) _ (bsZ a h)⟩
 |.agg l,r,y,h=>bcZ l (r:=r) y h
 |.tup l,r,y,h=>bcZ l (r:=r) y h
theorem bcZ{fs:List Nat}:(k:KdL)->{r:List Ty}->(y:HL (k.lv r))->allFamIn fs (k.lv r)=true->AV.famInTL fs (embL k r y).1=true
 |.nil,r,y,h=>rfl
 |.cons k l,r,y,h=>by
  simp only[embL,AV.famInTL,ZAB];exact⟨ntZ k (r:=l.lv r) y h,bcZ l (r:=r) _ (k6Z k h)⟩
end
theorem g6Z{fs:List Nat}:(hs:HK)->{r:List Ty}->(y:HL (hkLv hs r))->allFamIn fs (hkLv hs r)=true->∀id e,hget (embH hs r y).1 id=some e->e.b.famInT fs=true
 |[],r,y,h,id,e,he=>by simp[embH,hget] at he
 |(j,fz,k)::hs,r,y,h,id,e,he=>by
  have hb:(embB k (hkLv hs r) y).1.famInT fs=true/\allFamIn fs (hkLv hs r)=true:=by
   cases k with
   |vars l=>exact⟨bcZ l (r:=hkLv hs r) y h,bsZ l h⟩
   |rows e t=>
    simp only[hkLv,BKd.lv,allFamIn,ZAB,Ty.famIn] at h;exact⟨h.1,h.2⟩
   |map kt vt=>
    simp only[hkLv,BKd.lv,mapTy,allFamIn,ZAB,Ty.famIn] at h;exact⟨by simp only[embB,Blk.famInT,ZAB];exact⟨h.1.1.1.1,h.1.1.1.2⟩,h.2⟩
   |fam e s=>
    simp only[hkLv,BKd.lv,allFamIn,ZAB,Ty.famIn] at h;exact⟨by simp only[embB,Blk.famInT];exact h.1.2,h.2⟩
  simp only[embH,hget] at he;cases hb':Nat.beq j id<;>rw[hb'] at he<;>simp only[ZAK,ZAE] at he
  ·exact g6Z hs _ hb.2 id e he
  ·injection he with he;subst he;exact hb.1
variable {z' : Z} {f : Nat → Option Nat}
mutual
theorem oDZ(hf:∀id,f id=none):(k:Kd)->{r:List Ty}->{y:HL (k.lv r)}->{v:Value}->allScal (k.lv r)=true->ARep z (emb k r y).1 v->ARep z' (AV.ren f (emb k r y).1) v
 |.p t,r,y,v,hs,h=>by
  simp only[Kd.lv,allScal,ZAB] at hs;obtain⟨vs,h1,h2⟩:=h.v;exact .p _ _ _ ⟨vs,Cl.scal hs.1 h1,h2⟩
 |.pt t,r,y,v,hs,h=>by simp[Kd.lv,allScal,Ty.scal] at hs
 |.own _ _ _ _,r,y,v,hs,h|.ownx _ _ _,r,y,v,hs,h|.sl _ _,r,y,v,hs,h|.slf _ _,r,y,v,hs,h|.mp _,r,y,v,hs,h=>by
  simp only[emb,AV.ren,hf];exact .junk v
 |.any,r,y,v,hs,h=>.junk v
 |.fn g a c,r,y,v,hs,h=>by
  simp only[emb,AV.ren];simp only[emb] at h;cases h with|fn _ _ _ va vc e1 e2 e3 e4=>
  have p1:=bWZ hf a (r:=c.lv r) (y:=y) (vs:=va.toList) hs ⟨by simp[e1],fun i x v q1 q2=>e3 i x v q1 (by simpa using q2)⟩;have p2:=bWZ hf c (r:=r) (y:=(embL a (c.lv r) y).2) (vs:=vc.toList) (cIZ a hs) ⟨by simp[e2],fun i x v q1 q2=>e4 i x v q1 (by simpa using q2)⟩;exact .fn _ _ _ _ _ (by have:=p1.1;simpa using this.symm) (by have:=p2.1;simpa using this.symm) (fun i x v q1 q2=>p1.2 i x v q1 (by simpa using q2)) (fun i x v q1 q2=>p2.2 i x v q1 (by simpa using q2))
 |.agg l,r,y,v,hs,h=>by
  simp only[emb,AV.ren];simp only[emb] at h;cases h with|agg _ cs e1 e2 e3=>
  have p1:=bWZ hf l (r:=r) (y:=y) (vs:=cs.toList) hs ⟨by simp[e1],fun i x v q1 q2=>e3 i x v q1 (by simpa using q2)⟩;exact .agg _ _ (by have:=p1.1;simpa using this.symm) e2 fun i x v q1 q2=>p1.2 i x v q1 (by simpa using q2)
 |.tup l,r,y,v,hs,h=>by
  simp only[emb,AV.ren];simp only[emb] at h;cases h with|tup _ cs e1 e3=>
  have p1:=bWZ hf l (r:=r) (y:=y) (vs:=cs.toList) hs ⟨by simp[e1],fun i x v q1 q2=>e3 i x v q1 (by simpa using q2)⟩;exact .tup _ _ (by have:=p1.1;simpa using this.symm) fun i x v q1 q2=>p1.2 i x v q1 (by simpa using q2)
 |.nilp u,r,y,v,hs,h=>by
  obtain⟨vs,h1,h2⟩:=h.v;exact .p _ _ _ ⟨vs,h1,h2⟩
theorem bWZ(hf:∀id,f id=none):(k:KdL)->{r:List Ty}->{y:HL (k.lv r)}->{vs:List Value}->allScal (k.lv r)=true->AReps z (embL k r y).1 vs->AReps z' (AV.renL f (embL k r y).1) vs
 |.nil,r,y,vs,hs,h=>⟨h.1,fun i a v h1 h2=>by simp[embL,AV.renL] at h1⟩
 |.cons k l,r,y,[],hs,h=>by have:=h.1;simp[embL] at this
 |.cons k l,r,y,v::vs,hs,h=>by
  simp only[embL] at h;simp only[embL,AV.renL];exact .cons (oDZ hf k hs h.head) (bWZ hf l (n5Z k hs) h.tail)
end
theorem o1Z(l:List AV):AV.ren f (tupA l)=tupA (AV.renL f l):=by
 match l with
 |[]=>simp[tupA,AV.ren,AV.renL]
 |[a]=>simp[tupA,AV.renL]
 |a::b::l=>simp[tupA,AV.ren,AV.renL]
theorem nCZ{l:List AV}{v:Value}(h:ARep z (tupA l) v):∃vs,AReps z l vs/\∀{z':Z} {l':List AV},AReps z' l' vs->l'.length=l.length->ARep z' (tupA l') v:=by
 match l with
 |[a]=>exact⟨[v],.cons h .nil,fun{z' l'} h' hl=>by
    match l',hl with
    |[b],_=>exact h'.head⟩
 |[]=>
  obtain⟨vs,rfl,h1,h2⟩:=hEZ (l:=[]) rfl h;refine⟨vs.toList,⟨by simp[h1],fun i a v h=>by simp at h⟩,fun{z' l'} h' hl=> ?_⟩
  match l',hl with
  |[],_=>exact .tup _ _ (by have:=h'.1;simpa using this.symm) fun i x v q1 q2=>h'.2 i x v q1 (by simpa using q2)
 |a::b::l=>
  obtain⟨vs,rfl,h1,h2⟩:=hEZ (l:=a::b::l) rfl h;refine⟨vs.toList,⟨by simp[h1],fun i a v q1 q2=>h2 i a v q1 (by simpa using q2)⟩,fun{z' l'} h' hl=> ?_⟩
  match l',hl with
  |c::d::l',_=>exact .tup _ _ (by have:=h'.1;simpa using this.symm) fun i x v q1 q2=>h'.2 i x v q1 (by simpa using q2)
def Bodied(P:Program)(f:FuncId):Prop:=∃fn c,P.funcs[f]? =some fn/\fn.body=some c/\(fn.name== "runtime.NumGoroutine")=false
def Does(P:Program)(f:FuncId)(args:Array Value)(w:World)(R:Ending->World->Prop):Prop:=
 (Bodied P f/\Calls P f args w R)\/∃v w',(callFunc f args).run P w= .ok (.value v) w'/\R (.returned v) w'
theorem Does.mono{P:Program}{f:FuncId}{args:Array Value}{w:World}{R R':Ending->World->Prop}(h:Does P f args w R)(hr:∀e w',R e w'->R' e w'):Does P f args w R':=by
 rcases h with⟨h1,h2⟩|⟨v,w',h1,h2⟩
 ·exact .inl ⟨h1,h2.mono hr⟩
 ·exact .inr ⟨v,w',h1,hr _ _ h2⟩
theorem Does.calls{P:Program}{f:FuncId}{args:Array Value}{w:World}{R:Ending->World->Prop}(h:Does P f args w R)(hb:Bodied P f):Calls P f args w R:=by
 rcases h with⟨_,h⟩|⟨v,w',h,_⟩
 ·exact h
 ·exfalso;obtain⟨fn,c,h1,h2,h3⟩:=hb;have hbd:fn.body.isNone=false:=by rw[h2];rfl
  unfold callFunc at h;simp only[Sem.run_bind,run_program,Result.andThen_ok,h1,h3,hbd] at h;simp at h
structure Told (P:Program) (e:FnT):Prop where
 spec:∀t r,e.spec t=some r->∀(z:Z) (vals:List Value),HRep z (e.i.emb t).2->AReps z (e.i.emb t).1 vals->(∀id,¬z.D id)->
  Does P e.f vals.toArray z.w fun en w'=>∃v z',en= .returned v/\z'.w=w'/\Nx z {z' with D:=z.D}/\(∀k,z'.D k->k∈hkKeys e.i.hs)/\OutS.on e.os r fun o x=>HRep z' (o.emb x).2/\ARep z' (tupA (o.emb x).1) v
theorem Told.of{P:Program}{e:FnT}(ent:Bodied P e.f)(spec:∀t r,e.spec t=some r->∀(z:Z) (vals:List Value),HRep z (e.i.emb t).2->AReps z (e.i.emb t).1 vals->(∀id,¬z.D id)->
 Calls P e.f vals.toArray z.w fun en w'=>∃v z',en= .returned v/\z'.w=w'/\Nx z {z' with D:=z.D}/\(∀k,z'.D k->k∈hkKeys e.i.hs)/\OutS.on e.os r fun o x=>HRep z' (o.emb x).2/\ARep z' (tupA (o.emb x).1) v):Told P e:=
 ⟨fun t r h z vals h1 h2 h3=>.inl ⟨ent,spec t r h z vals h1 h2 h3⟩⟩
theorem OutS.on_both:∀{l:List Shp} {x:OutS l} {K:(s:Shp)->s.D->Option β} {Q:(s:Shp)->s.D->Prop} {res:β},OutS.on l x K=some res->OutS.on l x Q->∃o y,o∈l/\K o y=some res/\Q o y
 |[],x,_,_,_,_,_=>Empty.elim x
 |[s],x,K,Q,res,h,hq=>⟨s,x,by simp,h,hq⟩
 |s::t::r,.inl y,K,Q,res,h,hq=>⟨s,y,by simp,h,hq⟩
 |s::t::r,.inr y,K,Q,res,h,hq=>by
  obtain⟨o,x,h1,h2,h3⟩:=OutS.on_both (l:=t::r) (x:=y) h hq;exact⟨o,x,ZAb _ h1,h2,h3⟩
theorem btZ{H:Hp}{f:Nat->Option Nat}:∀{ps:List (Nat×Nat)},(sndN ps).Nodup->∀k,hget (renH H f ps) k=(idOf ps k).bind (fun id=>(hget H id).map (Ent.ren f))/\(hkey (renH H f ps) k=true↔∃id e,idOf ps k=some id/\hget H id=some e)
 |[],_,k=>⟨rfl,by simp[renH,hkey,idOf]⟩
 |(i,j)::ps,h,k=>by
  simp only[sndN,List.nodup_cons] at h;obtain⟨q1,q2⟩:=btZ (H:=H) (f:=f) h.2 k;have hno:j=k->idOf ps k=none:=fun hj=>by
   cases hk:idOf ps k with
   |none=>rfl
   |some id=>exact absurd (cCZ (aAZ hk)) (hj▸h.1)
  cases hg:hget H i with
  |none=>
   simp only[renH,hg,idOf];by_cases hj:j=k
   ·rw[(acZ j k).2 hj,ZAK];rw[hno hj] at q1 q2;refine⟨by rw[q1];simp[hg],⟨fun h=> ?_,fun⟨id,e,h1,h2⟩=> ?_⟩⟩
    ·obtain⟨id,e,h1,_⟩:=q2.1 h;cases h1
    ·simp only[ZAI] at h1;subst h1;rw[hg] at h2;cases h2
   ·rw[afZ hj,ZAE];exact⟨q1,q2⟩
  |some e=>
   simp only[renH,hg,idOf,hget,hkey];by_cases hj:j=k
   ·simp[(acZ j k).2 hj,hg]
   ·rw[afZ hj];exact⟨q1,q2⟩
theorem k3Z:∀{a b:List Nat},b.length<=a.length->sndN (zipN a b)=b/\∀i k,(i,k)∈zipN a b->i∈a
 |[],[],_=>⟨rfl,fun i k h=>by cases h⟩
 |[],_::_,h=>by simp at h
 |_::_,[],_=>⟨rfl,fun i k h=>by cases h⟩
 |x::a,y::b,h=>by
  obtain⟨q1,q2⟩:=k3Z (a:=a) (b:=b) (by simpa using h);refine⟨by simp[zipN,sndN,q1],fun i k hm=> ?_⟩;simp only[zipN,ZAa,ZAs] at hm;rcases hm with⟨rfl,_⟩|hm
  ·simp
  ·exact ZAb _ (q2 i k hm)
theorem gqZ:∀(n k:Nat),(rangeN k n).length=n
 |0,k=>rfl
 |n+1,k=>by simp[rangeN,gqZ n]
theorem h0Z:∀{a b:List Nat} {i k:Nat},(i,k)∈zipN a b->∃n:Nat,a[n]? =some i/\b[n]? =some k
 |[],_,i,k,h=>by cases h
 |_::_,[],i,k,h=>by cases h
 |x::a,y::b,i,k,h=>by
  simp only[zipN,ZAa,ZAs] at h;rcases h with⟨rfl,rfl⟩|h
  ·exact⟨0,rfl,rfl⟩
  ·obtain⟨n,h1,h2⟩:=h0Z h;exact⟨n+1,h1,h2⟩
theorem j5Z:∀{a b:List Nat} {n i k:Nat},a[n]? =some i->b[n]? =some k->(i,k)∈zipN a b
 |[],_,n,i,k,h,_=>by simp at h
 |_::_,[],n,i,k,_,h=>by simp at h
 |x::a,y::b,0,i,k,h1,h2=>by simp at h1 h2;subst h1;subst h2;simp[zipN]
 |x::a,y::b,n+1,i,k,h1,h2=>by
  simp only[zipN,ZAa];exact .inr (j5Z (by simpa using h1) (by simpa using h2))
theorem iIZ:∀{n k m:Nat},m<n->(rangeN k n)[m]? =some (k+m)
 |0,k,m,h=>by omega
 |n+1,k,0,h=>rfl
 |n+1,k,m+1,h=>by
  simp only[rangeN,ZB0];rw[iIZ (by omega)];congr 1;omega
theorem kTZ{n k m i:Nat}(h:(rangeN k n)[m]? =some i):i=k+m/\m<n:=by
 have hlt:m<n:=by have:=(ZAC.1 h).1;rwa [gqZ] at this
 rw[iIZ hlt] at h;exact⟨(ZAk h).symm,hlt⟩
end
end Go.Ab
namespace Go.Ab
section
variable {P : Program} {z : Z} {H : Hp} {β : Type}
theorem exZ{H:Hp}:∀{l:List Nat},freshAll H l=true->∀id∈l,hkey H id=false
 |[],_,id,h=>by cases h
 |i::l,h,id,hm=>by
  simp only[freshAll,ZAB,ZAc] at h;rcases ZAa.1 hm with rfl|hm
  ·exact h.1
  ·exact exZ h.2 id hm
def offF(fs:List Nat)(k:Nat):Prop:=dynBase<=k/\memN ((k-dynBase)%16) fs=false
instance (fs:List Nat) (k:Nat):Decidable (offF fs k):=inferInstanceAs (Decidable (_/\_))
theorem opZ{fs:List Nat}{f k:Nat}:offF fs (enc f k)↔memN (f%16) fs=false:=by
 have h:(enc f k-dynBase)%16=f%16:=by unfold enc;generalize dynBase=d;omega
 unfold offF;rw[h];exact⟨fun h=>h.2,fun h=>⟨bvZ f k,h⟩⟩
def Z.clean(fs:List Nat)(z:Z):Z:={z with ρ:=fun k=>if offF fs k then .no else z.ρ k,D:=fun k=>z.D k/\¬offF fs k}
theorem Z.clean_at{z:Z}{fs:List Nat}{k:Nat}(h:k<dynBase):(z.clean fs).ρ k=z.ρ k:=ZAQ fun h'=>ZBK.2 h h'.1
theorem Z.clean_on{z:Z}{fs:List Nat}{f k:Nat}(h:memN (f%16) fs=true):(z.clean fs).ρ (enc f k)=z.ρ (enc f k):=ZAQ fun h'=>by rw[opZ.1 h'] at h;cases h
theorem HRep.clean{fs:List Nat}(hH:HRep z H)(hs:∀id,offF fs id->hkey H (rt id)=false)(hn:∀id e,hgetX H id=some e->e.b.famInT fs=true/\∀i∈e.ids,i<dynBase):HRep (z.clean fs) H:=by
 have hon:SameOn fs z.ρ (z.clean fs).ρ:=fun f k hf _=>Z.clean_on hf;have hat:∀id e,hgetX H id=some e->(z.clean fs).ρ id=z.ρ id:=fun id e h=>by
  refine ZAQ fun ho=> ?_;have:=hs id ho;rw[a2Z ho.1,atZ this] at h;cases h
 refine⟨fun id e h=>(hH.ent id e h).rho rfl rfl (.on hon (hn id e h).1) (hat id e h) (fun i hi=>Z.clean_at ((hn id e h).2 i hi)) fun _ _ _ _ _ h=>h,
  fun id id' e e' g sz n g' sz' n' hii h1 h2 m1 m2 p3 p4=> ?_,fun id h=> ?_,hH.sub,hH.fam,hH.key,fun id hd h hD=>hH.dyn id hd h hD.1,fun id h1 h2=>by rw[Z.clean_at h2];exact hH.nos id h1 h2⟩
 ·rw[hat id e h1] at p3;rw[hat id' e' h2] at p4;exact hH.inj id id' e e' g sz n g' sz' n' hii h1 h2 m1 m2 p3 p4
 ·by_cases hd:offF fs id
  ·exact .inl (ZAT hd)
  ·rcases hH.fresh id h with h|h
   ·exact .inl (by rw[show(z.clean fs).ρ id=z.ρ id from ZAQ hd];exact h)
   ·exact .inr ⟨h,hd⟩
theorem dtZ:∀{l:List Nat} {f:Nat},(∀i∈l,i<dynBase)->f<16->(memN f (famNs l)=true↔famBase+f∈l)
 |[],f,_,_=>by simp[famNs,memN]
 |i::l,f,hl,hf=>by
  have h0:=cAZ;have hi:=hl i ZAl;have ih:=dtZ (l:=l) (f:=f) (fun i h=>hl i (ZAb _ h)) hf;simp only[famNs];by_cases hb:famBase<=i
  ·rw[ZAi hb,ZAK];simp only[memN,ZAa];by_cases h:i-famBase=f
   ·rw[(acZ _ _).2 h,ZAK];exact⟨fun _=>.inl (by omega),fun _=>rfl⟩
   ·rw[afZ h,ZAE,ih];exact⟨.inr,fun h'=>h'.resolve_left (by omega)⟩
  ·have:Nat.ble famBase i=false:=by
    cases hc:Nat.ble famBase i
    ·rfl
    ·exact absurd (ZBC hc) hb
   rw[this,ZAE,ih,ZAa];exact⟨.inr,fun h'=>h'.resolve_left (by omega)⟩
theorem gOZ{l:List Nat}(hl:∀i∈l,i<dynBase){k:Nat}:offF (famNs l) k↔dynBase<=k/\rt k∉l:=by
 unfold offF;constructor
 ·rintro⟨h1,h2⟩;refine⟨h1,fun hm=> ?_⟩;unfold rt at hm;rw[ZAT h1] at hm;rw[(dtZ hl (ZCF _ (by omega))).2 hm] at h2;cases h2
 ·rintro⟨h1,h2⟩;refine⟨h1,?_⟩;cases hc:memN ((k-dynBase)%16) (famNs l)
  ·rfl
  ·exfalso;apply h2;unfold rt;rw[ZAT h1];exact(dtZ hl (ZCF _ (by omega))).1 hc
theorem i8Z{s:Shp}{t:s.D}{fs:List Nat}(hn:allFamIn fs s.tys=true){z:Z}(hH:HRep z (s.emb t).2){id:Nat}{e:Ent}(h:hgetX (s.emb t).2 id=some e):e.b.famInT fs=true:=by
 have h1:=fun id e he=>g6Z s.hs (r:=[]) (embL s.ks (hkLv s.hs []) (untidy s.tys t)).2 (bsZ s.ks hn) id e he;by_cases hd:dynBase<=id
 ·rw[a2Z hd] at h;obtain⟨e0,p1,p2⟩:=ZAF.1 h;have p3:=h1 _ _ p1;unfold pick at p2;split at p2
  ·rename_i e' s' ms hb;split at p2
   ·split at p2
    ·cases p2
    ·simp only[ZAI] at p2;subst p2;rw[hb] at p3;exact p3
   ·cases p2
  ·cases p2
 ·by_cases hf:famBase<=id
  ·unfold hgetX at h;rw[ZAQ hd,ZAT hf] at h;cases h
  ·rw[aqZ (by omega)] at h;exact h1 _ _ h
theorem oOZ{e x:Ent}{k:Nat}(h:pick k e=some x):x.ids=[]:=(dzZ h some).2
theorem jGZ{s:Shp}{t:s.D}{zc0:Z}{vals:List Value}(hn:allFamIn (famNs (hkKeys s.hs)) s.tys=true)(k4:HRep zc0 (s.emb t).2)(k5:AReps zc0 (s.emb t).1 vals)(hst:∀k,memN k (hkKeys s.hs)=true->k<dynBase)
 (hid:∀i,i∈s.ks.ids\/i∈hkIds s.hs->i∈hkKeys s.hs):
 ∃zc:Z,zc.w=zc0.w/\zc.M=zc0.M/\HRep zc (s.emb t).2/\AReps zc (s.emb t).1 vals/\(∀k,k<dynBase\/rt k∈hkKeys s.hs->zc.ρ k=zc0.ρ k)/\zc.C=zc0.C/\(∀k,zc.D k->zc0.D k/\(k<dynBase\/rt k∈hkKeys s.hs))/\∀k,dynBase<=k->rt k∉hkKeys s.hs->zc.ρ k= .no:=by
 have hg:=fun id=>bPZ s.hs (embL s.ks (hkLv s.hs []) (untidy s.tys t)).2 id;have hl:∀i∈hkKeys s.hs,i<dynBase:=fun i hi=>hst i (aiZ.2 hi);have hlt:∀i,i∈s.ks.ids\/i∈hkIds s.hs->i<dynBase:=fun i hi=>hst i (aiZ.2 (hid i hi));have hon:SameOn (famNs (hkKeys s.hs)) zc0.ρ (zc0.clean (famNs (hkKeys s.hs))).ρ:=fun f k hf _=>Z.clean_on hf;refine⟨zc0.clean (famNs (hkKeys s.hs)),rfl,rfl,k4.clean (fun id ho=> ?_) (fun id e he=>⟨i8Z hn k4 he,fun i hi=> ?_⟩),?_,fun k hk=> ?_,rfl,fun k h=>⟨h.1,?_⟩,fun k h1 h2=>ZAT ((gOZ hl).2 ⟨h1,h2⟩)⟩
 ·have:=((gOZ hl).1 ho).2;rw[show hkey (s.emb t).2 (rt id)=memN (rt id) (hkKeys s.hs) from(hg _).1];cases hm:memN (rt id) (hkKeys s.hs)
  ·rfl
  ·exact absurd (aiZ.1 hm) this
 ·by_cases hd:dynBase<=id
  ·rw[a2Z hd] at he;obtain⟨e0,p1,p2⟩:=ZAF.1 he;rw[oOZ p2] at hi;cases hi
  ·by_cases hf:famBase<=id
   ·unfold hgetX at he;rw[ZAQ hd,ZAT hf] at he;cases he
   ·rw[aqZ (by omega)] at he;exact hlt i (.inr ((hg id).2.2 e he i hi))
 ·refine k5.rho rfl rfl (.on hon (bcZ s.ks (r:=hkLv s.hs []) _ hn)) fun i hi=>Z.clean_at (hlt i (.inl ?_));rw[<-bQZ s.ks (r:=hkLv s.hs []) (untidy s.tys t)];exact hi
 ·refine ZAQ fun ho=> ?_;have:=(gOZ hl).1 ho;rcases hk with hk|hk
  ·exact ZBK.2 hk this.1
  ·exact this.2 hk
 ·by_cases hk:k<dynBase
  ·exact .inl hk
  ·right;by_cases hm:rt k∈hkKeys s.hs
   ·exact hm
   ·exact absurd ((gOZ hl).2 ⟨Nat.not_lt.1 hk,hm⟩) h.2
theorem eqZ{a b:Nat}(h:¬a<=b):Nat.ble a b=false:=by
 cases hc:Nat.ble a b
 ·rfl
 ·exact absurd (ZBC hc) h
theorem aBZ:∀(l:List Nat) (n:Nat),(shKeys n l).length=l.length
 |[],_=>rfl
 |i::l,n=>by
  simp only[shKeys];by_cases h:famBase<=i
  ·rw[ZAi h,ZAK];simp[aBZ l]
  ·rw[eqZ h,ZAE];simp[aBZ l]
theorem bDZ:∀{l:List Nat} {n m k id:Nat},(shKeys n l)[m]? =some k->l[m]? =some id->(famBase<=id/\k=id)\/(id<famBase/\n<=k/\k<n+l.length)
 |[],n,m,k,id,h,_=>by simp[shKeys] at h
 |i::l,n,m,k,id,h,h'=>by
  simp only[shKeys] at h;by_cases hi:famBase<=i
  ·rw[ZAi hi,ZAK] at h
   match m with
   |0=>simp at h h';subst h;subst h';exact .inl ⟨hi,rfl⟩
   |m+1=>
    rcases bDZ (l:=l) (n:=n) (by simpa using h) (by simpa using h') with h|⟨h1,h2,h3⟩
    ·exact .inl h
    ·exact .inr ⟨h1,h2,by simp;omega⟩
  ·rw[eqZ hi,ZAE] at h
   match m with
   |0=>simp at h h';subst h;subst h';exact .inr ⟨by omega,ZAM _,by simp⟩
   |m+1=>
    rcases bDZ (l:=l) (n:=n+1) (by simpa using h) (by simpa using h') with h|⟨h1,h2,h3⟩
    ·exact .inl h
    ·exact .inr ⟨h1,by omega,by simp;omega⟩
theorem dWZ:∀(l r:List Nat) (n:Nat),∃m,n<=m/\m<=n+l.length/\shKeys n (l++r)=shKeys n l++shKeys m r
 |[],r,n=>⟨n,ZAM _,by simp,rfl⟩
 |i::l,r,n=>by
  by_cases h:famBase<=i
  ·obtain⟨m,h1,h2,h3⟩:=dWZ l r n;refine⟨m,h1,by simp;omega,?_⟩;simp only[List.cons_append,shKeys,ZAi h,ZAK,h3]
  ·obtain⟨m,h1,h2,h3⟩:=dWZ l r (n+1);refine⟨m,by omega,by simp;omega,?_⟩;simp only[List.cons_append,shKeys,eqZ h,ZAE,h3]
theorem lPZ{l:List Nat}{n m id:Nat}(h:l[m]? =some id):∃k,(shKeys n l)[m]? =some k:=by
 have:m<(shKeys n l).length:=by rw[aBZ];exact(ZAC.1 h).1
 exact⟨_,ZAD this⟩
theorem dUZ:∀{l:List Nat} {n m m' k:Nat},l.Nodup->n+l.length<=famBase->(shKeys n l)[m]? =some k->(shKeys n l)[m']? =some k->m=m'
 |[],n,m,m',k,_,_,h,_=>by simp[shKeys] at h
 |i::l,n,m,m',k,hn,hb,h,h'=>by
  simp only[List.nodup_cons] at hn;simp only[ZBm] at hb;have q:∀(n' m k:Nat),(shKeys n' l)[m]? =some k->∃id,l[m]? =some id/\((famBase<=id/\k=id)\/(id<famBase/\n'<=k/\k<n'+l.length)):=fun n' m k h=>by
   have hlt:m<l.length:=by have:=(ZAC.1 h).1;rwa [aBZ] at this
   exact⟨_,ZAD hlt,bDZ h (ZAD hlt)⟩
  simp only[shKeys] at h h';by_cases hi:famBase<=i
  ·rw[ZAi hi,ZAK] at h h';have no:∀{m:Nat},(shKeys n l)[m]?≠some i:=fun{m} h=>by
    obtain⟨id,h1,h2⟩:=q n _ _ h;rcases h2 with⟨_,h3⟩|⟨_,_,h3⟩
    ·exact hn.1 (h3▸ZAN h1)
    ·omega
   match m,m' with
   |0,0=>rfl
   |0,m'+1=>simp at h;subst h;exact absurd (by simpa using h') no
   |m+1,0=>simp at h';subst h';exact absurd (by simpa using h) no
   |m+1,m'+1=>exact congrArg (·+1) (dUZ (n:=n) hn.2 (by omega) (by simpa using h) (by simpa using h'))
  ·rw[eqZ hi,ZAE] at h h';have no:∀{m:Nat},(shKeys (n+1) l)[m]?≠some n:=fun{m} h=>by
    obtain⟨id,h1,h2⟩:=q (n+1) _ _ h;rcases h2 with⟨h2,h3⟩|⟨_,h2,h3⟩
    ·omega
    ·omega
   match m,m' with
   |0,0=>rfl
   |0,m'+1=>simp at h;subst h;exact absurd (by simpa using h') no
   |m+1,0=>simp at h';subst h';exact absurd (by simpa using h) no
   |m+1,m'+1=>exact congrArg (·+1) (dUZ (n:=n+1) hn.2 (by omega) (by simpa using h) (by simpa using h'))
theorem c4Z:∀{a b:List Nat},a.length=b.length->fstN (zipN a b)=a
 |[],[],_=>rfl
 |[],_::_,h=>by simp at h
 |_::_,[],h=>by simp at h
 |x::a,y::b,h=>by simp[zipN,fstN,c4Z (a:=a) (b:=b) (by simpa using h)]
theorem qmZ{z1 zc zd:Z}{H1 Hd:Hp}{sh ids:List Nat}{fs:List Nat}(hH:HRep z1 H1)(hfr:∀id∈ids,hkey H1 id=false)(hsh:∀id∈sh,hkey H1 id=true)(hst:∀id∈ids,id<dynBase)(hd:∀id,rt id∈ids->¬z1.D id)(hnd:(sh++ids).Nodup)(hlen:sh.length+ids.length<=famBase)
 (hw:zc.w=z1.w)(hM:zc.M=z1.M)(hC:∀g,zc.C g->∃id e sz n,rt id∈sh/\hgetX H1 id=some e/\e.fz=false/\z1.ρ id= .real g sz n)
 (hρ:∀(m:Nat) k id,(shKeys 0 sh)[m]? =some k->sh[m]? =some id->zc.ρ k=z1.ρ id/\(id<famBase->zc.ρ k≠.no))(hρd:∀id,dynBase<=id->rt id∈sh->zc.ρ id=z1.ρ id)(hDd:∀k,zd.D k->k<dynBase/\k∈shKeys 0 sh)(hn:Nx zc {zd with D:=zc.D})(hHd:HRep zd Hd)(hlive:∀k,hkey Hd k=true->∃e,hget Hd k=some e)(hnr:∀k e,hgetX Hd k=some e->e.b.famInT fs=true)
 (hfs:∀f,memN (f%16) fs=true->famId f∈sh++ids)
 (hk:allIn (hkeys Hd) (fstN (zipN (shKeys 0 (sh++ids)) (sh++ids)))=true):
 ∃z3,z3.w=zd.w/\HRep z3 (setAll (killAll H1 sh) (renH Hd (noOf (zipN (shKeys 0 (sh++ids)) (sh++ids))) (zipN (shKeys 0 (sh++ids)) (sh++ids))))/\Nx z1 z3/\
  ∀a v,a.famInT fs=true->ARep zd a v->ARep z3 (AV.ren (noOf (zipN (shKeys 0 (sh++ids)) (sh++ids))) a) v:=by
 have h0:=cAZ;have hkl:=aBZ (sh++ids) 0;obtain⟨ms,_,_,happ⟩:=dWZ sh ids 0;have hkin:∀m k id,(shKeys 0 (sh++ids))[m]? =some k->(sh++ids)[m]? =some id->(famBase<=id/\k=id)\/(id<famBase/\k<famBase):=fun m k id h1 h2=>by
  rcases bDZ h1 h2 with h|⟨h,_,h3⟩
  ·exact .inl h
  ·refine .inr ⟨h,?_⟩;rw[ZAY] at h3;omega
 have hkinj:∀m m' k,(shKeys 0 (sh++ids))[m]? =some k->(shKeys 0 (sh++ids))[m']? =some k->m=m':=fun m m' k=>dUZ hnd (by rw[ZAY];omega);have hlow:∀m k id,(shKeys 0 (sh++ids))[m]? =some k->(sh++ids)[m]? =some id->m<sh.length->(shKeys 0 sh)[m]? =some k/\sh[m]? =some id:=fun m k id h1 h2 h3=>by
  rw[happ,ZAL (by rw[aBZ];exact h3)] at h1;rw[ZAL h3] at h2;exact⟨h1,h2⟩
 have hkeysOf:∀k,k∈shKeys 0 sh->∃m,(shKeys 0 (sh++ids))[m]? =some k/\m<sh.length:=fun k hk=>by
  obtain⟨m,hm⟩:=ZAe hk;have hlt:m<sh.length:=by have:=(ZAC.1 hm).1;rwa [aBZ] at this
  exact⟨m,by rw[happ,ZAL (by rw[aBZ];exact hlt)];exact hm,hlt⟩
 generalize hall:sh++ids=all at*;generalize hsk:shKeys 0 all=sk at*;generalize hback:zipN sk all=back at*;have hat:∀k id,(k,id)∈back↔∃m,sk[m]? =some k/\all[m]? =some id:=fun k id=>by
  rw[<-hback];exact⟨fun h=>h0Z h,fun⟨m,h1,h2⟩=>j5Z h1 h2⟩
 have hfix:∀k id,(k,id)∈back->(famBase<=id/\k=id)\/(id<famBase/\k<famBase):=fun k id h=>by
  obtain⟨m,h1,h2⟩:=(hat k id).1 h;exact hkin m k id h1 h2
 have hsnd:sndN back=all:=by rw[<-hback];exact(k3Z (by omega)).1
 have hfst:fstN back=sk:=by rw[<-hback];exact c4Z hkl
 have hsn:(sndN back).Nodup:=by rw[hsnd];exact hnd
 have hid:∀k id,(k,id)∈back->idOf back id=some k:=fun k id h=>emZ hsn h;have hallm:∀id,id∈all->∃k,(k,id)∈back:=fun id h=>by
  obtain⟨m,hm⟩:=ZAe h;have hlt:m<sk.length:=by rw[hkl];exact(ZAC.1 hm).1
  exact⟨_,(hat _ id).2 ⟨m,ZAD hlt,hm⟩⟩
 have hbm:∀k id,(k,id)∈back->id∈all:=fun k id h=>by
  obtain⟨m,h1,h2⟩:=(hat k id).1 h;exact ZAN h2
 have hfamb:∀id,famBase<=id->id∈all->(id,id)∈back:=fun id h1 h2=>by
  obtain⟨k,hk⟩:=hallm id h2;rcases hfix k id hk with⟨_,rfl⟩|h
  ·exact hk
  ·omega
 have hinj:∀k k' id,(k,id)∈back->(k',id)∈back->k=k':=fun k k' id h h'=>ZAk ((hid k id h).symm.trans (hid k' id h'));have hinj2:∀k id id',(k,id)∈back->(k,id')∈back->id=id':=fun k id id' h h'=>by
  obtain⟨m,h1,h2⟩:=(hat k id).1 h;obtain⟨m',h3,h4⟩:=(hat k id').1 h';have:=hkinj m m' k h1 h3;subst this;rw[h2] at h4;exact ZAk h4
 have halld:∀id∈all,id<dynBase:=fun id h=>by
  rw[<-hall] at h;rcases ZAh.1 h with h|h
  ·exact hH.key id (hsh id h)
  ·exact hst id h
 have hddyn:∀k,dynBase<=k->¬zd.D k:=fun k h h'=>by have:=(hDd k h').1;omega
 let F:Nat->Bool:=fun id=>memN id all
 have hF:∀id,F id=true↔id∈all:=fun id=>aiZ
 let z2:Z:={w:=zd.w,M:=zd.M,ρ:=fun id=>match idOf back id with|some k=>zd.ρ k|none=>if dynBase<=id/\rt id∈all then zd.ρ id else z1.ρ id,
            C:=fun g=>∃k e sz n,hgetX Hd k=some e/\e.fz=false/\zd.ρ k= .real g sz n,D:=(z1.foc H1 F).D}
 have hρ2:∀k id,(k,id)∈back->z2.ρ id=zd.ρ k:=fun k id h=>by
  show(match idOf back id with|some k=>zd.ρ k|none=>_)=_;rw[hid k id h]
 have hno:∀id,id∉all->idOf back id=none:=fun id h=>by
  cases hk:idOf back id with
  |none=>rfl
  |some k=>exact absurd (hbm k id (aAZ hk)) h
 have hρ2d:∀id,dynBase<=id->rt id∈all->z2.ρ id=zd.ρ id:=fun id h1 h2=>by
  show(match idOf back id with|some k=>zd.ρ k|none=>_)=_;rw[hno id fun h=>by have:=halld id h;omega];exact ZAT ⟨h1,h2⟩
 have hρ2n:∀id,id∉all->¬(dynBase<=id/\rt id∈all)->z2.ρ id=z1.ρ id:=fun id h1 h2=>by
  show(match idOf back id with|some k=>zd.ρ k|none=>_)=_;rw[hno id h1];exact ZAQ h2
 have hρX:∀k id,OfX back k id->z2.ρ id=zd.ρ k:=fun k id h=>by
  rcases h with⟨h,_,_⟩|⟨rfl,h1,h2⟩
  ·exact hρ2 k id h
  ·exact hρ2d k h1 (hbm _ _ h2)
 have hC1:∀g,zc.C g->(z1.foc H1 F).C g:=fun g h=>by
  obtain⟨id,e,sz,n,a1,a2,a3,a4⟩:=hC g h;exact⟨id,e,sz,n,aiZ.2 (by rw[<-hall];exact ZBc _ a1),a2,a3,a4⟩
 have hCd:∀g,zd.C g->(z1.foc H1 F).C g\/z1.w.heap.size<=g:=fun g hg=>by
  rcases hn.subC g hg with h|h
  ·exact .inl (hC1 g h)
  ·rw[hw] at h;exact .inr h
 have hC2:∀g,z2.C g->zd.C g:=fun g ⟨k,e,sz,n,a2,a3,a4⟩=>(hHd.realX a2 a4).2.1 a3;have hN:Nx (z1.foc H1 F) z2:=by
  refine⟨hn.os.trans (by rw[hw];rfl),⟨hn.tape.1.trans (by rw[hw];rfl),by have:=hn.tape.2;rw[hw] at this;exact this⟩,hn.output.trans (by rw[hw];rfl),by have:=hn.size;rw[hw] at this;exact this,fun b hb hc=> ?_,fun g hg=> ?_,fun g hg=>hCd g (hC2 g hg),fun g hg hm hc=> ?_,fun id hne=> ?_,rfl⟩
  ·have:=hn.block b (by rw[hw];exact hb) fun h=>hc (hC1 b h);rw[hw] at this;exact this
  ·have:=hn.subM g hg;rw[hw,hM] at this;exact this
  ·exact hn.keepM g (by rw[hw];exact hg) (by rw[hM];exact hm) fun h=>hc (hC1 g h)
  ·have hne:z1.ρ id≠.no:=hne;show z2.ρ id=z1.ρ id;have hnf:¬(famBase<=id/\id<dynBase):=fun h=>hne (hH.nos id h.1 h.2);by_cases hm:id∈all
   ·obtain⟨k,hk⟩:=hallm id hm;rw[hρ2 k id hk];obtain⟨m,h1,h2⟩:=(hat k id).1 hk;have hlid:=halld id hm;by_cases hlt:m<sh.length
    ·obtain⟨b1,b2⟩:=hlow m k id h1 h2 hlt;obtain⟨b3,b4⟩:=hρ m k id b1 b2;rw[hn.ext k (b4 (by omega)),b3]
    ·rw[<-hall,ZAO (by omega)] at h2;have hmi:=ZAN h2;exact absurd ((hH.fresh id (by rw[a3Z (by omega)];exact hfr id hmi)).resolve_right (hd id (by rw[aOZ hlid];exact hmi))) hne
   ·by_cases hdd:dynBase<=id/\rt id∈all
    ·rw[hρ2d id hdd.1 hdd.2];rw[<-hall] at hdd;rcases ZAh.1 hdd.2 with h|h
     ·have e1:=hρd id hdd.1 h;rw[<-e1] at hne⊢;exact hn.ext id hne
     ·exfalso;refine hne ((hH.fresh id ?_).resolve_right (hd id h));rw[awZ hdd.1,atZ (hfr _ h)];exact hfr _ h
    ·exact hρ2n id hm hdd
 have hent0:∀id e',hget (renH Hd (noOf back) back) id=some e'->∃k e,(k,id)∈back/\hget Hd k=some e/\e'=e.ren (noOf back):=fun id e' h=>by
  rw[(btZ hsn id).1] at h;obtain⟨k,q1,q2⟩:=ZAF.1 h;obtain⟨e,q3,q4⟩:=ZAH.1 q2;exact⟨k,e,aAZ q1,q3,q4.symm⟩
 generalize hH2:setAll (killAll [] sh) (renH Hd (noOf back) back)=H2;have hg2:∀id,hget H2 id=if hkey (renH Hd (noOf back) back) id then hget (renH Hd (noOf back) back) id else none:=fun id=>by
  rw[<-hH2,aEZ,aNZ];split
  ·rfl
  ·split<;>rfl
 have hk2:∀id,hkey H2 id=(hkey (renH Hd (noOf back) back) id||memN id sh):=fun id=>by
  rw[<-hH2,a7Z,aDZ];simp[hkey]
 have hgs:∀id e',hget H2 id=some e'->hget (renH Hd (noOf back) back) id=some e':=fun id e' h=>by
  rw[hg2] at h;split at h
  ·exact h
  ·cases h
 have hentX:∀id e',hgetX H2 id=some e'->∃k e,OfX back k id/\hgetX Hd k=some e/\e'=e.ren (noOf back):=fun id e' h=>by
  by_cases hdy:dynBase<=id
  ·rw[a2Z hdy] at h;obtain⟨e0,q1,q2⟩:=ZAF.1 h;obtain⟨k,e1,q3,q4,rfl⟩:=hent0 _ _ (hgs _ _ q1);have:k=rt id:=by
    rcases hfix k _ q3 with⟨_,h⟩|⟨h,_⟩
    ·exact h
    ·have:=(buZ hdy).1;omega
   subst this;rw[(dXZ e1 _ _).2 (ZAM _)] at q2;exact⟨id,e',.inr ⟨rfl,hdy,q3⟩,by rw[a2Z hdy,q4];exact q2,(dzZ q2 _).1.symm⟩
  ·by_cases hf:famBase<=id
   ·unfold hgetX at h;rw[ZAQ hdy,ZAT hf] at h;cases h
   ·rw[aqZ (by omega)] at h;obtain⟨k,e1,q3,q4,rfl⟩:=hent0 _ _ (hgs _ _ h);have hkf:k<famBase:=by
     rcases hfix k _ q3 with⟨h,_⟩|⟨_,h⟩
     ·omega
     ·exact h
    exact⟨k,e1,.inl ⟨q3,hkf,by omega⟩,by rw[aqZ hkf];exact q4,rfl⟩
 have hon:SameOn fs zd.ρ z2.ρ:=fun f k hf _=>hρ2d (enc f k) (bvZ f k) (by rw[cVZ];exact hfs f hf);have hR:HRep z2 H2:=by
  refine⟨fun id e' h=> ?_,fun i i' e e' g sz n g' sz' n' hii p1 p2 m1 m2 p3 p4=> ?_,fun id h=> ?_,fun g h=>hHd.sub g (hC2 g h),fun id x h=> ?_,fun id h=> ?_,fun id hdy h=> ?_,fun id h1 h2=> ?_⟩
  ·obtain⟨k,e,q1,q2,rfl⟩:=hentX id e' h;have h0:=hHd.ent _ _ q2;unfold ERep at h0⊢;rw[hρX k id q1];cases hr:zd.ρ k with
   |no=>rw[hr] at h0;exact h0.elim
   |virt=>
    rw[hr] at h0;obtain⟨fz,b⟩:=e;cases b<;>first|exact h0.elim|exact h0
   |real g sz n=>
    rw[hr] at h0;obtain⟨a1,a2,a3,a4⟩:=h0;exact⟨a1,fun hf=>⟨k,e,sz,n,q2,hf,hr⟩,a3,a4.ren (fz:=e.fz) rfl rfl (.on hon (hnr k e q2)) fun id' k' _ hk'=>hρ2 id' k' (cPZ hk')⟩
  ·obtain⟨k,e1,q1,q2,rfl⟩:=hentX i e p1;obtain⟨k',e2,q3,q4,rfl⟩:=hentX i' e' p2;rw[hρX k i q1] at p3;rw[hρX k' i' q3] at p4;have hkk:k≠k':=fun h=>by
    subst h;rcases q1 with⟨a1,a2,_⟩|⟨rfl,a1,_⟩<;>rcases q3 with⟨b1,b2,_⟩|⟨rfl,b1,_⟩
    ·exact hii (hinj2 k i i' a1 b1)
    ·omega
    ·omega
    ·exact hii rfl
   exact fun p5=>hHd.inj k k' e1 e2 g sz n g' sz' n' hkk q2 q4 m1 m2 p3 p4 fun h=>p5 ⟨OfX.ro q1 h.1,OfX.ro q3 h.2⟩
  ·by_cases hdy:dynBase<=id
   ·by_cases hm:rt id∈all
    ·left;rw[hρ2d id hdy hm];have hbk:=hfamb _ (buZ hdy).1 hm;refine(hHd.fresh id ?_).resolve_right (hddyn id hdy);rw[awZ hdy] at h⊢;cases hg:hget Hd (rt id) with
     |some e0=>
      have hkr:=((btZ (H:=Hd) (f:=noOf back) hsn (rt id)).2).2 ⟨_,e0,hid _ _ hbk,hg⟩;rw[hg2,ZAT hkr,(btZ hsn (rt id)).1,hid _ _ hbk] at h;simp only[ZAA,hg,ZBk] at h;rw[(dXZ e0 _ _).1] at h;exact h
     |none=>
      show hkey Hd (rt id)=false;cases hkd:hkey Hd (rt id)
      ·rfl
      ·obtain⟨e,he⟩:=hlive _ hkd;rw[he] at hg;cases hg
    ·rw[hρ2n id (fun h=>by have:=halld id h;omega) fun h=>hm h.2];cases hk1:hkeyX H1 id
     ·exact(hH.fresh id hk1).imp (fun h=>h) .inl
     ·refine .inr (.inr ⟨hk1,?_⟩);cases hF':F (rt id)
      ·rfl
      ·exact absurd ((hF _).1 hF') hm
   ·by_cases hf:famBase<=id
    ·left;by_cases hm:id∈all
     ·rw[hρ2 id id (hfamb id hf hm)];exact hHd.nos id hf (by omega)
     ·rw[hρ2n id hm fun h=>hdy h.1];exact hH.nos id hf (by omega)
    ·rw[a3Z (by omega),hk2] at h;simp only[ZBE] at h;obtain⟨h,hshm⟩:=h;by_cases hm:id∈all
     ·obtain⟨k,hb⟩:=hallm id hm;have hkf:k<famBase:=by
       rcases hfix k id hb with⟨h,_⟩|⟨_,h⟩
       ·omega
       ·exact h
      left;rw[hρ2 k id hb];have hkd:hkey Hd k=false:=by
       cases hkd:hkey Hd k
       ·rfl
       ·obtain⟨e,he⟩:=hlive k hkd;rw[((btZ (H:=Hd) (f:=noOf back) hsn id).2).2 ⟨k,e,hid k id hb,he⟩] at h;cases h
      refine(hHd.fresh k (by rw[a3Z hkf];exact hkd)).resolve_right fun hdk=> ?_;obtain⟨m',h1,h2⟩:=hkeysOf k (hDd k hdk).2;obtain⟨m,h3,h4⟩:=(hat k id).1 hb;have:=hkinj m m' k h3 h1;subst this;have h5:=(hlow m k id h3 h4 h2).2;rw[aiZ.2 (ZAN h5)] at hshm;cases hshm
     ·rw[hρ2n id hm fun h=>hdy h.1];cases hk1:hkeyX H1 id
      ·exact(hH.fresh id hk1).imp (fun h=>h) .inl
      ·refine .inr (.inr ⟨hk1,?_⟩);cases hF':F (rt id)
       ·rfl
       ·rw[aOZ (by omega)] at hF';exact absurd ((hF _).1 hF') hm
  ·obtain⟨k,e1,q3,q4,rfl⟩:=hent0 _ _ (hgs _ _ h);have hfo:=hHd.fam k e1 q4;obtain⟨fz,b⟩:=e1;cases b with
   |fam e s ms=>
    have:k=id:=by
     rcases hfix k id q3 with⟨_,h⟩|⟨_,h⟩
     ·exact h
     ·have:=hfo.1;omega
    subst this;exact hfo
   |_=>
    have hkf:k<famBase:=hfo;show id<famBase;rcases hfix k id q3 with⟨h,h'⟩|⟨h,_⟩
    ·omega
    ·exact h
  ·rw[hk2] at h;simp only[ZAp] at h;refine halld id ?_;rcases h with h|h
   ·obtain⟨k,e,h1,_⟩:=((btZ hsn id).2).1 h;exact hbm k id (aAZ h1)
   ·rw[<-hall];exact ZBc _ (aiZ.1 h)
  ·have hm:rt id∈all:=by
    rw[hk2] at h;simp only[ZAp] at h;rcases h with h|h
    ·obtain⟨k,e,h1,_⟩:=((btZ hsn (rt id)).2).1 h;exact hbm k _ (aAZ h1)
    ·rw[<-hall];exact ZBc _ (aiZ.1 h)
   rintro(hD|⟨_,hD⟩)
   ·rw[<-hall] at hm;rcases ZAh.1 hm with h'|h'
    ·exact hH.dyn id hdy (hsh _ h') hD
    ·exact hd id h' hD
   ·rw[(hF _).2 hm] at hD;cases hD
  ·by_cases hm:id∈all
   ·rw[hρ2 id id (hfamb id h1 hm)];exact hHd.nos id h1 h2
   ·rw[hρ2n id hm fun h=>by omega];exact hH.nos id h1 h2
 obtain⟨z3,r1,r2,r3,r4,r5⟩:=k5Z (H3:=setAll (killAll H1 sh) (renH Hd (noOf back) back)) hH hN hR (fun id h=>by
  rw[hk2] at h;simp only[ZAp] at h;rcases h with h|h
  ·obtain⟨k,e,h1,_⟩:=((btZ hsn id).2).1 h;exact aiZ.2 (hbm k id (aAZ h1))
  ·exact aiZ.2 (by rw[<-hall];exact ZBc _ (aiZ.1 h))) (fun id=>by
  rw[aEZ,aNZ,hk2,hg2];by_cases h2:hkey (renH Hd (noOf back) back) id=true
  ·simp[h2]
  ·simp only[h2,ZBP,if_false,Bool.false_or];by_cases hs:memN id sh=true
   ·simp[hs]
   ·simp only[hs,ZBP,if_false];by_cases hF':F id=true
    ·rw[ZAT hF'];have:=aiZ.1 hF';rw[<-hall] at this;rcases ZAh.1 this with h|h
     ·exact absurd (aiZ.2 h) hs
     ·exact atZ (hfr id h)
    ·rw[ZAQ hF']) (fun id h=>by
  rw[hk2] at h;rw[a7Z,aDZ];rcases h with h|h
  ·simp only[ZAp] at h;rcases h with h|h
   ·simp[h]
   ·simp[h]
  ·simp[h]) (fun id h=>by
  rw[a7Z,aDZ] at h;rw[hk2];simp only[ZAp] at h⊢;rcases h with h|h|h
  ·exact .inl (.inl h)
  ·exact .inl (.inr h)
  ·exact .inr (.inl h))
 refine⟨z3,r1,r4,r5,fun a v hna ha=> ?_⟩;exact(ha.ren (z':=z2) rfl rfl (.on hon hna) fun id k _ hk=>hρ2 id k (cPZ hk)).less r1 r3 fun g h=>by rw[<-r2];exact h
theorem kXZ{fs:List Nat}{l:List AV}(h:AV.famInTL fs l=true):(tupA l).famInT fs=true:=by
 match l with
 |[]=>rfl
 |[a]=>
  simp only[AV.famInTL,ZAB] at h;exact h.1
 |a::b::l=>exact h
theorem bqZ(id:Nat):hgetX [] id=none:=by
 unfold hgetX;split
 ·rfl
 ·split<;>rfl
theorem juZ{H:Hp}{l:List Nat}(h:liveAll H l=true):∀id∈l,hkey H id=true:=fun id hid=>by
 obtain⟨e,he⟩:=dnZ h id hid;exact ahZ he
theorem muZ{e:FnT}{an:Ann}{args:List AV}{vals:List Value}{K:AV->Hp->Option β}{res:β}(hT:Told P e)(h:evCall P e args an H K=some res)(hH:HRep z H)(hd:∀id,rt id∈an.ids->¬z.D id)
 (hmd:∀m∈an.md,m<4\/¬z.D (m+100000))(ha:AReps z args vals):
 Does P e.f vals.toArray z.w fun en w'=>∃v x H' z',en= .returned v/\z'.w=w'/\HRep z' H'/\Nx z z'/\ARep z' x v/\K x H'=some res:=by
 have hb0:=cAZ;unfold evCall at h;rw[czZ] at h;obtain⟨⟨as',H1⟩,h1,h2⟩:=agZ.1 h;obtain⟨h3,h4⟩:=aeZ.1 h2;simp only[ZAB,jLZ,ZAm] at h3;obtain⟨⟨⟨⟨⟨f1,f2⟩,f3⟩,f4⟩,f5,f6⟩,f7,f8⟩:=h3;obtain⟨z1,Mf,q1,q2,q3,q4,q5,q6⟩:=h2Z hH hmd h1 ha;have hno:∀o∈e.os,allFamIn (famNs (hkKeys o.hs)) o.tys=true:=fun o ho=>(ZB4.1 f6) o ho;simp only at h4;by_cases hm:memN 2 an.md=true
 ·rw[hm] at f4;simp only[ZAP,Bool.false_or,ZAB,acZ,ZB4] at f4;obtain⟨⟨g1,g2⟩,g3⟩:=f4;have e1:an.sh=[]:=ZAR g2;have e2:an.ids=[]:=ZAR g3;rw[e1,e2] at h4;rw[e1] at f3
  let z1e:Z:={z1 with M:=Mf,C:=fun _=>False,D:=fun _=>True}
  have hHe:HRep z1e []:=⟨fun id e h=>(by rw[bqZ] at h;cases h),fun i i' e e' g sz n g' sz' n' _ h=>(by rw[bqZ] at h;cases h),fun id _=>.inr trivial,fun g h=>h.elim,fun i x h=>by simp[hget] at h,fun i h=>by simp[hkey] at h,fun i _ h=>by simp[hkey] at h,q2.nos⟩;obtain⟨t,zc0,k1,k2',k3',k4',k5',k6',k7,k8',k9',k10',k11,k12,k13,k14⟩:=Shp.rco_ok (H:=[]) (ps:=[]) (z:=z1e) (fun _=>.no) (fun _ _ _=>rfl) h4 hHe (q5.less rfl rfl fun g h=>h);obtain⟨zc,x1,x2,k4,k5,x3,x4,x5,x6⟩:=jGZ f5 k4' k5' k13 k14;have k2:=x1.trans k2';have k3:=x2.trans k3';have k8:∀g,zc.C g->_:=fun g h=>k8' g (by rw[<-x4];exact h);have hDc:∀id,¬zc.D id:=fun id h=>by
   obtain⟨y1,y2⟩:=x5 id h;rw[k10'] at y1;rcases y1.2 with h|h
   ·rcases y2 with y2|y2
    ·omega
    ·have:=aiZ.2 y2;rw[this] at y1;cases y1.1
   ·exact h rfl
  obtain⟨r,r1,r2⟩:=ZAF.1 k1;have hw:zc.w=z.w:=k2.trans q1;have hcall:=hT.spec t r r1 zc vals k4 k5 hDc;rw[hw] at hcall;refine hcall.mono ?_;rintro en w' ⟨v,zd,rfl,rfl,hn,hDd,ho⟩;obtain⟨o,y,m1,m2,m3,m4⟩:=OutS.on_both r2 ho;rw[Shp.embC_eq] at m2;obtain⟨p1,p2⟩:=aeZ.1 m2;have hCf:∀g,¬zc.C g:=fun g h=>k8 g h
  let z3:Z:={z1 with w:=zd.w}
  have hN:Nx z1 z3:=by
   refine⟨hn.os.trans (by rw[k2]),⟨hn.tape.1.trans (by rw[k2]),by have:=hn.tape.2;rw[k2] at this;exact this⟩,hn.output.trans (by rw[k2]),by have:=hn.size;rw[k2] at this;exact this,fun b hb _=> ?_,fun g h=>.inl h,fun g h=>.inl h,fun _ _ h _=>h,fun _ _=>rfl,rfl⟩;have:=hn.block b (by rw[k2];exact hb) (hCf b);rw[k2] at this;exact this
  have hH3:HRep z3 H1:=by
   refine⟨fun id e he=>(q2.ent id e he).kp (hN.kp q2.sub) fun g sz n hr=>⟨?_,fun h=>h⟩,fun i i' e e' g sz n g' sz' n' hii h1 h2 f1 f2 h3 h4=>q2.inj i i' e e' g sz n g' sz' n' hii h1 h2 f1 f2 h3 h4,fun id hid=>q2.fresh id hid,fun g hg=>q2.sub g hg,q2.fam,q2.key,q2.dyn,q2.nos⟩;have:=hn.block g (by rw[k2];exact(q2.realX he hr).1) (hCf g);rw[k2] at this;exact this
  obtain⟨vs,b1,b2⟩:=nCZ m4;have hsc:=g1 o m1;have hren:AReps z3 (AV.renL (noOf []) (o.emb y).1) vs:=bWZ (z:=zd) (fun id=>rfl) o.ks hsc b1;refine⟨v,_,_,z3,rfl,rfl,hH3,q3.trans hN,?_,p2⟩;show ARep z3 (AV.ren (noOf []) (tupA (o.emb y).1)) v;rw[o1Z];exact b2 hren (bNZ _ _)
 ·have hM:=q6 (by simpa using hm);subst hM;have hlive:liveAll H1 (fstN (zipN an.sh (shKeys 0 an.sh)))=true:=by
   unfold Shp.rco at h4;have:=(aeZ.1 h4).1;simp only[ZAB] at this;exact this.2
  rw[c4Z (by rw[aBZ])] at hlive;obtain⟨t,zc0,k1,k2',k3',k4',k5',k6',k7,k8',k9',k10',k11,k12,k13,k14⟩:=Shp.rco_ok (fun _=>.no) (fun _ _ _=>rfl) h4 q2 q5;obtain⟨zc,x1,x2,k4,k5,x3,x4,x5,x6⟩:=jGZ f5 k4' k5' k13 k14;have k2:=x1.trans k2';have k3:=x2.trans k3';have k8:∀g,zc.C g->_:=fun g h=>k8' g (by rw[<-x4];exact h);have k9:∀g,zc.C g->_:=fun g h=>k9' g (by rw[<-x4];exact h);have hDc:∀id,¬zc.D id:=fun id h=>by
   obtain⟨y1,y2⟩:=x5 id h;rw[k10'] at y1;rcases y1.2 with h|h
   ·rcases y2 with y2|y2
    ·omega
    ·have:=aiZ.2 y2;rw[this] at y1;cases y1.1
   ·exact h rfl
  obtain⟨r,r1,r2⟩:=ZAF.1 k1;have hw:zc.w=z.w:=k2.trans q1;have hcall:=hT.spec t r r1 zc vals k4 k5 hDc;rw[hw] at hcall;refine hcall.mono ?_;rintro en w' ⟨v,zd,rfl,rfl,hn,hDd,ho⟩;obtain⟨o,y,m1,m2,m3,m4⟩:=OutS.on_both r2 ho;rw[Shp.embC_eq] at m2;obtain⟨p1,p2⟩:=aeZ.1 m2;simp only[ZAB] at p1;have hkm:∀id,id∈hkKeys e.i.hs->id<dynBase:=fun id h=>k13 id (aiZ.2 h);have hshn:∀(m:Nat) k id,(shKeys 0 an.sh)[m]? =some k->an.sh[m]? =some id->zc.ρ k=z1.ρ id/\(id<famBase->zc.ρ k≠.no):=fun m k id hk1 hk2=>by
   have hmem:k∈hkKeys e.i.hs:=by rw[f3];exact ZAN hk1
   have hkd:=hkm k hmem;obtain⟨id',a1,a2⟩:=k6' k (aiZ.2 hmem);have hnd:(sndN (zipN an.sh (shKeys 0 an.sh))).Nodup:=by
    unfold Shp.rco at h4;have:=(aeZ.1 h4).1;simp only[ZAB] at this;exact bVZ.1 this.1.2.1
   have hid:id'=id:=by
    have e1:=emZ hnd a1;have e2:=emZ hnd (j5Z hk2 hk1);rw[e1] at e2;exact ZAk e2
   subst hid;have hρ:zc.ρ k=z1.ρ id':=(x3 k (.inl hkd)).trans a2;refine⟨hρ,fun hlow hno=> ?_⟩;obtain⟨ee,he⟩:=(bPZ e.i.hs (embL e.i.ks (hkLv e.i.hs []) (untidy e.i.tys t)).2 k).2.1 (aiZ.2 hmem);have hkf:k<famBase:=by
    rcases bDZ hk1 hk2 with⟨h,_⟩|⟨_,_,h⟩
    ·omega
    ·omega
   have hee:=k4.ent k ee (by rw[aqZ hkf];exact he);unfold ERep at hee;rw[hno] at hee;exact hee
  have hshd:∀id,dynBase<=id->rt id∈an.sh->zc.ρ id=z1.ρ id:=fun id hdy hmem=>by
   have h1:=(buZ hdy).1;have hmk:rt id∈hkKeys e.i.hs:=by
    rw[f3];obtain⟨m,hm⟩:=ZAe hmem;obtain⟨k,hk⟩:=lPZ (n:=0) hm;rcases bDZ hk hm with⟨_,rfl⟩|⟨h,_⟩
    ·exact ZAN hk
    ·omega
   rw[x3 id (.inr hmk),k7 id,ZAT hdy];cases hc:memN id (hkKeys e.i.hs)
   ·rfl
   ·have:=hkm id (aiZ.1 hc);omega
  have hokeys:∀k∈hkKeys o.hs,k∈shKeys 0 (an.sh++an.ids):=fun k hk=>by
   have:=(bFZ.1 p1.2) k (dPZ.1 (by rw[show hkey (o.emb y).2 k=memN k (hkKeys o.hs) from(bPZ o.hs (embL o.ks (hkLv o.hs []) (untidy o.tys y)).2 k).1];exact aiZ.2 hk));rwa [c4Z (by rw[aBZ])] at this
  obtain⟨z3,c1,c2,c3,c4⟩:=qmZ (sh:=an.sh) (ids:=an.ids) (fs:=famNs (hkKeys o.hs)) q2 (exZ f1) (juZ hlive) (fun id hid=>boZ f7 hid) (fun id hid=>by rw[q3.dom];exact hd id hid) (bVZ.1 p1.1.1) f8 k2 k3
   (fun g hg=>by
    obtain⟨id,ee,sz,n,a1,a2,a3,a4⟩:=k9 g hg;rw[c4Z (by rw[aBZ])] at a1;exact⟨id,ee,sz,n,a1,a2,a3,a4⟩) hshn hshd (fun k hk=>by
    have:=hDd k hk;rw[f3] at this;exact⟨hkm k (by rw[f3];exact this),this⟩) hn m3
   (fun k hk=>by
    have hg:=bPZ o.hs (embL o.ks (hkLv o.hs []) (untidy o.tys y)).2 k;exact hg.2.1 (by rw[<-hg.1];exact hk)) (fun k ee he=>i8Z (hno o m1) m3 he) (fun f hf=>by
    have hod:∀i∈hkKeys o.hs,i<dynBase:=fun i hi=>m3.key i (by rw[show hkey (o.emb y).2 i=memN i (hkKeys o.hs) from(bPZ o.hs (embL o.ks (hkLv o.hs []) (untidy o.tys y)).2 i).1];exact aiZ.2 hi);have hmk:=hokeys _ ((dtZ hod (ZCF f (by omega))).1 hf);obtain⟨m,hm1⟩:=ZAe hmk;have hlt:m<(an.sh++an.ids).length:=by have:=(ZAC.1 hm1).1;rwa [aBZ] at this
    rcases bDZ hm1 (ZAD hlt) with⟨_,h⟩|⟨_,_,h⟩
    ·show famBase+f%16∈_;rw[h];exact ZBo hlt
    ·rw[ZAY] at h;omega) p1.2
  exact⟨v,_,_,z3,rfl,c1,c2,q3.trans c3,c4 _ _ (kXZ (bcZ o.ks (r:=hkLv o.hs []) _ (hno o m1))) m4,p2⟩
end
end Go.Ab
namespace Go.Ab
theorem Tr.get_put:∀(t:Tr) (k:Nat) (a:AV) (k':Nat),(k'≠k->(t.put k a).get k'=t.get k')/\((t.put k a).get k=a\/(t.put k a).get k= .junk)
 |.lf,k,a,k'=>⟨fun _=>rfl,.inr rfl⟩
 |.nd l v r,k,a,k'=>by
  by_cases h0:k=0
  ·subst h0;simp only[Tr.put,(acZ 0 0).2 rfl,ZAK,Tr.get];refine⟨fun h=> ?_,.inl trivial⟩;rw[afZ h]
   rfl
  ·have e0:Nat.beq k 0=false:=afZ h0;by_cases h1:k%2=1
   ·have e1:Nat.beq (k%2) 1=true:=(acZ _ _).2 h1;simp only[Tr.put,e0,e1,ZAK,ZAE,Tr.get];obtain⟨q1,q2⟩:=Tr.get_put l (k/2) a (k'/2);refine⟨fun h=> ?_,q2⟩;by_cases g0:k'=0
    ·subst g0;simp[Nat.beq]
    ·rw[afZ g0,ZAE,ZAE];by_cases g1:k'%2=1
     ·rw[(acZ _ _).2 g1,ZAK,ZAK];exact q1 (by omega)
     ·rw[afZ g1,ZAE,ZAE]
   ·have e1:Nat.beq (k%2) 1=false:=afZ h1;simp only[Tr.put,e0,e1,ZAE,Tr.get];obtain⟨q1,q2⟩:=Tr.get_put r (k/2-1) a (k'/2-1);refine⟨fun h=> ?_,q2⟩;by_cases g0:k'=0
    ·subst g0;simp[Nat.beq]
    ·rw[afZ g0,ZAE,ZAE];by_cases g1:k'%2=1
     ·rw[(acZ _ _).2 g1,ZAK,ZAK]
     ·rw[afZ g1,ZAE,ZAE];exact q1 (by omega)
section
variable {P : Program} {T : Tbl} {z : Z} {H : Hp} {β : Type} {all : List Oper} {ops : Array Oper}
def Le(a b:AV):Prop:=∀(z:Z) v,ARep z a v->ARep z b v
theorem Le.refl(a:AV):Le a a:=fun _ _ h=>h
theorem Le.trans{a b c:AV}(h:Le a b)(k:Le b c):Le a c:=fun z v x=>k z v (h z v x)
theorem Le.junk(a:AV):Le a .junk:=fun _ v _=>.junk v
theorem Le.bool{a:AV}{t:Bool}(h:a.bool? =some t):Le a (.b t):=fun z v hv=>by
 rw[b2Z h hv];exact .mkB t
theorem o2Z(v:Value):ARep z (AV.lit v) v:=by
 cases v<;>first|exact .mkI _ _|exact .mkB _|exact .junk _|exact .p _ _ _ ⟨_,⟨rfl,rfl⟩,rfl⟩|skip;rename_i s;exact .mkS s.data.toList
theorem fuZ:∀{l:List Value},oneCells l=true->∀v∈l,v.oneCell'=true
 |[],_,v,h=>by cases h
 |u::l,h,v,hv=>by
  have h':u.oneCell'=true/\oneCells l=true:=by
   cases u<;>first|exact⟨rfl,h⟩|cases h
  rcases ZAa.1 hv with rfl|hv
  ·exact h'.1
  ·exact fuZ h'.2 v hv
def opOf(t:Nat):Operand:=if t<1048576 then .tmp t else .global (t-1048576)
theorem eiZ{t:Nat}(h:t<1048576):opOf t= .tmp t:=ZAT h
theorem jvZ(g:Nat):opOf (1048576+g)= .global g:=by rw[opOf,ZAQ (by omega),ZAz]
theorem dfZ{st:St}{a:Act}(h:∀t,ARep z (st.tm.get t) (a.eval (opOf t)))(x:Operand):ARep z (st.opnd x) (a.eval x):=by
 cases x with
 |tmp t=>
  simp only[St.opnd];cases hb:Nat.blt t 1048576
  ·exact .junk _
  ·rw[ZBW] at hb;have:=h t;rw[eiZ hb] at this;exact this
 |const v=>
  by_cases hv:∃cs,v= .agg cs
  ·obtain⟨cs,rfl⟩:=hv;simp only[St.opnd];cases ho:oneCells cs.toList
   ·exact .junk _
   ·have h1:=fuZ ho;refine .agg _ _ (by simp) (fun v hv=>h1 v (ZBD.2 hv)) fun i x v e1 e2=> ?_;have e2:cs[i]? =some v:=e2;rw[ZAW] at e1;obtain⟨y,e3,rfl⟩:=ZAH.1 e1;have:y=v:=by rw[<-Array.getElem?_toList,e3] at e2;exact ZAk e2
    subst this;exact pJZ y (.inl (h1 y (ZAN e3)))
  ·have:st.opnd (.const v)= .lit v:=by
    cases v<;>first|rfl|exact absurd ⟨_,rfl⟩ hv
   rw[this];exact o2Z v
 |global g=>have:=h (1048576+g);rw[jvZ] at this;exact this
 |func f=>exact .fn f [] [] #[] #[] rfl rfl (fun i x v h=>by simp at h) (fun i x v h=>by simp at h)
theorem qJZ{a:AV}{x:FuncId×List AV×List AV}{v:Value}(h:a.fnv? =some x)(ha:ARep z a v):∃va vc,v= .func (.func x.1) va vc/\AReps z x.2.1 va.toList/\AReps z x.2.2 vc.toList:=by
 unfold AV.fnv? at h;split at h
 ·rename_i f l c;simp only[ZAI] at h;subst h;cases ha with|fn _ _ _ va vc h1 h2 h3 h4=>
  exact⟨va,vc,rfl,⟨by simp[h1],fun i x v p1 p2=>h3 i x v p1 (by simpa using p2)⟩,⟨by simp[h2],fun i x v p1 p2=>h4 i x v p1 (by simpa using p2)⟩⟩
 ·rename_i f l c;cases hb:(Nat.beq l.size 0&&Nat.beq c.size 0)<;>rw[hb] at h<;>simp only[bq_true,bq_false] at h
  ·cases h
  simp only[ZAB,acZ] at hb;simp only[ZAI] at h;subst h;obtain rfl:=ha.v.opq.1;exact⟨l,c,rfl,⟨by simp[hb.1],fun i a v h=>by simp at h⟩,⟨by simp[hb.2],fun i a v h=>by simp at h⟩⟩
 ·cases h
theorem kxZ{f:FuncId}:∀{T:Tbl} {e:FnT},findF f T=some e->e∈T/\e.f=f
 |[],e,h=>by cases h
 |x::T,e,h=>by
  unfold findF at h;cases hb:Nat.beq x.f f<;>rw[hb] at h
  ·obtain⟨h1,h2⟩:=kxZ h;exact⟨ZAb _ h1,h2⟩
  ·simp only[bq_true,ZAI] at h;subst h;exact⟨ZAl,(acZ _ _).1 hb⟩
theorem o5Z{T:Tbl}{n:Nat}{f:FuncId}{e:FnT}(h:tblAt T n f=some e):e∈T/\e.f=f:=by
 unfold tblAt at h;split at h
 ·rename_i x hx;cases hb:Nat.beq x.f f<;>rw[hb] at h
  ·exact kxZ h
  ·simp only[bq_true,ZAI] at h;subst h;exact⟨ZAN hx,(acZ _ _).1 hb⟩
 ·cases h
theorem p4Z{o:Oper}{an:Ann}{r:Operand->AV}{a:Act}{K:AV->Hp->Option β}{res:β}{next:Act->World->Prop}{Q:Exit->Act->World->Prop}(hT:∀e∈T,Told P e)
 (h:evW P T o an r H K=some res)(hH:HRep z H)(hids:∀id,rt id∈an.ids->¬z.D id)(hmk:mkOp P o=true->¬z.D (an.ids.headD 0))(hmd:∀m∈an.md,m<4\/¬z.D (m+100000))(hr:∀x,ARep z (r x) (a.eval x))
 (hk:∀x v H' z',HRep z' H'->Nx z z'->ARep z' x v->K x H'=some res->next (a.put o.dst v) z'.w):o.wp P a z.w next Q:=by
 unfold Oper.wp;cases hc:isCall o
 ·obtain⟨x,H',z',nx,h1,h2,h3,h4,h5⟩:=rpZ h hH hmk hr hc;rw[h1];rcases h4 with⟨v,rfl,hv⟩|⟨rfl,rfl⟩
  ·exact hk x v H' z' h2 h3 hv h5
  ·exact hk .junk undef H' z' h2 h3 (.junk _) h5
 ·unfold isCall at hc;split at hc
  ·rename_i c ho;split at hc
   ·rename_i f hcb;unfold evW at h;simp only[ho,hcb] at h;obtain⟨x,h1,h2⟩:=agZ.1 h;obtain⟨va,vc,hv,q1,q2⟩:=qJZ h1 (hr f);split at h2
    ·rename_i e he;obtain⟨he',hb⟩:=o5Z he;have hte:=hT e he';have hcall:=muZ (vals:=va.toList++c.args.toList.map a.eval++vc.toList) hte h2 hH hids hmd (.append (.append q1 (.map hr)) q2);have harr:va++c.args.map a.eval++vc=(va.toList++c.args.toList.map a.eval++vc.toList).toArray:=by
      apply ZBg;simp
     rcases hcall with⟨⟨fn,cd,e1,e2,e3⟩,hcall⟩|⟨v,w',hrun,v',x',H',z',hv',rfl,p1,p2,p3,p4⟩
     rotate_left
     ·have hexec:(execOp a.eval o).run P z.w= .ok (.value v) z'.w:=by
       unfold execOp;simp only[ho,resolve,hcb,hv,Deferred.ofValue,Sem.run_bind,Sem.run_pure,Result.andThen_ok,invoke];rw[<-hb,harr];exact hrun
      rw[hexec];injection hv' with hv';subst hv';exact hk x' v H' z' p1 p2 p3 p4
     have hexec:(execOp a.eval o).run P z.w= .ok (.enter e.f (va.toList++c.args.toList.map a.eval++vc.toList).toArray) z.w:=by
      have hbd:fn.body.isNone=false:=by rw[e2];rfl
      have harr:va++c.args.map a.eval++vc=(va.toList++c.args.toList.map a.eval++vc.toList).toArray:=by
       apply ZBg;simp
      unfold execOp;simp only[ho,resolve,hcb,hv,Deferred.ofValue,Sem.run_bind,Sem.run_pure,Result.andThen_ok,invoke,callFunc,run_program];rw[<-hb] at*;simp only[e1,e3,hbd,harr]
      rfl
     rw[hexec];show Calls P e.f _ z.w _;refine hcall.mono ?_;rintro en w' ⟨v,x',H',z',rfl,rfl,p1,p2,p3,p4⟩;exact hk x' v H' z' p1 p2 p3 p4
    ·cases h2
   ·cases hc
  ·cases hc
theorem pyZ{o:Oper}{r:Operand->AV}{a:Act}{K:AV->Option β}{res:β}{next:Act->World->Prop}{Q:Exit->Act->World->Prop}(h:evR P o r H K=some res)(hH:HRep z H)(hr:∀x,ARep z (r x) (a.eval x))
 (hk:∀x v,ARep z x v->K x=some res->next (a.put o.dst v) z.w):o.wp P a z.w next Q:=by
 unfold Oper.wp;obtain⟨x,v,h1,h2,h3⟩:=r3Z h hH hr;rw[h1];exact hk x v h2 h3
def Inv(z0:Z)(N:Nat)(L:List (Nat×AV))(st:St)(a:Act)(w:World):Prop:=
 ∃z,z.w=w/\Nx z0 z/\(∀id,¬z.D id)/\HRep z st.hp/\(∀t,ARep z (st.tm.get t) (a.eval (opOf t)))/\(∀p∈L,ARep z p.2 (a.eval (opOf p.1)))/\a.defers=[]/\(st.nt<=N/\a.tmps.size=N)/\∀id,id<dynBase->z0.ρ id≠.no->id<st.n0
theorem huZ{a:Act}{d:Nat}{v:Value}(h:d<a.tmps.size):(a.put (some d) v).eval (.tmp d)=v:=by
 simp[Act.eval,Act.put,h]
theorem cYZ{a:Act}{d:Nat}{v:Value}(h:d<a.tmps.size)(hb:d<1048576):(a.put (some d) v).eval (opOf d)=v:=by
 rw[eiZ hb];exact huZ h
theorem ckZ{a:Act}{o:Option Tmp}{t:Nat}{v:Value}(h:o≠some t):(a.put o v).eval (opOf t)=a.eval (opOf t):=by
 cases o with
 |none=>rfl
 |some d=>
  have:d≠t:=fun e=>h (by rw[e]);by_cases ht:t<1048576
  ·rw[eiZ ht];simp[Act.eval,Act.put,Array.getElem?_setIfInBounds_ne this]
  ·rw[opOf,ZAQ ht]
   rfl
theorem put_ok{tm:Tr}{nt:Nat}{a:Act}{o:Option Tmp}{x:AV}{v:Value}(h:∀t,ARep z (tm.get t) (a.eval (opOf t)))(hd:dstOk nt o=true)(hn:nt<=a.tmps.size)(hx:ARep z x v):
 ∀t,ARep z ((St.putO ⟨tm,nt,0,[]⟩ o x).tm.get t) ((a.put o v).eval (opOf t)):=by
 intro t;cases o with
 |none=>exact h t
 |some d=>
  simp only[dstOk,ZAB,ZBW] at hd;simp only[St.putO];by_cases ht:t=d
  ·subst ht;rw[cYZ (by omega) hd.2];rcases(Tr.get_put tm t x t).2 with e|e<;>rw[e]
   ·exact hx
   ·exact .junk _
  ·rw[(Tr.get_put tm d x t).1 ht,ckZ (by simpa using ZBd ht)];exact h t
theorem cqZ(st:St)(o:Option Nat)(x:AV):(st.putO o x).tm=(St.putO ⟨st.tm,st.nt,0,[]⟩ o x).tm/\(st.putO o x).nt=st.nt/\(st.putO o x).n0=st.n0/\(st.putO o x).hp=st.hp:=by
 cases o<;>exact⟨rfl,rfl,rfl,rfl⟩
theorem e4Z(a:Act)(o:Option Tmp)(v:Value):(a.put o v).tmps.size=a.tmps.size/\(a.put o v).defers=a.defers:=by
 cases o<;>simp[Act.put]
theorem Inv.put{z0 z':Z}{N:Nat}{L:List (Nat×AV)}{st:St}{a:Act}{o:Option Tmp}{x:AV}{v:Value}{H':Hp}(hn:Nx z0 z')(hD:∀id,¬z'.D id)(hH:HRep z' H')(hs:∀t,ARep z' (st.tm.get t) (a.eval (opOf t)))
 (hL:∀p∈L,ARep z' p.2 (a.eval (opOf p.1)))(hLd:∀p∈L,o≠some p.1)(hdf:a.defers=[])(hnt:st.nt<=N/\a.tmps.size=N)(h0:∀id,id<dynBase->z0.ρ id≠.no->id<st.n0)(hd:dstOk st.nt o=true)(hx:ARep z' x v):
 Inv z0 N L {st.putO o x with hp:=H'} (a.put o v) z'.w:=by
 obtain⟨e1,e2,e3,e4⟩:=cqZ st o x;refine⟨z',rfl,hn,hD,hH,?_,fun p hp=> ?_,(e4Z a o v).2.trans hdf,⟨by show(st.putO o x).nt<=N;rw[e2];exact hnt.1,by rw[(e4Z a o v).1];exact hnt.2⟩,fun id hdy hid=>by show id<(st.putO o x).n0;rw[e3];exact h0 id hdy hid⟩
 ·show∀t,ARep z' ((st.putO o x).tm.get t) _;rw[e1];exact put_ok hs hd (by rw[hnt.2];exact hnt.1) hx
 ·rw[ckZ (hLd p hp)];exact hL p hp
theorem rvZ{o:Oper}{an:Ann}{z0:Z}{N:Nat}{L:List (Nat×AV)}{st:St}{a:Act}{w:World}{K:St->Option β}{res:β}{next:Act->World->Prop}{Q:Exit->Act->World->Prop}(hT:∀e∈T,Told P e)
 (h:ev1 P T o an st K=some res)(hd:dstOk st.nt o.dst=true)(hi:Inv z0 N L st a w)(hL:∀p∈L,o.dst≠some p.1)(hk:∀st' a' w',K st'=some res->Inv z0 N L st' a' w'->next a' w'):o.wp P a w next Q:=by
 obtain⟨z,rfl,hn,hD,hH,hs,hLs,hdf,hnt,h0⟩:=hi;unfold ev1 at h;cases hR:isR P o<;>rw[hR] at h<;>simp only[bq_true,bq_false] at h
 ·refine p4Z hT h hH (fun id _=>hD id) (fun _=>hD _) (fun _ _=>.inr (hD _)) (dfZ hs) fun x v H' z' h1 h2 h3 h4=> ?_;have kp:=h2.kp hH.sub;exact hk _ _ _ h4 (.put (hn.trans h2) (fun id=>by rw[h2.dom];exact hD id) h1 (fun t=>(hs t).kp kp) (fun p hp=>(hLs p hp).kp kp) hL hdf hnt h0 hd h3)
 ·refine pyZ h hH (dfZ hs) fun x v h1 h2=> ?_;have:=Inv.put (st:=st) (H':=st.hp) hn hD hH hs hLs hL hdf hnt h0 hd h1;refine hk _ _ _ h2 ?_;have e:({st.putO o.dst x with hp:=st.hp}:St)=st.putO o.dst x:=by cases o.dst<;>rfl
  rwa [e] at this
def GuardIs(all:List Oper)(o:Oper)(get:Nat->AV)(b:Bool):Prop:=
 (o.guard=none/\b=true)\/∃j want d,o.guard=some (j,want)/\(all[j]?).bind (·.dst)=some d/\d<1048576/\((get d= .tup []/\b=false)\/∃t,(get d).bool? =some t/\b=(t==want))
theorem GuardIs.wanted{o:Oper}{get:Nat->AV}{b:Bool}{a:Act}(h:GuardIs ops.toList o get b)(hs:∀j want d,o.guard=some (j,want)->(ops.toList[j]?).bind (·.dst)=some d->ARep z (get d) (a.eval (opOf d))):
 Region.wanted o (yielded ops a.tmps)=b:=by
 rcases h with⟨h1,rfl⟩|⟨j,want,d,h1,h2,hlt,h3⟩
 ·simp[Region.wanted,h1]
 ·have hd:=hs j want d h1 h2;rw[eiZ hlt] at hd;have e:(ops[j]?).bind (·.dst)=some d:=by rw[<-Array.getElem?_toList];exact h2
  simp only[Region.wanted,h1,yielded,e,ZAA];simp only[Act.eval] at hd;rcases h3 with⟨h3,rfl⟩|⟨t,h3,rfl⟩
  ·rw[h3] at hd;cases hv:a.tmps[d]? with
   |none=>rfl
   |some v=>
    have e2:a.tmps.getD d undef=v:=by simp[hv]
    rw[e2] at hd;cases hd
    rfl
  ·have hb:=b2Z h3 hd;cases hv:a.tmps[d]? with
   |none=>
    have e2:a.tmps.getD d undef=undef:=by simp[hv]
    rw[e2] at hb;cases hb
   |some v=>
    have e2:a.tmps.getD d undef=v:=by simp[hv]
    rw[e2] at hb;subst hb;cases t<;>cases want<;>rfl
theorem p6Z{o:Oper}{st:St}{go skip:St->Option β}{res:β}(h:evG all o st go skip=some res):
 dstOk st.nt o.dst=true/\∃st1 b,st1.hp=st.hp/\st1.nt=st.nt/\st1.n0=st.n0/\(∀t,Le (st.tm.get t) (st1.tm.get t))/\GuardIs all o st.tm.get b/\((b=true/\go st1=some res)\/(b=false/\skip (st1.skip o)=some res)):=by
 unfold evG at h;cases hd:dstOk st.nt o.dst<;>rw[hd] at h<;>simp only[bq_true,bq_false] at h
 ·cases h
 refine⟨rfl,?_⟩;split at h
 ·rename_i hg;exact⟨st,true,rfl,rfl,rfl,fun _=>.refl _,.inl ⟨hg,rfl⟩,.inl ⟨rfl,h⟩⟩
 ·rename_i j want hg;obtain⟨d,h1,h2⟩:=agZ.1 h;obtain⟨oj,h3,h4⟩:=agZ.1 h1;obtain⟨hlt,h2⟩:=aeZ.1 h2;rw[ZBW] at hlt;have hj:(all[j]?).bind (·.dst)=some d:=by rw[h3];exact h4
  split at h2
  ·rename_i ht;exact⟨st,false,rfl,rfl,rfl,fun _=>.refl _,.inr ⟨j,want,d,hg,hj,hlt,.inl ⟨ht,rfl⟩⟩,.inr ⟨rfl,h2⟩⟩
  ·rename_i ht;obtain⟨t,h5,h6⟩:=agZ.1 h2;have hle:∀k,Le (st.tm.get k) ((st.tm.put d (.b t)).get k):=fun k=>by
    by_cases hk:k=d
    ·subst hk;rcases(Tr.get_put st.tm k (.b t) k).2 with e|e<;>rw[e]
     ·exact .bool h5
     ·exact .junk _
    ·rw[(Tr.get_put st.tm d (.b t) k).1 hk];exact .refl _
   refine⟨{st with tm:=st.tm.put d (.b t)},t==want,rfl,rfl,rfl,hle,.inr ⟨j,want,d,hg,hj,hlt,.inr ⟨t,h5,rfl⟩⟩,?_⟩;cases t<;>cases want<;>simp only[bq_true,bq_false] at h6
   ·exact .inl ⟨rfl,h6⟩
   ·exact .inr ⟨rfl,h6⟩
   ·exact .inr ⟨rfl,h6⟩
   ·exact .inl ⟨rfl,h6⟩
theorem k9Z:ARep z (.tup []) undef:=.tup [] #[] rfl fun i x v h=>by simp at h
theorem Inv.le{z0:Z}{N:Nat}{L:List (Nat×AV)}{st st1:St}{a:Act}{w:World}(hi:Inv z0 N L st a w)(h1:st1.hp=st.hp)(h2:st1.nt=st.nt)(h3:st1.n0=st.n0)(h4:∀t,Le (st.tm.get t) (st1.tm.get t)):Inv z0 N L st1 a w:=by
 obtain⟨z,rfl,hn,hD,hH,hs,hLs,hdf,hnt,h0⟩:=hi;exact⟨z,rfl,hn,hD,by rw[h1];exact hH,fun t=>h4 t _ _ (hs t),hLs,hdf,by rw[h2];exact hnt,by rw[h3];exact h0⟩
theorem Inv.skip{z0:Z}{N:Nat}{L:List (Nat×AV)}{st:St}{a:Act}{w:World}{o:Oper}(hi:Inv z0 N L st a w)(hd:dstOk st.nt o.dst=true)(hL:∀p∈L,o.dst≠some p.1):Inv z0 N L (st.skip o) (a.put o.dst undef) w:=by
 obtain⟨z,rfl,hn,hD,hH,hs,hLs,hdf,hnt,h0⟩:=hi;have:=Inv.put (st:=st) (H':=st.hp) hn hD hH hs hLs hL hdf hnt h0 hd (k9Z (z:=z));have e:({st.putO o.dst (.tup []) with hp:=st.hp}:St)=st.skip o:=by unfold St.skip;cases o.dst<;>rfl
 rwa [e] at this
theorem fyZ{z0:Z}{N:Nat}{L:List (Nat×AV)}{K:St->Option β}{res:β}{Q:Exit->Act->World->Prop}(hT:∀e∈T,Told P e){tail:List Nat}(hk:∀st' a' w',K st'=some res->Inv z0 N L st' a' w'->wpOps P ops Q tail a' w'):
 ∀(l:List (Oper×Ann)) (k:Nat),(∀(i:Nat) x,l[i]? =some x->ops[k+i]? =some x.1)->(∀x∈l,∀p∈L,x.1.dst≠some p.1)->∀(st:St) (a:Act) (w:World),evOps P T l ops.toList st K=some res->Inv z0 N L st a w->
  wpOps P ops Q (List.range' k l.length++tail) a w
 |[],k,_,_,st,a,w,h,hi=>hk st a w h hi
 |(o,an)::l,k,hl,hL,st,a,w,h,hi=>by
  simp only[evOps] at h;obtain⟨hd,st1,b,e1,e2,e3,e4,hg,hb⟩:=p6Z h;have ho:ops[k]? =some o:=by have:=hl 0 (o,an) rfl;simpa using this
  have hrest:∀(i:Nat) x,l[i]? =some x->ops[k+1+i]? =some x.1:=fun i x hx=>by
   have:=hl (i+1) x hx;rwa [show k+(i+1)=k+1+i by omega] at this
  have hLo:∀p∈L,o.dst≠some p.1:=hL (o,an) (by simp);have hw:Region.wanted o (yielded ops a.tmps)=b:=by
   obtain⟨z,_,_,_,_,hs,_⟩:=hi;exact hg.wanted fun j want d _ _=>hs d
  have hi1:Inv z0 N L st1 a w:=hi.le e1 e2 e3 e4;simp only[ZBm,List.range'_succ,List.cons_append,wpOps,ho,hw];rcases hb with⟨rfl,hgo⟩|⟨rfl,hsk⟩
  ·simp only[ZCH];refine .inl (rvZ hT hgo (by rw[e2];exact hd) hi1 hLo fun st' a' w' h' hi'=> ?_);exact fyZ hT hk l (k+1) hrest (fun x hx=>hL x (by simp[hx])) st' a' w' h' hi'
  ·simp only[ZBP,if_false];exact fyZ hT hk l (k+1) hrest (fun x hx=>hL x (by simp[hx])) _ _ w hsk (hi1.skip (by rw[e2];exact hd) hLo)
theorem pcZ{z0:Z}{N:Nat}{L:List (Nat×AV)}{K:St->Option β}{res:β}{Q:Exit->Act->World->Prop}(hT:∀e∈T,Told P e)(hk:∀st' a' w',K st'=some res->Inv z0 N L st' a' w'->Q .normal a' w')
 (l:List (Oper×Ann))(k:Nat)(h1:∀(i:Nat) x,l[i]? =some x->ops[k+i]? =some x.1)(h2:∀x∈l,∀p∈L,x.1.dst≠some p.1)(st:St)(a:Act)(w:World)(h:evOps P T l ops.toList st K=some res)(hi:Inv z0 N L st a w):
  wpOps P ops Q (List.range' k l.length) a w:=by
 have:=fyZ (tail:=[]) hT hk l k h1 h2 st a w h hi;rwa [ZA1] at this
end
end Go.Ab
namespace Go.Ab
section
variable {P : Program} {T : Tbl} {z : Z} {H : Hp} {β : Type} {all : List Oper} {ops : Array Oper}
theorem b4Z{α β:Type}{f g:α->β}{l:List α}(h:∀x∈l,f x=g x):l.map f=l.map g:=List.map_congr_left h
theorem nRZ{o:Oper}{r r':Operand->AV}{K:AV->Option β}(h:∀x∈o.op.operands,r x=r' x):evR P o r H K=evR P o r' H K:=by
 obtain⟨dst,op,type,pos,after,guard⟩:=o;cases op<;>simp only[Op.operands] at h<;>simp only[evR]
 case build t ps=>
  have e:(ps.toList.map fun x=>(x.1,r x.2))=ps.toList.map fun x=>(x.1,r' x.2):=b4Z fun x hx=>by
   rw[h x.2 (by simp only[List.mem_toArray,ZCB];exact⟨x,hx,rfl⟩)]
  rw[e]
 case makeFunc f a c=>
  have e1:a.toList.map r=a.toList.map r':=b4Z fun x hx=>h x (by simp[ZBD.1 hx]);have e2:c.toList.map r=c.toList.map r':=b4Z fun x hx=>h x (by simp[ZBD.1 hx]);cases f<;>simp only[e1,e2]
 case slice t x lo hi mx=>cases lo<;>cases hi<;>cases mx<;>simp_all
 case call c=>
  have e1:c.args.toList.map r=c.args.toList.map r':=b4Z fun x hx=>h x (by simp[Call.operands,ZBD.1 hx]);have e2:∀a,c.args.toList=[a]->r a=r' a:=fun a ha=>by
   rw[ha] at e1;simpa using e1
  rw[e1];split
  ·split
   ·rename_i a t ha _;rw[e2 a ha]
   ·rfl
  ·split
   ·rename_i a t ha _;rw[e2 a ha]
   ·rfl
  ·rfl
  ·rfl
  ·rfl
 all_goals(first|rfl|(simp_all;done)|(split<;>simp_all;done))
theorem mtZ{o:Oper}{an:Ann}{r r':Operand->AV}{K:AV->Hp->Option β}(h:∀x∈o.op.operands,r x=r' x):evW P T o an r H K=evW P T o an r' H K:=by
 obtain⟨dst,op,type,pos,after,guard⟩:=o;cases op<;>simp only[Op.operands] at h<;>simp only[evW]
 case buildSlice t n ps=>
  have e:(ps.toList.map fun x=>(x.1,r x.2))=ps.toList.map fun x=>(x.1,r' x.2):=b4Z fun x hx=>by
   rw[h x.2 (by simp only[List.mem_toArray,ZCB];exact⟨x,hx,rfl⟩)]
  rw[e]
 case makeMap t q=>cases q<;>simp_all
 case call c=>
  have e1:c.args.toList.map r=c.args.toList.map r':=b4Z fun x hx=>h x (by simp[Call.operands,ZBD.1 hx]);have e2:∀a b,c.args.toList=[a,b]->r a=r' a/\r b=r' b:=fun a b ha=>by
   rw[ha] at e1;simpa using e1
  split
  ·split
   ·rename_i a b t u ha _;rw[(e2 a b ha).1,(e2 a b ha).2]
   ·rfl
  ·split
   ·rename_i a b t _ ha _;rw[(e2 a b ha).1,(e2 a b ha).2]
   ·rfl
  ·split
   ·rename_i a t ha _;have:r a=r' a:=by rw[ha] at e1;simpa using e1
    rw[this]
   ·rfl
  ·rename_i f hc;rw[e1,h f (by simp[Call.operands,hc])]
  ·rfl
 all_goals(first|rfl|(simp_all;done)|(split<;>simp_all;done))
structure Rc where
 i:Nat
 o:Oper
 an:Ann
 pre:Nat->AV
 st:St
 go:Bool
 x:AV
 H2:Option Hp
def Rc.ft(r:Rc):List Nat:=foot r.o r.an r.st.opnd
def Rc.wr(r:Rc):List Nat:=wrIds r.st.hp r.ft
theorem c0Z(H:Hp)(id:Nat):∀l:List Nat,memN id (fzIds H l)=(memN id l&&isFz H id)/\memN id (wrIds H l)=(memN id l&& !isFz H id)
 |[]=>⟨rfl,rfl⟩
 |i::l=>by
  obtain⟨h1,h2⟩:=c0Z H id l;unfold fzIds wrIds;by_cases h:id=i
  ·subst h;cases hf:isFz H id<;>simp[memN,h1,h2,hf,Nat.beq_refl]
  ·have e:Nat.beq i id=false:=afZ (ZBd h);cases hf:isFz H i<;>simp[memN,h1,h2,e]
theorem jiZ{H:Hp}{i:Nat}(h:isFz H i=true):i<famBase/\∃b,hget H i=some ⟨true,b⟩:=by
 unfold isFz at h;rw[ZAB,ZBW] at h;refine⟨h.1,?_⟩;have h2:=h.2;split at h2
 ·rename_i b hb;exact⟨b,hb⟩
 ·cases h2
def Rc.tmE(t:Nat)(r:Rc):Option AV:=if r.o.dst=some t then some r.x else none
def Rc.hpE(id:Nat)(r:Rc):Option (Bool×Option Ent):=
 match r.H2 with
 |some H2=>if memN id r.wr=true then some (true,if hkey H2 id=true then hget H2 id else none) else none
 |none=>none
def layF{ν:Type}(f:Rc->Option ν):List Rc->ν->ν
 |[],b=>b
 |r::l,b=>layF f l ((f r).getD b)
def hpAt(H:Hp)(id:Nat):Bool×Option Ent:=(hkey H id,hget H id)
structure Rc.Ok (P:Program) (T:Tbl) (all:List Oper) (r:Rc):Prop where
 dst:dstOk r.st.nt r.o.dst=true
 grd:GuardIs all r.o r.pre r.go
 le:∀t,Le (r.pre t) (r.st.tm.get t)
 no:r.go=false->r.x= .tup []/\r.H2=none
 yes:r.go=true->(isR P r.o=true/\evR P r.o r.st.opnd (hsub r.st.hp r.ft) some=some r.x/\r.H2=none)\/
  (isR P r.o=false/\(mkOp P r.o=true->r.an.ids≠[])/\mdIn r.an.md r.ft=true/\∃Hr,r.H2=some Hr/\evW P T r.o r.an r.st.opnd (hsub r.st.hp r.ft) (fun x H=>some (x,H))=some (r.x,Hr)/\(allIn (hkeys Hr) r.ft=true/\statN r.ft=true))
def fpsOf(P:Program):List Rc->List Fp
 |[]=>[]
 |r::l=>if r.go=true then⟨r.i,r.ft,bq (isR P r.o) [] r.wr⟩::fpsOf P l else fpsOf P l
theorem jSZ{t:Nat}:∀{l:List Rc} {a b:AV},Le a b->Le (layF (Rc.tmE t) l a) (layF (Rc.tmE t) l b)
 |[],a,b,h=>h
 |r::l,a,b,h=>jSZ (l:=l) (by
   cases r.tmE t with
   |none=>exact h
   |some x=>exact .refl _)
theorem ktZ:∀(l:List (Nat×Oper×Ann)) (st:St) (fs:List Fp) {K:St->List Fp->Option β} {res:β},evOpsD P T l all st fs K=some res->
 ∃(recs:List Rc) (st':St),recs.map (fun r=>(r.i,r.o))=l.map (fun x=>(x.1,x.2.1))/\(∀r∈recs,r.Ok P T all)/\K st' ((fpsOf P recs).reverse++fs)=some res/\
  (∀l1 r l2,recs=l1++r::l2->(∀t,Le (layF (Rc.tmE t) l1 (st.tm.get t)) (r.pre t))/\(∀id,layF (Rc.hpE id) l1 (hpAt st.hp id)=hpAt r.st.hp id)/\r.st.nt=st.nt)/\
  (∀t,Le (layF (Rc.tmE t) recs (st.tm.get t)) (st'.tm.get t))/\(∀id,layF (Rc.hpE id) recs (hpAt st.hp id)=hpAt st'.hp id)/\st'.nt=st.nt/\st'.n0=st.n0
 |[],st,fs,K,res,h=>⟨[],st,rfl,fun r h=>(by cases h),h,fun l1 r l2 h=>(by cases l1<;>cases h),fun t=>.refl _,fun id=>rfl,rfl,rfl⟩
 |(i,o,an)::l,st,fs,K,res,h=>by
  simp only[evOpsD] at h;obtain⟨hd,st1,b,e1,e2,e3,e4,hg,hb⟩:=p6Z h;generalize hA:an.at st1.hp=an' at hb;have step:∃(r:Rc) (st2:St) (fs2:List Fp),r.i=i/\r.o=o/\r.pre=st.tm.get/\r.st=st1/\r.Ok P T all/\evOpsD P T l all st2 fs2 K=some res/\(∀t,Le ((r.tmE t).getD (st.tm.get t)) (st2.tm.get t))/\
   (∀id,(r.hpE id).getD (hpAt st.hp id)=hpAt st2.hp id)/\st2.nt=st.nt/\st2.n0=st.n0/\fs2=fpsOf P [r]++fs:=by
   have slots:∀(x:AV) t,Le ((if o.dst=some t then some x else none:Option AV).getD (st.tm.get t)) ((st1.putO o.dst x).tm.get t):=fun x t=>by
    cases ho:o.dst with
    |none=>simp only[reduceCtorEq,if_false,Option.getD_none,St.putO];exact e4 t
    |some d=>
     simp only[ZAI,St.putO];by_cases hdt:d=t
     ·subst hdt;rw[ZAT rfl];rcases(Tr.get_put st1.tm d x d).2 with e|e<;>rw[e]
      ·exact .refl _
      ·exact .junk _
     ·rw[ZAQ hdt,(Tr.get_put st1.tm d x t).1 (ZBd hdt)];exact e4 t
   rcases hb with⟨rfl,hgo⟩|⟨rfl,hsk⟩
   ·unfold ev1D at hgo;cases hR:isR P o<;>rw[hR] at hgo<;>simp only[bq_true,bq_false] at hgo
    ·obtain⟨h1,h2⟩:=aeZ.1 hgo;obtain⟨x,Hr,h3,h4⟩:=qDZ h2;obtain⟨h5,h6⟩:=aeZ.1 h4;simp only[ZAB,ZAp,ZAc] at h1
     let r:Rc:=⟨i,o,an',st.tm.get,st1,true,x,some Hr⟩
     have hok:r.Ok P T all:=⟨by show dstOk st1.nt o.dst=true;rw[e2];exact hd,hg,e4,fun h=>(by cases h),fun _=>.inr ⟨hR,fun hm hid=>(by
      rcases h1.1 with h|h
      ·rw[hm] at h;cases h
      ·rw[show an'.ids=[] from hid] at h;cases h),h1.2,Hr,rfl,h3,Bool.and_eq_true_iff.1 h5⟩⟩
     refine⟨r,_,_,rfl,rfl,rfl,rfl,hok,h6,fun t=>slots x t,fun id=> ?_,?_,?_,?_⟩
     ·show(Rc.hpE id r).getD (hpAt st.hp id)=hpAt (setAll (setAll (killAll st1.hp (foot o an' st1.opnd)) Hr) (hsub st1.hp (fzIds st1.hp (foot o an' st1.opnd)))) id;unfold hpAt;rw[a7Z,aEZ,a7Z,aEZ,aDZ,aNZ,(b0Z _ _ id).1,(b0Z _ _ id).2,(c0Z st1.hp id _).1,<-e1];simp only[Rc.hpE,Rc.ft,Rc.wr,r,(c0Z st1.hp id _).2];by_cases hm:memN id (foot o an' st1.opnd)=true
      ·cases hz:isFz st1.hp id
       ·simp[hm]
       ·obtain⟨_,b,hb⟩:=jiZ hz;simp[hm,ahZ hb]
      ·have hk:hkey Hr id=false:=by
        cases hk:hkey Hr id
        ·rfl
        ·exact absurd (aiZ.2 (bFZ.1 (Bool.and_eq_true_iff.1 h5).1 id (dPZ.1 hk))) hm
       simp[hm,hk]
     ·show(st1.putO o.dst x).nt=st.nt;rw[(cqZ st1 o.dst x).2.1,e2]
     ·show(st1.putO o.dst x).n0=st.n0;rw[(cqZ st1 o.dst x).2.2.1,e3]
     ·simp[fpsOf,r,Rc.ft,Rc.wr,hR,e1]
    ·obtain⟨h1,h2⟩:=aeZ.1 hgo;obtain⟨x,h3,h4⟩:=qwZ h1 h2
     let r:Rc:=⟨i,o,an',st.tm.get,st1,true,x,none⟩
     have hok:r.Ok P T all:=⟨by show dstOk st1.nt o.dst=true;rw[e2];exact hd,hg,e4,fun h=>(by cases h),fun _=>.inl ⟨hR,h3,rfl⟩⟩;refine⟨r,_,_,rfl,rfl,rfl,rfl,hok,h4,fun t=>slots x t,fun id=> ?_,?_,?_,?_⟩
     ·show hpAt st.hp id=hpAt (st1.putO o.dst x).hp id;rw[(cqZ st1 o.dst x).2.2.2,e1]
     ·rw[(cqZ st1 o.dst x).2.1,e2]
     ·rw[(cqZ st1 o.dst x).2.2.1,e3]
     ·simp[fpsOf,r,Rc.ft,hR]
   ·let r:Rc:=⟨i,o,an',st.tm.get,st1,false,.tup [],none⟩
    have hok:r.Ok P T all:=⟨by show dstOk st1.nt o.dst=true;rw[e2];exact hd,hg,e4,fun _=>⟨rfl,rfl⟩,fun h=>(by cases h)⟩;refine⟨r,_,_,rfl,rfl,rfl,rfl,hok,hsk,fun t=>slots (.tup []) t,fun id=> ?_,?_,?_,?_⟩
    ·show hpAt st.hp id=hpAt (st1.putO o.dst (.tup [])).hp id;rw[(cqZ st1 o.dst (.tup [])).2.2.2,e1]
    ·show(st1.putO o.dst (.tup [])).nt=st.nt;rw[(cqZ st1 o.dst (.tup [])).2.1,e2]
    ·show(st1.putO o.dst (.tup [])).n0=st.n0;rw[(cqZ st1 o.dst (.tup [])).2.2.1,e3]
    ·simp[fpsOf,r]
  obtain⟨r,st2,fs2,r1,r2,r4,r5,r6,r7,r8,r9,r10,r11,r12⟩:=step;obtain⟨recs,st',q1,q2,q3,q4,q5,q6,q7,q8⟩:=ktZ l st2 fs2 r7;refine⟨r::recs,st',by simp[r1,r2,q1],fun x hx=> ?_,?_,fun l1 r' l2 he=> ?_,fun t=> ?_,fun id=> ?_,q7.trans r10,q8.trans r11⟩
  ·rcases ZAa.1 hx with rfl|hx
   ·exact r6
   ·exact q2 x hx
  ·rw[r12] at q3;have:(fpsOf P (r::recs)).reverse++fs=(fpsOf P recs).reverse++(fpsOf P [r]++fs):=by
    simp only[fpsOf];split<;>simp
   rw[this];exact q3
  ·cases l1 with
   |nil=>
    simp only[ZBA,ZAq] at he;obtain⟨rfl,rfl⟩:=he;exact⟨fun t=>by rw[r4];exact .refl _,fun id=>by rw[r5,e1];rfl,by rw[r5];exact e2⟩
   |cons r0 l1=>
    simp only[List.cons_append,ZAq] at he;obtain⟨rfl,he⟩:=he;obtain⟨a1,a2,a3⟩:=q4 l1 r' l2 he;refine⟨fun t=> ?_,fun id=> ?_,a3.trans r10⟩
    ·exact(jSZ (r8 t)).trans (a1 t)
    ·simp only[layF];rw[r9];exact a2 id
  ·exact(jSZ (r8 t)).trans (q5 t)
  ·simp only[layF];rw[r9];exact q6 id
theorem f1Z{cl:List (Nat×List Nat)}:∀{l:List Fp},pairsOk cl l=true->l.Pairwise fun b a=>pairOk cl a b=true
 |[],_=>.nil
 |b::l,h=>by
  simp only[pairsOk,ZAB,ZB4] at h;exact .cons h.1 (f1Z h.2)
theorem i3Z{a:Nm}:∀{l:List Nm},nmAll a l=true->∀b∈l,memN a.i b.cl=true\/apartN a b=true
 |[],_,b,h=>by cases h
 |c::l,h,b,hb=>by
  simp only[nmAll,ZAB,ZAp] at h;rcases ZAa.1 hb with rfl|hb
  ·exact h.1
  ·exact i3Z h.2 b hb
theorem iMZ:∀{l:List Nm},nmsOk l=true->l.Pairwise fun a b=>memN a.i b.cl=true\/apartN a b=true
 |[],_=>.nil
 |a::l,h=>by
  simp only[nmsOk,ZAB] at h;exact .cons (i3Z h.1) (iMZ h.2)
def Rc.nm(cl:List (Nat×List Nat))(all:List Oper)(r:Rc):Nm:=⟨r.i,(cl.lookup r.i).getD [],guardOf all r.o++tmpsOf r.o.op.operands.toList,r.o.dst⟩
theorem p0Z{cl:List (Nat×List Nat)}:∀{recs:List Rc} {l:List (Oper×Ann)} {k:Nat},recs.map (fun r=>(r.i,r.o))=(numb k l).map (fun x=>(x.1,x.2.1))->nms cl all k (l.map (·.1))=recs.map (Rc.nm cl all)
 |[],[],k,_=>rfl
 |[],_::_,k,h=>by simp[numb] at h
 |_::_,[],k,h=>by simp[numb] at h
 |r::recs,(o,an)::l,k,h=>by
  simp only[ZB6,numb,ZAq,ZAs] at h;obtain⟨⟨rfl,rfl⟩,h⟩:=h;simp only[ZB6,nms,p0Z h]
  rfl
theorem mEZ{α:Type}:∀{l:List α} {k:Nat},(numb k l).Pairwise fun a b=>a.1<b.1
 |[],k=>.nil
 |a::l,k=>.cons (fun b hb=>by
   have:∀{l:List α} {k:Nat} {b:Nat×α},b∈numb k l->k<=b.1:=fun{l}=>by
    induction l with
    |nil=>intro k b h;cases h
    |cons a l ih=>
     intro k b h;rcases ZAa.1 h with rfl|h
     ·exact ZAM _
     ·exact Nat.le_of_succ_le (ih h)
   exact this hb) mEZ
theorem hFZ{α:Type}:∀{l:List α} {k i:Nat},(numb k l)[i]? =(l[i]?).map fun a=>(k+i,a)
 |[],k,i=>by simp[numb]
 |a::l,k,0=>by simp[numb]
 |a::l,k,i+1=>by
  simp only[numb,ZB0,hFZ];congr 1;funext a;rw[show k+1+i=k+(i+1) by omega]
def edgesIn(all:List Oper)(S:Nat->Prop)(j:Nat):Prop:=∀o,all[j]? =some o->∀e∈o.after,Region.binds .any e=true->S e.on
theorem h7Z{done:List (Nat×List Nat)}:∀{es:List Edge} {k:Nat},k∈closN done es->∃e∈es,Region.binds .any e=true/\(k=e.on\/k∈(done.lookup e.on).getD [])
 |[],k,h=>by cases h
 |e::es,k,h=>by
  simp only[closN] at h;cases hb:Region.binds .any e<;>rw[hb] at h<;>simp only[bq_true,bq_false] at h
  ·obtain⟨e',h1,h2⟩:=h7Z h;exact⟨e',ZAb _ h1,h2⟩
  ·rcases ZAa.1 h with rfl|h
   ·exact⟨e,ZAl,hb,.inl rfl⟩
   ·rcases ZAh.1 h with h|h
    ·exact⟨e,ZAl,hb,.inr h⟩
    ·obtain⟨e',h1,h2⟩:=h7Z h;exact⟨e',ZAb _ h1,h2⟩
theorem obZ{S:Nat->Prop}(hc:∀j,S j->edgesIn all S j):∀(l:List Oper) (k:Nat) (done:List (Nat×List Nat)),(∀i,l[i]? =all[k+i]?)->(∀j,edgesIn all S j->∀m∈(done.lookup j).getD [],S m)->
 ∀j,edgesIn all S j->∀m∈((clos k l done).lookup j).getD [],S m
 |[],k,done,_,hd=>hd
 |o::l,k,done,hl,hd=>by
  simp only[clos];refine obZ hc l (k+1) _ (fun i=>by have:=hl (i+1);rw[ZB0] at this;rw[this];congr 1;omega) fun j hj m hm=> ?_;simp only[List.lookup_cons] at hm;cases hk:(j==k)
  ·rw[hk] at hm;exact hd j hj m hm
  ·rw[hk] at hm;have:j=k:=by simpa using hk
   subst this;simp only[Option.getD_some,dBZ] at hm;obtain⟨e,h1,h2,h3⟩:=h7Z hm;have he:S e.on:=hj o (by have:=hl 0;simpa using this.symm) e (ZBD.1 h1) h2;rcases h3 with rfl|h3
   ·exact he
   ·exact hd e.on (hc _ he) m h3
end
end Go.Ab
namespace Go.Ab
section
variable {P : Program} {T : Tbl} {β : Type} {ops : Array Oper}
theorem dgZ{ν:Type}{f:Rc->Option ν}{S:Nat->Bool}:∀{l:List Rc} {b:ν},(∀r∈l,(f r).isSome=true->S r.i=true)->layF f (l.filter fun r=>S r.i) b=layF f l b
 |[],b,_=>rfl
 |r::l,b,h=>by
  have h':∀r∈l,(f r).isSome=true->S r.i=true:=fun x hx=>h x (ZAb _ hx);cases hs:S r.i
  ·rw[List.filter_cons_of_neg (by simp[hs])];have hn:f r=none:=by
    cases hf:f r with
    |none=>rfl
    |some v=>have:=h r ZAl (by rw[hf];rfl);rw[hs] at this;cases this
   rw[dgZ h'];simp[layF,hn]
  ·rw[List.filter_cons_of_pos (by simp[hs])];simp only[layF];exact dgZ h'
theorem d8Z{ν:Type}{f:Rc->Option ν}{S:Nat->Bool}:∀{l:List Rc} {b:ν},(∀r∈l,(f r).isSome=true->S r.i=false)->layF f (l.filter fun r=>S r.i) b=b
 |[],b,_=>rfl
 |r::l,b,h=>by
  have h':∀r∈l,(f r).isSome=true->S r.i=false:=fun x hx=>h x (ZAb _ hx);cases hs:S r.i
  ·rw[List.filter_cons_of_neg (by simp[hs])];exact d8Z h'
  ·rw[List.filter_cons_of_pos (by simp[hs])];have hn:f r=none:=by
    cases hf:f r with
    |none=>rfl
    |some v=>have:=h r ZAl (by rw[hf];rfl);rw[hs] at this;cases this
   simp only[layF,hn,Option.getD_none];exact d8Z h'
theorem b6Z{ν:Type}{f:Rc->Option ν}:∀{l m:List Rc} {b:ν},layF f (l++m) b=layF f m (layF f l b)
 |[],m,b=>rfl
 |r::l,m,b=>by simp only[List.cons_append,layF];exact b6Z
theorem ioZ{ν:Type}{f:Rc->Option ν}{S:Nat->Bool}{l1 l2:List Rc}{r:Rc}{b:ν}(hr:S r.i=false)(h1:∀x∈l1,(f x).isSome=true->S x.i=true)(h2:∀x∈l2,(f x).isSome=true->S x.i=false):
 layF f ((l1++r::l2).filter fun r=>S r.i) b=layF f l1 b:=by
 rw[List.filter_append,List.filter_cons_of_neg (by simp[hr]),b6Z,dgZ h1,d8Z h2]
theorem faZ{ν:Type}{f:Rc->Option ν}{S S':Nat->Bool}{l1 l2:List Rc}{r:Rc}{b:ν}(hr:S r.i=false)(hS:S' r.i=true)(hS1:∀x∈l1,S' x.i=S x.i)(hS2:∀x∈l2,S' x.i=S x.i):
 (∀v,f r=some v->(∀x∈l2,(f x).isSome=true->S x.i=false)->layF f ((l1++r::l2).filter fun r=>S' r.i) b=v)/\
 (f r=none->layF f ((l1++r::l2).filter fun r=>S' r.i) b=layF f ((l1++r::l2).filter fun r=>S r.i) b):=by
 have e1:(l1.filter fun r=>S' r.i)=l1.filter fun r=>S r.i:=List.filter_congr fun x hx=>by rw[hS1 x hx]
 have e2:(l2.filter fun r=>S' r.i)=l2.filter fun r=>S r.i:=List.filter_congr fun x hx=>by rw[hS2 x hx]
 refine⟨fun v hv h2=> ?_,fun hv=> ?_⟩
 ·rw[List.filter_append,List.filter_cons_of_pos (by simp[hS]),b6Z,e1,e2];simp only[layF,hv,Option.getD_some];exact d8Z h2
 ·rw[List.filter_append,List.filter_cons_of_pos (by simp[hS]),b6Z,e1,e2,List.filter_append,List.filter_cons_of_neg (by simp[hr]),b6Z];simp only[layF,hv,Option.getD_none]
theorem ftZ:∀{l:List Oper} {k:Nat},edgesOk k l=true->∀(i:Nat) o,l[i]? =some o->(∀e∈o.after,Region.binds .any e=true->e.on<k+i)/\∀cs b,o.op≠.select cs b
 |[],k,_,i,o,h=>by simp at h
 |x::l,k,h,i,o,ho=>by
  simp only[edgesOk,ZAB] at h;obtain⟨⟨h1,h2⟩,h3⟩:=h;cases i with
  |zero=>
   simp only[ZAX,ZAI] at ho;subst ho;refine⟨fun e he hb=> ?_,fun cs b hs=>by rw[hs] at h2;cases h2⟩;have:∀{es:List Edge},edgesLt k es=true->∀e∈es,Region.binds .any e=true->e.on<k:=fun{es}=>by
    induction es with
    |nil=>intro _ e he;cases he
    |cons e0 es ih=>
     intro h e he hb;simp only[edgesLt,ZAB,ZAp,ZAc,ZBW] at h;rcases ZAa.1 he with rfl|he
     ·exact h.1.resolve_left (by rw[hb];simp)
     ·exact ih h.2 e he hb
   exact this h1 e (ZBD.2 he) hb
  |succ i=>
   have:=ftZ h3 i o (by simpa using ho);rwa [show k+1+i=k+(i+1) by omega] at this
def slotOf:Operand->Option Nat
 |.tmp t=>some t
 |.global g=>some (1048576+g)
 |_=>none
theorem gyZ{t:Nat}{x:Operand}(hx:slotOf x=some t):∀{l:List Operand},x∈l->t∈tmpsOf l
 |[],h=>by cases h
 |y::l,h=>by
  rcases ZAa.1 h with rfl|h
  ·cases x<;>cases hx<;>exact ZAl
  ·have:=gyZ hx h;cases y<;>first|exact this|exact ZAb _ this
theorem oNZ{z:Z}{st:St}{a:Act}(x:Operand)(h:∀t,slotOf x=some t->ARep z (st.tm.get t) (a.eval (opOf t))):ARep z (st.opnd x) (a.eval x):=by
 cases x with
 |tmp t=>
  simp only[St.opnd];cases hb:Nat.blt t 1048576
  ·exact .junk _
  ·rw[ZBW] at hb;have:=h t rfl;rw[eiZ hb] at this;exact this
 |const v=>
  have e:st.opnd (.const v)=({st with tm:=.lf}:St).opnd (.const v):=by cases v<;>rfl
  rw[e];exact dfZ (z:=z) (st:={st with tm:=.lf}) (a:=a) (fun t=>.junk _) (.const v)
 |global g=>have:=h _ rfl;rw[jvZ] at this;exact this
 |func f=>exact dfZ (z:=z) (st:={st with tm:=.lf}) (a:=a) (fun t=>.junk _) (.func f)
theorem fWZ{n:Nat}{listed:Array Bool}{i:Nat}(hs:listed.size=n)(hi:listed.getD i true=false):
 ((List.range n).filter fun j=> !listed.getD j true).length=((List.range n).filter fun j=> !(listed.setIfInBounds i true).getD j true).length+1:=by
 have hlt:i<n:=by
  rcases ZB2 i listed.size with h|h
  ·omega
  ·simp[Array.getElem?_eq_none h] at hi
 have hmem:i∈(List.range n).filter fun j=> !listed.getD j true:=by
  rw[List.mem_filter];exact⟨ZCC.2 hlt,by rw[hi];rfl⟩
 have hnd:((List.range n).filter fun j=> !listed.getD j true).Nodup:=List.Pairwise.sublist List.filter_sublist List.nodup_range;have he:((List.range n).filter fun j=> !(listed.setIfInBounds i true).getD j true)=((List.range n).filter fun j=> !listed.getD j true).erase i:=by
  rw[List.Nodup.erase_eq_filter hnd,List.filter_filter];refine List.filter_congr fun j hj=> ?_;by_cases hij:i=j
  ·subst hij;simp[show i<listed.size by omega]
  ·have:(j !=i)=true:=by simp;exact fun h=>hij h.symm
   rw[this,getD_set_ne true hij];simp
 rw[he,List.length_erase_of_mem hmem];have:=List.length_pos_of_mem hmem;omega
theorem HRep.lay{z:Z}{H:Hp}(hH:HRep z H){i:Nat}{e:Ent}(hi:i<famBase)(he:ERep z i e)(hf:e.fz=true)(hfam:famOk i e):HRep z (hset H i (some e)):=by
 have hfd:famBase<dynBase:=by unfold famBase dynBase;omega
 refine⟨fun id e' h=> ?_,fun id id' e1 e2 g sz n g' sz' n' hne h1 h2 f1 f2=> ?_,fun id h=> ?_,hH.sub,fun id e' h=> ?_,fun id h=> ?_,fun id hd h=> ?_,hH.nos⟩
 ·rw[a1Z hi] at h;split at h
  ·rename_i hid;subst hid;simp only[ZAI] at h;subst h;exact he
  ·exact hH.ent id e' h
 ·rw[a1Z hi] at h1 h2;split at h1
  ·simp only[ZAI] at h1;subst h1;rw[hf] at f1;cases f1
  ·split at h2
   ·simp only[ZAI] at h2;subst h2;rw[hf] at f2;cases f2
   ·exact hH.inj id id' e1 e2 g sz n g' sz' n' hne h1 h2 f1 f2
 ·rw[bbZ hi] at h;exact hH.fresh id (by simp only[ZBE] at h;exact h.2)
 ·rw[aoZ] at h;split at h
  ·rename_i hid;subst hid;simp only[ZAI] at h;subst h;exact hfam
  ·exact hH.fam id e' h
 ·rw[asZ] at h;by_cases hid:id=i
  ·omega
  ·exact hH.key id (by simpa[hid] using h)
 ·rw[asZ] at h;have:rt id≠i:=by
   unfold rt;rw[ZAT hd];omega
  exact hH.dyn id hd (by simpa[this] using h)
theorem HRep.refz{z z3:Z}{H H1 H3:Hp}(kp:Kp z z3)(hH:HRep z H)(h3:HRep z3 H3):∀{F:List Nat},(∀i∈F,∃b,i<famBase/\hget H1 i=some ⟨true,b⟩/\hget H i=some ⟨true,b⟩)->HRep z3 (setAll H3 (hsub H1 F))
 |[],_=>h3
 |i::F,h=>by
  have ih:=HRep.refz kp hH h3 (F:=F) fun j hj=>h j (ZAb _ hj);obtain⟨b,q1,q2,q3⟩:=h i ZAl;unfold hsub;rw[ahZ q2];simp only[bq_true,setAll];rw[q2];refine ih.lay q1 ?_ rfl (hH.fam i _ q3);have he:=hH.ent i ⟨true,b⟩ (by rw[aqZ q1];exact q3);refine he.kp kp fun g sz n hρ=> ?_;unfold ERep at he;rw[hρ] at he;exact⟨kp.block g he.1 (he.2.2.1 rfl),fun hC=>absurd (hH.sub g hC) (he.2.2.1 rfl)⟩
def J(z0:Z)(N:Nat)(L:List (Nat×AV))(ops:Array Oper)(recs:List Rc)(st:St)(listed:Array Bool)(a:Act)(w:World):Prop:=
 ∃z H,z.w=w/\Nx z0 z/\(∀id,¬z.D id)/\HRep z H/\(∀id,layF (Rc.hpE id) (recs.filter fun r=>listed.getD r.i false) (hpAt st.hp id)=hpAt H id)/\
  (∀t,ARep z (layF (Rc.tmE t) (recs.filter fun r=>listed.getD r.i false) (st.tm.get t)) (a.eval (opOf t)))/\(∀p∈L,ARep z p.2 (a.eval (opOf p.1)))/\a.defers=[]/\(st.nt<=N/\a.tmps.size=N)/\
  listed.size=ops.size/\(∀j,listed.getD j false=true->edgesIn ops.toList (fun j=>listed.getD j false=true) j)
theorem kmZ:∀{ms l:List Nat},mdIn ms l=true↔∀m∈ms,m<4\/m+100000∈l
 |[],l=>by simp[mdIn]
 |m::ms,l=>by
  simp only[mdIn,ZAB,ZAp,ZBW,aiZ,kmZ (ms:=ms),ZAa];constructor
  ·rintro⟨h1,h2⟩ x (rfl|hx)
   ·exact h1
   ·exact h2 x hx
  ·intro h;exact⟨h m (.inl rfl),fun x hx=>h x (.inr hx)⟩
theorem poZ{z0:Z}{N:Nat}{L:List (Nat×AV)}{st:St}{a:Act}{w:World}{K:St->Option β}{res:β}{Q:Exit->Act->World->Prop}{opsA:List (Oper×Ann)}(hT:∀e∈T,Told P e)(hops:opsA.map (·.1)=ops.toList)
 (hL:∀x∈opsA,∀p∈L,x.1.dst≠some p.1)(hk:∀st' a' w',K st'=some res->Inv z0 N L st' a' w'->Q .normal a' w')
 (hed:edgesOk 0 ops.toList=true)(hnm:nmsOk (nms (clos 0 ops.toList []) ops.toList 0 ops.toList)=true)
 (h:evOpsD P T (numb 0 opsA) ops.toList st [] (fun st' fs=>need (pairsOk (clos 0 ops.toList []) fs) (K st'))=some res)(hi:Inv z0 N L st a w):
 wpAny P .any ops Q ops.size (Array.replicate ops.size false) a w:=by
 obtain⟨recs,st',t1,t2,t3,t4,t5,t6,t7,t8⟩:=ktZ _ _ _ h;obtain⟨hpair,hK⟩:=aeZ.1 t3;have hi0:=hi;obtain⟨_,_,_,_,_,_,_,_,_,hn0⟩:=hi0;rw[ZA1] at hpair;generalize hcl:clos 0 ops.toList []=cl at*;have hnames:recs.Pairwise fun a b=>memN a.i ((cl.lookup b.i).getD [])=true\/apartN (a.nm cl ops.toList) (b.nm cl ops.toList)=true:=by
  have:=iMZ hnm;have e:=p0Z (cl:=cl) (all:=ops.toList) t1;rw[hops] at e;rw[e,List.pairwise_map] at this;exact this
 have hfp:(fpsOf P recs).Pairwise fun a b=>pairOk cl a b=true:=by
  have:=f1Z hpair;rwa [List.pairwise_reverse] at this
 have hrec:recs.Pairwise fun r1 r2=>r1.go=true->r2.go=true->memN r1.i ((cl.lookup r2.i).getD [])=true\/clash ⟨r1.i,r1.ft,bq (isR P r1.o) [] r1.wr⟩ ⟨r2.i,r2.ft,bq (isR P r2.o) [] r2.wr⟩=false:=by
  clear t1 t2 t3 t4 t5 t6 hpair hnames;have mem:∀{l:List Rc} {r:Rc},r∈l->r.go=true->(⟨r.i,r.ft,bq (isR P r.o) [] r.wr⟩:Fp)∈fpsOf P l:=fun{l}=>by
   induction l with
   |nil=>intro r h;cases h
   |cons x l ih=>
    intro r h hg;simp only[fpsOf];rcases ZAa.1 h with rfl|h
    ·rw[ZAT hg];exact ZAl
    ·split
     ·exact ZAb _ (ih h hg)
     ·exact ih h hg
  induction recs with
  |nil=>exact .nil
  |cons x l ih=>
   simp only[fpsOf] at hfp;refine .cons (fun y hy hx hy'=> ?_) (ih ?_)
   ·rw[ZAT hx] at hfp;have:=(ZBJ.1 hfp).1 _ (mem hy hy');simp only[pairOk,ZAp,ZAc] at this;exact this.symm
   ·split at hfp
    ·exact(ZBJ.1 hfp).2
    ·exact hfp
 have hat:∀(i:Nat) r,recs[i]? =some r->r.i=i/\ops[i]? =some r.o:=fun i r hr=>by
  have e:(recs.map fun r=>(r.i,r.o))[i]? =some (r.i,r.o):=by rw[ZAW,hr];rfl
  rw[t1,ZAW,hFZ,Option.map_map] at e;obtain⟨x,hx,hxe⟩:=ZAH.1 e;simp only[Function.comp,ZAs] at hxe;obtain⟨h1,h2⟩:=hxe;refine⟨by omega,?_⟩;have h3:(opsA.map (·.1))[i]? =some r.o:=by rw[ZAW,hx,<-h2];rfl
  rw[hops] at h3;rwa [<-Array.getElem?_toList]
 have hlen:recs.length=ops.size:=by
  have h1:(recs.map fun r=>(r.i,r.o)).length=opsA.length:=by
   rw[t1,ZBB];have:∀{α:Type} (l:List α) k,(numb k l).length=l.length:=fun l=>by
    induction l with
    |nil=>intro k;rfl
    |cons a l ih=>intro k;simp[numb,ih]
   exact this _ _
  have h2:=congrArg List.length hops;simp at h1 h2;omega
 have hlt:∀{l1:List Rc} {r l2},recs=l1++r::l2->(∀x∈l1,x.i≠r.i)/\(∀x∈l2,x.i≠r.i):=fun{l1 r l2} he=>by
  have hp:recs.Pairwise fun a b=>a.i<b.i:=by
   have:=mEZ (l:=opsA) (k:=0);have h2:((numb 0 opsA).map fun x=>(x.1,x.2.1)).Pairwise fun a b=>a.1<b.1:=List.pairwise_map.2 this;rw[<-t1,List.pairwise_map] at h2;exact h2
  rw[he,ZBz] at hp;exact⟨fun x hx=>Nat.ne_of_lt (hp.2.2 x hx r ZAl),fun x hx=>(Nat.ne_of_lt ((ZBJ.1 hp.2.1).1 x hx)).symm⟩
 have main:∀(fuel:Nat) (listed:Array Bool) (a:Act) (w:World),fuel=((List.range ops.size).filter fun j=> !listed.getD j true).length->J z0 N L ops recs st listed a w->wpAny P .any ops Q fuel listed a w:=by
  have fin:∀(listed:Array Bool) (a:Act) (w:World),Region.ready .any ops listed=[]->J z0 N L ops recs st listed a w->Q .normal a w:=by
   rintro listed a w hr ⟨z,H,rfl,hn,hD,hH,hhp,htm,hLs,hdf,hnt,hsz,hcs⟩;have hall:∀i,i<ops.size->listed.getD i false=true:=by
    intro i;induction i using Nat.strongRecOn with
    |_ i ih=>
     intro hi;cases hb:listed.getD i false
     ·exfalso;have hb':listed.getD i true=false:=by
       have:i<listed.size:=by omega
       simp[this] at hb⊢;exact hb
      have:i∈Region.ready .any ops listed:=by
       rw[mem_ready];refine⟨hb',ops[i],ZA7 hi,fun e he hbd=> ?_⟩;have:=(ftZ hed i ops[i] (by rw[ZA0];exact ZA7 hi)).1 e he hbd;rw[ZAj] at this;exact ih e.on this (by omega)
      rw[hr] at this;cases this
     ·rfl
   have hfil:(recs.filter fun r=>listed.getD r.i false)=recs:=by
    rw[List.filter_eq_self];intro r hr';obtain⟨i,hi⟩:=ZAe hr';obtain⟨h1,h2⟩:=hat i r hi;rw[h1];exact hall i (ZBF.1 h2).1
   rw[hfil] at hhp htm;refine hk st' a z.w hK ⟨z,rfl,hn,hD,hH.same (fun id=> ?_) (fun id=> ?_),fun t=>t5 t _ _ (htm t),hLs,hdf,by rw[t7];exact hnt,by rw[t8];exact hn0⟩
   ·have:=(t6 id).symm.trans (hhp id);exact congrArg Prod.snd this
   ·have:=(t6 id).symm.trans (hhp id);exact congrArg Prod.fst this
  have step:∀(listed:Array Bool) (a:Act) (w:World) (i:Nat) (next:Act->World->Prop),i∈Region.ready .any ops listed->J z0 N L ops recs st listed a w->
   (∀a' w',J z0 N L ops recs st (listed.setIfInBounds i true) a' w'->next a' w')->wpOp P ops Q i next a w:=by
   rintro listed a w i next hr ⟨z,H,rfl,hn,hD,hH,hhp,htm,hLs,hdf,hnt,hsz,hcs⟩ hnext;obtain⟨hun,o,ho,hedge⟩:=mem_ready.1 hr;have hilt:i<ops.size:=(ZBF.1 ho).1;obtain⟨r,hri⟩:∃r,recs[i]? =some r:=⟨_,ZAD (by omega)⟩;obtain⟨hr1,hr2⟩:=hat i r hri;rw[ho] at hr2;simp only[ZAI] at hr2;subst hr2;obtain⟨l1,l2,hsplit⟩:=List.append_of_mem (ZAN hri);have hmem:=ZAN hri;have hok:=t2 r hmem;obtain⟨u1,u2,u3⟩:=t4 l1 r l2 hsplit;have hSi:listed.getD r.i false=false:=by
    rw[hr1];have:i<listed.size:=by omega
    simp[this] at hun⊢;exact hun
   have hclS:∀j,edgesIn ops.toList (fun j=>listed.getD j false=true) j->∀m∈(cl.lookup j).getD [],listed.getD m false=true:=fun j hj m hm=>by
    rw[<-hcl] at hm;exact obZ (S:=fun j=>listed.getD j false=true) hcs ops.toList 0 [] (fun i=>by rw[ZAj]) (fun j _ m hm=>by simp at hm) j hj m hm
   have hA:∀m∈(cl.lookup r.i).getD [],listed.getD m false=true:=hclS r.i fun o' ho' e he hb=>by
    rw[hr1,ZA0,ho] at ho';simp only[ZAI] at ho';subst ho';exact hedge e he hb
   have hB:∀x,r.i∈(cl.lookup x).getD []->listed.getD x false=false:=fun x hx=>by
    cases hb:listed.getD x false
    ·rfl
    ·have:=hclS x (hcs x hb) r.i hx;rw[hSi] at this;cases this
   rw[hsplit] at hnames hrec;have hn1:=ZBz.1 hnames;have hf1:=ZBz.1 hrec;have slot1:∀t,(t∈(r.nm cl ops.toList).rd\/r.o.dst=some t)->∀x∈l1,(x.tmE t).isSome=true->listed.getD x.i false=true:=fun t ht x hx hs=>by
    rcases hn1.2.2 x hx r ZAl with h|h
    ·exact hA _ (aiZ.1 h)
    ·exfalso;have hxd:x.o.dst=some t:=by
      unfold Rc.tmE at hs;split at hs
      ·assumption
      ·cases hs
     simp only[apartN,ZAB,ZAc,Rc.nm,hxd,hasN,sameO] at h;rcases ht with ht|ht
     ·have ht':memN t (guardOf ops.toList r.o++tmpsOf r.o.op.operands.toList)=true:=aiZ.2 ht;rw[ht'] at h;exact absurd h.1.1 (by simp)
     ·rw[ht] at h;simp[Nat.beq_refl,acZ] at h
   have slot2:∀t,(t∈(r.nm cl ops.toList).rd\/r.o.dst=some t)->∀x∈l2,(x.tmE t).isSome=true->listed.getD x.i false=false:=fun t ht x hx hs=>by
    rcases(ZBJ.1 hn1.2.1).1 x hx with h|h
    ·exact hB _ (aiZ.1 h)
    ·exfalso;have hxd:x.o.dst=some t:=by
      unfold Rc.tmE at hs;split at hs
      ·assumption
      ·cases hs
     simp only[apartN,ZAB,ZAc,Rc.nm,hxd,hasN,sameO] at h;rcases ht with ht|ht
     ·have ht':memN t (guardOf ops.toList r.o++tmpsOf r.o.op.operands.toList)=true:=aiZ.2 ht;rw[ht'] at h;exact absurd h.1.2 (by simp)
     ·rw[ht] at h;simp[acZ] at h
   have hslot:∀t∈(r.nm cl ops.toList).rd,ARep z (r.pre t) (a.eval (opOf t)):=fun t ht=>by
    have:=htm t;rw[hsplit,ioZ (f:=Rc.tmE t) (S:=fun i=>listed.getD i false) hSi (slot1 t (.inl ht)) (slot2 t (.inl ht))] at this;exact u1 t _ _ this
   have hwant:Region.wanted r.o (yielded ops a.tmps)=r.go:=hok.grd.wanted fun j want d h1 h2=>hslot d (by
    obtain⟨x,h3,h4⟩:=ZAF.1 h2;simp[Rc.nm,guardOf,h1,h3,h4])
   have hopn:∀x∈r.o.op.operands,ARep z (r.st.opnd x) (a.eval x):=fun x hx=>oNZ x fun t ht=>by
    exact hok.le t _ _ (hslot t (by
     simp only[Rc.nm,ZAh];exact .inr (gyZ ht (ZBD.2 hx))))
   have hS':(listed.setIfInBounds i true).getD r.i false=true:=by rw[hr1];simp[show i<listed.size by omega]
   have hSo:∀x,x≠i->(listed.setIfInBounds i true).getD x false=listed.getD x false:=fun x hx=>getD_set_ne false (ZBd hx);obtain⟨v1,v2⟩:=hlt hsplit;have hS1:∀x∈l1,(listed.setIfInBounds i true).getD x.i false=listed.getD x.i false:=fun x hx=>hSo _ (by rw[<-hr1];exact v1 x hx);have hS2:∀x∈l2,(listed.setIfInBounds i true).getD x.i false=listed.getD x.i false:=fun x hx=>hSo _ (by rw[<-hr1];exact v2 x hx);have hcs':∀j,(listed.setIfInBounds i true).getD j false=true->edgesIn ops.toList (fun j=>(listed.setIfInBounds i true).getD j false=true) j:=fun j hj o' ho' e he hb=>by
    refine getD_set_true ?_;by_cases hji:j=i
    ·subst hji;rw[ZA0,ho] at ho';simp only[ZAI] at ho';subst ho';exact hedge e he hb
    ·rw[hSo j hji] at hj;exact hcs j hj o' ho' e he hb
   have hLr:∀p∈L,r.o.dst≠some p.1:=by
    have h3:(recs.map fun r=>(r.i,r.o))[i]? =some (r.i,r.o):=by rw[ZAW,hri];rfl
    rw[t1,ZAW,hFZ,Option.map_map] at h3;obtain⟨x,hx,hxe⟩:=ZAH.1 h3;simp only[Function.comp,ZAs] at hxe;have:=hL x (ZAN hx);rw[hxe.2] at this;exact this
   have hdst:=hok.dst;rw[u3] at hdst;have put:∀(z3:Z) (H3:Hp) (v:Value),Nx z z3->HRep z3 H3->ARep z3 r.x v->(∀id,layF (Rc.hpE id) (recs.filter fun r=>(listed.setIfInBounds i true).getD r.i false) (hpAt st.hp id)=hpAt H3 id)->
    J z0 N L ops recs st (listed.setIfInBounds i true) (a.put r.o.dst v) z3.w:=fun z3 H3 v k1 k2 k3 k4=>by
    have kp:=k1.kp hH.sub;refine⟨z3,H3,rfl,hn.trans k1,fun id=>by rw[k1.dom];exact hD id,k2,k4,fun t=> ?_,fun p hp=> ?_,(e4Z _ _ _).2.trans hdf,by rw[(e4Z _ _ _).1];exact hnt,by simpa using hsz,hcs'⟩
    ·by_cases ht:r.o.dst=some t
     ·rw[hsplit,(faZ (f:=Rc.tmE t) (S:=fun i=>listed.getD i false) (S':=fun j=>(listed.setIfInBounds i true).getD j false) hSi hS' hS1 hS2).1 r.x (by simp[Rc.tmE,ht]) (slot2 t (.inr ht)),ht,cYZ (by
       rw[ht] at hdst;simp only[dstOk,ZAB,ZBW] at hdst;omega) (by
       rw[ht] at hdst;simp only[dstOk,ZAB,ZBW] at hdst;exact hdst.2)]
      exact k3
     ·rw[hsplit,(faZ (f:=Rc.tmE t) (S:=fun i=>listed.getD i false) (S':=fun j=>(listed.setIfInBounds i true).getD j false) hSi hS' hS1 hS2).2 (by simp[Rc.tmE,ht]),ckZ ht,<-hsplit];exact(htm t).kp kp
    ·rw[ckZ (hLr p hp)];exact(hLs p hp).kp kp
   have same:r.H2=none->∀id,layF (Rc.hpE id) (recs.filter fun r=>(listed.setIfInBounds i true).getD r.i false) (hpAt st.hp id)=hpAt H id:=fun h2 id=>by
    rw[hsplit,(faZ (f:=Rc.hpE id) (S:=fun i=>listed.getD i false) (S':=fun j=>(listed.setIfInBounds i true).getD j false) hSi hS' hS1 hS2).2 (by simp[Rc.hpE,h2]),<-hsplit];exact hhp id
   unfold wpOp;simp only[ho,hwant];cases hgo:r.go
   ·simp only[ZBP,if_false];obtain⟨x1,x2⟩:=hok.no hgo;exact hnext _ _ (put z H undef (Nx.refl z) hH (by rw[x1];exact k9Z) (same x2))
   ·simp only[ZCH];refine .inl ?_;have foot1:∀id∈r.ft,∀x∈l1,(x.hpE id).isSome=true->listed.getD x.i false=true:=fun id hid x hx hs=>by
     have hxt:=t2 x (by rw[hsplit];exact ZBc _ hx);have hxg:x.go=true:=by
      cases hxg:x.go
      ·have:=(hxt.no hxg).2;simp[Rc.hpE,this] at hs
      ·rfl
     have hxw:isR P x.o=false/\memN id x.wr=true:=by
      rcases hxt.yes hxg with⟨_,_,y⟩|⟨y,_⟩
      ·simp[Rc.hpE,y] at hs
      ·refine⟨y,?_⟩;unfold Rc.hpE at hs;split at hs
       ·split at hs
        ·assumption
        ·cases hs
       ·cases hs
     rcases hf1.2.2 x hx r ZAl hxg hgo with h|h
     ·exact hA _ (aiZ.1 h)
     ·exfalso;have hmt:meetN x.wr r.ft=true:=by
       have:∀{l:List Nat},id∈l->meetN l r.ft=true:=fun{l}=>by
        induction l with
        |nil=>intro h;cases h
        |cons y l ih=>
         intro h;simp only[meetN,ZAp];rcases ZAa.1 h with rfl|h
         ·exact .inl (aiZ.2 hid)
         ·exact .inr (ih h)
       exact this (aiZ.1 hxw.2)
      simp[clash,hxw.1,hmt] at h
    have foot2:∀id∈r.ft,∀x∈l2,(x.hpE id).isSome=true->listed.getD x.i false=false:=fun id hid x hx hs=>by
     have hxt:=t2 x (by rw[hsplit];exact List.mem_append_right _ (ZAb _ hx));have hxg:x.go=true:=by
      cases hxg:x.go
      ·have:=(hxt.no hxg).2;simp[Rc.hpE,this] at hs
      ·rfl
     have hxw:isR P x.o=false/\memN id x.wr=true:=by
      rcases hxt.yes hxg with⟨_,_,y⟩|⟨y,_⟩
      ·simp[Rc.hpE,y] at hs
      ·refine⟨y,?_⟩;unfold Rc.hpE at hs;split at hs
       ·split at hs
        ·assumption
        ·cases hs
       ·cases hs
     rcases(ZBJ.1 hf1.2.1).1 x hx hgo hxg with h|h
     ·exact hB _ (aiZ.1 h)
     ·exfalso;have hmt:meetN x.wr r.ft=true:=by
       have:∀{l:List Nat},id∈l->meetN l r.ft=true:=fun{l}=>by
        induction l with
        |nil=>intro h;cases h
        |cons y l ih=>
         intro h;simp only[meetN,ZAp];rcases ZAa.1 h with rfl|h
         ·exact .inl (aiZ.2 hid)
         ·exact .inr (ih h)
       exact this (aiZ.1 hxw.2)
      simp[clash,hxw.1,hmt] at h
    have hfoot:∀id∈r.ft,hpAt H id=hpAt r.st.hp id:=fun id hid=>by
     rw[<-hhp id,hsplit,ioZ (f:=Rc.hpE id) (S:=fun i=>listed.getD i false) hSi (foot1 id hid) (foot2 id hid)];exact u2 id
    let F:Nat->Bool:=fun id=>memN id r.ft
    have hfoc:HRep (z.foc H F) (hsub r.st.hp r.ft):=rbZ hH (fun id=>by
     rw[(b0Z _ _ id).1];show _=if memN id r.ft=true then _ else _;split
     ·rename_i hm;exact(congrArg Prod.snd (hfoot id (aiZ.1 hm))).symm
     ·rfl) (fun id=>by
     rw[(b0Z _ _ id).2];show _=(memN id r.ft&&_);cases hm:memN id r.ft
     ·rfl
     ·rw[show hkey r.st.hp id=hkey H id from(congrArg Prod.fst (hfoot id (aiZ.1 hm))).symm])
    classical
    let r':Operand->AV:=fun x=>if x∈r.o.op.operands then r.st.opnd x else .junk
    have hr':∀x∈r.o.op.operands,r.st.opnd x=r' x:=fun x hx=>(ZAT hx).symm;have hrep:∀x,ARep (z.foc H F) (r' x) (a.eval x):=fun x=>by
     by_cases hx:x∈r.o.op.operands
     ·rw[<-hr' x hx];exact(hopn x hx).less rfl rfl fun g h=>h
     ·show ARep _ (if x∈r.o.op.operands then r.st.opnd x else .junk) _;rw[ZAQ hx];exact .junk _
    rcases hok.yes hgo with⟨_,y1,y2⟩|⟨_,y1,y2,Hr,y3,y4,y5'⟩
    ·rw[nRZ hr'] at y1;refine pyZ (z:=z.foc H F) y1 hfoc hrep fun x v q1 q2=> ?_;simp only[ZAI] at q2;subst q2;exact hnext _ _ (put z H v (Nx.refl z) hH (q1.less rfl rfl fun g h=>h) (same y2))
    ·have y5:=y5'.1;rw[mtZ hr'] at y4;have hidF:∀id,rt id∈r.an.ids->¬(z.foc H F).D id:=fun id hid hd=>by
      rcases hd with hd|⟨_,hd⟩
      ·exact hD id hd
      ·have:F (rt id)=true:=aiZ.2 (by
        unfold Rc.ft foot;rw[dBZ];exact ZBc _ (List.mem_append_right _ hid))
       rw[this] at hd;cases hd
     refine p4Z (z:=z.foc H F) hT y4 hfoc hidF (fun hm hdd=>by
      have hmem:r.an.ids.headD 0∈r.an.ids:=by
       cases hids:r.an.ids with
       |nil=>exact absurd hids (y1 hm)
       |cons x l=>simp
      rcases hdd with hdd|⟨hkx,hdd⟩
      ·exact hD _ hdd
      ·have hst:=boZ y5'.2 (show r.an.ids.headD 0∈r.ft from by
        unfold Rc.ft foot;rw[dBZ];exact ZBc _ (List.mem_append_right _ hmem))
       exact hidF _ (by rw[aOZ hst];exact hmem) (.inr ⟨hkx,hdd⟩)) (fun m hm=>by
      rcases kmZ.1 y2 m hm with h4|h4
      ·exact .inl h4
      ·refine .inr fun hdd=> ?_;rcases hdd with hdd|⟨_,hdd⟩
       ·exact hD _ hdd
       ·have hst:=boZ y5'.2 h4;rw[aOZ hst] at hdd;have:F (m+100000)=true:=aiZ.2 h4;rw[this] at hdd;cases hdd) hrep fun x v H' z' q1 q2 q3 q4=> ?_
     simp only[ZAI,ZAs] at q4;obtain⟨rfl,rfl⟩:=q4;have hkF:∀id,hkey H' id=true->F id=true:=fun id hkk=>aiZ.2 (bFZ.1 y5 id (dPZ.1 hkk));obtain⟨z3,m1,m2,m3,m4,m5⟩:=k5Z (H3:=setAll (killAll H r.ft) H') hH q2 q1 hkF (fun id=>by
      rw[aEZ,aNZ]) (fun id hh=>by
      rw[a7Z,aDZ];rcases hh with hh|hh<;>simp[hh]) (fun id hh=>by
      rw[a7Z,aDZ] at hh;simp only[ZAp] at hh;rcases hh with hh|hh|hh
      ·exact .inl hh
      ·exact .inr (.inr ⟨boZ y5'.2 (aiZ.1 hh),fun x _=>hD x⟩)
      ·exact .inr (.inl hh))
     rw[<-m1];have m6:=HRep.refz (F:=fzIds r.st.hp r.ft) (m5.kp hH.sub) hH m4 (H1:=r.st.hp) fun i hi=>by
      have hi2:=aiZ.2 hi;rw[(c0Z r.st.hp i _).1,ZAB] at hi2;obtain⟨q5,b,q6⟩:=jiZ hi2.2;exact⟨b,q5,q6,by rw[<-q6];exact congrArg Prod.snd (hfoot i (aiZ.1 hi2.1))⟩
     refine hnext _ _ (put z3 _ v m5 m6 (q3.less m1 m3 fun g h=>by rw[<-m2];exact h) fun id=> ?_);by_cases hm:memN id r.wr=true
     ·have hm':=hm;rw[show r.wr=wrIds r.st.hp r.ft from rfl,(c0Z r.st.hp id _).2,ZAB,ZAc] at hm';rw[hsplit,(faZ (f:=Rc.hpE id) (S:=fun i=>listed.getD i false) (S':=fun j=>(listed.setIfInBounds i true).getD j false) hSi hS' hS1 hS2).1 (true,if hkey H' id=true then hget H' id else none) (by simp[Rc.hpE,y3,hm]) (foot2 id (aiZ.1 hm'.1))];unfold hpAt;rw[a7Z,aEZ,a7Z,aEZ,aDZ,aNZ,(b0Z _ _ id).1,(b0Z _ _ id).2,(c0Z r.st.hp id _).1];simp[hm'.1,hm'.2]
     ·rw[hsplit,(faZ (f:=Rc.hpE id) (S:=fun i=>listed.getD i false) (S':=fun j=>(listed.setIfInBounds i true).getD j false) hSi hS' hS1 hS2).2 (by simp[Rc.hpE,y3,hm]),<-hsplit];rw[hhp id];have hm':=Bool.eq_false_iff.2 hm;rw[show r.wr=wrIds r.st.hp r.ft from rfl,(c0Z r.st.hp id _).2] at hm';unfold hpAt;rw[a7Z,aEZ,a7Z,aEZ,aDZ,aNZ,(b0Z _ _ id).1,(b0Z _ _ id).2,(c0Z r.st.hp id _).1];cases hft:memN id r.ft
      ·have hk0:hkey H' id=false:=by
        cases hk0:hkey H' id
        ·rfl
        ·have:=hkF id hk0;rw[show F id=memN id r.ft from rfl,hft] at this;cases this
       simp[hk0]
      ·rw[hft] at hm';have hz:isFz r.st.hp id=true:=by simpa using hm'
       obtain⟨_,b,hb⟩:=jiZ hz;have hh:=hfoot id (aiZ.1 hft);simp only[hpAt,ZAs] at hh;simp[hz,ahZ hb,hh.1,hh.2,hb]
  intro fuel;induction fuel with
  |zero=>
   intro listed a w hf hj;have hr:Region.ready .any ops listed=[]:=by
    cases hr:Region.ready .any ops listed with
    |nil=>rfl
    |cons i l=>
     have hi:i∈Region.ready .any ops listed:=by rw[hr];exact ZAl
     obtain⟨h1,o,h2,_⟩:=mem_ready.1 hi;have:i∈(List.range ops.size).filter fun j=> !listed.getD j true:=by
      rw[List.mem_filter];exact⟨ZCC.2 (ZBF.1 h2).1,by rw[h1];rfl⟩
     have:=List.length_pos_of_mem this;omega
   exact⟨hr,fin listed a w hr hj⟩
  |succ fuel ih=>
   intro listed a w hf hj;refine⟨fun hr=>fin listed a w hr hj,fun i hi=> ?_⟩;refine step listed a w i _ hi hj fun a' w' hj'=>ih _ a' w' ?_ hj';obtain⟨_,_,_,_,_,_,_,_,_,_,_,hsz,_⟩:=hj;have:=fWZ hsz (mem_ready.1 hi).1;omega
 obtain⟨z,rfl,hn,hD,hH,hs,hLs,hdf,hnt,_⟩:=hi;have hempty:(recs.filter fun r=>(Array.replicate ops.size false).getD r.i false)=[]:=by
  rw[List.filter_eq_nil_iff];intro r _;simp[Array.getElem?_replicate];split<;>rfl
 refine main ops.size _ a z.w ?_ ⟨z,st.hp,rfl,hn,hD,hH,fun id=>by rw[hempty];rfl,fun t=>by rw[hempty];exact hs t,hLs,hdf,hnt,by simp,fun j hj=> ?_⟩
 ·have:((List.range ops.size).filter fun j=> !(Array.replicate ops.size false).getD j true)=List.range ops.size:=by
   rw[List.filter_eq_self];intro j hj;simp[ZCC.1 hj]
  rw[this];simp
 ·exfalso;simp[Array.getElem?_replicate] at hj;split at hj<;>simp at hj
end
end Go.Ab
