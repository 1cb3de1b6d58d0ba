/- An evaluator of the model's code over plain values, and its soundness; of no program. -/
import Derived.Test.YtjngohmkdmdecaaGreatE1
import Derived.MapKept
import Derived.WideKeyRuns
import Derived.Deep.AppendSrc
import Derived.Laws.MakeOwn
import Derived.Great.BuildSlice
import Derived.Deep.Upon
set_option linter.all false
namespace Go.Ab
theorem ZAO:type_of% @Bool.not_true:=@Bool.not_true
theorem ZAW:type_of% @List.getElem?_map:=@List.getElem?_map
theorem ZAb:type_of% @beq_self_eq_true:=@beq_self_eq_true
theorem ZAc:type_of% @List.mem_cons_of_mem:=@List.mem_cons_of_mem
theorem ZAo:type_of% @List.getElem?_take:=@List.getElem?_take
theorem ZAq:type_of% @List.mem_cons_self:=@List.mem_cons_self
theorem ZAs:type_of% @List.length_map:=@List.length_map
theorem ZAx:type_of% @List.take_length:=@List.take_length
theorem ZAz:type_of% @Nat.lt_irrefl:=@Nat.lt_irrefl
theorem ZA7:type_of% @Nat.min_eq_left:=@Nat.min_eq_left
theorem ZA8:type_of% @List.ext_getElem?:=@List.ext_getElem?
theorem ZBA:type_of% @decide_eq_false_iff_not:=@decide_eq_false_iff_not
theorem ZBH:type_of% @Array.getElem?_eq_some_iff:=@Array.getElem?_eq_some_iff
theorem ZBI:type_of% @Bool.false_eq_true:=@Bool.false_eq_true
theorem ZBL:type_of% @List.size_toArray:=@List.size_toArray
theorem ZBP:type_of% @Bool.true_and:=@Bool.true_and
theorem ZBR:type_of% @List.cons.injEq:=@List.cons.injEq
theorem ZBS:type_of% @Option.map_some:=@Option.map_some
theorem ZBT:type_of% @List.drop_eq_getElem_cons:=@List.drop_eq_getElem_cons
theorem ZBU:type_of% @Array.size_append:=@Array.size_append
theorem ZBY:type_of% @List.length_eq_zero_iff:=@List.length_eq_zero_iff
theorem ZBa:type_of% @Nat.le_succ:=@Nat.le_succ
theorem ZBc:type_of% @List.mem_map:=@List.mem_map
theorem ZBd:type_of% @Nat.blt_eq:=@Nat.blt_eq
theorem ZBl:type_of% @Int.natCast_mul:=@Int.natCast_mul
theorem ZBt:type_of% @Option.isSome_iff_exists:=@Option.isSome_iff_exists
theorem ZBz:type_of% @Array.ext':=@Array.ext'
theorem ZB6:type_of% @List.length_replicate:=@List.length_replicate
theorem ZB7:type_of% @Array.getElem?_modify:=@Array.getElem?_modify
theorem ZCL:type_of% @Nat.div_add_mod:=@Nat.div_add_mod
theorem ZCN:type_of% @Nat.mul_comm:=@Nat.mul_comm
theorem ZCO:type_of% @Array.toList_append:=@Array.toList_append
theorem ZCP:type_of% @List.all_eq_true:=@List.all_eq_true
theorem ZCX:type_of% @Nat.add_zero:=@Nat.add_zero
theorem ZCY:type_of% @List.set_getElem_self:=@List.set_getElem_self
theorem ZCd:type_of% @Nat.lt_trichotomy:=@Nat.lt_trichotomy
theorem ZCi:type_of% @if_false:=@if_false
theorem ZCj:type_of% @List.mem_flatMap:=@List.mem_flatMap
theorem ZCk:type_of% @Array.getElem?_push:=@Array.getElem?_push
theorem ZCl:type_of% @List.map_congr_left:=@List.map_congr_left
theorem ZCr:type_of% @if_true:=@if_true
section
variable {P : Program} {β : Type} {z : Z} {H : Hp}
theorem gZZ{t}{a ix}{K}{r:β}{v vi}(h:jX P t a ix H K=some r)(hH:bI z H)(ha:bE z a v)(hi:bE z ix vi):
 OkP P (Instr.indexAt t v vi) z K r:=by
 unfold jX at h
 let⟨x,h1,h2⟩:=agZ.1 h
 obtain⟨k,rfl⟩:=b8Z h1 hi;split at h2
 .rename_i n e hu;have hh:=aeZ.1 h2;clear h2 h
  let⟨h0,h2⟩:=hh
  simp at h0;have R:P.cellsOf e≠0:=λh=>by rw[h] at h0;cases h0
  split at h2
  .rename_i es id i j;cases ha with|own _ _ _ _ g sz m aa=>
   cases hb:(Nat.beq es (P.cellsOf e)&&Nat.beq i 0&&Nat.beq j 0)<;>rw[hb] at h2<;>simp[bq_false] at h2
   .let⟨q,h3,h4⟩:=ZAG.1 h2
    let⟨q1,q2,q3⟩:=cjZ h3
    exact .mk' (by rw[bxZ z.w hu q1 q2 q3 rfl R,ZB5]) (.own _ _ _ _ _ _ _ aa) h4
   .let⟨q,h3,h4⟩:=ZAG.1 h2
    let⟨q1,q2,q3⟩:=cjZ h3
    simp[afZ] at hb;obtain⟨⟨rfl,rfl⟩,rfl⟩:=hb;exact .mk' (by rw[bxZ z.w hu q1 q2 q3 rfl R];simp) (.own _ _ _ _ _ _ _ aa) h4
  .rename_i u l i j;cases ha with|pt _ _ _ _ b off hM ab hr=>
   cases hb:(Nat.beq u.cells (P.cellsOf e)&&Nat.beq i 0&&Nat.beq j 0)<;>rw[hb] at h2<;>simp[bq_false] at h2
   .let⟨q,h3,h4⟩:=ZAG.1 h2
    let⟨q1,q2,q3⟩:=cjZ h3
    exact .mk' (by rw[bxZ z.w hu q1 q2 q3 rfl R,ZB5 (off+i*u.cells)]) (.pt _ _ _ _ _ _ hM ab hr) h4
   .let⟨q,h3,h4⟩:=ZAG.1 h2
    let⟨q1,q2,q3⟩:=cjZ h3
    simp[afZ] at hb;obtain⟨⟨ac,rfl⟩,rfl⟩:=hb;exact .mk' (by rw[bxZ z.w hu q1 q2 q3 rfl R,<-ac];simp) (.pt _ _ q 0 _ _ hM ab hr) h4
  .cases h2
 .rename_i e hu;have hh:=aeZ.1 h2;clear h2 h
  let⟨h0,h2⟩:=hh
  simp at h0;have R:P.cellsOf e≠0:=λh=>by rw[h] at h0;cases h0
  split at h2
  .rename_i es id;cases hb:Nat.beq es (P.cellsOf e)<;>rw[hb] at h2<;>simp only[bq_true,bq_false] at h2
   .cases h2
   .rw[afZ] at hb;split at h2
    .rename_i n ad
     let⟨q,h4,h5⟩:=ZAG.1 h2
     let⟨q1,q2,q3⟩:=cjZ h4
     obtain⟨_,g,sz,c,aa,rfl,_⟩:=iaZ ad hH ha;refine .mk' (aSZ z.w hu q1 q2 q3 hb.symm (by rw[hb];exact R)) ?_ h5;rw[ZA1];exact .own _ _ q 0 _ _ _ aa
    let⟨fz,e',u,l,hg,he,h3⟩:=dDZ h2
    let⟨q,h4,h5⟩:=ZAG.1 h3
    let⟨q1,q2,q3⟩:=cjZ h4
    obtain⟨A,c,rfl,hc,hA,_⟩:=iuZ hH hg ha;obtain⟨g,sz,m,aa,rfl,_⟩:=hA (by omega);refine .mk' (aSZ z.w hu q1 q2 q3 hb.symm (by rw[hb];exact R)) ?_ h5;rw[ZA1];exact .own _ _ q 0 _ _ _ aa
  .rename_i es id off n;cases hb:Nat.beq es (P.cellsOf e)<;>rw[hb] at h2<;>simp only[bq_true,bq_false] at h2
   .cases h2
   .rw[afZ] at hb
    let⟨q,h4,h5⟩:=ZAG.1 h2
    let⟨q1,q2,q3⟩:=cjZ h4
    cases ha with
    |slV=>omega
    |slE=>omega
    |sl _ _ _ _ g sz m c aa hn hs hm=>
     refine .mk' (aSZ z.w hu q1 q2 q3 hb.symm (by rw[hb];exact R)) ?_ h5;have:=bE.own es id (off+q) 0 g sz m aa;rw[ZAn] at this;exact this
  .rename_i u l;cases hb:Nat.beq u.cells (P.cellsOf e)<;>rw[hb] at h2<;>simp only[bq_true,bq_false] at h2
   .cases h2
   .rw[afZ] at hb
    let⟨q,h4,h5⟩:=ZAG.1 h2
    let⟨q1,q2,q3⟩:=cjZ h4
    obtain⟨A,c,rfl,hc,hm,_,hA⟩:=cU.sl ha.v;obtain⟨b,off,rfl,hM,ab,hr⟩:=hA (by omega);refine .mk' (aSZ z.w hu q1 q2 q3 hb.symm (by rw[hb];exact R)) ?_ h5;exact .pt u l q 0 b off hM ab hr
  .rename_i f u rr;cases hb:Nat.beq u.cells (P.cellsOf e)<;>rw[hb] at h2<;>simp only[bq_true,bq_false] at h2
   .cases h2
   .rw[afZ] at hb
    let⟨⟨k,off,n⟩,h3,ae⟩:=ZAG.1 h2
    have:rr= .inr (some (k,off,n)):=by
     unfold wF at h3;split at h3
     .rw[h3]
     .cases h3
    subst this
    .let⟨q,h4,h5⟩:=ZAG.1 ae
     simp at h4 h5
     let⟨q1,q2,q3⟩:=cjZ h4
     rcases ha.v.scal rfl rfl with⟨A,_,rfl,_⟩|⟨g,sz,m,c,aa,hn,hs,hm,hv⟩
     .omega
     .simp[ZBk] at hv;subst hv;refine .mk' (aSZ z.w hu q1 q2 q3 hb.symm (by rw[hb];exact R)) ?_ h5;have:=bE.rp f u.cells k (off+q) 0 g sz m aa;rw[ZAn,ZCX] at this;exact this
  .cases h2
 simp_all
theorem fhZ{css:List (List Value)}{c}(hl:∀u∈css,u.length=c):∀(q) u,css[q]? =some u->(css.flatten.drop (q*c)).take c=u:=by
 induction css with
 |nil=>simp_all
 |cons w css ih=>
  intro q u h;have R:=hl w (by simp)
  match q with
  |0=>
   simp_all
  |q+1=>
   rw[ZCK,ZB4,Nat.add_comm,ZCh,R,ZBE (by omega),ZA5]
   simp_all
theorem Cl.nth{w}{M}{ρ}{n}{u}{l:List u.den}{cs}(h:Cl w M ρ (.arr n u) l cs){q}{y}(hy:l[q]? =some y):Cl w M ρ u y ((cs.drop (q*u.cells)).take u.cells):=by
 obtain⟨hn,css,h1,rfl,h2⟩:=h;have hq:q<css.length:=by
  have:=(ZAB.1 hy).1;omega
 have hl:∀R∈css,R.length=u.cells:=λR hu=>by
  let⟨k,hk⟩:=ZAR hu
  let⟨e,he⟩:=bfZ (h1.trans hn.symm) hk
  exact(h2 k e R he hk).len
 rw[fhZ hl q _ (ZAC hq)];exact h2 q y _ hy (ZAC hq)
theorem pcZ{t}{a ix}{K}{r:β}{v vi}(h:tM P t a ix K=some r)(ha:bE z a v)(hi:bE z ix vi):
 OkP P (Instr.index t v vi) z K r:=by
 unfold tM at h
 let⟨x,h1,h2⟩:=agZ.1 h
 obtain⟨k,rfl⟩:=b8Z h1 hi;split at h2
 .rename_i hu
  let⟨l,h3,h4⟩:=agZ.1 h2
  let⟨q,h5,h6⟩:=ZAG.1 h4
  let⟨c,h7,h8⟩:=ZAG.1 h6
  obtain rfl:=erZ h3 ha
  let⟨q1,q2,q3⟩:=cjZ h5
  have bG:(⟨⟨l⟩⟩:ByteArray)[x.toNat]? =some c:=by
   rw[q3];have:=(ZAB.1 h7).1;rw[getElem?_pos (⟨⟨l⟩⟩:ByteArray) q this];congr 1;exact ZAf ((ZAC this).symm.trans h7)
  exact .mk' (by simp[Instr.index,asIntOf,run_underlying hu,q1,bG]) (.mkI _ _) h8
 .rename_i n e hu
  let⟨u,h3,h4⟩:=agZ.1 h2
  let⟨t1,t2,t3,t4⟩:=dnZ h3
  let⟨l,h5,h6⟩:=bVZ h4 ha
  let⟨q,h7,h8⟩:=ZAG.1 h6
  let⟨y,h9,ac⟩:=ZAG.1 h8
  let⟨q1,q2,q3⟩:=cjZ h7
  let⟨cs,c1,c2⟩:=h5
  simp[Ty.isAgg] at c2;subst c2;have hc:=Cl.nth c1 h9;have hs:=a6Z z.w t1.symm (by omega);have ab:(Instr.index t (.agg cs.toArray) (.int k x)).run P z.w=(part e cs.toArray (q*u.cells)).run P z.w:=by
   simp[Instr.index,asIntOf,run_underlying hu,q1,q2,hs,q3]
  have hl:=hc.len;cases R:u.isAgg
  .have aa:u.cells=1:=by cases u<;>first|rfl|(simp[Ty.isAgg] at R;done)
   match hvs:(cs.drop (q*u.cells)).take u.cells,hl with
   |[],hl=>rw[aa] at hl;simp at hl
   |_::_::_,hl=>rw[aa] at hl;simp at hl
   |[v],_=>
    rw[hvs] at hc;have hv:cs.toArray[q*u.cells]? =some v:=by
     have:((cs.drop (q*u.cells)).take u.cells)[0]? =some v:=by rw[hvs];rfl
     rw[ZBh (by omega),ZAy] at this;simpa using this
    exact .mk' (by rw[ab];exact bgZ z.w (t4 R) hv) (cpZ (.mkSc hc R)) ac
  .refine .mk' (by rw[ab];exact btZ z.w (t3 R) t1.symm (by omega)) (cpZ ⟨_,hc,?_⟩) ac;rw[R];simp only[ZAL];congr 1;apply ZBz;rw[ZCH,ZCB,ZA5]
 simp_all
def Bnd(a:Option AV)(v:Option Value)(d m k:Nat):Prop:=(a=none/\v=none/\k=d)\/∃R n,v=some (.int R n)/\0<=n/\n<=m/\n.toNat=k
def BB(z:Z)(a:Option AV)(v:Option Value):Prop:=(a=none/\v=none)\/∃x u,a=some x/\v=some u/\bE z x u
theorem c6Z{a}{v}{d m}{K}{r:β}(h:tN a d m K=some r)(R:BB z a v):∃k,Bnd a v d m k/\K k=some r:=by
 rcases R with⟨rfl,rfl⟩|⟨x,u,rfl,rfl,hx⟩
 .exact⟨d,.inl ⟨rfl,rfl,rfl⟩,h⟩
 .let⟨n,h1,h2⟩:=agZ.1 h
  let⟨k,h3,h4⟩:=ZAG.1 h2
  obtain⟨kk,rfl⟩:=b8Z h1 hx
  let⟨q1,q2,q3⟩:=c1Z h3
  exact⟨k,.inr ⟨kk,n,rfl,q1,q2,q3⟩,h4⟩
theorem Bnd.le{a}{v}{d m k}(h:Bnd a v d m k)(hd:d<=m):k<=m:=by
 rcases h with⟨_,_,rfl⟩|⟨R,n,_,h1,h2,h3⟩<;>grind
theorem bpZ{isSlice}{aa R h b}{lo hi}{ad ae}(w)(hc:aa<=R)(hh:Bnd hi ae aa aa h)(hb:Bnd lo ad 0 h b):
 (Instr.sliceBounds isSlice aa R ad ae none).run P w= .ok (b,h,R) w:=by
 have sb:∀(kk) (n:Int) (y:Nat) (ab),0<=n->n<=y->(Instr.sliceBound (.int kk n) y ab).run P w= .ok n.toNat w:=λkk n y ab h0 h1=>by
  simp[Instr.sliceBound,asIntOf,h0,h1]
 rcases hh with⟨_,rfl,rfl⟩|⟨kk,n,rfl,h1,h2,h3⟩
 .rcases hb with⟨_,rfl,rfl⟩|⟨ac,n',rfl,p1,p2,p3⟩
  .simp[Instr.sliceBounds]
  .simp[Instr.sliceBounds,sb ac n' _ _ p1 p2,p3]
 .rcases hb with⟨_,rfl,rfl⟩|⟨ac,n',rfl,p1,p2,p3⟩
  .simp[Instr.sliceBounds,sb kk n R _ h1 (by omega),h3]
  .simp[Instr.sliceBounds,sb kk n R _ h1 (by omega),h3,sb ac n' _ _ p1 p2,p3]
theorem a0Z{t e}{A}{R aa h b m}{lo hi}{ab ac}(w)(hu:P.underlying t=some (.slice e))(hm:P.cellsOf e=m)(ad:m≠0)
 (hc:R<=aa)(hh:Bnd hi ac R R h)(hb:Bnd lo ab 0 h b):
 (Instr.sliceAt t (.slice A R aa) ab ac none).run P w= .ok (.slice (if aa=b then A else A.map (·.add (b*m))) (h-b) (aa-b)) w:=by
 have hs:=a6Z w hm ad;simp[Instr.sliceAt,Instr.slice,run_underlying hu,bpZ w hc hh hb,hs]
theorem chZ{t e}{g o n h b m}{lo hi}{R aa}(w)(hu:P.underlying t=some (.array n e))(hm:P.cellsOf e=m)(ab:m≠0)
 (hh:Bnd hi aa n n h)(hb:Bnd lo R 0 h b):
 (Instr.sliceAt t (.pointer (some ⟨g,o,none⟩)) R aa none).run P w= .ok (.slice (some (if n=b then⟨g,o,none⟩ else⟨g,o+b*m,none⟩)) (h-b) (n-b)) w:=by
 have hs:=a6Z w hm ab;simp[Instr.sliceAt,run_underlying hu,bpZ w (ZAN n) hh hb,hs,Instr.sureAddr,Addr.add_mid]
theorem mbZ{es id off c g sz m h b}(R:z.ρ id= .real g sz m)(ab:b<=h)(hc:h<=c)(hs:(off+c)*es<=sz)(hm:c<=maxLen):
 bE z (.sl es id (off+b) (h-b)) (.slice (if c=b then some ⟨g,off*es,none⟩ else(some ⟨g,off*es,none⟩:Option Addr).map (·.add (b*es))) (h-b) (c-b)):=by
 by_cases aa:c=b
 .rw[ZAM aa];rw[show h-b=0 from by omega,show c-b=0 from by omega];exact .slE _ _ _ _ _ _ _ R
 .rw[ZAK aa];simp[Addr.add_mid];rw[<-Nat.add_mul];exact .sl _ _ _ _ _ _ _ _ R (by omega) (by grind) (by omega)
theorem lSZ{α}{l}{lo hi}{R aa}{K:List α->Option β}{r}(h:FJ l lo hi K=some r)(ac:BB z lo R)(ab:BB z hi aa):
 ∃b h' l',Bnd hi aa l.length l.length h'/\Bnd lo R 0 h' b/\l'=(l.take h').drop b/\h'<=l.length/\b<=h'/\K l'=some r:=by
 rcases ac with⟨rfl,rfl⟩|⟨x,u,rfl,rfl,hx⟩
 .rcases ab with⟨rfl,rfl⟩|⟨y,w,rfl,rfl,hy⟩
  .exact⟨0,l.length,l,.inl ⟨rfl,rfl,rfl⟩,.inl ⟨rfl,rfl,rfl⟩,by simp,ZAN _,ZBG _,h⟩
  .let⟨n,h1,h2⟩:=agZ.1 h
   let⟨k,h3,h4⟩:=ZAG.1 h2
   obtain⟨kk,rfl⟩:=b8Z h1 hy
   let⟨q1,q2,q3⟩:=c1Z h3
   exact⟨0,k,_,.inr ⟨kk,n,rfl,q1,q2,q3⟩,.inl ⟨rfl,rfl,rfl⟩,by simp,by omega,ZBG _,h4⟩
 .rcases ab with⟨rfl,rfl⟩|⟨y,w,rfl,rfl,hy⟩
  .let⟨n,h1,h2⟩:=agZ.1 h
   let⟨k,h3,h4⟩:=ZAG.1 h2
   obtain⟨kk,rfl⟩:=b8Z h1 hx
   let⟨q1,q2,q3⟩:=c1Z h3
   exact⟨k,l.length,_,.inl ⟨rfl,rfl,rfl⟩,.inr ⟨kk,n,rfl,q1,q2,q3⟩,by simp,ZAN _,by omega,h4⟩
  .let⟨n,h1,h2⟩:=agZ.1 h
   let⟨k,h3,h4⟩:=ZAG.1 h2
   let⟨n',h5,h6⟩:=agZ.1 h4
   let⟨k',h7,h8⟩:=ZAG.1 h6
   obtain⟨kk,rfl⟩:=b8Z h1 hy
   let⟨q1,q2,q3⟩:=c1Z h3
   obtain⟨ad,rfl⟩:=b8Z h5 hx
   let⟨p1,p2,p3⟩:=c1Z h7
   exact⟨k',k,_,.inr ⟨kk,n,rfl,q1,q2,q3⟩,.inr ⟨ad,n',rfl,p1,p2,p3⟩,rfl,by omega,by omega,h8⟩
theorem njZ{u}{l}{A}{c b h}(hc:l.length<=c)(hm:c<=maxLen)(hn:A=none->c=0)
 (hA:l.length≠0->∃b off,A=some ⟨b,off,none⟩/\¬z.M b/\b<z.w.heap.size/\fT z.w z.M z.ρ b off u l)(hh:h<=l.length)(hb:b<=h):
 bE z (.p (.sl u) ((l.take h).drop b)) (.slice (if c=b then A else A.map (·.add (b*u.cells))) (h-b) (c-b)):=by
 have R:((l.take h).drop b).length=h-b:=by rw[ZAu,ZAS];omega
 have:cU z.w z.M z.ρ (.sl u) ((l.take h).drop b) (.slice (if c=b then A else A.map (·.add (b*u.cells))) ((l.take h).drop b).length (c-b)):=by
  refine .mkSc ⟨_,_,rfl,by omega,by omega,λh0=> ?_,λh0=> ?_⟩ rfl
  .split at h0<;>simp_all
  .have aa:=by rwa [R] at h0
   obtain⟨b0,off,rfl,h1,h2,h3⟩:=hA (by omega);refine⟨b0,off+b*u.cells,?_,h1,h2,?_⟩
   .rw[ZAK (by omega)];simp[Addr.add_mid]
   .have:=h3.sub b (h-b);rwa [<-List.drop_take] at this
 rw[R] at this;exact .p _ _ _ this
theorem o5Z{t}{a}{lo hi}{K}{r:β}{v}{aj ah}(h:qL P t a lo hi H K=some r)(hH:bI z H)(ha:bE z a v)
 (ad:BB z lo aj)(ae:BB z hi ah):OkP P (Instr.sliceAt t v aj ah none) z K r:=by
 unfold qL at h;split at h
 .rename_i hu;obtain⟨l,h1,h2⟩:=agZ.1 h;obtain rfl:=erZ h1 ha;obtain⟨b,h',l',q1,q2,rfl,q3,q4,q5⟩:=lSZ h2 ad ae;refine .mk' ?_ (.mkS _) q5;have ao:(⟨⟨l⟩⟩:ByteArray).size=l.length:=rfl;simp only[Instr.sliceAt,Instr.slice,Sem.run_bind,run_underlying hu,Result.andThen_ok];simp only[Option.isSome_none,ZBI,ZCi,ao];have:=bpZ (P:=P) (isSlice:=false) z.w (ZAN l.length) q1 q2;simp only[Sem.run_bind,Sem.run_pure,Result.andThen_ok,this];congr 2;apply ByteArray.ext;rw[ByteArray.data_extract];apply ZBz;rw[ZCH,ZCB,List.drop_take]
 .rename_i e hu;split at h
  .rename_i es id;cases hb:(Nat.beq es (P.cellsOf e)&& !Nat.beq es 0)<;>rw[hb] at h<;>simp only[bq_true,bq_false] at h
   .cases h
   simp only[ZAE,ZAk,afZ] at hb;obtain⟨he,ab⟩:=hb;have R:es≠0:=λh=>by rw[h] at ab;cases ab
   split at h
   .obtain⟨_,rfl⟩:(none:Option AV)=none/\aj=none:=by rcases ad with h|⟨_,_,h,_⟩<;>first|exact h|cases h
    obtain⟨_,rfl⟩:(none:Option AV)=none/\ah=none:=by rcases ae with h|⟨_,_,h,_⟩<;>first|exact h|cases h
    have am:∃A n c,v= .slice A n c/\n<=c:=by
     cases ha with
     |slfV _ _ A aa=>exact⟨A,0,0,rfl,ZAN _⟩
     |slf _ _ g sz n c aa hn hs hm=>exact⟨_,n,c,rfl,hn⟩
    obtain⟨A,n,c,rfl,ak⟩:=am;have ac:=a0Z (A:=A) z.w hu he.symm R ak (.inl ⟨rfl,rfl,rfl⟩) (.inl ⟨rfl,rfl,rfl⟩);have e1:(if c=0 then A else A.map (·.add (0*es)))=A:=by
     split
     .rfl
     .cases A<;>simp[Addr.add]
    rw[e1] at ac;exact .mk' ac (by simpa using ha) h
   .rename_i lo hi _;obtain⟨fz,e',u,l,hg,al,h3⟩:=dDZ h;obtain⟨h',q1,h4⟩:=c6Z h3 ae;obtain⟨b,q2,h5⟩:=c6Z h4 ad;have l1:=q1.le (ZAN _);have l2:=q2.le (ZBG _);obtain⟨A,c,rfl,hc,_,hA,_⟩:=iuZ hH hg ha;refine .mk' (a0Z z.w hu he.symm R hc q1 q2) ?_ h5;rcases hA with aa|⟨g,sz,n,aa,rfl,hs,hm⟩
    .obtain⟨rfl,_⟩:=hH.virt hg aa;have e0:=Nat.le_zero.1 l1;have e1:b=0:=by omega
     subst e0;subst e1;cases ha with
     |slfV _ _ _ _=>exact .slV _ _ _ _ aa
     |slf _ _ _ _ _ _ h'=>rw[aa] at h';cases h'
    .have:=mbZ aa l2 (by omega:h'<=c) (by rw[ZA1];exact hs) hm;simpa using this
  .rename_i es id off n;cases hb:(Nat.beq es (P.cellsOf e)&& !Nat.beq es 0)<;>rw[hb] at h<;>simp only[bq_true,bq_false] at h
   .cases h
   simp only[ZAE,ZAk,afZ] at hb;obtain⟨he,ab⟩:=hb;have R:es≠0:=λh=>by rw[h] at ab;cases ab
   obtain⟨h',q1,h4⟩:=c6Z h ae;obtain⟨b,q2,h5⟩:=c6Z h4 ad;have l1:=q1.le (ZAN _);have l2:=q2.le (ZBG _);cases ha with
   |slV _ _ _ A aa=>
    refine .mk' (a0Z z.w hu he.symm R (ZAN 0) q1 q2) ?_ h5;have e0:h'=0:=by omega
    have e1:b=0:=by omega
    subst e0;subst e1;exact .slV _ _ _ _ aa
   |slE _ _ _ g sz m o aa=>
    refine .mk' (a0Z z.w hu he.symm R (ZAN 0) q1 q2) ?_ h5;have e0:h'=0:=by omega
    have e1:b=0:=by omega
    subst e0;subst e1;exact .slE _ _ _ _ _ _ _ aa
   |sl _ _ _ _ g sz m c aa hn hs hm=>
    exact .mk' (a0Z z.w hu he.symm R hn q1 q2) (mbZ aa l2 (by omega) hs hm) h5
  .rename_i u l;cases hb:(Nat.beq u.cells (P.cellsOf e)&& !Nat.beq u.cells 0)<;>rw[hb] at h<;>simp only[bq_true,bq_false] at h
   .cases h
   simp only[ZAE,ZAk,afZ] at hb;obtain⟨he,ab⟩:=hb;have R:u.cells≠0:=λh=>by rw[h] at ab;cases ab
   obtain⟨b,h',l',q1,q2,rfl,q3,q4,q5⟩:=lSZ h ad ae;obtain⟨A,c,rfl,hc,hm,hn,hA⟩:=cU.sl (t:=u) ha.v;exact .mk' (a0Z z.w hu he.symm R hc q1 q2) (njZ hc hm hn hA q3 q4) q5
  .obtain⟨hm,h3⟩:=aeZ.1 h;simp only[ZAk] at hm;have R:P.cellsOf e≠0:=λh=>by rw[h] at hm;cases hm
   obtain⟨h',q1,h4⟩:=c6Z h3 ae;obtain⟨b,q2,h5⟩:=c6Z h4 ad;have l1:=q1.le (ZAN _);have l2:=q2.le (ZBG _);have e0:h'=0:=by omega
   have e1:b=0:=by omega
   subst e0;subst e1;obtain⟨rfl,_⟩:=ha.v.opq;have ac:=a0Z (P:=P) (A:=none) z.w hu rfl R (ZAN 0) q1 q2;exact .mk' (x:=.p .opq (.slice none 0 0)) (v:=.slice none 0 0) (by simpa using ac) ha h5
  .rename_i f u x;cases hb:(Nat.beq u.cells (P.cellsOf e)&& !Nat.beq u.cells 0)<;>rw[hb] at h<;>simp only[bq_true,bq_false] at h
   .cases h
   simp only[ZAE,ZAk,afZ] at hb;obtain⟨he,ab⟩:=hb;have R:u.cells≠0:=λh=>by rw[h] at ab;cases ab
   obtain⟨h',q1,h4⟩:=c6Z h ae;obtain⟨b,q2,h5⟩:=c6Z h4 ad;have l1:=q1.le (ZAN _);have l2:=q2.le (ZBG _);have hx:=ha.v.scal rfl rfl;have ai:∀A c,c<=maxLen->(A=none->c=0)->bE z (.p (.ref f u) (.inl [])) (.slice A 0 c):=λA c h1 h2=>
    .p _ _ _ (.mkSc ⟨A,c,rfl,ZBG _,h1,h2,λh=>absurd rfl h⟩ rfl)
   rcases x with l|(_|⟨k,off,n⟩)
   .have hv:cU z.w z.M z.ρ (.sl u) l v:=.mkSc hx rfl;obtain⟨A,c,rfl,hc,hm,hn,hA⟩:=cU.sl (t:=u) hv;refine .mk' (a0Z z.w hu he.symm R hc q1 q2) ?_ h5;have an:=(njZ (z:=z) hc hm hn hA l1 l2).v.scal rfl rfl;rw[show lI (α:=u.den) (.inl l) b (h'-b)= .inl ((l.take h').drop b) from by unfold lI;rw[show b+(h'-b)=h' from by omega]];exact .p _ _ _ (.mkSc an rfl)
   .have hx:[v]=[.slice none 0 0]:=hx;simp only[ZBR,ZBk] at hx;subst hx;have l1:h'<=0:=l1;obtain rfl:h'=0:=by omega
    obtain rfl:b=0:=by omega
    have ac:=a0Z (P:=P) (A:=none) z.w hu he.symm R (ZAN 0) q1 q2;refine .mk' (v:=.slice none 0 0) (by simpa using ac) ?_ h5;exact .p _ _ _ (.mkSc rfl rfl)
   .have l1:h'<=n:=l1;have q1:Bnd hi ah n n h':=q1;rcases hx with⟨A,aa,rfl,hx⟩|⟨g,sz,m,c,aa,ak,hs,hm,hx⟩
    .simp only[ZBR,ZBk] at hx;subst hx;obtain rfl:h'=0:=by omega
     obtain rfl:b=0:=by omega
     have ac:=a0Z (P:=P) (A:=A) z.w hu he.symm R (ZAN 0) q1 q2;refine .mk' ac ?_ h5;exact ai _ _ (ZBG _) λ_=>rfl
    .simp only[ZBR,ZBk] at hx;subst hx;refine .mk' (a0Z z.w hu he.symm R ak q1 q2) ?_ h5;by_cases h0:h'-b=0
     .rw[show lI (α:=u.den) (.inr (some (k,off,n))) b (h'-b)= .inl [] from by unfold lI;rw[h0];rfl,h0];refine ai _ _ (by omega) λhA=> ?_;split at hA
      .cases hA
      .cases hA
     .rw[show lI (α:=u.den) (.inr (some (k,off,n))) b (h'-b)= .inr (some (k,off+b,h'-b)) from by
       unfold lI;have:Nat.beq (h'-b) 0=false:=by
        cases hh:Nat.beq (h'-b) 0 with
        |false=>rfl
        |true=>rw[afZ] at hh;exact absurd hh h0
       rw[this];rfl,ZAK (by omega)]
      refine .p _ _ _ (.mkSc (.inr ⟨g,sz,m,c-b,aa,by omega,?_,by omega,?_⟩) rfl)
      .have:off+b+(c-b)=off+c:=by omega
       rw[this];exact hs
      .simp[Addr.add_mid,ZAn]
  .cases h
 .rename_i n e hu;split at h
  .rename_i es id;cases hb:(Nat.beq es (P.cellsOf e)&& !Nat.beq es 0)<;>rw[hb] at h<;>simp only[bq_true,bq_false] at h
   .cases h
   simp only[ZAE,ZAk,afZ] at hb;obtain⟨he,ab⟩:=hb;have R:es≠0:=λh=>by rw[h] at ab;cases ab
   obtain⟨fz,e',u,l,hg,al,h3⟩:=dDZ h;obtain⟨h4,h5⟩:=aeZ.1 h3;simp only[ZAE,afZ,ZAm] at h4;obtain⟨af,h4⟩:=h4;cases ha with|own _ _ _ _ g sz m aa=>
   obtain⟨_,_,_,cs,fr,a1,a2,a3,a4,a5,a6,a7⟩:=hH.real hg aa;have ap:n<=maxLen:=by unfold cM at af;unfold maxLen;omega
   split at h5
   .obtain⟨_,rfl⟩:(none:Option AV)=none/\aj=none:=by rcases ad with h|⟨_,_,h,_⟩<;>first|exact h|cases h
    obtain⟨_,rfl⟩:(none:Option AV)=none/\ah=none:=by rcases ae with h|⟨_,_,h,_⟩<;>first|exact h|cases h
    have ac:=chZ (P:=P) (g:=g) (o:=0*es+0) (lo:=none) (hi:=none) z.w hu he.symm R (.inl ⟨rfl,rfl,rfl⟩) (.inl ⟨rfl,rfl,rfl⟩);refine .mk' ac ?_ h5;have:(if n=0 then(⟨g,0*es+0,none⟩:Addr) else⟨g,0*es+0+0*es,none⟩)=⟨g,0,none⟩:=by split<;>simp
    rw[this];have aq:n=m:=h4.trans a4;subst aq;exact .slf _ _ _ _ _ _ aa (by omega) (by rw[al,Nat.sub_zero,h4];exact a5) (by omega)
   .obtain⟨h',q1,h6⟩:=c6Z h5 ae;obtain⟨b,q2,h7⟩:=c6Z h6 ad;have l1:=q1.le (ZAN _);have l2:=q2.le (ZBG _);refine .mk' (chZ z.w hu he.symm R q1 q2) ?_ h7;have:=mbZ (z:=z) (es:=es) (off:=0) (c:=n) aa l2 l1 (by rw[ZA1,al,h4];exact a5) ap;simp only[ZBn,ZA1,ZCX] at this⊢;split at this
    .rename_i ag;rw[ZAM ag];exact this
    .rename_i ag;rw[ZAK ag];simpa[Addr.add_mid] using this
  .rename_i u l;cases hb:(Nat.beq u.cells (P.cellsOf e)&& !Nat.beq u.cells 0&&Nat.ble n cM&&Nat.beq n l.length)<;>rw[hb] at h<;>simp only[bq_true,bq_false] at h
   .cases h
   simp only[ZAE,ZAk,afZ,ZAm] at hb;obtain⟨⟨⟨he,ab⟩,af⟩,hn⟩:=hb;have R:u.cells≠0:=λh=>by rw[h] at ab;cases ab
   cases ha with|pt _ _ _ _ b0 off hM ar hr=>
   obtain⟨b,h',l',q1,q2,rfl,q3,q4,q5⟩:=lSZ h ad ae;rw[<-hn] at q1;refine .mk' (chZ z.w hu he.symm R q1 q2) ?_ q5;have:=njZ (z:=z) (u:=u) (l:=l) (A:=some ⟨b0,off,none⟩) (c:=n) (by omega) (by unfold cM at af;unfold maxLen;omega) (λh=>by cases h) (λ_=>⟨b0,off,rfl,hM,ar,hr⟩) q3 q4;simp only[ZBn,ZCX] at this⊢;split at this
   .rename_i ag;rw[ZAM ag];exact this
   .rename_i ag;rw[ZAK ag];simpa[Addr.add_mid] using this
  .cases h
 grind
theorem d3Z{t e}{A}{ac R h b m y:Nat}{lo}{ab ad ae}{kx ky}{nx ny:Int}(w)(hu:P.underlying t=some (.slice e))(hm:P.cellsOf e=m)(aj:m≠0)
 (ak:ae=some (.int ky ny))(af:0<=ny)(ag:ny<=R)(hy:ny.toNat=y)(al:ad=some (.int kx nx))(ah:0<=nx)(ai:nx<=y)(hx:nx.toNat=h)(hb:Bnd lo ab 0 h b):
 (Instr.sliceAt t (.slice A ac R) ab ad ae).run P w= .ok (.slice (if y=b then A else A.map (·.add (b*m))) (h-b) (y-b)) w:=by
 have sb:∀(kk) (n:Int) (y:Nat) (aa),0<=n->n<=y->(Instr.sliceBound (.int kk n) y aa).run P w= .ok n.toNat w:=λkk n y aa h0 h1=>by
  simp[Instr.sliceBound,Sem.run_bind,asIntOf,h0,h1]
 have hs:=a6Z w hm aj;subst ak al;have am:(Instr.sliceBounds true ac R ab (some (.int kx nx)) (some (.int ky ny))).run P w= .ok (b,h,y) w:=by
  rcases hb with⟨_,rfl,rfl⟩|⟨an,n',rfl,p1,p2,p3⟩
  .simp[Instr.sliceBounds,Sem.run_bind,sb ky ny R _ af ag,hy,sb kx nx y _ ah ai,hx]
  .simp[Instr.sliceBounds,Sem.run_bind,sb ky ny R _ af ag,hy,sb kx nx y _ ah ai,hx,sb an n' _ _ p1 p2,p3]
 simp[Instr.sliceAt,Instr.slice,Sem.run_bind,run_underlying hu,am,hs]
theorem liZ{t}{a hi mx}{lo}{K}{r:β}{v ab ac}{ad}(h:nE P t a lo hi mx K=some r)(ha:bE z a v)
 (aj:BB z lo ad)(ak:bE z hi ab)(al:bE z mx ac):OkP P (Instr.sliceAt t v ad (some ab) (some ac)) z K r:=by
 unfold nE at h;split at h
 .rename_i e hu;split at h
  .rename_i u l;cases hb:(Nat.beq u.cells (P.cellsOf e)&& !Nat.beq u.cells 0)<;>rw[hb] at h<;>simp only[bq_true,bq_false] at h
   .cases h
   simp[afZ] at hb
   let⟨he,ae⟩:=hb
   have af:u.cells≠0:=λh=>by rw[h] at ae;cases ae
   let⟨y,h1,h2⟩:=agZ.1 h
   let⟨m,h3,h4⟩:=ZAG.1 h2
   obtain⟨ky,rfl⟩:=b8Z h1 al
   let⟨q1,q2,q3⟩:=c1Z h3
   let⟨x,h5,h6⟩:=agZ.1 h4
   let⟨h',h7,h8⟩:=ZAG.1 h6
   obtain⟨kx,rfl⟩:=b8Z h5 ak
   let⟨p1,p2,p3⟩:=c1Z h7
   obtain⟨A,c,rfl,hc,hm,hn,hA⟩:=cU.sl ha.v;have ao:m<=List.length l:=by omega
   have ag:h'<=m:=by omega
   have aa:(List.take m l).length=m:=by rw[ZAS];omega
   have ah:∀b,b<=h'->bE z (.p (.sl u) (((List.take m l).take h').drop b)) (.slice (if m=b then A else A.map (·.add (b*u.cells))) (h'-b) (m-b)):=λb am=>by
    have:=njZ (by rw[aa];exact ZAN _) (by omega) (λh0=>by have:=hn h0;omega) (λh0=>by
     rw[aa] at h0
     let⟨b0,off,e1,e2,e3,e4⟩:=hA (by omega)
     exact⟨b0,off,e1,e2,e3,λi e R=>e4 i e (by rw[ZAo] at R;split at R<;>first|exact R|cases R)⟩) (by rw[aa];exact ag) am
    exact this
   have ai:((List.take m l).take h')=List.take h' l:=by rw[List.take_take,ZA7 ag]
   rcases aj with⟨rfl,rfl⟩|⟨xl,vl,rfl,rfl,an⟩
   .refine .mk' (d3Z z.w hu he.symm af rfl q1 (by omega) q3 rfl p1 (by omega) p3 (.inl ⟨rfl,rfl,rfl⟩)) ?_ h8;have:=ah 0 (ZBG _);rw[ai,ZCA] at this;exact this
   .simp only at h8
    let⟨n,g1,g2⟩:=agZ.1 h8
    let⟨b,g3,g4⟩:=ZAG.1 g2
    obtain⟨kl,rfl⟩:=b8Z g1 an
    let⟨r1,r2,r3⟩:=c1Z g3
    refine .mk' (d3Z (lo:=some xl) z.w hu he.symm af rfl q1 (by omega) q3 rfl p1 (by omega) p3 (.inr ⟨kl,n,rfl,r1,r2,r3⟩)) ?_ g4;have:=ah b (by omega);rw[ai] at this;exact this
  .cases h
 grind
end
section
variable {P : Program} {β : Type} {z : Z} {H : Hp}
def fH(z:Z)(u:Ty)(m:List u.den)(v:Value):Prop:=
 (∃h:u= .byte,v= .string ⟨⟨Ty.toL h m⟩⟩)\/
 ∃A c,v= .slice A m.length c/\m.length<=c/\c<=maxLen/\(m.length≠0->∃b off,A=some ⟨b,off,none⟩/\b<z.w.heap.size/\fT z.w z.M z.ρ b off u m)
theorem fNZ{u}{a}{K}{r:β}{v}(h:pD H u a K=some r)(hH:bI z H)(ha:bE z a v):∃m,fH z u m v/\K m=some r:=by
 unfold pD at h;split at h
 .rename_i t x;rcases aUZ h with⟨ht,h⟩|h
  .subst ht;obtain⟨A,c,rfl,hc,hm,hn,hA⟩:=cU.sl ha.v;exact⟨x,.inr ⟨A,c,rfl,hc,hm,λh0=>by let⟨b,off,e,_,h2,h3⟩:=hA h0;exact⟨b,off,e,h2,h3⟩⟩,h⟩
  .rcases aUZ h with⟨ht,h⟩|h
   .rcases aUZ h with⟨hu,h⟩|h
    .subst ht;obtain rfl:u= .byte:=by injection hu with hu;exact hu.symm
     obtain rfl:=ha.v.str;exact⟨x,.inl ⟨rfl,rfl⟩,h⟩
    .cases h
   .let⟨l,h1,h2⟩:=agZ.1 h
    obtain⟨A,c,rfl,hc,hm,hn,hA⟩:=cU.sl (m5Z h1 ha.v);exact⟨l,.inr ⟨A,c,rfl,hc,hm,λh0=>by let⟨b,off,e,_,h2,h3⟩:=hA h0;exact⟨b,off,e,h2,h3⟩⟩,h2⟩
 .rename_i es id;split at h
  .rename_i fz e t l hg;rcases aUZ h with⟨ht,h⟩|h
   .subst ht;cases hb:Nat.beq es t.cells<;>rw[hb] at h<;>simp only[bq_true,bq_false] at h
    .cases h
    .obtain⟨A,c,rfl,hc,_,hA,ab⟩:=iuZ hH hg ha;refine⟨l,.inr ⟨A,c,rfl,hc,ab,λh0=> ?_⟩,h⟩
     .rcases hA with R|⟨g,sz,n,R,rfl,hs,hm⟩
      .obtain⟨rfl,_⟩:=hH.virt hg R;exact absurd rfl h0
      .exact⟨g,0,rfl,(hH.real hg R).1,(hH.real hg R).2.2.2.rowAt⟩
   .cases h
  .cases h
 .rename_i es id off n;split at h
  .rename_i fz e t l hg;rcases aUZ h with⟨ht,h5⟩|h
   .subst ht;clear h;cases hb:(Nat.beq es t.cells&&Nat.ble (off+n) l.length)<;>rw[hb] at h5<;>simp only[bq_true,bq_false] at h5
    .cases h5
    .simp[ZAm] at hb;obtain⟨rfl,hb⟩:=hb;have aa:((l.drop off).take n).length=n:=by rw[ZAS,ZAu];omega
     have key:fH z t ((l.drop off).take n) v:=by
      refine .inr ?_;rw[aa];cases ha with
      |slV _ _ _ A R=>exact⟨A,0,rfl,ZAN _,by unfold maxLen;omega,λh=>absurd rfl h⟩
      |slE _ _ _ g sz m o R=>exact⟨_,0,rfl,ZAN _,by unfold maxLen;omega,λh=>absurd rfl h⟩
      |sl _ _ _ _ g sz m c R hn hs hm=>
       refine⟨_,c,rfl,hn,hm,λ_=>⟨g,off*t.cells,rfl,(hH.real hg R).1,?_⟩⟩;have:=(hH.real hg R).2.2.2.rowAt.sub off n;rwa [ZA1] at this
     exact⟨_,key,h5⟩
   .cases h
  .cases h
 grind
theorem obZ(l):∀(s:ByteArray),((l.map λc=>(c.toNat:Int)).foldl (λr n=>r.push (UInt8.ofNat n.toNat)) s).data.toList=s.data.toList++l:=by
 induction l<;>simp_all
theorem fT.bytes{w}{M}{ρ}{b off}{l:List UInt8}(h:fT w M ρ b off .byte l):w.rangeAt b off (l.map λc=>Value.int .u8 (c.toNat:Int)):=λj v R=>by
 rw[ZAW] at R;obtain⟨c,h1,rfl⟩:=ZAH.1 R
 let⟨u,h2,h3⟩:=h j c h1
 subst h2;have:=h3 0 _ rfl
 simp_all[Ty.cells]
theorem jJZ{A}{l:List UInt8}{c}(hA:l.length≠0->∃b off,A=some ⟨b,off,none⟩/\b<z.w.heap.size/\fT z.w z.M z.ρ b off .byte l):
 (Conv.bytesToString (.slice A l.length c)).run P z.w= .ok (.string ⟨⟨l⟩⟩) z.w:=by
 cases A with
 |none=>
  have:l=[]:=by
   rcases ZBs l.length with h|h
   .simp_all
   .simp_all
  subst this
  rfl
 |some a=>
  have hl:(loadCells a l.length).run P z.w= .ok ((l.map λc=>(c.toNat:Int)).map (Value.int .u8)).toArray z.w:=by
   have:=run_loadCells_list (P:=P) z.w a (l.map λc=>Value.int .u8 (c.toNat:Int)) (λj v R=>by
    have aa:=by
     have:=(ZAB.1 R).1;simpa using this
    let⟨b,off,h1,_,h3⟩:=hA (by omega)
    cases h1;rw[Addr.add_mid];exact h3.bytes j v R)
   simpa[Function.comp_def] using this
  rw[run_bytesToString z.w a l.length c _ hl];congr 2;apply ByteArray.ext;apply ZBz
  simp_all[obZ]
theorem vdZ{e}(h:isB P e=true):P.underlying e=some (.int .u8):=by
 grind[isB]
theorem fyZ{aa ab}{a}{K}{r:β}{v}(h:jM P aa ab a H K=some r)(hH:bI z H)(ha:bE z a v):OkP P (convert aa ab v) z K r:=by
 unfold jM at h;split at h
 .rename_i ks k R hd
  let⟨n,h1,h2⟩:=agZ.1 h
  obtain rfl:=efZ h1 ha;exact .mk' (by simp[convert,run_underlying R,run_underlying hd,Conv.intToInt]) (.mkI _ _) h2
 .rename_i R hd
  let⟨l,h1,h2⟩:=agZ.1 h
  obtain rfl:=erZ h1 ha;exact .mk' (by simp[convert,run_underlying R,run_underlying hd]) (.mkS _) h2
 .rename_i e R hd;cases hb:isB P e<;>rw[hb] at h<;>simp only[bq_true,bq_false] at h
  .cases h
  .let⟨m,h1,h2⟩:=fNZ h hH ha
   rcases h1 with⟨hh,rfl⟩|⟨A,c,rfl,q1,q2,q3⟩
   .have:Ty.toL hh m=m:=rfl;rw[this];exact .mk' (by simp[convert,run_underlying R,run_underlying hd]) (.mkS _) h2
   .refine .mk' ?_ (.mkS _) h2;have:=jJZ (P:=P) (c:=c) q3;cases A<;>simp[convert,run_underlying R,run_underlying hd,run_underlying (vdZ hb),this]
 .cases h
 grind
theorem sSZ{R}{k k'}{x y}{t}{K}{r:β}(h:zV R k x y K=some r)(hk:KF R k k'=true):
 OkP P (binOp R t (.int k x) (.int k' y)) z K r:=by
 cases R<;>simp[zV] at h<;>simp[KF] at hk
 case quo=>
  let⟨h1,h2⟩:=aeZ.1 h
  simp[ZBA] at h1;subst hk;exact .mk' (by simp[binOp,Op.intDiv,h1]) (.mkI _ _) h2
 case rem=>
  let⟨h1,h2⟩:=aeZ.1 h
  simp[ZBA] at h1;subst hk;exact .mk' (by simp[binOp,Op.intDiv,h1]) (.mkI _ _) h2
 case shl=>
  let⟨h1,h2⟩:=aeZ.1 h
  simp at h1;exact .mk' (by simp[binOp,Op.shift,show¬y<0 from by omega]) (.mkI _ _) h2
 case shr=>
  let⟨h1,h2⟩:=aeZ.1 h
  simp at h1;exact .mk' (by simp[binOp,Op.shift,show¬y<0 from by omega]) (.mkI _ _) h2
 case add=>subst hk;exact .mk' (by simp[binOp,Op.intArith]) (.mkI _ _) h
 case sub=>subst hk;exact .mk' (by simp[binOp,Op.intArith]) (.mkI _ _) h
 case mul=>subst hk;exact .mk' (by simp[binOp,Op.intArith]) (.mkI _ _) h
 case and=>subst hk;exact .mk' (by simp[binOp,Op.intBits,xN]) (.mkI _ _) h
 case or=>subst hk;exact .mk' (by simp[binOp,Op.intBits,xN]) (.mkI _ _) h
 case xor=>subst hk;exact .mk' (by simp[binOp,Op.intBits,xN]) (.mkI _ _) h
 case andNot=>subst hk;exact .mk' (by simp[binOp,Op.intBits,xN]) (.mkI _ _) h
 case eql=>subst hk;exact .mk' (by simp[binOp,Op.intCmp]) (.mkB _) h
 case neq=>subst hk;exact .mk' (by simp[binOp,Op.intCmp,bne]) (.mkB _) h
 case lss=>subst hk;exact .mk' (by simp[binOp,Op.intCmp]) (.mkB _) h
 case leq=>subst hk;exact .mk' (by simp[binOp,Op.intCmp]) (.mkB _) h
 case gtr=>subst hk;exact .mk' (by simp[binOp,Op.intCmp]) (.mkB _) h
 case geq=>subst hk;exact .mk' (by simp[binOp,Op.intCmp]) (.mkB _) h
theorem cvZ(l):(⟨⟨l⟩⟩:ByteArray).toList=l:=by simp_all
theorem j7Z(l m):(⟨⟨l⟩⟩:ByteArray)++(⟨⟨m⟩⟩:ByteArray)=⟨⟨l++m⟩⟩:=by
 apply ByteArray.ext
 simp_all
theorem thZ{R}{x y}{t}{K}{r:β}(h:zW R x y K=some r):OkP P (binOp R t (.string ⟨⟨x⟩⟩) (.string ⟨⟨y⟩⟩)) z K r:=by
 cases R<;>simp only[zW] at h<;>first|(cases h)|skip
 case add=>
  let⟨h1,h2⟩:=aeZ.1 h
  rw[ZAm] at h1;refine .mk' ?_ (.mkS _) h2;have:¬(((⟨⟨x⟩⟩:ByteArray).size+(⟨⟨y⟩⟩:ByteArray).size:Nat):Int)>IntKind.i64.max:=by
   show¬((x.length+y.length:Nat):Int)>_;have:IntKind.i64.max=9223372036854775807:=by decide
   unfold cM at h1;omega
  simp[binOp,Op.stringOp]
  simp_all[j7Z]
 all_goals exact .mk' (by simp only[binOp,Op.stringOp,cvZ];rfl) (.mkB _) h
theorem uRZ{f}{d}(w){M}{ρ}
 (hf:∀t u,f t u=true->∀(x y) (vx vy),cU w M ρ u x vx->cU w M ρ u y vy->(Op.equalIn d t vx vy).run P w= .ok (u.eqb x y) w)
 (ac:∀t u,f t u=true->0<u.cells/\(u.isAgg=true->gF P t=true)/\(u.isAgg=false->fQ P t=true)):
 ∀(fs) (o) (u),rG P f fs o u=true->∀(x y) (xs ys),Cl w M ρ u x ((xs.toList.drop o).take u.cells)->Cl w M ρ u y ((ys.toList.drop o).take u.cells)->
  (Op.eqFields d xs ys fs).run P w= .ok (u.eqb x y) w:=by
 have R:∀(x:Field) (o) (u),(x.name != "_" &&Nat.beq x.offset o&&Nat.beq (P.cellsOf x.type) u.cells&&f x.type u)=true->∀(a) (xs),Cl w M ρ u a ((xs.toList.drop o).take u.cells)->
  x.name≠ "_" /\∃v,(part x.type xs x.offset).run P w= .ok v w/\cU w M ρ u a v:=by
  intro x o u h a xs hc;simp only[ZAE,bne_iff_ne,ne_eq,afZ] at h;obtain⟨⟨⟨h1,rfl⟩,h3⟩,h4⟩:=h;obtain⟨g1,g2,g3⟩:=ac _ _ h4;refine⟨h1,?_⟩;have hl:=hc.len;cases hg:u.isAgg
  .have aa:u.cells=1:=by cases u<;>first|rfl|simp_all[Ty.isAgg]
   match hvs:(xs.toList.drop x.offset).take u.cells,hl with
   |[],hl=>simp_all
   |_::_::_,hl=>simp_all
   |[v],_=>
    rw[hvs] at hc;have hv:xs[x.offset]? =some v:=by
     have:((xs.toList.drop x.offset).take u.cells)[0]? =some v:=by rw[hvs];rfl
     rw[aa] at this;simpa using this
    exact⟨v,bgZ w (g3 hg) hv,.mkSc hc hg⟩
  .refine⟨_,btZ w (g2 hg) h3 (by omega),⟨_,hc,?_⟩⟩;rw[hg];simp only[ZAL];congr 1
   grind
 intro fs;induction fs with
 |nil=>simp_all[rG]
 |cons x fs ih=>
  intro o u h a b xs ys ha hb
  match fs,u,h with
  |[],u,h=>
   have h':(x.name != "_" &&Nat.beq x.offset o&&Nat.beq (P.cellsOf x.type) u.cells&&f x.type u)=true:=by
    cases u<;>simpa only[rG] using h
   obtain⟨h1,v1,q1,q2⟩:=R x o u h' a xs ha;obtain⟨_,v2,p1,p2⟩:=R x o u h' b ys hb;have ab:f x.type u=true:=by
    simp only[ZAE] at h';exact h'.2
   have:=hf _ _ ab a b v1 v2 q2 p2;simp only[Op.eqFields,h1,ne_eq,not_false_eq_true,ZCr,Sem.run_bind,q1,p1,this,Result.andThen_ok];cases u.eqb a b<;>simp
  |y::fs,.pair s t,h=>
   simp only[rG] at h;have h':(x.name != "_" &&Nat.beq x.offset o&&Nat.beq (P.cellsOf x.type) s.cells&&f x.type s)=true/\rG P f (y::fs) (o+s.cells) t=true:=by
    simp only[ZAE] at h⊢;exact h
   obtain⟨h',ae⟩:=h';obtain⟨u1,u2,e1,c1,c2⟩:=ha;obtain⟨w1,w2,e2,d1,d2⟩:=hb;have ad:∀(l v1 v2:List Value),(l.drop o).take (Ty.pair s t).cells=v1++v2->v1.length=s.cells->v2.length=t.cells->(l.drop o).take s.cells=v1/\(l.drop (o+s.cells)).take t.cells=v2:=by
    intro l v1 v2 e l1 l2;simp only[Ty.cells] at e;constructor
    .rw[show(l.drop o).take s.cells=((l.drop o).take (s.cells+t.cells)).take s.cells from by rw[List.take_take,ZA7 (by omega)],e,ZBQ (by omega),ZAv (by omega)]
    .rw[show(l.drop (o+s.cells)).take t.cells=((l.drop o).take (s.cells+t.cells)).drop s.cells from by rw[List.drop_take,List.drop_drop,ZA5],e,ZBv (by omega),ZBE (by omega),ZBe]
   obtain⟨af,ag⟩:=ad _ _ _ e1 c1.len c2.len;obtain⟨ah,ai⟩:=ad _ _ _ e2 d1.len d2.len;obtain⟨h1,v1,q1,q2⟩:=R x o s h' a.1 xs (by rw[af];exact c1);obtain⟨_,v2,p1,p2⟩:=R x o s h' b.1 ys (by rw[ah];exact d1);have ab:f x.type s=true:=by
    simp only[ZAE] at h';exact h'.2
   have:=hf _ _ ab a.1 b.1 v1 v2 q2 p2;have hr:=ih (o+s.cells) t ae a.2 b.2 xs ys (by rw[ag];exact c2) (by rw[ai];exact d2);rw[Op.eqFields];simp only[h1,ne_eq,not_false_eq_true,ZCr,Sem.run_bind,q1,p1,this,Result.andThen_ok];simp only[Ty.eqb];cases s.eqb a.1 b.1
   .simp
   simp_all
  |_::_,.one _,h|_::_,.int _,h|_::_,.byte,h|_::_,.bool,h|_::_,.str,h|_::_,.opq,h|_::_,.nat,h|_::_,.ptr _,h|_::_,.sl _,h|_::_,.ref _ _,h|_::_,.arr _ _,h=>grind[rG]
end
section
variable {P : Program} {β : Type} {z : Z} {H : Hp}
theorem eKZ{t}{u}(h:nZ P t u=true):0<u.cells/\(u.isAgg=true->gF P t=true)/\(u.isAgg=false->fQ P t=true):=by
 unfold nZ at h;simp[ZAk] at h
 let⟨h1,h2⟩:=h
 refine⟨?_,λh=>by rw[h] at h2;exact h2,λh=>by rw[h] at h2;exact h2⟩;rcases ZBs u.cells with h|h<;>simp_all
theorem eUZ{w}{M}{ρ}{u}{x}{cs}(h:Cl w M ρ u x cs):Cl w M ρ u x ((cs.drop 0).take u.cells):=by
 rw[ZCA,ZAv (by rw[h.len];omega)];exact h
theorem eLZ{α:Type}{l:List α}{i}{x}(h:l[i]? =some x):l.drop i=x::l.drop (i+1):=by
 grind[ZAB,ZBT]
theorem mEZ(w){M}{ρ}:∀(n) (t) (u),eqT P n t u=true->∀(d),n<=d->∀(x y) (vx vy),cU w M ρ u x vx->cU w M ρ u y vy->
 (Op.equalIn d t vx vy).run P w= .ok (u.eqb x y) w
 |0,_,_,h,_,_,_,_,_,_,_,_=>by simp[eqT] at h
 |n+1,t,u,h,d,hd,x,y,vx,vy,hx,hy=>by
  obtain⟨d,rfl⟩:∃d',d=d'+1:=⟨d-1,by omega⟩;have af:n<=d:=by omega
  have aa:∀(fs) (v) (x y) (cx cy),P.underlying t=some (.struct fs)->(!P.stoodInHeld t&&rG P (λt u=>nZ P t u&&eqT P n t u) fs.toList 0 v)=true->Cl w M ρ v x cx->Cl w M ρ v y cy->
   (Op.equalIn (d+1) t (.agg cx.toArray) (.agg cy.toArray)).run P w= .ok (v.eqb x y) w:=by
   intro fs v x y cx cy hu hc h1 h2;simp[ZAk] at hc;have ag:P.fieldsOf t=fs:=by simp[Program.fieldsOf,hu]
   rw[run_equalIn_struct w d t _ _ (by rw[ag];exact hu) hc.1,ag];refine uRZ w (M:=M) (ρ:=ρ) (λt u hf x y vx vy hx hy=> ?_) (λt u hf=> ?_) _ 0 v hc.2 x y _ _ ?_ ?_
   .simp at hf;exact mEZ w n t u hf.2 d af x y vx vy hx hy
   .simp at hf;exact eKZ hf.1
   .exact eUZ h1
   .exact eUZ h2
  simp[eqT] at h;split at h
  .rename_i k k' hu;simp at h;obtain rfl:=hx.int;obtain rfl:=hy.int;exact run_equalIn_int w d t k' k x y hu
  .rename_i k hu;simp at h;have e1:=hx.scal rfl rfl;have e2:=hy.scal rfl rfl;simp[Cl,ZBk] at e1 e2;subst e1;subst e2;rw[run_equalIn_int w d t .u8 k _ _ hu];congr 1;show(((x:UInt8).toNat:Int)==((y:UInt8).toNat:Int))=((x:UInt8)==y);rw[Bool.eq_iff_iff];simp[ZBp];constructor
   .intro h;exact UInt8.toNat_inj.1 (by omega)
   .intro h;rw[h]
  .rename_i hu;obtain rfl:=hx.bool;obtain rfl:=hy.bool;exact run_equalIn_bool w d t x y hu
  .rename_i hu;obtain rfl:=hx.str;obtain rfl:=hy.str;rw[run_equalIn_string w d t _ _ hu,cvZ,cvZ]
   rfl
  .rename_i fs v hu;obtain⟨cx,h1,rfl⟩:=hx;obtain⟨cy,h2,rfl⟩:=hy;exact aa fs v x y cx cy hu h h1 h2
  .rename_i fs a b hu;obtain⟨cx,h1,rfl⟩:=hx;obtain⟨cy,h2,rfl⟩:=hy;exact aa fs (.pair a b) x y cx cy hu h h1 h2
  .rename_i m e m' v hu;simp only[ZAE,afZ] at h;obtain⟨⟨⟨rfl,hc⟩,hf⟩,he⟩:=h;obtain⟨cx,h1,rfl⟩:=hx;obtain⟨cy,h2,rfl⟩:=hy
   let⟨f1,f2,f3⟩:=eKZ hf
   have hi:=b3Z hc (by omega);cases hq:P.info? e with
   |none=>simp[hq] at hi
   |some i=>
    rw[show(bif (Ty.arr m v).isAgg then Value.agg cx.toArray else cx.headD undef)= .agg cx.toArray from rfl,show(bif (Ty.arr m v).isAgg then Value.agg cy.toArray else cy.headD undef)= .agg cy.toArray from rfl,
     run_equalIn_array w d _ _ hu hq,hc]
    have ah:=h1.1;have ai:=h2.1;have pt:∀(cs) (l) (q) (a),Cl w M ρ (.arr m v) l cs->l[q]? =some a->∃va,(part e cs.toArray (q*v.cells)).run P w= .ok va w/\cU w M ρ v a va:=by
     intro cs l q a aj ha;have ac:=Cl.nth aj ha;have hl:=ac.len;cases R:v.isAgg
     .have ab:v.cells=1:=by cases v<;>first|rfl|(simp[Ty.isAgg] at R;done)
      match hvs:(cs.drop (q*v.cells)).take v.cells,hl with
      |[],hl=>rw[ab] at hl;simp at hl
      |_::_::_,hl=>rw[ab] at hl;simp at hl
      |[u],_=>
       rw[hvs] at ac;have hv:cs.toArray[q*v.cells]? =some u:=by
        have:((cs.drop (q*v.cells)).take v.cells)[0]? =some u:=by rw[hvs];rfl
        rw[ZBh (by omega),ZAy] at this;simpa using this
       exact⟨u,bgZ w (f3 R) hv,.mkSc ac R⟩
     .refine⟨_,btZ w (f2 R) hc (by omega),⟨_,ac,?_⟩⟩;rw[R];simp only[ZAL];congr 1;apply ZBz;rw[ZCH,ZCB,ZA5]
    have key:∀(k i),i+k=m->(Op.eqItems d e v.cells cx.toArray cy.toArray (List.range' i k)).run P w= .ok (kU v.eqb (List.drop i x) (List.drop i y)) w:=by
     intro k;induction k with
     |zero=>
      intro i hi;rw[ZBE (by omega),ZBE (by omega)];simp[Op.eqItems,kU]
     |succ k ih=>
      intro i hi;have ad:((x))[i]? =some (((x))[i]'(by rw[ah];omega)):=ZAC _;have ae:((y))[i]? =some (((y))[i]'(by rw[ai];omega)):=ZAC _;generalize ((x))[i]'(by rw[ah];omega)=xi at ad;generalize ((y))[i]'(by rw[ai];omega)=yi at ae
      let⟨va,q1,q2⟩:=pt cx x i xi h1 ad
      let⟨vb,p1,p2⟩:=pt cy y i yi h2 ae
      have ak:=mEZ w n e v he d af xi yi va vb q2 p2;rw[eLZ ad,eLZ ae,List.range'_succ];simp only[Op.eqItems,Sem.run_bind,q1,p1,ak,Result.andThen_ok,kU];cases v.eqb xi yi
      .simp
      .simp only[ZAO,ZBI,ZCi,ZBP];exact ih (i+1) (by omega)
    have:=key m 0 (by omega);rw[<-List.range_eq_range'] at this;exact this
  grind
theorem kAZ{op}{t}{x y}{a b}(w)(h1:a≠.nilIface)(h2:(∃xs,a= .agg xs)->P.eqGuardType P.depth t=false):
 (eqGuard op t x y a b).run P w= .ok () w:=by
 cases a with
 |nilIface=>simp_all
 |agg xs=>
  cases b with
  |agg ys=>exact run_eqGuard_agg w op t x y xs ys (h2 ⟨xs,rfl⟩)
  |_=>cases op<;>rfl
 |_=>cases op<;>rfl
theorem j0Z{a}{K}{r:β}{v}(h:AS H a K=some r)(hH:bI z H)(R:bE z a v):∃A n c,v= .slice A n c/\n<=c/\c<=maxLen/\(A=none->n=0)/\K n=some r:=by
 unfold AS at h;split at h
 .cases R with
  |slV _ _ _ A aa=>exact⟨A,0,0,rfl,ZAN _,by omega,λ_=>rfl,h⟩
  |slE=>exact⟨_,0,0,rfl,ZAN _,by omega,λ_=>rfl,h⟩
  |sl _ _ _ _ g sz m c aa hn hs hm=>exact⟨_,_,c,rfl,hn,hm,(λh=>by cases h),h⟩
 .split at h
  .rename_i n ab;obtain⟨_,g,sz,c,aa,rfl,h1,h2⟩:=iaZ ab hH R;exact⟨_,_,c,rfl,h1,h2,(λh=>by cases h),h⟩
  let⟨fz,e,u,l,hg,he,h3⟩:=dDZ h
  obtain⟨A,c,rfl,hc,hA,_,hm⟩:=iuZ hH hg R;refine⟨A,_,c,rfl,hc,hm,λh0=> ?_,h3⟩;rcases ZBs l.length with h|h
  .exact h
  .let⟨g,sz,n,_,h1,_⟩:=hA (by omega)
   rw[h0] at h1;cases h1
 .rename_i u l;obtain⟨A,c,rfl,hc,hm,hn,hA⟩:=cU.sl R.v;exact⟨A,_,c,rfl,hc,hm,λh0=>by have:=hn h0;omega,h⟩
 .obtain⟨rfl,_⟩:=R.v.opq;exact⟨none,0,0,rfl,ZAN _,by unfold maxLen;omega,λ_=>rfl,h⟩
 .rename_i f u x;have hc:=R.v.scal rfl rfl
  match x,h,hc with
  |.inl l,h,hc=>
   let⟨A,c,h1,h2,h3,h4,_⟩:=hc
   simp[ZBk] at h1;subst h1;exact⟨A,_,c,rfl,h2,h3,λh0=>by have:=h4 h0;omega,h⟩
  |.inr none,h,hc=>
   have hc:[v]=[Value.slice none 0 0]:=hc;simp[ZBk] at hc;subst hc;exact⟨none,0,0,rfl,ZAN _,by unfold maxLen;omega,λ_=>rfl,h⟩
  |.inr (some (k,off,n)),h,hc=>
   rcases hc with⟨A,_,rfl,h1⟩|⟨g,sz,m,c,_,h2,_,h3,h1⟩
   .simp[ZBk] at h1;subst h1;exact⟨A,0,0,rfl,ZAN _,by unfold maxLen;omega,λ_=>rfl,h⟩
   .simp[ZBk] at h1;subst h1;exact⟨_,n,c,rfl,h2,h3,(λh=>by cases h),h⟩
 grind
theorem qLZ{a b}{q}{va vb}(h:FK a b=some q)(R:bE z a va)(hb:bE z b vb):
 ∃p p',va= .pointer p/\vb= .pointer p'/\(p=none\/p'=none)/\q=(p.isNone&&p'.isNone):=by
 unfold FK at h;split at h<;>first|(done)|skip
 all_goals simp at h
 all_goals subst h
 .obtain⟨rfl,_⟩:=R.v.opq;obtain⟨rfl,_⟩:=hb.v.opq<;>grind
 .obtain⟨rfl,_⟩:=hb.v.opq;cases R<;>grind
 .obtain⟨rfl,_⟩:=R.v.opq;cases hb<;>grind
 .obtain⟨rfl,_⟩:=hb.v.opq;cases R<;>grind
 .obtain⟨rfl,_⟩:=R.v.opq;cases hb<;>grind
 .rename_i t l;obtain⟨rfl,_⟩:=hb.v.opq;rcases R.v.scal rfl rfl with⟨h1,h2⟩|⟨h1,b,off,h2,_⟩
  .obtain rfl:=List.cons.inj h2|>.1;refine⟨none,none,rfl,rfl,.inl rfl,?_⟩;rw[ZBY.1 h1];rfl
  .obtain rfl:=List.cons.inj h2|>.1;refine⟨_,none,rfl,rfl,.inr rfl,?_⟩;revert h1;cases((l)) with
   |nil=>simp_all
   |cons x r=>intro _;rfl
theorem p8Z{a b}{q}{va vb}(h:FL a b=some q)(R:bE z a va)(hb:bE z b vb):
 ∃p p',va= .map p/\vb= .map p'/\(p=none\/p'=none)/\q=(p.isNone&&p'.isNone):=by
 unfold FL at h;split at h<;>first|(done)|skip
 all_goals simp at h
 .obtain⟨rfl,_⟩:=hb.v.opq;cases R<;>grind
 .obtain⟨rfl,_⟩:=R.v.opq;cases hb<;>grind
 .obtain⟨rfl,_⟩:=R.v.opq;obtain⟨rfl,_⟩:=hb.v.opq<;>grind
theorem roZ{a b}{q}{R vb}(h:FM a b=some q)(ha:bE z a R)(hb:bE z b vb):
 (R= .nilFunc/\vb= .nilFunc/\q=true)\/(∃f x y,R= .func f x y/\vb= .nilFunc/\q=false)\/(∃f x y,R= .nilFunc/\vb= .func f x y/\q=false):=by
 unfold FM at h;split at h<;>first|(cases h;done)|skip
 all_goals simp at h
 all_goals subst h
 .obtain⟨rfl,_⟩:=ha.v.opq;obtain⟨rfl,_⟩:=hb.v.opq<;>grind
 .obtain⟨rfl,_⟩:=hb.v.opq;cases ha<;>grind
 .obtain⟨rfl,_⟩:=ha.v.opq;cases hb<;>grind
theorem r2Z{n}{K}{r:β}{A:Option Addr}(h:rH n K=some r)(R:A=none->n=0):K A.isNone=some r:=by
 unfold rH at h;split at h
 .rename_i hq;cases A with
  |none=>rw[<-hq (R rfl)] at h;exact h
  |some a=>exact h
 grind
def OF(P:Program)(t:TypeId)(R vb:Value):Prop:=
 R≠.nilIface/\((∃xs,R= .agg xs)->P.eqGuardType P.depth t=false)/\binOp .eql t R vb=(do pure (.bool (<-Op.equal t R vb)))/\binOp .neq t R vb=(do pure (.bool (!(<-Op.equal t R vb))))
theorem dWZ{t}{x y}{w}{q}(h:∀d,(Op.equalIn (d+1) t x y).run P w= .ok q w):(Op.equal t x y).run P w= .ok q w:=h 9999
theorem qZZ{t}{a b}{K}{r:β}{va vb}(h:FN P t a b H K=some r)(hH:bI z H)(ha:bE z a va)(hb:bE z b vb)
 (ab:∀k,P.underlying t≠some (.int k))(ac:P.underlying t≠some .string):
 ∃q,(Op.equal t va vb).run P z.w= .ok q z.w/\K q=some r/\OF P t va vb:=by
 unfold FN at h;split at h
 .rename_i e R;obtain⟨q,h1,h2⟩:=agZ.1 h;obtain⟨p,p',rfl,rfl,hn,rfl⟩:=qLZ h1 ha hb;refine⟨_,dWZ λd=> ?_,h2,by simp,by simp,rfl,rfl⟩;rcases hn with rfl|rfl
  .cases p'<;>simp[Op.equalIn,Sem.run_bind,run_underlying R]
  .cases p<;>simp[Op.equalIn,Sem.run_bind,run_underlying R]
 .rename_i k e R;obtain⟨q,h1,h2⟩:=agZ.1 h;obtain⟨p,p',rfl,rfl,hn,rfl⟩:=p8Z h1 ha hb;refine⟨_,dWZ λd=> ?_,h2,by simp,by simp,rfl,rfl⟩;rcases hn with rfl|rfl
  .cases p'<;>simp[Op.equalIn,Sem.run_bind,run_underlying R]
  .cases p<;>simp[Op.equalIn,Sem.run_bind,run_underlying R]
 .rename_i p1 p2 p3 R;obtain⟨q,h1,h2⟩:=agZ.1 h;rcases roZ h1 ha hb with⟨rfl,rfl,rfl⟩|⟨f,x,y,rfl,rfl,rfl⟩|⟨f,x,y,rfl,rfl,rfl⟩
  all_goals exact⟨_,dWZ λd=>by simp[Op.equalIn,Sem.run_bind,run_underlying R],h2,by simp,by simp,rfl,rfl⟩
 .rename_i e R;split at h
  .obtain⟨rfl,_⟩:=ha.v.opq;obtain⟨rfl,_⟩:=hb.v.opq;exact⟨_,dWZ λd=>by simp[Op.equalIn,Sem.run_bind,run_underlying R],h,by simp,by simp,rfl,rfl⟩
  .obtain⟨rfl,_⟩:=hb.v.opq;obtain⟨A,n,c,rfl,_,_,hA,h2⟩:=j0Z h hH ha;exact⟨_,dWZ λd=>run_equalIn_slice_nil z.w d t e A n c R,r2Z h2 hA,by simp,by simp,rfl,rfl⟩
  .obtain⟨rfl,_⟩:=ha.v.opq;obtain⟨A,n,c,rfl,_,_,hA,h2⟩:=j0Z h hH hb;exact⟨_,dWZ λd=>by simp[Op.equalIn,Sem.run_bind,run_underlying R],r2Z h2 hA,by simp,by simp,rfl,rfl⟩
  grind
 .obtain⟨u,h1,h2⟩:=agZ.1 h;obtain⟨h3,h4⟩:=aeZ.1 h2;simp only[ZAE,ZAk] at h3;obtain⟨x,h5,h6⟩:=bVZ h4 ha;obtain⟨y,h7,h8⟩:=bVZ h6 hb;have hq:(Op.equal t va vb).run P z.w= .ok (u.eqb x y) z.w:=mEZ z.w dB t u h3.1 10000 (by simp_all[dB]) x y va vb h5 h7;have aa:(∃xs ys,va= .agg xs/\vb= .agg ys)\/(∃p q,va= .bool p/\vb= .bool q):=by
   have he:=h3.1;unfold dB at he;simp only[eqT] at he;split at he
   .simp_all
   .simp_all
   .exact .inr ⟨x,y,h5.bool,h7.bool⟩
   .simp_all
   .obtain⟨c1,_,rfl⟩:=h5;obtain⟨c2,_,rfl⟩:=h7;exact .inl ⟨_,_,rfl,rfl⟩
   .obtain⟨c1,_,rfl⟩:=h5;obtain⟨c2,_,rfl⟩:=h7;exact .inl ⟨_,_,rfl,rfl⟩
   .obtain⟨c1,_,rfl⟩:=h5;obtain⟨c2,_,rfl⟩:=h7;exact .inl ⟨_,_,rfl,rfl⟩
   .grind
  refine⟨_,hq,h8,?_⟩;rcases aa with⟨xs,ys,rfl,rfl⟩|⟨p,q,rfl,rfl⟩
  .exact⟨by simp,λ_=>h3.2,rfl,rfl⟩
  .exact⟨by simp,by simp,rfl,rfl⟩
theorem sTZ{op}{t u}{a b}{K}{r:β}{va vb}(x y)(h:zX P op t u a b H K=some r)(hH:bI z H)(ha:bE z a va)(hb:bE z b vb):
 OkP P (do eqGuard op t x y va vb;binOp op t va vb) z K r:=by
 have R:∀{s},va≠.nilIface->((∃xs,va= .agg xs)->P.eqGuardType P.depth t=false)->OkP P s z K r->OkP P (do eqGuard op t x y va vb;s) z K r:=λ{s} h1 h2 ⟨q,v,e1,e2,e3⟩=>
  ⟨q,v,by simp_all[kAZ],e2,e3⟩
 unfold zX at h;split at h
 .split at h
  .let⟨m,h1,h2⟩:=agZ.1 h
   let⟨n,h3,h4⟩:=agZ.1 h2
   let⟨h5,h6⟩:=aeZ.1 h4
   obtain rfl:=efZ h1 ha;obtain rfl:=efZ h3 hb;exact R (by simp) (by simp) (sSZ h6 h5)
  grind
 .let⟨m,h1,h2⟩:=agZ.1 h
  let⟨n,h3,h4⟩:=agZ.1 h2
  obtain rfl:=erZ h1 ha;obtain rfl:=erZ h3 hb;exact R (by simp) (by simp) (thZ h4)
 .rename_i aa ab;split at h
  .let⟨q,h1,h2,h3,h4,h5,h6⟩:=qZZ h hH ha hb (λk e=>aa k e) (λe=>ab e)
   refine R h3 h4 ⟨_,_,?_,.mkB q,h2⟩;rw[h5];simp[h1]
  .let⟨q,h1,h2,h3,h4,h5,h6⟩:=qZZ h hH ha hb (λk e=>aa k e) (λe=>ab e)
   refine R h3 h4 ⟨_,_,?_,.mkB (!q),h2⟩;rw[h6];simp[h1]
  .cases h
theorem tRZ{op}{t}{a}{K}{r:β}{va}(h:IT P op t a K=some r)(R:bE z a va):OkP P (Op.unary op va) z K r:=by
 unfold IT at h;split at h
 .let⟨x,h1,h2⟩:=agZ.1 h
  obtain rfl:=bZZ h1 R;exact .mk' (by simp[Op.unary]) (.mkB _) h2
 .let⟨x,h1,h2⟩:=agZ.1 h
  obtain rfl:=efZ h1 R;exact .mk' (by simp[Op.unary,Op.intArith]) (.mkI _ _) h2
 .let⟨x,h1,h2⟩:=agZ.1 h
  obtain rfl:=efZ h1 R;exact .mk' (by simp[Op.unary,Op.intBits,xN]) (.mkI _ _) h2
 grind
theorem pyZ{t}{c a b}{K}{r:β}{vc va vb}(h:xO P t c a b K=some r)(hc:bE z c vc)(ha:bE z a va)(hb:bE z b vb):
 OkP P (do pure (if<-asBool vc then va else vb)) z K r:=by
 let⟨q,h1,h2⟩:=agZ.1 h
 obtain rfl:=bZZ h1 hc;have R:(do pure (if<-asBool (.bool q) then va else vb):Sem Value).run P z.w= .ok (if q then va else vb) z.w:=by simp[asBool]
 split at h2
 .split at h2
  .rename_i x y hx hy;obtain rfl:=bZZ hx ha;obtain rfl:=bZZ hy hb;refine .mk' R ?_ h2;cases q
   .exact .mkB _
   .exact .mkB _
  .rename_i x hx aa;obtain rfl:=bZZ hx ha
   let⟨h3,h4⟩:=aeZ.1 h2
   subst h3;exact .mk' R (.mkB _) h4
  .rename_i y hx hy;obtain rfl:=bZZ hy hb
   let⟨h3,h4⟩:=aeZ.1 h2
   simp at h3;subst h3;exact .mk' R (.mkB _) h4
  simp_all
 .cases q
  .exact .mk' R hb h2
  .exact .mk' R ha h2
end
section
variable {P : Program} {β : Type} {z : Z} {H : Hp}
theorem tCZ(v)(h:v.oneCell'=true\/∃cs,v= .tuple cs):bE z (AV.lit v) v:=by
 unfold AV.lit;split
 .exact .mkI _ _
 .exact .mkB _
 .rename_i s;exact .mkS _
 .exact .junk _
 .exact .junk _
 .refine .p _ _ _ (.mkSc ⟨rfl,?_⟩ rfl)
  simp_all
theorem uVZ(l)(h:∀v∈l,v.oneCell'=true):bQ z (l.map AV.lit) l:=by
 refine⟨by simp,λi a v h1 h2=> ?_⟩
 grind[ZAW,tCZ,ZAI]
theorem g0Z{t}{l}(h:AO P t=some l):∃i v,P.info? t=some i/\i.zero=some v/\bQ z l v.cells.toList/\∀u∈v.cells,u.oneCell'=true:=by
 let⟨i,h1,h2⟩:=agZ.1 h
 let⟨v,R,h4⟩:=agZ.1 h2
 grind[bq_true,bq_false,ZAV,ZCP,uVZ]
theorem jbZ{t}{i}{v}(h1:P.info? t=some i)(R:i.zero=some v)(w):(zeroValue t).run P w= .ok v w:=by
 simp[zeroValue,typeInfo,h1,R]
theorem bQ.setFrom{c l}{vs us}(h:bQ z c vs)(R:bQ z l us)(j)(hj:j+l.length<=c.length):bQ z (setFrom c j l) (setFrom vs j us):=by
 refine⟨by rw[dkZ,dkZ];exact h.1,λi a v h1 h2=> ?_⟩;rw[djZ _ _ _ _ hj] at h1;rw[djZ _ _ _ _ (by rw[<-R.1,<-h.1];omega),<-R.1] at h2;split at h1
 .rename_i hc;rw[ZAM hc] at h2;exact R.2 _ a v h1 h2
 .rename_i hc;rw[ZAK hc] at h2;exact h.2 _ a v h1 h2
theorem rgZ(cs):∀(a) (off k),((cs.zipIdx k).foldl (λ(cs:Array Value) x=>cs.setIfInBounds (off+x.2) x.1) a).toList=Go.Ab.setFrom a.toList (off+k) cs:=by
 induction cs<;>simp_all[Go.Ab.setFrom,ZB5]
theorem f5Z{pl}:∀{aa} {R} {c c'} {cs},tP pl c aa=some c'->bQ z c cs.toList->(∀u∈cs,u.oneCell'=true)->
 aa.length=R.length->(∀(i:Nat) x y,aa[i]? =some x->R[i]? =some y->x.1=y.1/\bE z x.2 y.2)->
 ∃cs',Instr.fill pl cs R=some cs'/\bQ z c' cs'.toList/\∀u∈cs',u.oneCell'=true
 |[],[],c,c',cs,h,hc,h1,_,_=>by
  simp[tP] at h;subst h;exact⟨cs,rfl,hc,h1⟩
 |(i,a)::aa,(i',v)::R,c,c',cs,h,hc,h1,hl,hp=>by
  obtain⟨rfl,ha⟩:=hp 0 _ _ rfl rfl;simp[tP] at h
  let⟨⟨off,ac⟩,h2,h3⟩:=agZ.1 h
  let⟨l,h4,h5⟩:=agZ.1 h3
  cases hb:(Nat.beq l.length ac&&Nat.ble (off+l.length) c.length)<;>rw[hb] at h5<;>simp only[bq_false] at h5
  .grind
  .simp[afZ,ZAm] at hb
   let⟨hs,ad⟩:=hb
   let⟨q1,q2,q3⟩:=cOZ h4 ha
   have af:=by have:=q1.1;simpa using this.symm
   have ag:=by have:=hc.1;simpa using this.symm
   have bS:=hc.setFrom q1 off ad;have ab:(v.cells.zipIdx.foldl (λcs x=>cs.setIfInBounds (off+x.2) x.1) cs).toList=setFrom cs.toList off v.cells.toList:=by
    rw[<-Array.foldl_toList,Array.toList_zipIdx];exact rgZ _ _ _ _
   obtain⟨cs',p1,p2,p3⟩:=f5Z h5 (by rw[ab];exact bS) (λu hu=>by
    have ae:u∈setFrom cs.toList off v.cells.toList:=by rw[<-ab];simpa using hu
    let⟨k,hk⟩:=ZAR ae
    rw[djZ _ _ _ _ (by simp;omega)] at hk;split at hk
    .exact q2 u (by have:=ZAI hk;simpa using this)
    .exact h1 u (by have:=ZAI hk;simpa using this)) (by simpa using hl) (λi x y e1 e2=>hp (i+1) x y (by simpa using e1) (by simpa using e2))
   refine⟨cs',?_,p2,p3⟩;simp only[Instr.fill,h2];rw[ZAK (by simp only[ZA3,ZAp,bne_iff_ne,ne_eq,not_or];omega)];exact p1
 |[],_::_,_,_,_,_,_,_,hl,_=>by simp at hl
 |_::_,[],_,_,_,_,_,_,hl,_=>by simp at hl
def DL(z:Z)(aa:List (Nat×AV))(R:List (Nat×Value)):Prop:=
 aa.length=R.length/\∀(i:Nat) x y,aa[i]? =some x->R[i]? =some y->x.1=y.1/\bE z x.2 y.2
theorem oCZ{t}{aa}{R}{K}{r:β}(h:tQ P t aa K=some r)(hp:DL z aa R.toList):
 OkP P (Instr.build t R) z K r:=by
 let⟨l,h1,h2⟩:=agZ.1 h
 obtain⟨i,v0,q1,q2,q3,q4⟩:=g0Z h1;split at h2
 .rename_i fs hu
  let⟨ab,h3,h4⟩:=agZ.1 h2
  let⟨c,h5,h6⟩:=agZ.1 h4
  let⟨cs',p1,p2,p3⟩:=f5Z h5 q3 q4 hp.1 hp.2
  refine .mk' (run_build z.w t R cs' ?_) (.agg _ _ ?_ p3 λi x v e1 e2=>p2.2 i x v e1 (by simpa using e2)) h6
  .unfold Program.built;simp only[q1,hu,q2,h3];exact p1
  .have:=p2.1;simpa using this.symm
 .rename_i m e hu
  let⟨ie,h3,h4⟩:=agZ.1 h2
  let⟨c,h5,h6⟩:=agZ.1 h4
  let⟨cs',p1,p2,p3⟩:=f5Z h5 q3 q4 hp.1 hp.2
  refine .mk' (run_build z.w t R cs' ?_) (.agg _ _ ?_ p3 λi x v e1 e2=>p2.2 i x v e1 (by simpa using e2)) h6
  .unfold Program.built;simp[q1,hu,q2,h3];exact p1
  .have:=p2.1;simpa using this.symm
 simp_all
theorem tWZ{t}{a}{K}{r:β}{v}(ty)(h:IR P t H a K=some r)(hH:bI z H)(ha:bE z a v):
 ∃n:Nat,(Builtin.len_ #[t] ty #[v]).run P z.w= .ok (.int .i64 (n:Int)) z.w/\K n=some r:=by
 unfold IR at h;split at h
 .rename_i R
  let⟨l,h1,h2⟩:=agZ.1 h
  obtain rfl:=erZ h1 ha;exact⟨l.length,by simp[Builtin.len_,run_underlying R];rfl,h2⟩
 .rename_i e R;obtain⟨A,n,c,rfl,_,_,_,h2⟩:=j0Z h hH ha;exact⟨n,by simp[Builtin.len_,run_underlying R,goInt],h2⟩
 .rename_i k e R;unfold KC at h;split at h
  .obtain⟨rfl,_⟩:=ha.v.opq;exact⟨0,by simp[Builtin.len_,run_underlying R,goInt],h⟩
  .rename_i id;split at h
   .rename_i fz kt vt m hg;cases ha with|mp _ g sz n aa=>
    let⟨_,_,_,es,a1,a2,_⟩:=hH.real hg aa
    refine⟨m.1.length,?_,h⟩;simp[Builtin.len_,run_underlying R,goInt,getObj,Sem.run,a1,a2]
   .cases h
  .cases h
 .rename_i n e R;exact⟨n,by simp[Builtin.len_,run_underlying R,goInt],h⟩
 grind
theorem iPZ{k}:∀{l} {ns} {vs},DJ k l=some ns->bQ z l vs->vs=ns.map (Value.int k)
 |[],ns,vs,h,R=>by
  simp[DJ] at h;subst h;exact ZAY R.1.symm
 |a::l,ns,vs,h,R=>by
  let⟨n,h1,h2⟩:=agZ.1 h
  obtain⟨r,h3,rfl⟩:=ZAH.1 h2
  match vs,R with
  |[],R=>have:=R.1;simp at this
  |v::vs,R=>
   rw[efZ h1 R.head,iPZ h3 R.tail]
   rfl
theorem gPZ{k}(w):∀(l:List Int) (x),((l.map (Value.int k)).foldlM Builtin.min2 (.int k x)).run P w= .ok (.int k (OB l x)) w
 |[],x=>by simp[OB]
 |y::l,x=>by
  simp[Sem.run_bind];exact gPZ w l _
theorem gSZ{k}(w):∀(l:List Int) (x),((l.map (Value.int k)).foldlM Builtin.max2 (.int k x)).run P w= .ok (.int k (OC l x)) w
 |[],x=>by simp[OC]
 |y::l,x=>by
  simp[Sem.run_bind];exact gSZ w l _
theorem u5Z{n}{K}{r:β}(h:SW n K=some r)(c)(h1:n<=c)(h2:c<=maxLen):K (c:Int)=some r:=by
 unfold SW at h;split at h
 .rename_i hc;rw[<-h];exact hc.choose_spec c h1 (by unfold maxLen at h2;omega)
 grind
end
section
variable {P : Program} {β : Type} {z : Z} {H : Hp}
theorem eCZ{w}{M}{ρ}{u}{a}{t}{xs}{o}(hf:0<u.cells/\(u.isAgg=true->gF P t=true)/\(u.isAgg=false->fQ P t=true))(aa:P.cellsOf t=u.cells)
 (hc:Cl w M ρ u a ((xs.toList.drop o).take u.cells))(w'):∃v,(part t xs o).run P w'= .ok v w'/\cU w M ρ u a v:=by
 let⟨g1,g2,g3⟩:=hf
 have hl:=hc.len;cases hg:u.isAgg
 .have R:u.cells=1:=by cases u<;>first|rfl|simp_all[Ty.isAgg]
  match hvs:(xs.toList.drop o).take u.cells,hl with
  |[],hl=>simp_all
  |_::_::_,hl=>simp_all
  |[v],_=>
   rw[hvs] at hc;have hv:=by
    have:((xs.toList.drop o).take u.cells)[0]? =some v:=by rw[hvs];rfl
    rw[R] at this;simpa using this
   exact⟨v,bgZ w' (g3 hg) hv,.mkSc hc hg⟩
 .refine⟨_,btZ w' (g2 hg) aa (by omega),⟨_,hc,?_⟩⟩;rw[hg];simp;congr 1
  grind
theorem rRZ{s t}{o}{l R v2:List Value}(e:(l.drop o).take (Ty.pair s t).cells=R++v2)(l1:R.length=s.cells)(l2:v2.length=t.cells):
 (l.drop o).take s.cells=R/\(l.drop (o+s.cells)).take t.cells=v2:=by
 simp only[Ty.cells] at e;constructor
 .rw[show(l.drop o).take s.cells=((l.drop o).take (s.cells+t.cells)).take s.cells from by grind,e,ZBQ (by omega),ZAv (by omega)]
 .rw[show(l.drop (o+s.cells)).take t.cells=((l.drop o).take (s.cells+t.cells)).drop s.cells from by rw[List.drop_take,List.drop_drop,ZA5],e,ZBv (by omega),ZBE (by omega),ZBe]
theorem uJZ{f}{d}{em}(w){M}{ρ}
 (hf:∀t u,f t u=true->∀(x) (vx),cU w M ρ u x vx->(Instr.checkKey em d t vx).run P w= .ok () w)
 (R:∀t u,f t u=true->0<u.cells/\(u.isAgg=true->gF P t=true)/\(u.isAgg=false->fQ P t=true)):
 ∀(fs) (o) (u),rG P f fs o u=true->∀(x) (xs),Cl w M ρ u x ((xs.toList.drop o).take u.cells)->
  (forIn (m:=Sem) fs PUnit.unit λf _=>do
   if f.name≠ "_" then do
    Instr.checkKey em d f.type (<-part f.type xs f.offset)
    pure (ForInStep.yield PUnit.unit)
   else pure (ForInStep.yield PUnit.unit)).run P w= .ok PUnit.unit w:=by
 have one:∀(x:Field) (o) (u),(x.name != "_" &&Nat.beq x.offset o&&Nat.beq (P.cellsOf x.type) u.cells&&f x.type u)=true->∀(a) (xs),Cl w M ρ u a ((xs.toList.drop o).take u.cells)->
  x.name≠ "_" /\∃v,(part x.type xs x.offset).run P w= .ok v w/\(Instr.checkKey em d x.type v).run P w= .ok () w:=by
  intro x o u h a xs hc;simp only[ZAE,bne_iff_ne,ne_eq,afZ] at h;obtain⟨⟨⟨h1,rfl⟩,h3⟩,h4⟩:=h;obtain⟨v,q1,q2⟩:=eCZ (R _ _ h4) h3 hc w;exact⟨h1,v,q1,hf _ _ h4 a v q2⟩
 intro fs;induction fs with
 |nil=>simp_all
 |cons x fs ih=>
  intro o u h a xs ha
  match fs,u,h with
  |[],u,h=>
   have h':(x.name != "_" &&Nat.beq x.offset o&&Nat.beq (P.cellsOf x.type) u.cells&&f x.type u)=true:=by
    cases u<;>simpa only[rG] using h
   obtain⟨h1,v1,q1,q2⟩:=one x o u h' a xs ha<;>simp_all
  |y::fs,.pair s t,h=>
   simp only[rG] at h;have h':(x.name != "_" &&Nat.beq x.offset o&&Nat.beq (P.cellsOf x.type) s.cells&&f x.type s)=true/\rG P f (y::fs) (o+s.cells) t=true:=by
    simp only[ZAE] at h⊢;exact h
   obtain⟨h',aa⟩:=h';obtain⟨u1,u2,e1,c1,c2⟩:=ha;obtain⟨ab,ac⟩:=rRZ e1 c1.len c2.len;obtain⟨h1,v1,q1,q2⟩:=one x o s h' a.1 xs (by rw[ab];exact c1);have hr:=ih (o+s.cells) t aa a.2 xs (by rw[ac];exact c2);rw[List.forIn_cons];simp only[h1,ne_eq,not_false_eq_true,ZCr,Sem.run_bind,q1,q2,Result.andThen_ok,Sem.run_pure];exact hr
  |_::_,.one _,h|_::_,.int _,h|_::_,.byte,h|_::_,.bool,h|_::_,.str,h|_::_,.opq,h|_::_,.nat,h|_::_,.ptr _,h|_::_,.sl _,h|_::_,.ref _ _,h|_::_,.arr _ _,h=>simp[rG] at h
theorem boZ(w){M}{ρ}{em}:∀(n) (t) (u),eqT P n t u=true->∀(d),n<=d->∀(x) (vx),cU w M ρ u x vx->
 (Instr.checkKey em d t vx).run P w= .ok () w
 |0,_,_,h,_,_,_,_,_=>by simp[eqT] at h
 |n+1,t,u,h,d,hd,x,vx,hx=>by
  obtain⟨d,rfl⟩:∃d',d=d'+1:=⟨d-1,by omega⟩;have ab:n<=d:=by omega
  have aa:∀(fs) (v) (x) (cx),P.underlying t=some (.struct fs)->(!P.stoodInHeld t&&rG P (λt u=>nZ P t u&&eqT P n t u) fs.toList 0 v)=true->Cl w M ρ v x cx->
   (Instr.checkKey em (d+1) t (.agg cx.toArray)).run P w= .ok () w:=by
   intro fs v x cx R hc h1;simp[ZAE,ZAk] at hc;rw[Instr.checkKey];simp only[Sem.run_bind,run_underlying R,Result.andThen_ok];rw[<-Array.forIn_toList];have:=uJZ (em:=em) w (λt u hf x vx hx=>by
    simp only[ZAE] at hf;exact boZ w n t u hf.2 d ab x vx hx) (λt u hf=>by
    simp only[ZAE] at hf;exact eKZ hf.1) fs.toList 0 v hc.2 x cx.toArray (eUZ h1)
   simp at this⊢;rw[this]
   rfl
  simp only[eqT] at h;split at h
  .rename_i k k' R;obtain rfl:=hx.int;simp[Instr.checkKey,Sem.run_bind,run_underlying R]
  .rename_i k R;simp[Instr.checkKey,Sem.run_bind,run_underlying R]
  .rename_i R;simp[Instr.checkKey,Sem.run_bind,run_underlying R]
  .rename_i R;simp[Instr.checkKey,Sem.run_bind,run_underlying R]
  .rename_i fs v R;obtain⟨cx,h1,rfl⟩:=hx;exact aa fs v x cx R h h1
  .rename_i fs a b R;obtain⟨cx,h1,rfl⟩:=hx;exact aa fs (.pair a b) x cx R h h1
  .rename_i m e m' v R;simp only[ZAE,afZ] at h;obtain⟨⟨⟨rfl,hc⟩,hf⟩,he⟩:=h;obtain⟨cx,h1,rfl⟩:=hx;have ad:=eKZ hf;have hs:=λw=>a6Z w hc (by omega);rw[show(bif (Ty.arr m v).isAgg then Value.agg cx.toArray else cx.headD undef)= .agg cx.toArray from rfl,Instr.checkKey];simp only[Sem.run_bind,run_underlying R,Result.andThen_ok];simp only[Std.Legacy.Range.forIn_eq_forIn_range',Std.Legacy.Range.size,Nat.sub_zero,Nat.add_one_sub_one,Nat.div_one];have ae:=h1.1;have key:∀(k i),i+k=m->∀(f),(∀j,j<m->(f j PUnit.unit).run P w= .ok (.yield PUnit.unit) w)->(forIn (m:=Sem) (List.range' i k) PUnit.unit f).run P w= .ok PUnit.unit w:=by
    intro k;induction k with
    |zero=>intro i _ f _;simp
    |succ k ih=>
     intro i hi f ac;rw[List.range'_succ,List.forIn_cons];simp only[Sem.run_bind,ac i (by omega),Result.andThen_ok];exact ih (i+1) (by omega) f ac
   refine(congrArg (λr=>Result.andThen r _) (key m 0 (by omega) _ λj hj=> ?_)).trans (by simp);have af:((x))[j]? =some (((x))[j]'(by rw[ae];omega)):=ZAC _;have ag:=Cl.nth h1 af
   let⟨va,q1,q2⟩:=eCZ ad hc ag w
   have:=boZ (em:=em) w n e v he d ab _ va q2;simp[Sem.run_bind,hs,q1,this]
  grind
theorem feZ{k v:Ty}:∀{l:List ((k.den×v.den)×Nat)} {x},eI l x=none->∀(i:Nat) e,l[i]? =some e->k.eqb x e.1.1=false
 |((a,b),n)::l,x,h,i,e,he=>by
  simp[eI] at h;cases hq:k.eqb x a<;>rw[hq] at h<;>simp only[ZAL,ZAD] at h
  .match i with
   |0=>simp at he;subst he;exact hq
   |i+1=>exact feZ h i e (by simpa using he)
  grind
theorem cNZ{k v:Ty}:∀{l} {x} {y:v.den×Nat},eI l x=some y->
 ∃(i:Nat) (a:k.den),l[i]? =some ((a,y.1),y.2)/\k.eqb x a=true/\∀j e,j<i->l[j]? =some e->k.eqb x e.1.1=false
 |((a,b),n)::l,x,y,h=>by
  simp[eI] at h;cases hq:k.eqb x a<;>rw[hq] at h<;>simp only[ZAL,ZAD] at h
  .let⟨i,R,h1,h2,h3⟩:=cNZ h
   refine⟨i+1,R,by simpa using h1,h2,λj e hj he=> ?_⟩
   grind
  .simp at h;subst h;exact⟨0,a,rfl,hq,λj e hj=>by omega⟩
def vV(es:List MapEntry)(R:Nat->Bool):Nat->Option (Nat×Value)->Prop
 |i,none=>∀j,j<es.length->R (i+j)=false
 |i,some (p,v)=>∃j e,p=i+j/\es[j]? =some e/\e.val=v/\R (i+j)=true/\∀j',j'<j->R (i+j')=false
theorem ijZ{d}{x}{R}:∀(es) (i),(∀(j) e,es[j]? =some e->Instr.sameNow d x e.key=some (R (i+j)))->∃r,Instr.findNow d x es i=some r/\vV es R i r
 |[],i,_=>⟨none,rfl,λj hj=>by grind⟩
 |e::es,i,h=>by
  have h0:=h 0 e rfl;cases hq:R i
  .obtain⟨r,h1,h2⟩:=ijZ es (i+1) (λj e' ab=>by have:=h (j+1) e' (by simp_all);rwa [show i+(j+1)=i+1+j from by omega] at this);refine⟨r,by simp[Instr.findNow,h0,hq,h1],?_⟩
   match r,h2 with
   |none,h2=>
    intro j hj
    match j with
    |0=>omega
    |j+1=>rw[show i+(j+1)=i+1+j from by omega];exact h2 j (by simp_all)
   |some (p,v),⟨j,e',e1,e2,e3,e4,e5⟩=>
    refine⟨j+1,e',by omega,by simp_all,e3,by grind,λj' aa=> ?_⟩
    match j' with
    |0=>omega
    |j'+1=>grind
  .exact⟨some (i,e.val),by simp[Instr.findNow,h0,hq],0,e,rfl,rfl,rfl,hq,λj' aa=>by omega⟩
theorem e0Z{kt}{x}{R}(w):∀(es) (i),(∀(j) e,es[j]? =some e->(Op.equal kt x e.key).run P w= .ok (R (i+j)) w)->
 ∃r,(Instr.findAsking kt x es i).run P w= .ok r w/\vV es R i r
 |[],i,_=>⟨none,by simp[Instr.findAsking],λj hj=>by grind⟩
 |e::es,i,h=>by
  have h0:=h 0 e rfl;cases hq:R i
  .obtain⟨r,h1,h2⟩:=e0Z w es (i+1) (λj e' ab=>by have:=h (j+1) e' (by simp_all);rwa [show i+(j+1)=i+1+j from by omega] at this);refine⟨r,by simp[Instr.findAsking,h0,hq,h1],?_⟩
   match r,h2 with
   |none,h2=>
    intro j hj
    match j with
    |0=>omega
    |j+1=>rw[show i+(j+1)=i+1+j from by omega];exact h2 j (by simp_all)
   |some (p,v),⟨j,e',e1,e2,e3,e4,e5⟩=>
    refine⟨j+1,e',by omega,by simp_all,e3,by grind,λj' aa=> ?_⟩
    match j' with
    |0=>omega
    |j'+1=>grind
  .exact⟨some (i,e.val),by simp[Instr.findAsking,h0,hq],0,e,rfl,rfl,rfl,hq,λj' aa=>by omega⟩
theorem dMZ{R}{k}(h:tO P R k=true):ty P R=some k/\eqT P dB R k=true:=by
 simp_all[tO,ZAp]
theorem cRZ{kt}{k}(hk:tO P kt k=true)(w){M}{ρ}{x}{vx}(hx:cU w M ρ k x vx)(es)(ks:List k.den)(hl:ks.length=es.length)
 (ad:∀(j:Nat) a e,ks[j]? =some a->es[j]? =some e->cU w M ρ k a e.key):
 ∃r,(Instr.findKey kt vx es).run P w= .ok r w/\vV es (λj=>match ks[j]? with|some a=>k.eqb x a|none=>false) 0 r:=by
 have he:=(dMZ hk).2;have bG:∀(j:Nat) e,es[j]? =some e->∃a,ks[j]? =some a/\cU w M ρ k a e.key:=λj e hj=>by
  let⟨a,ha⟩:=bfZ hl.symm hj<;>grind
 cases hu:P.underlying kt with
 |none=>simp_all[dB,eqT]
 |some d=>
  have ab:(∀j e,es[j]? =some e->(Op.equal kt vx e.key).run P w= .ok (match ks[0+j]? with|some a=>k.eqb x a|none=>false) w):=λj e hj=>by
   let⟨a,ha,hv⟩:=bG j e hj
   rw[ZA1,ha];exact mEZ w dB kt k he 10000 (by simp_all[dB]) x a vx e.key hx hv
  by_cases aa:(match P.underlying kt with|some (.array _ _)|some (.struct _)=>true|_=>false)=true
  .rw[run_findKey_eq w aa];exact e0Z w es 0 ab
  .have ac:∃r,Instr.findNow d vx es 0=some r/\vV es (λj=>match ks[j]? with|some a=>k.eqb x a|none=>false) 0 r:=by
    refine ijZ es 0 λj e hj=> ?_
    let⟨a,ha,hv⟩:=bG j e hj
    simp only[ZA1,ha];unfold dB at he;simp only[eqT] at he;split at he
    .rename_i q q' R;rw[hu] at R;cases R;rw[hx.int,hv.int];simp[Instr.sameNow]
     rfl
    .rename_i q R;rw[hu] at R;cases R;have e1:=hx.scal rfl rfl;have e2:=hv.scal rfl rfl;simp only[Cl,ZBR,ZBk] at e1 e2;rw[e1,e2];simp only[Instr.sameNow,ZCr,ZAV];show(((x:UInt8).toNat:Int)==((a:UInt8).toNat:Int))=((x:UInt8)==a);rw[Bool.eq_iff_iff];simp only[ZBp]
     grind[UInt8.toNat_inj]
    .rename_i R;rw[hu] at R;cases R;rw[hx.bool,hv.bool]
     rfl
    .rename_i R;rw[hu] at R;cases R;rw[hx.str,hv.str];simp only[Instr.sameNow,ZAV,beq_toListBytes,cvZ]
     rfl
    .rename_i R;rw[R] at aa;simp_all
    .rename_i R;rw[R] at aa;simp_all
    .rename_i R;rw[R] at aa;simp_all
    .grind
   let⟨r,h1,h2⟩:=ac
   exact⟨r,by simp[Instr.findKey,Sem.run_bind,run_underlying hu,h1],h2⟩
theorem h7Z:∀{l r},qH l r=true->l.length=r.length/\∀(i:Nat) a b,l[i]? =some a->r[i]? =some b->wQ a b=true
 |[],[],_=>⟨rfl,λi a b h=>by grind⟩
 |x::l,y::r,h=>by
  simp[qH] at h
  let⟨h1,h2⟩:=h7Z h.2
  refine⟨by simp[h1],λi a b R hb=> ?_⟩
  match i with
  |0=>simp at R hb;subst R;subst hb;exact h.1
  |i+1=>exact h2 i a b (by simpa using R) (by simpa using hb)
 |[],_::_,h|_::_,[],h=>by grind[qH]
theorem ohZ{a b}(h:wQ a b=true):a=b:=by
 unfold wQ at h;split at h
 .simp[ZBp] at h;rw[h.1,h.2]
 .simp at h;rw[h]
 .rename_i x y
  let⟨⟨R⟩⟩:=y
  simp at h
  let⟨h1,h2⟩:=h
  rw[h2] at h1;obtain rfl:=ZAY h1.symm;subst h2
  rfl
 .rfl
 .rfl
 grind
theorem sCZ{l r}(h:qH l r=true):l=r:=by
 let⟨h1,h2⟩:=h7Z h
 apply ZA8 λi=> ?_
 grind[ZAC,ohZ,ZAg]
theorem Cl.zero{w}{M}{ρ}:{u:Ty}->u.plain=true->Cl w M ρ u u.zero u.zeros
 |.int _,_|.bool,_=>rfl
 |.byte,_=>rfl
 |.str,_=>rfl
 |.sl t,_=>⟨none,0,rfl,ZAN _,by omega,λ_=>rfl,λh=>absurd rfl h⟩
 |.ref f t,_=>rfl
 |.ptr t,_=>.inl ⟨rfl,rfl⟩
 |.one t,h=>Cl.zero (u:=t) h
 |.pair a b,h=>by
  simp[Ty.plain] at h;exact⟨_,_,rfl,Cl.zero h.1,Cl.zero h.2⟩
 |.arr n t,h=>by
  refine⟨by simp[Ty.zero],List.replicate n t.zeros,by simp,rfl,λi e u h1 h2=> ?_⟩;have hi:=by
   have:=(ZAB.1 h2).1;simpa using this
  have R:(List.replicate n t.zero)[i]? =some e:=h1;simp[hi] at R h2;subst R;subst h2;exact Cl.zero h
theorem cPZ{t}{u}(h:nY P t u=true):∃i v,P.info? t=some i/\i.zero=some v/\∀w M ρ,cU w M ρ u u.zero v:=by
 unfold nY at h;simp at h
 let⟨hp,h⟩:=h
 split at h
 .rename_i i hi;split at h
  .rename_i v hv;simp at h;have hz:=sCZ h.1;refine⟨i,v,hi,hv,λw M ρ=>⟨u.zeros,Cl.zero hp,?_⟩⟩;have h2:=h.2;split at h2
   .rename_i cs;rw[h2];simp;have R:cs.toList=u.zeros:=hz;rw[<-R]
   .rename_i aa;simp at h2;rw[h2];rw[<-hz];cases v<;>first|rfl|exact absurd rfl (aa _)
  .cases h
 grind
theorem eJZ{c}{a}{v}{q}(h:bE z a v):bE z (HJ c a q) (if c then .tuple #[v,.bool q] else v):=by
 cases c
 .exact h
 .refine .tup _ _ rfl λi x u h1 h2=> ?_
  match i with
  |0=>simp_all
  |1=>simp at h1 h2;subst h1;subst h2;exact .mkB q
  |i+2=>grind
theorem hIZ{t kt et}{g}{es:Array MapEntry}{R}{vk}{c}{r}{i}{zv}(hu:P.underlying t=some (.map kt et))
 (hg:z.w.heap[g]? =some (.map es R))(aa:(Instr.checkKey es.isEmpty 10000 kt vk).run P z.w= .ok () z.w)(hf:(Instr.findKey kt vk es.toList).run P z.w= .ok r z.w)(hi:r=none->P.info? et=some i/\i.zero=some zv):
 (Instr.lookup t (.map (some g)) vk c).run P z.w= .ok (let x:=(match r with|some (_,v)=>v|none=>zv);if c then .tuple #[x,.bool r.isSome] else x) z.w:=by
 have ho:(getObj g).run P z.w= .ok (.map es R) z.w:=by simp[getObj,Sem.run,hg]
 cases r with
 |none=>
  obtain⟨h1,h2⟩:=hi rfl;cases c<;>simp[Instr.lookup,run_underlying hu,ho,aa,hf,jbZ h1 h2]
 |some p=>cases c<;>simp[Instr.lookup,run_underlying hu,ho,aa,hf]
theorem j9Z{k:Ty}{x}{K}{r:β}:∀{l},vB l x K=some r->
 ((∀(i:Nat) (e),l[i]? =some e->k.eqb x e.1=false)/\K none=some r)\/∃(i:Nat) (e:k.den×AV),l[i]? =some e/\k.eqb x e.1=true/\(∀(j) (e'),j<i->l[j]? =some e'->k.eqb x e'.1=false)/\K (some e.2)=some r
 |[],h=>.inl ⟨λi e h=>by grind,h⟩
 |(a,b)::l,h=>by
  simp[vB] at h;cases hq:k.eqb x a<;>rw[hq] at h<;>simp[bq_false] at h
  .rcases j9Z h with⟨h1,h2⟩|⟨i,e,h1,h2,h3,h4⟩
   .refine .inl ⟨λi e he=> ?_,h2⟩
    match i with
    |0=>simp at he;subst he;exact hq
    |i+1=>exact h1 i e (by simpa using he)
   .refine .inr ⟨i+1,e,by simpa using h1,h2,λj e' hj R=> ?_,h4⟩
    match j with
    |0=>simp at R;subst R;exact hq
    |j+1=>exact h3 j e' (by omega) (by simpa using R)
  .exact .inr ⟨0,(a,b),rfl,hq,λj e' hj=>by omega,h⟩
theorem vV.split{es}{k:Ty}{ks:List k.den}{x}{r}(hl:ks.length=es.length)(h:vV es (λj=>match ks[j]? with|some a=>k.eqb x a|none=>false) 0 r):
 (r=none/\∀(i:Nat) (a),ks[i]? =some a->k.eqb x a=false)\/∃(i:Nat) (a:k.den) (e:MapEntry),r=some (i,e.val)/\ks[i]? =some a/\es[i]? =some e/\k.eqb x a=true/\∀(j) (R),j<i->ks[j]? =some R->k.eqb x R=false:=by
 match r,h with
 |none,h=>
  refine .inl ⟨rfl,λi a ha=> ?_⟩;have hi:i<es.length:=by
   have:=(ZAB.1 ha).1;omega
  have:=h i hi
  simp_all
 |some (p,v),⟨j,e,h1,h2,h3,h4,h5⟩=>
  grind
theorem lzZ{t}{m ix}{c}{K}{r:β}{vm vk}(h:nF P t m ix c H K=some r)(hH:bI z H)(hm:bE z m vm)(hk:bE z ix vk):
 OkP P (Instr.lookup t vm vk c) z K r:=by
 unfold nF at h;split at h
 .rename_i id;cases hm with|mp _ g sz n ae=>
  split at h
  .rename_i fz k v M hg
   let⟨h1,h2⟩:=aeZ.1 h
   let⟨x,h3,h4⟩:=bVZ h2 hk
   unfold xM at h1;split at h1
   .rename_i kt et hu;simp only[ZAE,ZAp] at h1
    let⟨⟨h5,h6⟩,h7⟩:=h1
    let⟨i,zv,z1,z2,z3⟩:=cPZ h7
    let⟨_,_,_,es,a1,a2,a3,_⟩:=hH.real hg ae
    have aa:=boZ (em:=es.isEmpty) z.w dB kt k (dMZ h5).2 10000 (by unfold dB;omega) x vk h3;obtain⟨q,f1,f2⟩:=cRZ h5 z.w h3 es.toList (M.1.map (·.1.1)) (by simp[a2]) (λj a e e1 e2=>by
     rw[ZAW] at e1;obtain⟨y,e3,rfl⟩:=ZAH.1 e1;exact(a3 j y e e3 (by simpa using e2)).1)
    have R:=hIZ (c:=c) hu a1 aa f1 (λ_=>⟨z1,z2⟩);unfold wT at h4;rcases f2.split (by simp[a2]) with⟨rfl,f3⟩|⟨j,a,e,rfl,f3,f4,f5,f6⟩
    .have hm:lG M x=none:=by
      unfold lG;cases hq:eI M.1 x with
      |none=>rfl
      |some y=>
       let⟨j,a,q1,q2,_⟩:=cNZ hq
       have:=f3 j a (by simp[q1]);rw[q2] at this;cases this
     rw[hm] at h4;exact .mk' R (eJZ (cpZ (z3 _ _ _))) h4
    .rw[ZAW] at f3;obtain⟨y,f7,rfl⟩:=ZAH.1 f3;have hm:lG M x=some y.1.2:=by
      unfold lG;cases hq:eI M.1 x with
      |none=>
       have:=feZ hq j y f7;rw[f5] at this;cases this
      |some y'=>
       let⟨j',a',q1,q2,q3⟩:=cNZ hq
       have ab:j'=j:=by
        rcases ZCd j' j with ac|ad|hgt
        .have:=f6 j' a' ac (by simp[q1]);rw[q2] at this;cases this
        .exact ad
        .have:=q3 j y hgt f7;rw[f5] at this;cases this
       subst ab;rw[q1] at f7;injection f7 with f7;rw[<-f7]
       rfl
     rw[hm] at h4;refine .mk' R (eJZ (cpZ ?_)) h4;exact(a3 j y e f7 (by simpa using f4)).2.1
   .cases h1
  .rename_i fz k l hg
   let⟨h1,h2⟩:=aeZ.1 h
   let⟨x,h3,h4⟩:=bVZ h2 hk
   unfold AW at h1;split at h1
   .rename_i kt et hu;simp only[ZAE] at h1
    let⟨⟨h5,h6⟩,h7⟩:=h1
    let⟨_,_,_,es,af,a1,a2,a3⟩:=hH.real hg ae
    have hz:∃i,P.info? et=some i/\i.zero=some .nilFunc:=by
     split at h7
     .rename_i i hi;split at h7
      .rename_i hz;exact⟨i,hi,hz⟩
      .cases h7
     .cases h7
    let⟨i,z1,z2⟩:=hz
    have aa:=boZ (em:=es.isEmpty) z.w dB kt k (dMZ h5).2 10000 (by unfold dB;omega) x vk h3;obtain⟨q,f1,f2⟩:=cRZ h5 z.w h3 es.toList (l.map (·.1)) (by simp[a2]) (λj a e e1 e2=>by
     rw[ZAW] at e1;obtain⟨y,e3,rfl⟩:=ZAH.1 e1;exact(a3 j y e e3 (by simpa using e2)).1)
    have R:=hIZ (c:=c) hu a1 aa f1 (λ_=>⟨z1,z2⟩);rcases j9Z h4 with⟨g1,g2⟩|⟨j',e',g1,g2,g3,g4⟩
    .rcases f2.split (by simp[a2]) with⟨rfl,f3⟩|⟨j,a,e,rfl,f3,f4,f5,f6⟩
     .exact .mk' R (eJZ (.p _ _ _ (cU.mkSc (t:=.opq) ⟨rfl,rfl⟩ rfl))) g2
     .rw[ZAW] at f3;obtain⟨y,f7,rfl⟩:=ZAH.1 f3;have:=g1 j y f7;rw[f5] at this;cases this
    .rcases f2.split (by simp[a2]) with⟨rfl,f3⟩|⟨j,a,e,rfl,f3,f4,f5,f6⟩
     .have:=f3 j' e'.1 (by simp[g1]);rw[g2] at this;cases this
     .rw[ZAW] at f3;obtain⟨y,f7,rfl⟩:=ZAH.1 f3;have ab:j'=j:=by
       rcases ZCd j' j with ac|ad|hgt
       .have:=f6 j' e'.1 ac (by simp[g1]);rw[g2] at this;cases this
       .exact ad
       .have:=g3 j y hgt f7;rw[f5] at this;cases this
      subst ab;rw[g1] at f7;injection f7 with f7;subst f7;exact .mk' R (eJZ (a3 j' e' e g1 (by simpa using f4)).2) g4
   .cases h1
  .cases h
 .split at h
  .rename_i kt et hu
   let⟨k,h1,h2⟩:=agZ.1 h
   let⟨v,h3,h4⟩:=agZ.1 h2
   let⟨h5,h6⟩:=aeZ.1 h4
   let⟨x,h7,h8⟩:=bVZ h6 hk
   unfold xM at h5;rw[hu] at h5;simp only[ZAE,ZAp] at h5
   let⟨⟨h9,ah⟩,ag⟩:=h5
   let⟨i,zv,z1,z2,z3⟩:=cPZ ag
   obtain⟨rfl,_⟩:=hm.v.opq;have aa:=boZ (em:=true) z.w dB kt k (dMZ h9).2 10000 (by unfold dB;omega) x vk h7;obtain⟨q,f1,f2⟩:=cRZ h9 z.w h7 [] [] rfl (λj a e e1=>by simp at e1);have hq:q=none:=by
    rcases vV.split (ks:=[]) (x:=x) rfl f2 with⟨h,_⟩|⟨j,a,e,_,e1,_⟩
    .exact h
    .simp at e1
   subst hq;unfold wT at h8;refine .mk' ?_ (eJZ (cpZ (z3 _ _ _))) h8;cases c<;>simp[Instr.lookup,Sem.run_bind,run_underlying hu,aa,f1,jbZ z1 z2]
  .cases h
 grind
end
section
variable {P : Program} {β : Type} {z : Z} {H : Hp}
theorem cCZ{ρ}{o}{s}{K}{R:β}(he:execOp ρ o=(do pure (.value (<-s))))(h:OkP P s z K R):
 ∃x v,(execOp ρ o).run P z.w= .ok (.value v) z.w/\bE z x v/\K x=some R:=by
 let⟨x,v,h1,h2,h3⟩:=h
 exact⟨x,v,by simp_all,h2,h3⟩
theorem eRZ{ρ}{o}{c}{b}{s}{K}{aa:β}(ho:o.op= .call c)(hc:c.callee= .builtin b)
 (hb:∀R,builtin b c.argTypes o.type R (c.args.map ρ)=(do pure (.value (<-s))))(h:OkP P s z K aa):
 ∃x v,(execOp ρ o).run P z.w= .ok (.value v) z.w/\bE z x v/\K x=some aa:=by
 let⟨x,v,h1,h2,h3⟩:=h
 refine⟨x,v,?_,h2,h3⟩;unfold execOp;simp[ho,resolve,hc,invoke,hb,h1]
theorem bQ.map{l:List Operand}{r}{ρ}(R:∀x,bE z (r x) (ρ x)):bQ z (l.map r) (l.map ρ):=by
 refine⟨by simp,λi a v h1 h2=> ?_⟩
 grind
theorem BB.map{a:Option Operand}{r}{ρ}(R:∀x,bE z (r x) (ρ x)):BB z (a.map r) (a.map ρ):=by
 cases a with
 |none=>exact .inl ⟨rfl,rfl⟩
 |some x=>exact .inr ⟨_,_,rfl,rfl,R x⟩
theorem v5Z{o}{r}{ρ}{K}{res:β}(h:evR P o r H K=some res)(hH:bI z H)(hr:∀x,bE z (r x) (ρ x)):
 ∃x v,(execOp ρ o).run P z.w= .ok (.value v) z.w/\bE z x v/\K x=some res:=by
 unfold evR at h;split at h
 ·rename_i x ho;exact⟨_,ρ x,by simp[execOp,ho],hr x,h⟩
 ·rename_i x ho;exact⟨_,ρ x,by simp[execOp,ho],hr x,h⟩
 ·rename_i c a b ho;obtain⟨x,v,h1,h2,h3⟩:=pyZ h (hr c) (hr a) (hr b);refine⟨x,v,?_,h2,h3⟩;simp only[Sem.run_bind] at h1;simp only[execOp,ho,Sem.run_bind];generalize (asBool (ρ c)).run P z.w=q at h1⊢;cases q<;>simp[Result.andThen] at h1⊢;obtain⟨h4,h5⟩:=h1;exact⟨h4,h5⟩
 ·rename_i t ps ho;refine cCZ (s:=Instr.build t (ps.map fun(i,x)=>(i,ρ x))) (by simp[execOp,ho]) (oCZ h ⟨by simp,fun i x y h1 h2=> ?_⟩);simp only[Array.toList_map] at h2;rw[ZAW] at h1 h2;obtain⟨q,h3,rfl⟩:=ZAH.1 h1;rw[h3] at h2;simp at h2;subst h2;exact⟨rfl,hr _⟩
 ·rename_i t a ho;exact cCZ (by simp[execOp,ho]) (ktZ h hH (hr a))
 ·rename_i x ho;have hx:=hr x;split at h
  ·rename_i es id i j hq;rw[hq] at hx;cases hv:ρ x<;>rw[hv] at hx<;>first|(cases hx;done)|skip;rename_i p;cases hx with|own _ _ _ _ g sz n hρ=>exact⟨_,ρ x,by simp[execOp,ho,hv],by rw[hv];exact .own _ _ _ _ _ _ _ hρ,h⟩
  ·rename_i u l i j hq;rw[hq] at hx;cases hv:ρ x<;>rw[hv] at hx<;>first|(cases hx;done)|skip;cases hx with|pt _ _ _ _ b off hM hlt hrr=>exact⟨_,ρ x,by simp[execOp,ho,hv],by rw[hv];exact .pt _ _ _ _ _ _ hM hlt hrr,h⟩
  ·rename_i f a c hq;rw[hq] at hx;cases hv:ρ x<;>rw[hv] at hx<;>first|(cases hx;done)|skip;cases hx with|fn _ _ _ va vc h1 h2 h3 h4=>exact⟨_,ρ x,by simp[execOp,ho,hv],by rw[hv];exact .fn _ _ _ _ _ h1 h2 h3 h4,h⟩
  ·rename_i f es k i j hq;rw[hq] at hx;cases hv:ρ x<;>rw[hv] at hx<;>first|(cases hx;done)|skip;cases hx with|rp _ _ _ _ _ g sz n hρ=>exact⟨_,ρ x,by simp[execOp,ho,hv],by rw[hv];exact .rp _ _ _ _ _ _ _ _ hρ,h⟩
  ·rename_i t l hq;rw[hq] at hx;obtain⟨h1,h2⟩:=aeZ.1 h;rcases hx.v.scal rfl rfl with⟨h3,_⟩|⟨_,b,off,h4,h5,h6,h7⟩
   ·obtain rfl:l=([]:List t.den):=ZBY.1 h3;cases h1
   ·have hv:=(List.cons.inj h4).1;have q:=bE.pt t l 0 0 b off h5 h6 h7;rw[ZBn] at q;exact⟨_,ρ x,by simp[execOp,ho,hv],by rw[hv];exact q,h2⟩
  ·cases h
 ·rename_i op t x y u ho;exact cCZ (by simp[execOp,ho]) (sTZ x y h hH (hr x) (hr y))
 ·rename_i t x ix c ho;exact cCZ (by simp[execOp,ho]) (lzZ h hH (hr x) (hr ix))
 ·rename_i op t x ho;exact cCZ (by simp[execOp,ho]) (tRZ h (hr x))
 ·rename_i s d x ho;exact cCZ (by simp[execOp,ho]) (fyZ h hH (hr x))
 ·rename_i f a c ho;refine⟨_,.func (.func f) (a.map ρ) (c.map ρ),by simp[execOp,ho,Instr.makeFunc],.fn _ _ _ _ _ (by simp) (by simp) (fun i x v h1 h2=> ?_) (fun i x v h1 h2=> ?_),h⟩
  ·exact(bQ.map hr).2 i x v h1 (by simpa using h2)
  ·exact(bQ.map hr).2 i x v h1 (by simpa using h2)
 ·rename_i t x lo hi ho;exact cCZ (by simp[execOp,ho]) (o5Z h hH (hr x) (.map hr) (.map hr))
 ·rename_i t x lo hi mx ho;exact cCZ (by simp[execOp,ho]) (liZ h (hr x) (.map hr) (hr hi) (hr mx))
 ·rename_i s x f ho;exact cCZ (by simp[execOp,ho]) (huZ h (hr x))
 ·rename_i s x f ho;exact cCZ (by simp[execOp,ho]) (oyZ h (hr x))
 ·rename_i t x ix ho;exact cCZ (by simp[execOp,ho]) (gZZ h hH (hr x) (hr ix))
 ·rename_i t x ix ho;exact cCZ (by simp[execOp,ho]) (pcZ h (hr x) (hr ix))
 ·rename_i x i ho;obtain⟨l,h1,h2⟩:=agZ.1 h;obtain⟨y,h3,h4⟩:=agZ.1 h2;obtain⟨vs,h5,h6,h7⟩:=iJZ h1 (hr x);have hlt:i<vs.size:=by
   have:=(ZAB.1 h3).1;omega
  have hv:=ZBC hlt;exact cCZ (s:=Instr.extract (ρ x) i) (by simp[execOp,ho]) ⟨y,vs[i],by simp[Instr.extract,h5,hv],h7 i y _ h3 hv,h4⟩
 ·rename_i c ho;split at h
  ·rename_i hc;split at h
   ·rename_i a t ha ht;obtain⟨n,h1,h2⟩:=tWZ o.type h hH (hr a);refine eRZ (s:=Builtin.len_ #[t] o.type #[ρ a]) ho hc (fun consts=> ?_) ⟨_,_,h1,.mkI _ _,h2⟩;have e1:c.args=#[a]:=by apply ZBz;rw[ha]
    have e2:c.argTypes=#[t]:=by apply ZBz;rw[ht]
    simp[builtin,e1,e2]
   ·cases h
  ·rename_i hc;split at h
   ·rename_i a t ha ht;have e1:c.args=#[a]:=by apply ZBz;rw[ha]
    have e2:c.argTypes=#[t]:=by apply ZBz;rw[ht]
    split at h
    ·rename_i e hu;have run:∀A n m,ρ a= .slice A n m->(Builtin.cap_ #[t] o.type #[ρ a]).run P z.w= .ok (.int .i64 (m:Int)) z.w:=fun A n m hv=>by
      simp[Builtin.cap_,Sem.run_bind,hv,run_underlying hu,goInt]
     have key:∀m,(∃A n,ρ a= .slice A n m)->K (.i .i64 (m:Int))=some res->∃x v,(execOp ρ o).run P z.w= .ok (.value v) z.w/\bE z x v/\K x=some res:=fun m ⟨A,n,hv⟩ hk=>
      eRZ (s:=Builtin.cap_ #[t] o.type #[ρ a]) ho hc (fun consts=>by simp[builtin,e1,e2]) ⟨_,_,run A n m hv,.mkI _ _,hk⟩
     split at h
     ·rename_i hq;have hx:=hr a;rw[hq] at hx;exact key 0 ⟨none,0,hx.v.opq.1⟩ h
     ·obtain⟨A,n,m,hv,h1,h2,_,h3⟩:=j0Z h hH (hr a);exact key m ⟨A,n,hv⟩ (u5Z h3 m h1 h2)
    ·cases h
   ·cases h
  ·rename_i hc;split at h
   ·rename_i k hu;obtain⟨l,h1,h2⟩:=agZ.1 h;have hv:=iPZ h1 (bQ.map (l:=c.args.toList) hr);split at h2
    ·rename_i x l;refine eRZ (s:=Builtin.min_ c.argTypes o.type (c.args.map ρ)) ho hc (fun consts=>rfl) ⟨_,_,?_,.mkI _ _,h2⟩;unfold Builtin.min_;rw[Array.toList_map,hv];exact gPZ z.w l x
    ·cases h2
   ·cases h
  ·rename_i hc;split at h
   ·rename_i k hu;obtain⟨l,h1,h2⟩:=agZ.1 h;have hv:=iPZ h1 (bQ.map (l:=c.args.toList) hr);split at h2
    ·rename_i x l;refine eRZ (s:=Builtin.max_ c.argTypes o.type (c.args.map ρ)) ho hc (fun consts=>rfl) ⟨_,_,?_,.mkI _ _,h2⟩;unfold Builtin.max_;rw[Array.toList_map,hv];exact gSZ z.w l x
    ·cases h2
   ·cases h
  ·cases h
 grind
end
section
variable {P : Program} {β : Type} {z : Z} {H : Hp}
def cI(w:World)(M:Nat->Prop)(ρ:Rho)(u:Ty)(l:List u.den)(cs:List Value):Prop:=
 ∀(i) x,l[i]? =some x->∃us,Cl w M ρ u x us/\∀(j) v,us[j]? =some v->cs[i*u.cells+j]? =some v
theorem cI.kp{z'}(k:Kp z z'){u}{l}{cs}(h:cI z.w z.M z.ρ u l cs):cI z'.w z'.M z'.ρ u l cs:=λi x hx=>by
 let⟨us,h1,h2⟩:=h i x hx
 exact⟨us,h1.kp k,h2⟩
theorem jjZ{c}:∀{css:List (List Value)},(∀u∈css,u.length=c)->∀{k} {us},css[k]? =some us->∀{q} {w},us[q]? =some w->css.flatten[k*c+q]? =some w
 |[],_,k,us,h,_,_,_=>by grind
 |u::css,hl,0,us,h,q,w,hq=>by
  grind
 |u::css,hl,k+1,us,h,q,w,hq=>by
  have hc:=hl u (by simp);rw[ZCK,ZAU (by rw[ZB4];omega)];have:=jjZ (λu R=>hl u (ZAc _ R)) (by simpa using h) hq;rw[<-this];congr 1;rw[ZB4];omega
theorem cYZ{w}{M}{ρ}{u}{l:List u.den}{css:List (List Value)}(hl:css.length=l.length)(h:∀(i:Nat) e us,l[i]? =some e->css[i]? =some us->Cl w M ρ u e us):∀us∈css,us.length=u.cells:=λus R=>by
 let⟨k,hk⟩:=ZAR R
 let⟨e,he⟩:=bfZ hl hk
 exact(h k e us he hk).len
theorem cI.css{w}{M}{ρ}{u}{l}{css:List (List Value)}(hl:css.length=l.length)(h:∀(i:Nat) e us,l[i]? =some e->css[i]? =some us->Cl w M ρ u e us)
 (rest):cI w M ρ u l (css.flatten++rest):=λi x hx=>by
 have hi:i<css.length:=by rw[hl];exact(ZAB.1 hx).1
 refine⟨css[i],h i x _ hx (ZAC hi),λj v R=> ?_⟩;have:=jjZ (cYZ hl h) (ZAC hi) R
 grind
theorem cI.arr{w}{M}{ρ}{u}{n}{l:List u.den}{cs}(h:Cl w M ρ (.arr n u) l cs):cI w M ρ u l cs:=by
 obtain⟨R,css,h1,rfl,h2⟩:=h;have:=cI.css (by rw[h1];exact R.symm) h2 []
 simp_all
theorem aJZ{id}{b}{K}{r:β}:gW H id b K=some r↔(bM H id=false/\id<bA)/\K (bS H id (some ⟨false,b⟩))=some r:=by
 unfold gW;cases hk:bM H id
 .cases hb:Nat.ble bA id
  .have:=ZBN.1 λh=>by rw[ZAi h] at hb;cases hb
   simp_all
  .have:=ZBM hb;simp;omega
 .simp
theorem biZ{id}{cs}{e}{fr}{w'}{u}{l}(hH:bI z H)(hk:bM H id=false/\id<bA)(hd:¬z.D id)(hw:w'.heap[z.w.heap.size]? =some (.cells cs e fr))(hf:okR u cs fr)
 (ad:w'.os=z.w.os)(R:w'.tape=z.w.tape/\z.w.drawn<=w'.drawn)(aa:w'.output=z.w.output)(ab:∀k,k<z.w.heap.size->w'.heap[k]? =z.w.heap[k]?)(hl:l.length*u.cells<=cs.size)(h0:0<u.cells)(hr:cI z.w z.M z.ρ u l cs.toList):
 ∃z',z'.w=w'/\bI z' (bS H id (some ⟨false,.rows e u l⟩))/\Nx z z'/\z'.ρ id= .real z.w.heap.size cs.size l.length:=by
 have ac:z.w.heap.size<w'.heap.size:=(ZBH.1 hw).1;refine hH.new hk hd (ZAN _) ac ad R aa (Nat.le_of_lt ac) ab λz' hz k=> ?_;subst hz;refine⟨cs,fr,hw,hf,rfl,rfl,hl,h0,λi x hx=> ?_⟩;obtain⟨us,h1,h2⟩:=hr.kp k i x hx<;>grind
theorem jgZ{id}{cs}{e}{fr}{w'}{c}(hH:bI z H)(hk:bM H id=false/\id<bA)(hd:¬z.D id)(hw:w'.heap[z.w.heap.size]? =some (.cells cs e fr))(hf:okF cs fr)
 (ad:w'.os=z.w.os)(R:w'.tape=z.w.tape/\z.w.drawn<=w'.drawn)(aa:w'.output=z.w.output)(ab:∀k,k<z.w.heap.size->w'.heap[k]? =z.w.heap[k]?)(hr:bQ z c cs.toList)(h1:∀u∈cs,u.oneCell'=true):
 ∃z',z'.w=w'/\bI z' (bS H id (some ⟨false,.vars c⟩))/\Nx z z'/\z'.ρ id= .real z.w.heap.size cs.size cs.size:=by
 have ac:=(ZBH.1 hw).1;refine hH.new hk hd (ZAN _) ac ad R aa (Nat.le_of_lt ac) ab λz' hz k=> ?_;subst hz;refine⟨cs,e,fr,hw,hf,rfl,⟨by have:=hr.1;omega,rfl⟩,λi a v p q=>(hr.2 i a v p (by simp_all)).kp k,h1⟩
theorem okF0(cs):okF cs (0,0):=.inl rfl
theorem Ok.mk'{s}{K}{r:β}{x}{v}{H'}{z'}(h:s.run P z.w= .ok v z'.w)(R:bI z' H')(ha:bE z' x v)(hn:Nx z z')(hK:K x H'=some r):Ok P s z K r:=⟨x,v,H',z',h,R,ha,hn,hK⟩
theorem miZ(w)(t)(v):(Instr.box t v).run P w= .ok (.pointer (some ⟨w.heap.size,0,none⟩)) (w.alloc (.cells v.cells t)):=rfl
theorem daZ{t}{i}{v}(h1:P.info? t=some i)(R:i.zero=some v)(w):(Instr.alloc t true (.tuple #[])).run P w= .ok (.pointer (some ⟨w.heap.size,0,none⟩)) (w.alloc (.cells v.cells t)):=by
 unfold Instr.alloc;rw[Sem.run_bind,jbZ h1 R]
 rfl
theorem cI.one'{w}{M}{ρ}{u}{x}{vs}(h:Cl w M ρ u x vs):cI w M ρ u [x] vs:=λi y R=>by
 grind
theorem llZ{t}{id}{K}{r:β}(h:tL P t id H K=some r)(hH:bI z H)(hd:¬z.D id):Ok P (Instr.alloc t true (.tuple #[])) z K r:=by
 let⟨u,h1,h2⟩:=agZ.1 h
 let⟨h3,h4⟩:=aeZ.1 h2
 let⟨h5,h6⟩:=aJZ.1 h4
 let⟨t1,t2,_⟩:=dnZ h1
 let⟨i,v,q1,q2,q3⟩:=cPZ h3
 let⟨R,c2⟩:=(q3 z.w z.M z.ρ).cells
 have hl:=by simpa using R.len
 obtain⟨z',p1,p2,p3,p4⟩:=biZ hH h5 hd (heap_alloc_new _ _) (okR0 _) rfl ⟨rfl,ZAN _⟩ rfl (λk hk=>heap_alloc_old _ _ _ hk)
  (by rw[hl];simp) t2 (.one' R)
 refine .mk' (by rw[p1];exact daZ q1 q2 z.w) p2 ?_ p3 h6;have:=bE.own u.cells id 0 0 _ _ _ p4
 simp_all
theorem pUZ{t}{a}{v}{id}{K}{r:β}(h:AR P t a id H K=some r)(hH:bI z H)(hd:¬z.D id)(ha:bE z a v):Ok P (Instr.box t v) z K r:=by
 let⟨u,h1,h2⟩:=agZ.1 h
 let⟨⟨a',H1⟩,h3,h4⟩:=agZ.1 h2
 let⟨z1,s1,s2,s3,s4,s5⟩:=bWZ hH h3 ha
 let⟨y,h5,h6⟩:=bVZ h4 s5
 let⟨h9,R⟩:=aJZ.1 h6
 let⟨t1,t2,_⟩:=dnZ h1
 let⟨c1,c2⟩:=h5.cells
 have hl:=by simpa using c1.len
 obtain⟨z',p1,p2,p3,p4⟩:=biZ s2 h9 (by rw[s3.dom];exact hd) (heap_alloc_new _ _) (okR0 _) rfl ⟨rfl,ZAN _⟩ rfl (λk hk=>heap_alloc_old _ _ _ hk)
  (by rw[hl];simp) t2 (.one' c1)
 refine .mk' (by rw[p1,s1];exact miZ z.w t v) p2 ?_ (s3.trans p3) R;have:=bE.own u.cells id 0 0 _ _ _ p4
 simp_all
theorem oLZ{t}{id}{K}{r:β}(h:qJ P t id H K=some r)(hH:bI z H)(hd:¬z.D id):Ok P (Instr.alloc t true (.tuple #[])) z K r:=by
 unfold qJ at h;split at h
 .rename_i n e hu
  let⟨u,h1,h2⟩:=agZ.1 h
  let⟨h3,h4⟩:=aeZ.1 h2
  let⟨h5,h6⟩:=aJZ.1 h4
  let⟨t1,t2,_⟩:=dnZ h1
  let⟨i,v,R,q2,q3⟩:=cPZ h3
  let⟨c1,c2⟩:=(q3 z.w z.M z.ρ).cells
  have hl:=by simpa[Ty.cells] using c1.len
  obtain⟨z',p1,p2,p3,p4⟩:=biZ (l:=List.replicate n u.zero) hH h5 hd (heap_alloc_new _ _) (okR0 _) rfl ⟨rfl,ZAN _⟩ rfl (λk hk=>heap_alloc_old _ _ _ hk)
   (by rw[ZB6,hl];exact ZAN _) t2 (.arr c1)
  refine .mk' (by rw[p1];exact daZ R q2 z.w) p2 ?_ p3 h6;have:=bE.own u.cells id 0 0 _ _ _ p4
  simp_all
 .let⟨l,h1,h2⟩:=agZ.1 h
  let⟨h5,h6⟩:=aJZ.1 h2
  obtain⟨i,v,R,q2,q3,q4⟩:=g0Z h1;obtain⟨z',p1,p2,p3,p4⟩:=jgZ hH h5 hd (heap_alloc_new _ _) (okF0 _) rfl ⟨rfl,ZAN _⟩ rfl (λk hk=>heap_alloc_old _ _ _ hk) q3 q4;refine .mk' (by rw[p1];exact daZ R q2 z.w) p2 ?_ p3 h6;have:=bE.own 0 id 0 0 _ _ _ p4;omega
theorem s1Z{t}{a}{v}{id}{K}{r:β}(h:zT P t a id H K=some r)(hH:bI z H)(hd:¬z.D id)(ha:bE z a v):Ok P (Instr.box t v) z K r:=by
 unfold zT at h;split at h
 .let⟨u,h1,h2⟩:=agZ.1 h
  let⟨⟨a',H1⟩,h3,h4⟩:=agZ.1 h2
  let⟨z1,s1,s2,s3,s4,s5⟩:=bWZ hH h3 ha
  let⟨l,h5,h6⟩:=bVZ h4 s5
  let⟨h7,h8⟩:=aeZ.1 h6
  let⟨h9,R⟩:=aJZ.1 h8
  rw[afZ] at h7
  let⟨t1,t2,_⟩:=dnZ h1
  let⟨c1,c2⟩:=h5.cells
  have hl:=by simpa[Ty.cells] using c1.len
  obtain⟨z',p1,p2,p3,p4⟩:=biZ s2 h9 (by rw[s3.dom];exact hd) (heap_alloc_new _ _) (okR0 _) rfl ⟨rfl,ZAN _⟩ rfl (λk hk=>heap_alloc_old _ _ _ hk)
   (by rw[h7,hl];exact ZAN _) t2 (.arr c1)
  refine .mk' (by rw[p1,s1];exact miZ z.w t v) p2 ?_ (s3.trans p3) R;have:=bE.own u.cells id 0 0 _ _ _ p4
  simp_all
 .let⟨l,h1,h2⟩:=agZ.1 h
  let⟨h5,h6⟩:=aJZ.1 h2
  let⟨q1,q2,_⟩:=cOZ h1 ha
  obtain⟨z',p1,p2,p3,p4⟩:=jgZ hH h5 hd (heap_alloc_new _ _) (okF0 _) rfl ⟨rfl,ZAN _⟩ rfl (λk hk=>heap_alloc_old _ _ _ hk) q1 q2;refine .mk' (by rw[p1];exact miZ z.w t v) p2 ?_ p3 h6;have:=bE.own 0 id 0 0 _ _ _ p4;omega
theorem nfZ(zs)(n k)(hk:k<n)(h:0<zs.size):(madeCells zs n)[k]? =zs[k%zs.size]? :=by
 have hm:=ZCc k h;simp[madeCells,hk,hm]
theorem cI.made{w}{M}{ρ}{u}{zs}(hc:Cl w M ρ u u.zero zs.toList)(n m)(aa:n<=m)(h0:0<u.cells):cI w M ρ u (List.replicate n u.zero) (madeCells zs (m*u.cells)).toList:=λi x hx=>by
 have hi:=by
  have:=(ZAB.1 hx).1;simpa using this
 obtain rfl:u.zero=x:=by
  simpa[hi] using hx
 refine⟨_,hc,λj v hj=> ?_⟩;have hl:=by simpa using hc.len
 have R:=by
  have:=(ZAB.1 hj).1;simpa[hl] using this
 have ab:=m4Z (show i<m by omega) R
 simp_all[nfZ,Nat.mod_eq_of_lt]
theorem quZ{t}{al ac}{vl vc}{id}{K}{r:β}(h:vA P t al ac id H K=some r)(hH:bI z H)(hd:¬z.D id)(hl:bE z al vl)(hc:bE z ac vc):
 Ok P (Instr.makeSlice t vl vc) z K r:=by
 unfold vA at h;split at h
 .rename_i e hu
  let⟨n,h1,h2⟩:=agZ.1 h
  let⟨m,h3,h4⟩:=agZ.1 h2
  let⟨m',h5,h6⟩:=ZAG.1 h4
  let⟨n',h7,h8⟩:=ZAG.1 h6
  let⟨u,h9,ae⟩:=agZ.1 h8
  let⟨ad,af⟩:=aeZ.1 ae
  let⟨ag,ah⟩:=aJZ.1 af
  simp[ZAm] at ad
  let⟨ai,aj⟩:=ad
  obtain⟨kl,rfl⟩:=b8Z h1 hl;obtain⟨kc,rfl⟩:=b8Z h3 hc;unfold cT at h5 h7;split at h5
  .rename_i hm;split at h7
   .rename_i hn;simp at h5 h7
    let⟨t1,t2,_⟩:=dnZ h9
    let⟨i,v,q1,q2,q3⟩:=cPZ ai
    let⟨c1,c2⟩:=(q3 z.w z.M z.ρ).cells
    have hb:P.bytesOf e=i.bytes:=by simp[Program.bytesOf,q1]
    have ak:i.size=u.cells:=by
     rw[t1];simp[Program.cellsOf,q1]
    have R:cM=140737488355328:=rfl;have aa:(i.bytes:Int)*m<=281474976710656:=by
     rw[hb] at aj;have e1:m=(m':Int):=by omega
     have e2:((m'*i.bytes:Nat):Int)<=140737488355328:=by omega
     rw[e1,Int.mul_comm];rw[ZBl] at e2;omega
    have ab:=run_make z.w t e i v hu q1 q2 kl kc n m hn.1 (by omega) aa (by rw[R] at hm;omega);rw[ak] at ab;have am:=by omega
    obtain⟨z',p1,p2,p3,p4⟩:=biZ hH ag hd (heap_alloc_new _ _) (okR0 _) rfl ⟨rfl,ZAN _⟩ rfl (λk hk=>heap_alloc_old _ _ _ hk)
     (by rw[ZB6,size_madeCells];exact ZAd _ (by omega)) t2 (cI.made c1 n' m.toNat (by omega) t2)
    refine .mk' (by rw[p1];exact ab) p2 ?_ p3 ah;rw[h7];refine .slf _ _ _ _ _ _ (by rw[p4,ZB6]) (by omega) (by rw[size_madeCells];exact ZAN _) ?_;rw[R] at hm;unfold maxLen;omega
   .cases h7
  .cases h5
 grind
end
section
variable {P : Program} {β : Type} {z : Z} {H : Hp}
theorem gpZ{pl}:∀{R} {c c'},tP pl c R=some c'->c'.length=c.length
 |[],c,c',h=>by simp_all[tP]
 |(i,a)::R,c,c',h=>by
  let⟨⟨off,aa⟩,h2,h3⟩:=agZ.1 h
  let⟨l,h4,h5⟩:=agZ.1 h3
  cases hb:(Nat.beq l.length aa&&Nat.ble (off+l.length) c.length)<;>rw[hb] at h5<;>simp only[bq_false] at h5
  .cases h5
  .rw[gpZ h5,dkZ]
theorem bQ.rep{l}{vs}(h:bQ z l vs):∀n,bQ z (List.replicate n l).flatten (List.replicate n vs).flatten
 |0=>.nil
 |n+1=>by
  exact h.append (bQ.rep h n)
theorem qqZ{α:Type}(l:List α)(n):(List.replicate n l).flatten.length=n*l.length:=by simp
theorem gHZ(zs)(n):(madeCells zs (n*zs.size)).toList=(List.replicate n zs.toList).flatten:=by
 rcases ZBs zs.size with h0|h0
 .have R:=ZAY (by omega);rw[h0,R];simp[madeCells]
 .apply ZA8;intro k;by_cases hk:k<n*zs.size
  .have hq:=Nat.div_lt_of_lt_mul (by rw[ZCN];exact hk);have hm:k%zs.size<zs.size:=ZCc _ h0;rw[ZA6,nfZ _ _ _ hk h0];have:=jjZ (css:=List.replicate n zs.toList) (c:=zs.size) (λu hu=>by rw[List.eq_of_mem_replicate hu];simp) (k:=k/zs.size) (us:=zs.toList) (by simp[hq]) (q:=k%zs.size) (w:=zs[k%zs.size]) (by simp)
   simp_all[ZCN,ZCL]
  .rw[ZAg]
   .simp_all
   .rw[ZBD,size_madeCells];omega
theorem cwZ(w)(t e)(len)(parts)(cells)(ie)(z)
 (hu:P.underlying t=some (.slice e))(ab:P.info? e=some ie)(hz:ie.zero=some z)(aa:¬len*ie.size>2^24)
 (h:Instr.fill (λi=>some (i*ie.size,ie.size)) (madeCells z.cells (len*ie.size)) parts.toList=some cells):
 (Instr.buildSlice t len parts).run P w= .ok (.slice (some ⟨w.heap.size,0,none⟩) len len) (w.alloc (.cells cells e)):=by
 by_cases R:len*ie.size=0
 .have hm:madeCells z.cells (len*ie.size)=#[]:=by rw[R];simp[madeCells]
  rw[hm] at h;simp[Instr.buildSlice,run_underlying hu,sizeOf,typeInfo,ab,R,Array.range_zero',h,newRow]
 .exact run_buildSlice w t e len parts cells ie z hu ab hz aa R h
theorem glZ{t}{R}{ab}{aa}{vs}{rb}{id}{K}{r:β}(h:gL P t R ab vs rb id H K=some r)(hH:bI z H)(hd:¬z.D id)
 (hp:DL z ab aa.toList):Ok P (Instr.buildSlice t R aa) z K r:=by
 unfold gL at h;simp only[e7Z] at h;split at h
 .rename_i e hu
  let⟨zl,h1,h2⟩:=agZ.1 h
  let⟨u,h3,h4⟩:=agZ.1 h2
  let⟨h5,h6⟩:=aeZ.1 h4
  let⟨c,h7,h8⟩:=agZ.1 h6
  simp only[ZAE,afZ,ZAm] at h5
  let⟨af,ao⟩:=h5
  have aj:R*u.cells<=16777216:=by rw[<-af];exact ao
  let⟨t1,t2,_⟩:=dnZ h3
  obtain⟨i,v0,q1,q2,q3,q4⟩:=g0Z h1;have ag:i.size=u.cells:=by rw[t1];simp[Program.cellsOf,q1]
  have ap:v0.cells.size=u.cells:=by have:=q3.1;simp at this;omega
  have ah:P.cellsOf e=i.size:=by simp[Program.cellsOf,q1]
  have ac:(madeCells v0.cells (R*i.size)).toList=(List.replicate R v0.cells.toList).flatten:=by
   rw[ag,<-ap];exact gHZ _ _
  rw[ah] at h7;obtain⟨cs',p1,p2,p3⟩:=f5Z h7 (by rw[ac];exact q3.rep R) (λx hx=>by
   have:x∈(List.replicate R v0.cells.toList).flatten:=by rw[<-ac];simpa using hx
   obtain⟨y,hy,ak⟩:=List.mem_flatten.1 this;rw[List.eq_of_mem_replicate hy] at ak;exact q4 x (by simpa using ak)) hp.1 hp.2
  cases vs<;>simp only[bq_true,bq_false] at h8
  case true=>
   obtain⟨ai,hb⟩:=aeZ.1 h8;rw[afZ] at ai;obtain⟨b1,b2⟩:=aJZ.1 hb;have al:c.length=R*u.cells:=by rw[gpZ h7,qqZ,af]
   have ad:cs'.size=R:=by have:=p2.1;simp at this;rw[ai,Nat.mul_one] at al;omega
   obtain⟨z',d1,d2,d3,d4⟩:=jgZ hH b1 hd (heap_alloc_new _ _) (okF0 _) rfl ⟨rfl,ZAN _⟩ rfl (λk hk=>heap_alloc_old _ _ _ hk) p2 (λv hv=>p3 v (by simpa using hv));refine .mk' (by rw[d1];exact cwZ z.w t e R aa cs' i v0 hu q1 q2 (by rw[ag];omega) p1) d2 ?_ d3 b2;exact .slf _ _ _ _ _ _ (by rw[d4,ad]) (ZAN _) (by rw[Nat.mul_one];omega) (by rw[ai,Nat.mul_one] at aj;unfold maxLen;omega)
  obtain⟨⟨c',H1⟩,h9,am⟩:=agZ.1 h8;obtain⟨z1,s1,s2,s3,s4,s5⟩:=jwZ hH h9 p2;have al:c.length=R*u.cells:=by rw[gpZ h7,qqZ,af]
  have an:c'.length=R*u.cells:=by
   have e1:=s5.1;have e2:=p2.1;omega
  have ae:(zU H rb u).cells=u.cells:=by
   unfold zU
   repeat' split
   all_goals first|rfl|(rename_i hq;rw[<-hq];first|rfl|exact(a5Z _).symm)
  generalize zU H rb u=wt at am ae;obtain⟨l,css,a1,a2,a3,a4,a5⟩:=lXZ (asm wt) (λh hr hl h1=>hNZ h hr (by rw[ae];exact hl) h1) R am s5 an (λv hv=>p3 v (by simpa using hv));obtain⟨b1,b2⟩:=aJZ.1 a5;have ad:cs'.size=R*u.cells:=by have:=p2.1;simp at this;omega
  obtain⟨z',d1,d2,d3,d4⟩:=biZ s2 b1 (by rw[s3.dom];exact hd) (heap_alloc_new _ _) (okR0 _) rfl ⟨rfl,ZAN _⟩ rfl (λk hk=>heap_alloc_old _ _ _ hk)
   (by rw[a1,ad,ae];exact ZAN _) (by rw[ae];exact t2) (by have:=cI.css (by rw[a1,a2]) a4 [];rw[ZAr,<-a3] at this;exact this)
  refine .mk' (by rw[d1,s1];exact cwZ z.w t e R aa cs' i v0 hu q1 q2 (by rw[ag];omega) p1) d2 ?_ (s3.trans d3) b2;rw[<-s1];refine .slf _ _ _ _ _ _ (by rw[d4,a1]) (ZAN _) (by rw[ad];exact ZAN _) ?_;have:R<=R*u.cells:=Nat.le_mul_of_pos_right _ t2;unfold maxLen;omega
 grind
theorem l5Z(w:World)(C)(e)(k):(w.alloc (.cells C e)).freeze ⟨w.heap.size,k,none⟩ 1=w.alloc (.cells C e (k,k+1)):=by
 have hm:∀(a:Array Obj) (x) (f),(a.push x).modify a.size f=a.push (f x):=by
  intro a x f;apply Array.ext
  ·simp
  ·grind
 unfold World.freeze;show({w.alloc (.cells C e) with heap:=(w.heap.push (.cells C e)).modify w.heap.size _}:World)=_;rw[hm]
 rfl
theorem nQZ(w:World)(C)(e):(w.alloc (.cells C e)).shape? w.heap.size=some (e,C.size):=by
 unfold World.shape?;rw[heap_alloc_new]
def fJ(l:List UInt8)(c:Nat):Array Value:=(l.map λb=>Value.int .u8 (b.toNat:Int)).toArray++Array.replicate (c-l.length) (.int .u8 0)
theorem fmZ(w)(l)(e):(Conv.stringToBytes e ⟨⟨l⟩⟩).run P w=
 .ok (.slice (some ⟨w.heap.size,0,none⟩) l.length (grownCap w l.length 0 e)) (w.drew.alloc (.cells (fJ l (grownCap w l.length 0 e)) e ((fJ l (grownCap w l.length 0 e)).size,(fJ l (grownCap w l.length 0 e)).size+1))):=by
 have R:(w.drew.alloc (.cells (fJ l (grownCap w l.length 0 e)) e)).shape? w.heap.size=_:=nQZ w.drew (fJ l (grownCap w l.length 0 e)) e;have hf:(w.drew.alloc (.cells (fJ l (grownCap w l.length 0 e)) e)).freeze ⟨w.heap.size,_,none⟩ 1=_:=l5Z w.drew (fJ l (grownCap w l.length 0 e)) e (fJ l (grownCap w l.length 0 e)).size;have hq:(Question.appendCap (⟨⟨l⟩⟩:ByteArray).size 0 e).cut (w.tape w.drawn (.appendCap (⟨⟨l⟩⟩:ByteArray).size 0 e))=grownCap w l.length 0 e:=rfl;have e1:(List.map (λb=>Value.int IntKind.u8 (b.toNat:Int)) l).toArray++Array.replicate (grownCap w l.length 0 e-(⟨⟨l⟩⟩:ByteArray).size) (Value.int IntKind.u8 0)=fJ l (grownCap w l.length 0 e):=rfl;simp[Conv.stringToBytes,newRow,markStringish,hq];rw[e1,R];simp[hf]
 rfl
theorem nYZ{w}{M}{ρ}(l:List UInt8)(c):cI w M ρ .byte l (fJ l c).toList:=λi x hx=>by
 refine⟨[.int .u8 (x.toNat:Int)],rfl,λj v R=> ?_⟩
 grind[ZAB,fJ,ZCO,ZAT,Ty.cells]
theorem bI.cut{f}{e}{s}{ms R}(hH:bI z H)(hg:bG H (bZ f)=some ⟨false,.fam e s ms⟩)(ab:R.length=ms.length)
 (hm:∀(k:Nat) (m),R[k]? =some m->m.1≠0->ms[k]? =some m):bI z (bS H (bZ f) (some ⟨false,.fam e s R⟩))/\
  (∀i x,bP (bS H (bZ f) (some ⟨false,.fam e s R⟩)) i=some x->bP H i=some x/\∀k,i=enc f k->∃m,R[k]? =some m/\m.1≠0)/\
  ∀i,bM (bS H (bZ f) (some ⟨false,.fam e s R⟩)) i=bM H i:=by
 have hX:∀i x,bP (bS H (bZ f) (some ⟨false,.fam e s R⟩)) i=some x->bP H i=some x/\∀k,i=enc f k->∃m,R[k]? =some m/\m.1≠0:=λi x h=>by
  by_cases hi:∃k,i=enc f k
  .obtain⟨k,rfl⟩:=hi;rw[(bLZ H f _ 0).1 k] at h;simp only[ZAA,pick] at h;cases hk:R[k]? with
   |none=>rw[hk] at h;cases h
   |some m=>
    rw[hk] at h;obtain⟨st,l⟩:=m;simp only at h;by_cases h0:st=0
    .rw[ZAM h0] at h;cases h
    .refine⟨?_,λk' ad=> ?_⟩
     .rw[cIZ,hg];simp only[ZAA,pick];rw[hm k _ hk h0];exact h
     .obtain rfl:=(ivZ ad).2;exact⟨_,hk,h0⟩
  .rw[(bLZ H f _ i).2 λk h=>hi ⟨k,h⟩] at h;exact⟨h,λk hk=>absurd ⟨k,hk⟩ hi⟩
 have hK:∀i,dU (bS H (bZ f) (some ⟨false,.fam e s R⟩)) i=false->dU H i=false:=λi hi=>by
  by_cases ac:∃k,i=enc f k
  .obtain⟨k,rfl⟩:=ac;rw[(crZ H f _ 0).1 k] at hi;rw[ayZ (ciZ f k),ecZ,paZ,hg];simpa[Ent.has,ab] using hi
  .rwa [(crZ H f _ i).2 λk h=>ac ⟨k,h⟩] at hi
 have aa:∀i,bM (bS H (bZ f) (some ⟨false,.fam e s R⟩)) i=bM H i:=λi=>by
  rw[atZ];by_cases hi:i=bZ f
  .rw[hi,aiZ hg];simp
  .simp[hi]
 refine⟨⟨λi x h=>hH.ent i x (hX i x h).1,λi i' x x' g sz n g' ae n' af p1 p2 m1 m2 p3 p4=>hH.inj i i' x x' g sz n g' ae n' af (hX _ _ p1).1 (hX _ _ p2).1 m1 m2 p3 p4,λi hi=>hH.fresh i (hK i hi),hH.sub,λi x h=> ?_,λi h=>hH.key i (by rw[<-aa];exact h),λi hd h=>hH.dyn i hd (by rw[<-aa];exact h),hH.nos⟩,hX,aa⟩;rw[apZ] at h;by_cases hi:i=bZ f
 .rw[ZAM hi] at h;injection h with h;subst h;rw[hi];have hf:=hH.fam _ _ hg;exact hf
 .rw[ZAK hi] at h;exact hH.fam i x h
theorem bI.same{H'}(R:bI z H)(h1:∀id,bG H' id=bG H id)(h2:∀id,bM H' id=bM H id):bI z H':=by
 have hX:∀id,bP H' id=bP H id:=λid=>c0Z (h1 _);have hK:∀id,dU H' id=dU H id:=λid=>dFZ (h1 _) (h2 _);exact⟨λi e hi=>R.ent i e (by simp_all),λi i' e e' a sa na a' aa ab ac q1 q2=>R.inj i i' e e' a sa na a' aa ab ac (by simp_all) (by simp_all),λi hi=>R.fresh i (by simp_all),R.sub,
  λi x h=>R.fam i x (by simp_all),λi h=>R.key i (by simp_all),λi hd h=>R.dyn i hd (by simp_all),R.nos⟩
theorem bI.unset{id}{e}(hg:bG H id=some e)(R:bI z (bS H id (some e))):bI z H:=by
 refine R.same (λk=> ?_) λk=> ?_
 .rw[apZ];by_cases h:k=id
  .subst h;rw[ZAM rfl,hg]
  .rw[ZAK h]
 simp_all[atZ,aiZ]
theorem tXZ{w}{g}{cs}{e}{R}(h:w.heap[g]? =some (.cells cs e R))(hf:okF cs R):
 ∃w' aa,(markStringish ⟨g,0,none⟩).run P w= .ok () w'/\w'.heap[g]? =some (.cells cs e aa)/\okF cs aa/\w'.os=w.os/\(w'.tape=w.tape/\w.drawn<=w'.drawn)/\w'.output=w.output/\w'.heap.size=w.heap.size/\∀b,b≠g->w'.heap[b]? =w.heap[b]? :=by
 have hs:w.shape? g=some (e,cs.size):=by unfold World.shape?;rw[h]
 refine⟨w.freeze ⟨g,cs.size,none⟩ 1,(if R.1==R.2 then(cs.size,cs.size+1) else(min R.1 cs.size,max R.2 (cs.size+1))),by simp[markStringish,hs],?_,?_,rfl,⟨rfl,ZAN _⟩,rfl,?_,λb hb=> ?_⟩
 .simp[World.freeze,ZB7,h]
 .grind[okF]
 .simp[World.freeze]
 .simp[World.freeze,ZB7,ZBj hb]
theorem juZ{R ab}{a}{v}{id}{K}{r:β}(h:jN P R ab a id H K=some r)(hH:bI z H)(hD:P.underlying R=some .string->¬z.D id)(ha:bE z a v):Ok P (convert R ab v) z K r:=by
 unfold jN at h;split at h
 .rename_i e hs hd;cases hb:isB P e<;>rw[hb] at h<;>simp only[bq_true,bq_false] at h
  .cases h
  let⟨l,h1,h2⟩:=agZ.1 h
  let⟨h3,h4⟩:=aeZ.1 h2
  let⟨h5,h6⟩:=aJZ.1 h4
  rw[ZAm] at h3;obtain rfl:=erZ h1 ha;have he:=vdZ hb;have ae:cM=140737488355328:=rfl;have ac:(convert R ab (.string ⟨⟨l⟩⟩)).run P z.w=(Conv.stringToBytes e ⟨⟨l⟩⟩).run P z.w:=by
   simp[convert,run_underlying hs,run_underlying hd,run_underlying he]
  have hge:=grownCap_ge z.w l.length 0 e;have ad:(fJ l (grownCap z.w l.length 0 e)).size=grownCap z.w l.length 0 e:=by simp[fJ];omega
  obtain⟨z',p1,p2,p3,p4⟩:=biZ (u:=.byte) (w':=z.w.drew.alloc (.cells (fJ l (grownCap z.w l.length 0 e)) e ((fJ l (grownCap z.w l.length 0 e)).size,(fJ l (grownCap z.w l.length 0 e)).size+1))) hH h5 (hD hs)
   (heap_alloc_new z.w.drew _) (.inr ⟨rfl,ZAN _⟩) rfl ⟨rfl,ZBa _⟩ rfl (λk hk=>heap_alloc_old z.w.drew _ _ hk)
   (by rw[ad];simp[Ty.cells];exact hge) (by decide) (nYZ _ _)
  refine .mk' (by rw[p1];exact ac.trans (fmZ z.w l e)) p2 ?_ p3 h6;exact .slf _ _ _ _ _ _ p4 hge (by rw[ad,Nat.mul_one];exact ZAN _) (grownCap_le_maxLen _ _ _ _ (by unfold maxLen;omega))
 .rename_i e0 e hs hd;split at h
  .rename_i es ai;split at h
   .rename_i e' l hg;cases hb:(Nat.beq R ab&&isB P e&&Nat.beq es 1)<;>rw[hb] at h<;>simp only[bq_true,bq_false] at h
    .cases h
    simp[afZ] at hb;obtain⟨⟨rfl,hB⟩,rfl⟩:=hb;obtain rfl:e0=e:=by rw[hs] at hd;simpa using hd
    let⟨h1,h2⟩:=aeZ.1 h
    have af:=by simpa[ZBd] using h1
    have he:=vdZ hB;cases ha with
    |slfV _ _ A aa=>
     obtain⟨rfl,_⟩:=hH.virt hg aa;exact absurd af (ZAz _)
    |slf _ _ g sz n c aa hn ag hm=>
     let⟨b1,b2,b3,b4⟩:=hH.real hg aa
     let⟨cs,fr,a1,a2,a3,a4,a5,a6,a7⟩:=b4
     let⟨w',ah,m1,m2,m3,m4,m5,m6,m7,m8⟩:=tXZ (P:=P) a1 a2.f
     obtain⟨p1,p2⟩:=hH.write (b:=.rows e' .byte l) hg aa m4 m5 m6 m7 m8 (λk=>by
      refine⟨cs,ah,m2,m3.imp (λh=>h) (λh=>⟨rfl,h⟩),a3,a4,a5,a6,λi x hx=> ?_⟩
      let⟨u,c1,c2⟩:=a7 i x hx
      exact⟨u,c1.kp k,c2⟩)
     refine .mk' ?_ (p1.unset hg) (.slf _ _ _ _ _ _ aa hn ag hm) p2 h2;simp only[convert,Sem.run_bind,run_underlying hd,Result.andThen_ok,run_underlying he,ZAb,m1]
     rfl
   .cases h
  .cases h
 grind
end
section
variable {P : Program} {β : Type} {z : Z} {H : Hp}
theorem bI.moveX{R id g sz n n'}{b0 b}{w'}{H1}(hH:bI z H)(hg:bP H R=some ⟨false,b0⟩)(ac:z.ρ R= .real g sz n)(ae:bI z H1)(an:∀i e,bP H1 i=some e->bP H i=some e/\i≠R/\¬(Ro i/\Ro R))(hk:bM H1 id=false/\id<bA)(hd:¬z.D id)
 (al:w'.os=z.w.os)(af:w'.tape=z.w.tape/\z.w.drawn<=w'.drawn)(ah:w'.output=z.w.output)(ai:w'.heap.size=z.w.heap.size)(aj:∀b,b≠g->w'.heap[b]? =z.w.heap[b]?)
 (hb:∀z',z'.w=w'->Kp z z'->gR z' g sz n' b):
 ∃z',z'.w=w'/\bI z' (bS H1 id (some ⟨false,b⟩))/\Nx z z'/\z'.ρ id= .real g sz n':=by
 obtain⟨hk,ad⟩:=hk;have hC:=(hH.realX hg ac).2.1 rfl;have ao:=(ae.fresh id (by simp_all[aCZ])).resolve_right hd
 let z':={z with w:=w',ρ:=λi=>if i=id then .real g sz n' else z.ρ i}
 have e1:∀i,i≠id->z'.ρ i=z.ρ i:=λi hi=>ZAK hi;have e2:z'.ρ id= .real g sz n':=ZAM rfl;have hn:Nx z z':=⟨al,af,ah,Nat.le_of_eq ai.symm,λb _ hb=>aj b (λh=>hb (h▸hC)),λ_ h=>.inl h,λ_ h=>.inl h,λ_ _ h _=>h,λi hi=>e1 i (by grind),rfl⟩;have ag:=hn.kp hH.sub;have aa:∀i e,i≠id->bP (bS H1 id (some ⟨false,b⟩)) i=some e->bP H i=some e/\i≠R/\¬(Ro i/\Ro R):=λi e hi h=>by
  rw[a7Z ad,ZAK hi] at h
  grind
 have s:=ae.side (z':=z') (e:=some ⟨false,b⟩) ad (λx hx=>by injection hx with hx;subst hx;exact(hb z' rfl ag).famOk ad) rfl (λi h1 _=>e1 i (by omega));refine⟨z',rfl,⟨λi e hi=> ?_,λi i' e e' a sa na a' ap aq ak h1 h2 m1 m2 h3 h4=> ?_,λi hi=> ?_,hH.sub,s.1,s.2.1,s.2.2.1,s.2.2.2⟩,hn,e2⟩
 .by_cases h:i=id
  .subst h;rw[a7Z ad,ZAM rfl] at hi;injection hi with hi;subst hi;unfold eW;rw[e2];exact⟨by show g<w'.heap.size;rw[ai];exact(hH.realX hg ac).1,λ_=>hC,(λh=>by cases h),hb z' rfl ag⟩
  .obtain⟨hi,ho,hr⟩:=aa i e h hi;refine(hH.ent _ _ hi).kp ag λa sa na ha=>⟨aj a (λam=> ?_),λh=>h⟩;subst am;exact hH.ne ho hi hg rfl ha ac hr rfl
 .by_cases hi:i=id
  .have ab:i'≠id:=λh=>ak (hi.trans h.symm);obtain⟨h2,ho,hr⟩:=aa i' e' ab h2;rw[hi,e2] at h3;rw[e1 _ ab] at h4;injection h3 with h3;subst h3;exact λ_=>hH.inj R i' _ _ _ _ _ _ _ _ (ZBj ho) hg h2 rfl m2 ac h4 λh=>hr h.symm
  .obtain⟨h1,ho,hr⟩:=aa i e hi h1;rw[e1 _ hi] at h3;by_cases ab:i'=id
   .rw[ab,e2] at h4;injection h4 with h4;subst h4;exact λ_=>hH.inj i R _ _ _ _ _ _ _ _ ho h1 hg m1 rfl h3 ac hr
   .obtain⟨h2,ar,_⟩:=aa i' e' ab h2;rw[e1 _ ab] at h4;exact hH.inj i i' _ _ _ _ _ _ _ _ ak h1 h2 m1 m2 h3 h4
 .rw[buZ ad] at hi;simp at hi;rw[e1 _ hi.1];exact ae.fresh i hi.2
theorem bI.move{R id g sz n n'}{b0 b}{w'}(hH:bI z H)(hg:bG H R=some ⟨false,b0⟩)(aa:z.ρ R= .real g sz n)(hk:bM (bS H R none) id=false/\id<bA)(hd:¬z.D id)
 (ad:w'.os=z.w.os)(ab:w'.tape=z.w.tape/\z.w.drawn<=w'.drawn)(ac:w'.output=z.w.output)(ae:w'.heap.size=z.w.heap.size)(af:∀b,b≠g->w'.heap[b]? =z.w.heap[b]?)
 (hb:∀z',z'.w=w'->Kp z z'->gR z' g sz n' b):
 ∃z',z'.w=w'/\bI z' (bS (bS H R none) id (some ⟨false,b⟩))/\Nx z z'/\z'.ρ id= .real g sz n':=by
 have ag:=hH.low hg (aTZ aa);refine hH.moveX (hH.x hg (aTZ aa)) aa (hH.kill (aiZ hg)) (λi e h=> ?_) hk hd ad ab ac ae af hb
 simp_all[a7Z,bUZ]
theorem cI.append{w}{M}{ρ}{u}{l m}{cs cs'}{css:List (List Value)}(h:cI w M ρ u l cs)(hl:css.length=m.length)
 (hm:∀(i:Nat) e us,m[i]? =some e->css[i]? =some us->Cl w M ρ u e us)(h1:∀q,q<l.length*u.cells->cs'[q]? =cs[q]?)(h2:∀q v,css.flatten[q]? =some v->cs'[l.length*u.cells+q]? =some v):
 cI w M ρ u (l++m) cs':=λi x hx=>by
 by_cases hi:i<l.length
 .rw[ZAT hi] at hx
  let⟨us,R,a2⟩:=h i x hx
  refine⟨us,R,λj v hj=> ?_⟩;have aa:=by
   have:=(ZAB.1 hj).1;rw[R.len] at this;exact this
  rw[h1 _ (m4Z hi aa)];exact a2 j v hj
 .rw[ZAU (by omega)] at hx
  let⟨us,R,a2⟩:=cI.css hl hm [] _ x hx
  refine⟨us,R,λj v hj=> ?_⟩;have:=a2 j v hj;rw[ZAr] at this;have:=h2 _ _ this;rw[<-this];congr 1;obtain⟨d,hd⟩:∃d,i=l.length+d:=⟨i-l.length,by omega⟩;subst hd;rw[ZA5,ZAn];omega
theorem cI.take{w}{M}{ρ}{u}{l}{cs}(h:cI w M ρ u l cs)(n):cI w M ρ u (l.take n) cs:=λi x hx=>by
 rw[ZAo] at hx;split at hx
 .exact h i x hx
 simp_all
theorem uvZ(b o j):(⟨b,o,none⟩:Addr).add j=⟨b,o+j,none⟩:=by unfold Addr.add;simp_all
theorem fH.src{u}{m}{v}{tx}(hk:(∃e',P.underlying tx=some (.slice e'))\/P.underlying tx=some .string)(h:fH z u m v):
 ∃css:List (List Value),Src P u.cells tx v m.length css.flatten z.w/\css.length=m.length/\∀(i:Nat) e us,m[i]? =some e->css[i]? =some us->Cl z.w z.M z.ρ u e us:=by
 rcases h with⟨hu,rfl⟩|⟨A,c,rfl,hc,hm,hA⟩
 .subst hu;refine⟨m.map λb=>[Value.int .u8 (b.toNat:Int)],?_,by simp,λi e us h1 h2=> ?_⟩
  .have e1:(List.map (λb:UInt8=>[Value.int .u8 (b.toNat:Int)]) m).flatten=byteCells ⟨⟨m⟩⟩:=by
    show _=List.map _ m;generalize (m:List UInt8)=q;induction q with
    |nil=>rfl
    |cons b q ih=>grind
   rw[e1];exact⟨hk,λ_=>rfl,firstCells_string ⟨⟨m⟩⟩ z.w,firstCells_string ⟨⟨m⟩⟩ z.w.drew,by rw[byteCells_length];simp[Ty.cells];rfl,λu hu=>by
    obtain⟨_,_,rfl⟩:=ZBc.1 hu
    rfl⟩
  .rw[ZAW] at h2;obtain⟨b,h3,rfl⟩:=ZAH.1 h2;have:=h1.symm.trans h3;injection this with this;subst this
   rfl
 .by_cases h0:m.length=0
  .obtain rfl:m=[]:=ZAY h0;refine⟨[],⟨hk,λ_=>rfl,?_,?_,by simp,λ_ h=>by cases h⟩,rfl,λi e us h=>by grind⟩
   .cases A with
    |none=>exact run_firstCells_none z.w u.cells 0 0 c
    |some a=>exact run_firstCells_some z.w u.cells 0 a 0 c [] (by simp) (λj v h=>by grind)
   .cases A with
    |none=>exact run_firstCells_none z.w.drew u.cells 0 0 c
    |some a=>exact run_firstCells_some z.w.drew u.cells 0 a 0 c [] (by simp) (λj v h=>by grind)
  .obtain⟨b,off,rfl,_,hr⟩:=hA h0;obtain⟨css,q1,q2,q3⟩:=hr.cells;have hl:css.flatten.length=m.length*u.cells:=by rw[bcZ (cYZ q1 q2),q1]
   have R:∀j v,css.flatten[j]? =some v->z.w.cell? ((⟨b,off,none⟩:Addr).add j)=some v:=λj v hj=>by rw[uvZ];exact q3 j v hj
   refine⟨css,⟨hk,λ_=>rfl,run_firstCells_some z.w u.cells _ _ _ _ _ hl R,run_firstCells_some z.w.drew u.cells _ _ _ _ _ hl R,hl,λv hv=> ?_⟩,q1,q2⟩;obtain⟨us,h1,h2⟩:=List.mem_flatten.1 hv;obtain⟨k,hk⟩:=ZAR h1;obtain⟨e,he⟩:=bfZ (l:=m) q1 hk;exact(q2 k e us he hk).one v h2
theorem fH.lift{t}{m}{v}(h:fH z t.unref m v):fH z t (m.map (dE t)) v:=by
 rcases h with⟨hb,rfl⟩|⟨A,c,rfl,h1,h2,h3⟩
 .cases t<;>first|(cases hb;done)|skip;refine .inl ⟨rfl,?_⟩;have:(m.map (dE .byte))=m:=List.map_id m
  grind
 .have hl:(m.map (dE t)).length=m.length:=ZAs _;refine .inr ⟨A,c,by rw[hl],by rw[hl];exact h1,h2,λh0=> ?_⟩;rw[hl] at h0
  let⟨b,off,q1,q2,q3⟩:=h3 h0
  refine⟨b,off,q1,q2,λi x hx=> ?_⟩;rw[ZAW] at hx;obtain⟨y,hy,rfl⟩:=ZAH.1 hx
  let⟨us,p1,R⟩:=q3 i y hy
  rw[a5Z] at R;exact⟨us,eSZ p1,R⟩
theorem pCZ{e}{n}(h:AT P e n=true):∃i v,P.info? e=some i/\i.zero=some v/\v.cells.size=n:=by
 grind[AT,afZ]
theorem jQZ{e}{n}{i}(h:oA P e n=true)(hi:P.info? e=some i):n*i.bytes<=140737488355328/\n<=140737488355328:=by
 unfold oA at h;simp[ZAm] at h;have hb:P.bytesOf e=i.bytes:=by simp[Program.bytesOf,hi]
 rw[hb] at h;exact h
theorem dlZ{t tx ty e}{A}{u}{m}{x}{id}{K}{r:β}(hH:bI z H)(hk:bM H id=false/\id<bA)(hd:¬z.D id)(hu:P.underlying t=some (.slice e))
 (hc:u.cells=P.cellsOf e)(aa:0<u.cells)(hz:AT P e u.cells=true)(R:oA P e m.length=true)
 (ac:(∃e',P.underlying tx=some (.slice e'))\/P.underlying tx=some .string)(hx:fH z u m x)(h:K (.slf u.cells id) (bS H id (some ⟨false,.rows e u m⟩))=some r):
 Ok P (Builtin.append_ #[t,tx] ty #[.slice A 0 0,x]) z K r:=by
 obtain⟨i,v,q1,q2,q3⟩:=pCZ hz;obtain⟨r1,r2⟩:=jQZ R q1;have ad:i.size=u.cells:=by rw[hc];simp[Program.cellsOf,q1]
 obtain⟨css,s1,s2,s3⟩:=hx.src ac;rcases ZBs m.length with h0|h0
 .obtain rfl:m=[]:=ZAY h0;obtain rfl:css=[]:=ZAY s2;obtain⟨z',p1,p2,p3,p4⟩:=hH.newV (b:=.rows e u []) hk hd ⟨rfl,aa⟩;exact .mk' (by rw[p1];exact run_append_nothing z.w t tx ty e i hu q1 A 0 0 (ZAN _) x (by simp_all)) p2 (.slfV _ _ A p4) p3 h
 .have hge:=grownCap_ge z.w m.length 0 e;have ab:=run_append_grow_src (P:=P) z.w t tx ty e i v hu q1 q2 A 0 0 [] (by cases A with
   |none=>exact run_firstCells_none z.w.drew i.size 0 0 0
   |some a=>exact run_firstCells_some z.w.drew i.size 0 a 0 0 [] (by simp) (λj v h=>by grind)) x m.length css.flatten (by simp_all) (by omega) (by omega) (growslice_fits (by omega) (by simp_all))
  rw[ZA1,ZBe] at ab;have ae:(css.flatten.toArray++Builtin.zeroCells v.cells (grownCap z.w m.length 0 e-m.length)).size=grownCap z.w m.length 0 e*u.cells:=by
   rw[ZBU,size_zeroCells,q3,ZBL,bcZ (n:=u.cells) (cYZ s2 s3),s2,<-Nat.add_mul];congr 1;omega
  obtain⟨z',p1,p2,p3,p4⟩:=biZ (z:=z) (w':=z.w.drew.alloc (.cells (css.flatten.toArray++Builtin.zeroCells v.cells (grownCap z.w m.length 0 e-m.length)) e)) (e:=e) (l:=m) hH hk hd
   (heap_alloc_new z.w.drew _) (okR0 _) rfl ⟨rfl,ZBa _⟩ rfl (λk hk=>heap_alloc_old z.w.drew _ _ hk) (by simp_all[ZAd]) aa (by
    grind[ZCO,cI.css])
  exact .mk' (by simp_all) p2 (.slf _ _ _ _ _ _ p4 hge (by omega) (grownCap_le_maxLen _ _ _ _ (by unfold maxLen;omega))) p3 h
theorem lsZ{t tx ty e e'}{u}{l m}{x}{id g c}{i:TypeInfo}{v:Value}{css:List (List Value)}{cs}{fr}{Hk}(hK:bI z Hk)(hk:bM Hk id=false/\id<bA)(hd:¬z.D id)
 (a1:z.w.heap[g]? =some (.cells cs e' fr))(ae:cI z.w z.M z.ρ u l cs.toList)(am:l.length*u.cells<=cs.size)(af:0<u.cells)(ag:i.size=u.cells)(q3:v.cells.size=u.cells)(ak:l.length+m.length<=140737488355328)
 (s2:css.length=m.length)(s3:∀(i:Nat) e us,m[i]? =some e->css[i]? =some us->Cl z.w z.M z.ρ u e us)(ah:c<l.length+m.length)
 (aa:∀R,(Builtin.firstCells i.size l.length (.slice (some ⟨g,0,none⟩) l.length c)).run P z.w.drew= .ok R.toArray z.w.drew->c<l.length+m.length->
  (Builtin.append_ #[t,tx] ty #[.slice (some ⟨g,0,none⟩) l.length c,x]).run P z.w= .ok (.slice (some ⟨z.w.heap.size,0,none⟩) (l.length+m.length) (grownCap z.w (l.length+m.length) c e))
   (z.w.drew.alloc (.cells ((R++css.flatten).toArray++Builtin.zeroCells v.cells (grownCap z.w (l.length+m.length) c e-(l.length+m.length))) e))):
 ∃z' V,(Builtin.append_ #[t,tx] ty #[.slice (some ⟨g,0,none⟩) l.length c,x]).run P z.w= .ok V z'.w/\bI z' (bS Hk id (some ⟨false,.rows e u (l++m)⟩))/\Nx z z'/\bE z' (.slf u.cells id) V:=by
 have ai:css.flatten.length=m.length*u.cells:=by rw[bcZ (n:=u.cells) (cYZ s2 s3),s2]
 have aj:=grownCap_ge z.w (l.length+m.length) c e;have ab:∀j v,(cs.toList.take (l.length*u.cells))[j]? =some v->z.w.cell? ((⟨g,0,none⟩:Addr).add j)=some v:=λj v hj=>by
  rw[uvZ,byZ a1,ZA1]
  grind
 have ac:(cs.toList.take (l.length*u.cells)).length=l.length*u.cells:=by rw[ZAS,ZBD (xs:=cs)];omega
 have ad:=aa (cs.toList.take (l.length*u.cells)) (by
  rw[ag];exact run_firstCells_some z.w.drew _ _ _ _ _ _ ac ab) ah
 have al:((cs.toList.take (l.length*u.cells)++css.flatten).toArray++Builtin.zeroCells v.cells (grownCap z.w (l.length+m.length) c e-(l.length+m.length))).size=grownCap z.w (l.length+m.length) c e*u.cells:=by
  rw[ZBU,size_zeroCells,q3,ZBL,ZAe,ac,ai,<-Nat.add_mul,<-Nat.add_mul];congr 1;omega
 obtain⟨z',p1,p2,p3,p4⟩:=biZ (z:=z) (w':=z.w.drew.alloc (.cells ((cs.toList.take (l.length*u.cells)++css.flatten).toArray++Builtin.zeroCells v.cells (grownCap z.w (l.length+m.length) c e-(l.length+m.length))) e)) (e:=e) (l:=l++m) hK hk hd
  (heap_alloc_new z.w.drew _) (okR0 _) rfl ⟨rfl,ZBa _⟩ rfl (λk hk=>heap_alloc_old z.w.drew _ _ hk) (by simp_all[ZAe,ZAd]) af (by
   refine ae.append s2 s3 (λq hq=> ?_) λq v hq=> ?_
   .grind
   .have an:=(ZAB.1 hq).1
    simp_all[ZCO,ZAT,ZAe,ZAU,ZA5])
 exact⟨z',_,by rw[p1];exact ad,p2,p3,.slf _ _ _ _ _ _ (by rw[p4,ZAe]) aj (by omega) (grownCap_le_maxLen _ _ _ _ (by unfold maxLen;omega))⟩
theorem moZ{t tx ty e}{u}{l m}{L}{x}{id R g sz n c}{K}{r:β}{i:TypeInfo}{v:Value}{css:List (List Value)}(hH:bI z H)(hg:bG H R=some ⟨false,.rows e u L⟩)(ae:z.ρ R= .real g sz n)
 (hk:bM (bS H R none) id=false/\id<bA)(hd:¬z.D id)(hl:∃k,l=L.take k)(aj:l.length<=c)(ak:c*u.cells<=sz)(al:c<=maxLen)
 (am:0<u.cells)(ac:i.size=u.cells)(q3:v.cells.size=u.cells)(af:l.length+m.length<=140737488355328)(s2:css.length=m.length)(s3:∀(i:Nat) e us,m[i]? =some e->css[i]? =some us->Cl z.w z.M z.ρ u e us)
 (ad:∀ab:List Value,(Builtin.firstCells i.size l.length (.slice (some ⟨g,0,none⟩) l.length c)).run P z.w.drew= .ok ab.toArray z.w.drew->c<l.length+m.length->
  (Builtin.append_ #[t,tx] ty #[.slice (some ⟨g,0,none⟩) l.length c,x]).run P z.w= .ok (.slice (some ⟨z.w.heap.size,0,none⟩) (l.length+m.length) (grownCap z.w (l.length+m.length) c e))
   (z.w.drew.alloc (.cells ((ab++css.flatten).toArray++Builtin.zeroCells v.cells (grownCap z.w (l.length+m.length) c e-(l.length+m.length))) e)))
 (aa:l.length+m.length<=c->(∀j,j<css.flatten.length->(z.w.cell? ⟨g,0+l.length*i.size+j,none⟩).isSome=true)->(∀j,j<css.flatten.length->z.w.frozen? ⟨g,0+l.length*i.size+j,none⟩=false)->
  (Builtin.append_ #[t,tx] ty #[.slice (some ⟨g,0,none⟩) l.length c,x]).run P z.w= .ok (.slice (some ⟨g,0,none⟩) (l.length+m.length) c) (z.w.setCells g (0+l.length*i.size) css.flatten))
 (h:K (.slf u.cells id) (bS (bS H R none) id (some ⟨false,.rows e u (l++m)⟩))=some r):
 Ok P (Builtin.append_ #[t,tx] ty #[.slice (some ⟨g,0,none⟩) l.length c,x]) z K r:=by
 have ar:css.flatten.length=m.length*u.cells:=by rw[bcZ (n:=u.cells) (cYZ s2 s3),s2]
 obtain⟨_,_,_,cs,fr,a1,a2,a3,a4,a5,a6,a7⟩:=hH.real hg ae;obtain⟨k,an⟩:=hl;have ag:cI z.w z.M z.ρ u l cs.toList:=by
  rw[an];refine cI.take (λi x hx=> ?_) k;obtain⟨us,b1,b2⟩:=a7 i x hx;exact⟨us,b1,λj v hj=>by simp_all⟩
 have ap:l.length*u.cells<=c*u.cells:=ZAd _ aj;rcases ZBy c (l.length+m.length) with ao|hge
 .obtain⟨z',V,p1,p2,p3,p4⟩:=lsZ (hH.kill (aiZ hg)) hk hd a1 ag (by omega) am ac q3 af s2 s3 ao ad;exact .mk' p1 p2 p4 p3 h
 .have aq:l.length*u.cells+m.length*u.cells<=cs.size:=by
   have:(l.length+m.length)*u.cells<=c*u.cells:=ZAd _ hge;rw[ZAn] at this;omega
  have ah:=dhZ (o:=0+l.length*i.size) (n:=css.flatten.length) a1 a2.f (by simp_all);have ai:=aa hge (λj hj=>(ah j hj).1) (λj hj=>(ah j hj).2);obtain⟨w1,w2,w3,w4⟩:=asZ css.flatten z.w g (0+l.length*i.size);obtain⟨z',p1,p2,p3,p4⟩:=hH.move (n':=(l++m).length) (b:=.rows e u (l++m)) hg ae hk hd w2 w3 w4 w1 (λb hb=>anZ _ _ _ _ _ hb) (λz' hz kk=>by
   refine⟨_,fr,(by rw[hz];exact amZ _ _ _ _ _ _ _ a1),ewZ a2 (alZ _ _ _),by rw[alZ];exact a3,rfl,?_,a6,?_⟩
   .rw[ZAe,ZAn];omega
   .have:=(ag.append (cs':=(eG cs (0+l.length*i.size) css.flatten).toList) s2 s3 (λq hq=> ?_) λq v hq=> ?_).kp kk
    .intro i x hx;obtain⟨us,b1,b2⟩:=this i x hx;exact⟨us,b1,λj v hj=>by simpa using b2 j v hj⟩
    .rw[ac,ZA6,awZ _ _ _ _ (by omega),ZAK (by omega)];simp
    .have as:=(ZAB.1 hq).1;rw[ac,ZA6,awZ _ _ _ _ (by omega),ZAM (by omega),<-hq];congr 1;omega)
  have hv:bE z' (.slf u.cells id) (.slice (some ⟨g,0,none⟩) (l.length+m.length) c):=by
   have:=bE.slf (z:=z') u.cells id g sz (l++m).length c p4 (by rw[ZAe];exact hge) ak al;rwa [ZAe] at this
  exact .mk' (by rw[p1];exact ai) p2 hv p3 h
theorem hzZ{t tx ty e}{u}{l m}{L}{x}{id R g sz n c}{K}{r:β}(hH:bI z H)(hg:bG H R=some ⟨false,.rows e u L⟩)(ae:z.ρ R= .real g sz n)
 (hk:bM (bS H R none) id=false/\id<bA)(hd:¬z.D id)(hu:P.underlying t=some (.slice e))(hl:∃k,l=L.take k)(af:l.length<=c)(ag:c*u.cells<=sz)(ah:c<=maxLen)
 (hc:u.cells=P.cellsOf e)(ai:0<u.cells)(hz:AT P e u.cells=true)(aa:oA P e (l.length+m.length)=true)
 (aj:(∃e',P.underlying tx=some (.slice e'))\/P.underlying tx=some .string)(hx:fH z u m x)(h:K (.slf u.cells id) (bS (bS H R none) id (some ⟨false,.rows e u (l++m)⟩))=some r):
 Ok P (Builtin.append_ #[t,tx] ty #[.slice (some ⟨g,0,none⟩) l.length c,x]) z K r:=by
 obtain⟨i,v,q1,q2,q3⟩:=pCZ hz;obtain⟨r1,r2⟩:=jQZ aa q1;have ab:i.size=u.cells:=by rw[hc];simp[Program.cellsOf,q1]
 obtain⟨css,s1,s2,s3⟩:=hx.src aj;exact moZ (i:=i) (v:=v) (css:=css) hH hg ae hk hd hl af ag ah ai ab q3 (by omega) s2 s3
  (λac ho ad=>run_append_grow_src (P:=P) z.w t tx ty e i v hu q1 q2 (some ⟨g,0,none⟩) l.length c ac ho x m.length css.flatten (by rw[ab];exact s1) ad (by omega) (growslice_fits ad r1))
  (λhge h1 h2=>run_append_room_src (P:=P) z.w t tx ty e i hu q1 g 0 l.length c x m.length css.flatten (by rw[ab];exact s1) hge h1 h2) h
theorem fWZ{t tx}(ty){a ax}{v vx}{id}{K}{r:β}(h:lJ P t a ax id H K=some r)(hH:bI z H)(hd:¬z.D id)(ha:bE z a v)(hx:bE z ax vx)
 (aa:(∃e',P.underlying tx=some (.slice e'))\/P.underlying tx=some .string):Ok P (Builtin.append_ #[t,tx] ty #[v,vx]) z K r:=by
 unfold lJ at h;split at h
 .rename_i e hu
  let⟨u,h1,h2⟩:=agZ.1 h
  let⟨t1,t2,_⟩:=dnZ h1
  let⟨m,hm,h3⟩:=fNZ h2 hH hx
  split at h3
  .obtain rfl:=ha.v.opq.1
   let⟨h4,h5⟩:=aeZ.1 h3
   let⟨h6,h7⟩:=aJZ.1 h5
   rw[ZAE] at h4;exact dlZ hH h6 hd hu t1 t2 h4.1 h4.2 aa hm h7
  .rename_i es ad;split at h3
   .rename_i e' t' l hg;have key:∀(m'),fH z t' m' vx->t'.cells=P.cellsOf e->0<t'.cells->bO (AT P e t'.cells&&Nat.beq e e'&&Nat.beq es t'.cells&&oA P e (l.length+m'.length)) (gW (bS H ad none) id (.rows e t' (l++m')) λH'=>K (.slf es id) H')=some r->Ok P (Builtin.append_ #[t,tx] ty #[v,vx]) z K r:=λm' hm t1 t2 h4=>by
     let⟨h5,h6⟩:=aeZ.1 h4
     let⟨h7,h8⟩:=aJZ.1 h6
     simp[afZ] at h5;obtain⟨⟨⟨h9,rfl⟩,rfl⟩,ab⟩:=h5;cases ha with
     |slfV _ _ A R=>
      obtain⟨rfl,_⟩:=hH.virt hg R;exact dlZ (hH.kill (aiZ hg)) h7 hd hu t1 t2 h9 (by simpa using ab) aa hm h8
     |slf _ _ g sz n c R hn hs ac=>
      have hl:l.length=n:=by let⟨_,_,_,cs,fr,a1,a2,a3,a4,_⟩:=hH.real hg R;exact a4
      subst hl;exact hzZ hH hg R h7 hd hu ⟨l.length,(ZAx).symm⟩ hn hs ac t1 t2 h9 ab aa hm h8
    rcases aUZ h3 with⟨rfl,h4⟩|h4
    .exact key m hm t1 t2 h4
    .rcases aUZ h4 with⟨rfl,h5⟩|h5
     .rw[a5Z] at t1 t2;refine key (m.map (dE t')) hm.lift t1 t2 ?_;rw[ZAs];simp[a5Z] at h5⊢;exact h5
     .cases h5
   .cases h3
  .rename_i es ad n;split at h3
   .rename_i e' t' l hg;rcases aUZ h3 with⟨rfl,h4⟩|h4
    .let⟨h5,h6⟩:=aeZ.1 h4
     let⟨h7,h8⟩:=aJZ.1 h6
     simp only[ZAE,afZ,ZAm] at h5;obtain⟨⟨⟨⟨h9,rfl⟩,rfl⟩,ae⟩,ab⟩:=h5;have hz:∀{q},q=[]->(l.take 0++q)=q:=λ_=>by simp
     cases ha with
     |slV _ _ _ A R=>
      exact dlZ (hH.kill (aiZ hg)) h7 hd hu t1 t2 h9 (by simpa using ab) aa hm (by simpa using h8)
     |slE _ _ _ g sz m' o R=>
      exact dlZ (hH.kill (aiZ hg)) h7 hd hu t1 t2 h9 (by simpa using ab) aa hm (by simpa using h8)
     |sl _ _ _ _ g sz m' c R hn hs ac=>
      have hl:(l.take n).length=n:=by rw[ZAS];omega
      rw[ZA1] at hs;rw[ZBn];have:=hzZ (ty:=ty) hH hg R h7 hd hu ⟨n,rfl⟩ (by rw[hl];exact hn) hs ac t1 t2 h9 (by rw[hl];exact ab) aa hm h8;rwa [hl] at this
    .cases h4
   .cases h3
  .cases h3
 grind
end
section
variable {P : Program} {β : Type} {z : Z} {H : Hp}
theorem rCZ(z)(n):Builtin.zeroCells z n=madeCells z (n*z.size):=rfl
theorem phZ(z):Builtin.zeroCells z 0=#[]:=by simp[Builtin.zeroCells]
theorem pkZ(w)(t tx ty e)(i)(zv)(k kx)(ht:P.underlying t=some (.slice e))(hk:P.underlying tx=some (.int k))(hi:P.info? e=some i)(hz:i.zero=some zv)
 (x)(n:Nat)(hx:x=(n:Int))(hn:n<=140737488355328)(hb:n*i.bytes<=140737488355328)(hs:i.size≠0)(b off R aa:Nat)(ac:R+n<=aa)
 (hc:∀j,j<(Builtin.zeroCells zv.cells n).toList.length->(w.cell? ⟨b,off+R*i.size+j,none⟩).isSome=true)(hf:∀j,j<(Builtin.zeroCells zv.cells n).toList.length->w.frozen? ⟨b,off+R*i.size+j,none⟩=false)
 (h1:∀u∈(Builtin.zeroCells zv.cells n).toList,u.oneCell'=true):
 (Builtin.append_ #[t,tx] ty #[.slice (some ⟨b,off,none⟩) R aa,.int kx x]).run P w= .ok (.slice (some ⟨b,off,none⟩) (R+n) aa) (w.setCells b (off+R*i.size) (Builtin.zeroCells zv.cells n).toList):=by
 subst hx;have ab:=run_storeCells_cells (P:=P) b (off+R*i.size) (Builtin.zeroCells zv.cells n).toList 0 w (by omega) (by omega) h1;simp only[ZCX] at ab;have hw:IntKind.i64.wrap (n:Int)=(n:Int):=by rw[IntKind.wrap_i64];omega
 have n1:¬((n:Int)<0):=by omega
 have n2:¬(281474976710656<(n:Int)*(i.bytes:Int)):=by
  have:((n*i.bytes:Nat):Int)<=140737488355328:=by omega
  rw[ZBl] at this;omega
 by_cases h0:n=0
 .subst h0;have ad:IntKind.i64.wrap 0=0:=by rw[IntKind.wrap_i64];omega
  rw[phZ] at ab⊢;simp only[Array.toList_empty] at ab;simp[Builtin.append_,run_underlying ht,run_underlying hk,sizeOf,typeInfo,zeroValue,hi,hz,asInt,asIntOf,ad,Addr.add_lit,show R<=aa by omega,ab]
 .have hm:¬n*i.size=0:=Nat.mul_ne_zero h0 hs;simp[Builtin.append_,run_underlying ht,run_underlying hk,sizeOf,typeInfo,zeroValue,hi,hz,asInt,asIntOf,hw,n1,n2,hm,ac,Addr.add_lit,ab]
theorem pjZ(w)(t tx ty e)(i)(zv)(k kx)(ht:P.underlying t=some (.slice e))(hk:P.underlying tx=some (.int k))(hi:P.info? e=some i)(hz:i.zero=some zv)
 (x)(n:Nat)(hx:x=(n:Int))(hn:n<=140737488355328)(hb:n*i.bytes<=140737488355328)(hs:i.size≠0)(ab:Option Addr)(R aa:Nat)(ac:List Value)
 (ad:(Builtin.firstCells i.size R (.slice ab R aa)).run P w.drew= .ok ac.toArray w.drew)(ai:R<=aa)(hg:aa<R+n)(aj:((R+n:Nat):Int)<=9223372036854775807)(ah:Builtin.nextslicecap (R+n) aa*i.bytes<=281474976710656):
 (Builtin.append_ #[t,tx] ty #[.slice ab R aa,.int kx x]).run P w=
  .ok (.slice (some ⟨w.heap.size,0,none⟩) (R+n) (grownCap w (R+n) aa e))
    (w.drew.alloc (.cells ((ac++(Builtin.zeroCells zv.cells n).toList).toArray++Builtin.zeroCells zv.cells (grownCap w (R+n) aa e-(R+n))) e)):=by
 subst hx;have hw:IntKind.i64.wrap (n:Int)=(n:Int):=by rw[IntKind.wrap_i64];omega
 have n1:¬((n:Int)<0):=by omega
 have n2:¬(281474976710656<(n:Int)*(i.bytes:Int)):=by
  have:((n*i.bytes:Nat):Int)<=140737488355328:=by omega
  rw[ZBl] at this;omega
 have ag:¬(R+n<=aa):=by omega
 have ae:¬(9223372036854775807<((R:Int)+(n:Int))):=by omega
 have af:¬(281474976710656<Builtin.nextslicecap (R+n) aa*i.bytes):=by omega
 have hm:¬n*i.size=0:=Nat.mul_ne_zero (by omega) hs;have h0:n≠0:=by omega
 simp[Builtin.append_,run_underlying ht,run_underlying hk,sizeOf,typeInfo,zeroValue,hi,hz,asInt,asIntOf,hw,n1,n2,hm,ag,ae,af,Question.forced,ad,newRow,grownCap];congr 2
 grind
theorem vJZ(zs)(n):(List.replicate n zs.toList).flatten=(Builtin.zeroCells zs n).toList:=by rw[rCZ,gHZ]
theorem tdZ(w)(t tx ty e)(i)(k kx)(ht:P.underlying t=some (.slice e))(hk:P.underlying tx=some (.int k))(hi:P.info? e=some i)(A):
 (Builtin.append_ #[t,tx] ty #[.slice A 0 0,.int kx 0]).run P w= .ok (.slice A 0 0) w:=by
 have R:IntKind.i64.wrap 0=0:=by rw[IntKind.wrap_i64];omega
 cases A<;>simp[Builtin.append_,run_underlying ht,run_underlying hk,sizeOf,typeInfo,hi,asInt,asIntOf,R,storeCells]
theorem fH.first{u}{m}{v}(h:fH z u m v)(k)(hk:k<=m.length):
 ∃css:List (List Value),(Builtin.firstCells u.cells k v).run P z.w= .ok css.flatten.toArray z.w/\css.length=k/\∀(i:Nat) e us,(m.take k)[i]? =some e->css[i]? =some us->Cl z.w z.M z.ρ u e us:=by
 rcases h with⟨hu,rfl⟩|⟨A,c,rfl,hc,hm,hA⟩
 .subst hu;have R:(m.take k).length=k:=by rw[ZAS];omega
  refine⟨(m.take k).map λb=>[Value.int .u8 (b.toNat:Int)],?_,by simp_all,λi e us h1 h2=> ?_⟩
  .have e1:(List.map (λb:UInt8=>[Value.int .u8 (b.toNat:Int)]) (m.take k)).flatten=byteCells ⟨⟨m.take k⟩⟩:=by
    show _=List.map _ (m.take k);generalize (m.take k:List UInt8)=q;induction q with
    |nil=>rfl
    |cons b q ih=>simp[ih]
   rw[e1];simp only[Builtin.firstCells,Sem.run_pure];congr 1;apply ZBz;simp[byteCells]
   simp_all[Ty.toL,ByteArray.copySlice]
  .rw[ZAW] at h2;obtain⟨b,h3,rfl⟩:=ZAH.1 h2;have:=h1.symm.trans h3;cases this
   rfl
 .by_cases h0:k=0
  .subst h0;refine⟨[],?_,rfl,λi e us h=>by grind⟩;cases A with
   |none=>exact run_firstCells_none z.w u.cells 0 _ c
   |some a=>exact run_firstCells_some z.w u.cells 0 a _ c [] (by simp) (λj v h=>by grind)
  .obtain⟨b,off,rfl,_,hr⟩:=hA (by omega);have aa:=hr.sub 0 k;rw[ZBn,ZCX,ZCA] at aa
   let⟨css,q1,q2,q3⟩:=aa.cells
   have R:(m.take k).length=k:=by rw[ZAS];omega
   have hl:css.flatten.length=k*u.cells:=by rw[bcZ (cYZ q1 q2),q1,R]
   exact⟨css,run_firstCells_some z.w u.cells _ _ _ _ _ hl (λj v hj=>by rw[uvZ];exact q3 j v hj),by rw[q1,R],q2⟩
theorem oTZ{α}{l m:List α}{R}(h:R+m.length<=l.length):(bY l R m).length=l.length:=by
 grind[bY]
theorem hDZ{α}{l m:List α}{R}(h:R+m.length<=l.length)(i):(bY l R m)[i]? =if R<=i/\i<R+m.length then m[i-R]? else l[i]? :=by
 unfold bY;have h1:(l.take R).length=R:=by rw[ZAS];omega
 grind
theorem bI.reset{id}{e}(hg:bG H id=some e)(R:bI z H):bI z (bS H id (some e)):=by
 refine R.same (λk=> ?_) λk=> ?_
 .rw[apZ];by_cases h:k=id
  .subst h;rw[ZAM rfl,hg]
  .rw[ZAK h]
 simp_all[atZ,aiZ]
theorem fkZ{u}{m}{v}(h:fH z u m v)(w):(Builtin.lenOf v).run P w= .ok m.length w:=by
 rcases h with⟨R,rfl⟩|⟨A,c,rfl,_⟩
 .subst R;rfl
 .rfl
theorem mPZ{H'}{u}{l m}{e'}{id g sz n off}{css:List (List Value)}(hH:bI z H)(hg:bP H id=some ⟨false,.rows e' u l⟩)(ab:z.ρ id= .real g sz n)
 (aa:off+m.length<=l.length)(f2:css.length=m.length)(f3:∀(i:Nat) e us,m[i]? =some e->css[i]? =some us->Cl z.w z.M z.ρ u e us)(hu:Upd H id (.rows e' u (bY l off m)) H')(af:¬Ro id):
 (storeCells ⟨g,off*u.cells,none⟩ css.flatten).run P z.w= .ok () (z.w.setCells g (off*u.cells) css.flatten)/\
  bI {z with w:=z.w.setCells g (off*u.cells) css.flatten} H'/\Nx z {z with w:=z.w.setCells g (off*u.cells) css.flatten}:=by
 obtain⟨_,_,_,cs,fr,a1,a2,a3,a4,a5,a6,a7⟩:=hH.realX hg ab;have ag:css.flatten.length=m.length*u.cells:=by rw[bcZ (cYZ f2 f3),f2]
 have R:off*u.cells+css.flatten.length<=cs.size:=by
  have:(off+m.length)*u.cells<=l.length*u.cells:=ZAd _ aa;rw[ZAn] at this;omega
 have ac:=dhZ (o:=off*u.cells) (n:=css.flatten.length) a1 a2.f R;have h1:∀v∈css.flatten,v.oneCell'=true:=λv hv=>by
  obtain⟨us,h1,h2⟩:=List.mem_flatten.1 hv;obtain⟨k,hk⟩:=ZAR h1;obtain⟨e,he⟩:=bfZ (l:=m) f2 hk;exact(f3 k e us he hk).one v h2
 have ah:=run_storeCells_cells (P:=P) g (off*u.cells) css.flatten 0 z.w (λj hj=>by simpa using(ac j hj).1) (λj hj=>by simpa using(ac j hj).2) h1;simp only[ZCX] at ah;obtain⟨w1,w2,w3,w4⟩:=asZ css.flatten z.w g (off*u.cells);have ad:(bY l off m).length=l.length:=oTZ aa;obtain⟨p1,p2⟩:=hH.writeX (w':=z.w.setCells g (off*u.cells) css.flatten) (b:=.rows e' u (bY l off m)) hg ab w2 w3 w4 w1 (λb hb=>anZ _ _ _ _ _ hb) (λkk=>by
  refine⟨_,fr,amZ _ _ _ _ _ _ _ a1,ewZ a2 (alZ _ _ _),by rw[alZ];exact a3,by rw[ad];exact a4,by rw[ad];exact a5,a6,λi x hx=> ?_⟩;rw[hDZ aa] at hx;by_cases ae:off<=i/\i<off+m.length
  .rw[ZAM ae] at hx;obtain⟨us,b1,b2⟩:=cI.css f2 f3 [] _ _ hx;refine⟨us,b1.kp kk,λj v hj=> ?_⟩;have hb:=b2 j v hj;rw[ZAr] at hb;have ai:=(ZAB.1 hb).1;obtain⟨d,hd⟩:∃d,i=off+d:=⟨i-off,by omega⟩;subst hd;rw[ZA5] at hb ai;rw[ZAn,awZ _ _ _ _ R,ZAM (by omega),<-hb];congr 1;omega
  .rw[ZAK ae] at hx;obtain⟨us,b1,b2⟩:=a7 i x hx;refine⟨us,b1.kp kk,λj v hj=> ?_⟩;have aj:j<u.cells:=by
    have:=(ZAB.1 hj).1;rw[b1.len] at this;exact this
   rw[awZ _ _ _ _ R,ZAK,b2 j v hj];rw[ag];rcases ZBy i off with ak|hge
   .have:=m4Z (es:=u.cells) ak aj;omega
   .have:(off+m.length)*u.cells<=i*u.cells:=ZAd _ (by omega);rw[ZAn] at this;omega) hu af
 simp_all
theorem nWZ{u}{l m}{e'}{id g sz n off}{css:List (List Value)}(hH:bI z H)(hg:bG H id=some ⟨false,.rows e' u l⟩)(R:z.ρ id= .real g sz n)
 (aa:off+m.length<=l.length)(f2:css.length=m.length)(f3:∀(i:Nat) e us,m[i]? =some e->css[i]? =some us->Cl z.w z.M z.ρ u e us):
 (storeCells ⟨g,off*u.cells,none⟩ css.flatten).run P z.w= .ok () (z.w.setCells g (off*u.cells) css.flatten)/\
  bI {z with w:=z.w.setCells g (off*u.cells) css.flatten} (bS H id (some ⟨false,.rows e' u (bY l off m)⟩))/\Nx z {z with w:=z.w.setCells g (off*u.cells) css.flatten}:=
 mPZ hH (hH.x hg (aTZ R)) R aa f2 f3 (.stat (hH.low hg (aTZ R)) hg (hH.low hg (aTZ R))) (bUZ (hH.low hg (aTZ R)))
theorem tIZ{H'}{t e ty sT}{u}{l m}{e'}{x}{id g sz n off R c}{K}{r:β}(hH:bI z H)(hg:bP H id=some ⟨false,.rows e' u l⟩)(aa:z.ρ id= .real g sz n)
 (hu:P.underlying t=some (.slice e))(hc:u.cells=P.cellsOf e)(hx:fH z u m x)(ai:off+R<=l.length)
 (ac:Upd H id (.rows e' u (bY l off (m.take R))) H')(ad:¬Ro id)(h:K (.i .i64 ((min m.length R:Nat):Int)) H'=some r):
 Ok P (Builtin.copy_ #[t,sT] ty #[.slice (some ⟨g,off*u.cells,none⟩) R c,x]) z K r:=by
 let⟨_,_,_,cs,fr,a1,a2,a3,a4,a5,a6,a7⟩:=hH.realX hg aa
 have hi:∃i,P.info? e=some i/\i.size=u.cells:=by
  have:=b3Z hc.symm (by omega)
  let⟨i,h1,h2⟩:=ZAH.1 this
  exact⟨i,h1,h2⟩
 let⟨i,i1,i2⟩:=hi
 let⟨css,f1,f2,f3⟩:=hx.first (P:=P) (min m.length R) (Nat.min_le_left _ _)
 have ae:m.take (min m.length R)=m.take R:=by rw[List.take_eq_take_iff];omega
 have ag:(m.take R).length=min m.length R:=by rw[ZAS];omega
 rw[ae] at f3
 let⟨af,p1,p2⟩:=mPZ (P:=P) hH hg aa (by omega) (by omega) f3 ac ad
 have ab:(Builtin.copy_ #[t,sT] ty #[.slice (some ⟨g,off*u.cells,none⟩) R c,x]).run P z.w= .ok (.int .i64 ((min m.length R:Nat):Int)) (z.w.setCells g (off*u.cells) css.flatten):=by
  have ah:Nat.min m.length R=min m.length R:=rfl;simp[Builtin.copy_,run_underlying hu,fkZ hx,sizeOf,typeInfo,i1,i2,f1,af,goInt]
 exact .mk' ab p1 (.mkI _ _) p2 h
theorem nnZ{t e ty sT}{u}{l m}{e'}{x}{id g sz n off dl c}{K}{r:β}(hH:bI z H)(hg:bG H id=some ⟨false,.rows e' u l⟩)(R:z.ρ id= .real g sz n)
 (hu:P.underlying t=some (.slice e))(hc:u.cells=P.cellsOf e)(hx:fH z u m x)(aa:off+dl<=l.length)
 (h:K (.i .i64 ((min m.length dl:Nat):Int)) (bS H id (some ⟨false,.rows e' u (bY l off (m.take dl))⟩))=some r):
 Ok P (Builtin.copy_ #[t,sT] ty #[.slice (some ⟨g,off*u.cells,none⟩) dl c,x]) z K r:=
 tIZ hH (hH.x hg (aTZ R)) R hu hc hx aa (.stat (hH.low hg (aTZ R)) hg (hH.low hg (aTZ R))) (bUZ (hH.low hg (aTZ R))) h
theorem gTZ{t e ty sT}{u}{m}{e'}{x}{id off}{A}{K}{r:β}{l}(hH:bI z H)(hg:bG H id=some ⟨false,.rows e' u l⟩)
 (hu:P.underlying t=some (.slice e))(hc:u.cells=P.cellsOf e)(aa:0<u.cells)(hx:fH z u m x)
 (h:K (.i .i64 ((min m.length 0:Nat):Int)) (bS H id (some ⟨false,.rows e' u (bY l off (m.take 0))⟩))=some r):
 Ok P (Builtin.copy_ #[t,sT] ty #[.slice A 0 0,x]) z K r:=by
 have hi:∃i,P.info? e=some i/\i.size=u.cells:=by
  have:=b3Z hc.symm (by omega)
  let⟨i,h1,h2⟩:=ZAH.1 this
  exact⟨i,h1,h2⟩
 let⟨i,i1,i2⟩:=hi
 let⟨css,f1,f2,f3⟩:=hx.first (P:=P) 0 (ZBG _)
 obtain rfl:css=[]:=ZAY f2;have hs:bY l off (m.take 0)=l:=by simp[bY]
 rw[hs] at h;refine .mk' ?_ (hH.reset hg) (.mkI _ _) (Nx.refl z) h;have R:Nat.min m.length 0=0:=Nat.min_eq_right (ZBG _);cases A<;>simp[Builtin.copy_,run_underlying hu,fkZ hx,sizeOf,typeInfo,i1,i2,f1,goInt,storeCells]
theorem pOZ{t sT}(ty){a ax}{v vx}{K}{r:β}(h:uZ P t a ax H K=some r)(hH:bI z H)(ha:bE z a v)(hx:bE z ax vx):
 Ok P (Builtin.copy_ #[t,sT] ty #[v,vx]) z K r:=by
 unfold uZ at h;split at h
 .rename_i e hu;obtain⟨u,h1,h2⟩:=agZ.1 h;obtain⟨t1,t2,_⟩:=dnZ h1;obtain⟨m,hm,h3⟩:=fNZ h2 hH hx;split at h3
  .rename_i es id;split at h3
   .rename_i e' t' l hg;rcases aUZ h3 with⟨rfl,h4⟩|h4
    .obtain⟨h5,h6⟩:=aeZ.1 h4;rw[afZ] at h5;subst h5;cases ha with
     |slfV _ _ A R=>
      obtain⟨rfl,_⟩:=hH.virt hg R;exact gTZ hH hg hu t1 t2 hm h6
     |slf _ _ g sz n c R hn hs ae=>
      have hl:l.length=n:=by obtain⟨_,_,_,cs,fr,a1,a2,a3,a4,_⟩:=hH.real hg R;exact a4
      subst hl;have:=nnZ (sT:=sT) (ty:=ty) (c:=c) hH hg R hu t1 hm (by omega) h6;rwa [ZBn] at this
    .cases h4
   .cases h3
  .rename_i es id off n;split at h3
   .rename_i e' t' l hg;rcases aUZ h3 with⟨rfl,h4⟩|h4
    .obtain⟨h5,h6⟩:=aeZ.1 h4;simp only[ZAE,afZ,ZAm] at h5;obtain⟨rfl,h7⟩:=h5;cases ha with
     |slV _ _ _ A R=>exact gTZ hH hg hu t1 t2 hm h6
     |slE _ _ _ g sz m' o R=>exact gTZ hH hg hu t1 t2 hm h6
     |sl _ _ _ _ g sz m' c R hn hs ae=>exact nnZ hH hg R hu t1 hm h7 h6
    .cases h4
   .cases h3
  .rename_i f s x;obtain⟨af,h3⟩:=aeZ.1 h3;split at h3
   .rename_i e' s' ms hg;rcases aUZ h3 with⟨rfl,h4⟩|h4
    .rcases aUZ h4 with⟨rfl,h5⟩|h5
     .obtain⟨y,h6,h7⟩:=ZAG.1 h5;have h6:sF ms x m=some y:=h6;have al:=t2;have ab:=ha.v.scal rfl rfl;have aa:∀{A} {c},K (.i .i64 0) (bS H (bZ f) (some ⟨false,.fam e' u ms⟩))=some r->Ok P (Builtin.copy_ #[t,sT] ty #[.slice A 0 c,vx]) z K r:=λ{A c} hk=>by
       have hi:∃i,P.info? e=some i/\i.size=u.cells:=by
        have:=b3Z t1.symm (by omega);obtain⟨i,h1,h2⟩:=ZAH.1 this;exact⟨i,h1,h2⟩
       obtain⟨i,i1,i2⟩:=hi;obtain⟨css,f1,f2,f3⟩:=hm.first (P:=P) 0 (ZBG _);obtain rfl:css=[]:=ZAY f2;refine .mk' ?_ (hH.reset hg) (.mkI _ _) (Nx.refl z) hk;have ac:Nat.min m.length 0=0:=Nat.min_eq_right (ZBG _);cases A<;>simp[Builtin.copy_,run_underlying hu,fkZ hm,ac,sizeOf,typeInfo,i1,i2,f1,goInt,storeCells]
      rcases x with l|(_|⟨k,off,n⟩)
      .unfold sF at h6;obtain⟨h8,h9⟩:=aeZ.1 h6;rw[afZ] at h8;cases h9;obtain⟨A,c,hv,_⟩:=ab;simp only[ZBR,ZBk] at hv;have:=h8;rw[this] at hv;subst hv;exact aa h7
      .cases h6;have hv:[v]=[.slice none 0 0]:=ab;simp only[ZBR,ZBk] at hv;subst hv;exact aa h7
      .obtain⟨p,g3,h8⟩:=ZAG.1 h6;obtain⟨h9,ag⟩:=aeZ.1 h8;cases ag;simp only[ZAE,afZ,ZAm] at h9;obtain⟨g4,ah⟩:=h9;rcases ab with⟨A,R,rfl,hv⟩|⟨g,sz,m',c,R,am,hs,an,hv⟩
       .simp only[ZBR,ZBk] at hv;subst hv;have hs:bY p.2 off (m.take 0)=p.2:=by simp[bY]
        rw[hs] at h7;have ai:ms.set k (1,p.2)=ms:=by
         obtain⟨hk,aj⟩:=ZAB.1 g3;have:((1,p.2):Nat×List u.den)=ms[k]:=by rw[aj,<-g4]
         rw[this];exact ZCY hk
        rw[ai] at h7;exact aa (by simpa using h7)
       .simp only[ZBR,ZBk] at hv;subst hv;have ad:=g7Z hg g3 (by rw[g4];omega);have ak:((⟨false||Nat.ble 2 p.1,.rows e' u p.2⟩:Ent))=⟨false,.rows e' u p.2⟩:=by rw[g4];rfl
        rw[ak] at ad;exact tIZ hH ad R hu t1 hm ah (.mem hg (hH.fam _ _ hg) g3 _) (kUZ af) h7
     .cases h5
    .cases h4
   .cases h3
  .cases h3
 grind
theorem cAZ{t e ty}{A}{c}(w)(R:P.underlying t=some (.slice e)):(Builtin.clear_ #[t] ty #[.slice A 0 c]).run P w= .ok (.tuple #[]) w:=by
 cases A<;>simp[Builtin.clear_,run_underlying R]
theorem hdZ{t e ty}{a}{n c}{i}{zv}{w w'}(R:P.underlying t=some (.slice e))(hi:P.info? e=some i)(hz:i.zero=some zv)(hn:n≠0)
 (h:(storeCells a (Builtin.zeroCells zv.cells n).toList).run P w= .ok () w'):(Builtin.clear_ #[t] ty #[.slice (some a) n c]).run P w= .ok (.tuple #[]) w':=by
 simp[Builtin.clear_,run_underlying R,zeroValue,typeInfo,hi,hz,h]
theorem hfZ(zs)(n):(Builtin.zeroCells zs n).toList=(List.replicate n zs.toList).flatten:=gHZ zs n
theorem knZ{t e ty}{u}{l}{e'}{id g sz n off R c}{K}{r:β}(hH:bI z H)(hg:bG H id=some ⟨false,.rows e' u l⟩)(ab:z.ρ id= .real g sz n)
 (hu:P.underlying t=some (.slice e))(hz:nY P e u=true)(ac:off+R<=l.length)
 (h:K (.tup []) (bS H id (some ⟨false,.rows e' u (bY l off (List.replicate R u.zero))⟩))=some r):
 Ok P (Builtin.clear_ #[t] ty #[.slice (some ⟨g,off*u.cells,none⟩) R c]) z K r:=by
 obtain⟨i,zv,q1,q2,q3⟩:=cPZ hz;obtain⟨c1,c2⟩:=(q3 z.w z.M z.ρ).cells;rcases ZBs R with h0|h0
 .subst h0;have hs:bY l off (List.replicate 0 u.zero)=l:=by simp[bY]
  rw[hs] at h;exact .mk' (z':=z) (cAZ z.w hu) (hH.reset hg) (.tup _ _ rfl (λi x v h=>by grind)) (Nx.refl z) h
 .obtain⟨aa,p1,p2⟩:=nWZ (P:=P) hH hg ab (m:=List.replicate R u.zero) (off:=off) (css:=List.replicate R zv.cells.toList) (by simp_all) (by simp) (λi e us h1 h2=>by
   grind)
  rw[<-hfZ] at aa p1 p2;exact .mk' (z':={z with w:=z.w.setCells g (off*u.cells) (Builtin.zeroCells zv.cells R).toList}) (hdZ hu q1 q2 (by omega) aa) p1 (.tup _ _ rfl (λi x v h=>by grind)) p2 h
theorem o7Z{t}(ty){a}{v}{K}{r:β}(h:qM P t a H K=some r)(hH:bI z H)(ha:bE z a v):Ok P (Builtin.clear_ #[t] ty #[v]) z K r:=by
 unfold qM at h;split at h
 .rename_i e hu
  let⟨u,h1,h2⟩:=agZ.1 h
  let⟨hz,h3⟩:=aeZ.1 h2
  have ab:∀{z'},bE z' (.tup []) (.tuple #[]):=.tup _ _ rfl (λi x v h=>by simp at h);have aa:∀{A} {c} {u'} {l} {id} {e'} {off},bG H id=some ⟨false,.rows e' u' l⟩->K (.tup []) (bS H id (some ⟨false,.rows e' u' (bY l off (List.replicate 0 u'.zero))⟩))=some r->
   Ok P (Builtin.clear_ #[t] ty #[.slice A 0 c]) z K r:=λ{A c u' l id e' off} hg hk=>by
   have hs:bY l off (List.replicate 0 u'.zero)=l:=by simp[bY]
   rw[hs] at hk;exact .mk' (cAZ z.w hu) (hH.reset hg) ab (Nx.refl z) hk
  split at h3
  .obtain rfl:=ha.v.opq.1;exact .mk' (cAZ z.w hu) hH ab (Nx.refl z) h3
  .rename_i es id;split at h3
   .rename_i e' t' l hg;rcases aUZ h3 with⟨rfl,h4⟩|h4
    .let⟨h5,h6⟩:=aeZ.1 h4
     rw[afZ] at h5;subst h5;cases ha with
     |slfV _ _ A R=>
      obtain⟨rfl,_⟩:=hH.virt hg R;exact aa hg h6
     |slf _ _ g sz n c R hn hs ac=>
      have hl:l.length=n:=by let⟨_,_,_,cs,fr,a1,a2,a3,a4,_⟩:=hH.real hg R;exact a4
      subst hl;have:=knZ (ty:=ty) (c:=c) hH hg R hu hz (by omega) h6;rwa [ZBn] at this
    .cases h4
   .cases h3
  .rename_i es id off n;split at h3
   .rename_i e' t' l hg;rcases aUZ h3 with⟨rfl,h4⟩|h4
    .let⟨h5,h6⟩:=aeZ.1 h4
     simp[ZAm] at h5;obtain⟨rfl,h7⟩:=h5;cases ha with
     |slV _ _ _ A R=>exact aa hg h6
     |slE _ _ _ g sz m' o R=>exact aa hg h6
     |sl _ _ _ _ g sz m' c R hn hs ac=>exact knZ hH hg R hu hz h7 h6
    .cases h4
   .cases h3
  .cases h3
 grind
end
section
variable {P : Program} {β : Type} {z : Z} {H : Hp}
theorem h9Z{α}{f}(hf:∀{a b},f a b=true->a=b):∀{l r:List α},kU f l r=true->l=r
 |[],[],_=>rfl
 |a::l,b::r,h=>by
  simp[kU] at h;rw[hf h.1,h9Z hf h.2]
 |[],_::_,h=>by grind[kU]
 |_::_,[],h=>by grind[kU]
theorem e6Z:(k:Ty)->k.keyed=true->{x a:k.den}->k.eqb x a=true->x=a
 |.int _,_,x,a,h=>by
  have:((x:Int)==(a:Int))=true:=h
  simp_all
 |.byte,_,x,a,h=>by
  have:((x:UInt8)==(a:UInt8))=true:=h
  simp_all
 |.bool,_,x,a,h=>by
  have:((x:Bool)==(a:Bool))=true:=h
  simp_all
 |.str,_,x,a,h=>by
  have:((x:List UInt8)==(a:List UInt8))=true:=h
  simp_all
 |.one t,hk,x,a,h=>e6Z t hk h
 |.pair s t,hk,x,a,h=>by
  simp[Ty.keyed] at hk;simp[Ty.eqb] at h;exact Prod.ext (e6Z s hk.1 h.1) (e6Z t hk.2 h.2)
 |.arr _ t,hk,x,a,h=>h9Z (λh=>e6Z t hk h) h
theorem lIZ{R}{k}(h:tO P R k=true):k.keyed=true:=by
 simp_all[tO]
def IV(w:World)(g:Nat)(o:Obj):World:={w with heap:=w.heap.setIfInBounds g o}
theorem i0Z{w}{g}{es}{c}(h:w.heap[g]? =some (.map es c))(o):(setObj g o).run P w= .ok () (IV w g o):=by
 simp[setObj,Sem.run,h]
 rfl
theorem jaZ{w}{g}{es}{c}(h:w.heap[g]? =some (.map es c)):(getObj g).run P w= .ok (.map es c) w:=by
 simp[getObj,Sem.run,h]
theorem qtZ(w)(old new):∃v w',(Instr.keyThatStays old new).run P w= .ok v w'/\(v=old\/v=new)/\w'.heap=w.heap/\w'.os=w.os/\(w'.tape=w.tape/\w.drawn<=w'.drawn)/\w'.output=w.output:=by
 by_cases h:Instr.sameBits 10000 old new=true
 .exact⟨new,w,by simp[Instr.keyThatStays,h],.inr rfl,rfl,rfl,⟨rfl,ZAN _⟩,rfl⟩
 .by_cases h2:(Question.extern "map.whichKeyStays" 2).cut (w.tape w.drawn (.extern "map.whichKeyStays" 2))=0
  .exact⟨new,w.drew,by simp[Instr.keyThatStays,h,Question.forced,h2],.inr rfl,rfl,rfl,⟨rfl,ZBa _⟩,rfl⟩
  .exact⟨old,w.drew,by simp[Instr.keyThatStays,h,Question.forced,h2],.inl rfl,rfl,rfl,⟨rfl,ZBa _⟩,rfl⟩
theorem fXZ{id g sz n}{b0 b}{w1}{o}(hH:bI z H)(hg:bG H id=some ⟨false,b0⟩)(hρ:z.ρ id= .real g sz n)(h1:w1.heap=z.w.heap)(h2:w1.os=z.w.os)(h3:w1.tape=z.w.tape/\z.w.drawn<=w1.drawn)(h4:w1.output=z.w.output)
 (hb:∀z',Kp z z'->z'.w.heap[g]? =some o->gR z' g sz n b):bI {z with w:=IV w1 g o} (bS H id (some ⟨false,b⟩))/\Nx z {z with w:=IV w1 g o}:=by
 have hlt:=(hH.real hg hρ).1;refine hH.write hg hρ h2 h3 h4 (by simp[IV,h1]) (fun b hb=> ?_) fun k=>hb _ k ?_
 ·simp[IV,h1,ZBj hb]
 simp_all[IV]
section
variable {k v : Ty}
theorem qJZ:∀{l} {j} {a x} {b y:v.den} {n},l[j]? =some ((a,b),n)->k.eqb x a=true->(∀R e,R<j->l[R]? =some e->k.eqb x e.1.1=false)->wD l x y=l.set j ((x,y),n)
 |[],j,_,_,_,_,_,h,_,_=>by grind
 |((a',b'),n')::l,0,a,x,b,y,n,h,hq,hf=>by
  obtain⟨⟨rfl,rfl⟩,rfl⟩:=h;simp[wD,hq]
 |((a',b'),n')::l,j+1,a,x,b,y,n,h,hq,hf=>by
  have:=hf 0 _ (by omega) rfl;simp[wD,this,List.set_cons_succ];rw[qJZ (by simpa using h) hq λR e hj he=>hf (R+1) e (by omega) (by simpa using he)]
theorem sfZ:∀{l} {j} {a x} {b:v.den} {n},l[j]? =some ((a,b),n)->k.eqb x a=true->(∀R e,R<j->l[R]? =some e->k.eqb x e.1.1=false)->xJ l x=l.eraseIdx j
 |[],j,_,_,_,_,h,_,_=>by grind
 |((a',b'),n')::l,0,a,x,b,n,h,hq,hf=>by
  obtain⟨⟨rfl,rfl⟩,rfl⟩:=h;simp[xJ,hq]
 |((a',b'),n')::l,j+1,a,x,b,n,h,hq,hf=>by
  have:=hf 0 _ (by omega) rfl;simp[xJ,this,List.eraseIdx_cons_succ];rw[sfZ (by simpa using h) hq λR e hj he=>hf (R+1) e (by omega) (by simpa using he)]
theorem nzZ:∀{l:List ((k.den×v.den)×Nat)} {x},eI l x=none->xJ l x=l
 |[],_,_=>rfl
 |((a,b),n)::l,x,h=>by
  simp[eI] at h;cases hq:k.eqb x a<;>rw[hq] at h<;>simp only[ZAL,ZAD] at h
  .simp[xJ,hq];rw[nzZ h]
  .cases h
theorem seZ:∀{l l'} {i} {y},DD l i y=some l'->∃(j:Nat) (a:k.den) (b:v.den) (n:Nat),l[j]? =some ((a,b),n)/\(n:Int)=i/\l'=l.set j ((a,y),n)/\∀R e,R<j->l[R]? =some e->(e.2:Int)≠i
 |[],_,_,_,h=>by grind[DD]
 |((a,b),n)::l,l',i,y,h=>by
  simp[DD] at h;cases hq:((n:Int)==i)<;>rw[hq] at h<;>simp only[ZAL,ZAD] at h
  .obtain⟨l1,h1,rfl⟩:=ZAH.1 h
   let⟨j,a',b',n',q1,q2,q3,q4⟩:=seZ h1
   refine⟨j+1,a',b',n',by simpa using q1,q2,by rw[q3];rfl,λR e hj he=> ?_⟩
   grind
  .simp at h;exact⟨0,a,b,n,rfl,by simp_all,h.symm,λR e hj=>by omega⟩
end
def sI(z:Z)(k v)(M:rF k v)(es:Array MapEntry):Prop:=
 es.size=M.1.length/\(∀(i:Nat) x e,M.1[i]? =some x->es[i]? =some e->cU z.w z.M z.ρ k x.1.1 e.key/\cU z.w z.M z.ρ v x.1.2 e.val/\e.born=x.2)/\
  (∀(i j:Nat) x y,M.1[i]? =some x->M.1[j]? =some y->x.2=y.2->i=j)/\(∀(i:Nat) x,M.1[i]? =some x->x.2<M.2)
theorem sI.kp{z'}(kk:Kp z z'){k v}{M}{es}(h:sI z k v M es):sI z' k v M es:=
 ⟨h.1,λi x e R q2=>⟨(h.2.1 i x e R q2).1.kp kk,(h.2.1 i x e R q2).2.1.kp kk,(h.2.1 i x e R q2).2.2⟩,h.2.2⟩
theorem rJZ{k v:Ty}{l:List ((k.den×v.den)×Nat)}{j n}{p q}(R:l[j]? =some (p,n)){i:Nat}{x}(h:(l.set j (q,n))[i]? =some x):∃y,l[i]? =some y/\y.2=x.2:=by
 grind
theorem sI.set{k v}{M}{es R}{j n}{p}{x}{y}{e'}(h:sI z k v M es)(hj:M.1[j]? =some (p,n))(hx:cU z.w z.M z.ρ k x e'.key)(hy:cU z.w z.M z.ρ v y e'.val)(hb:e'.born=n)
 (hs:R.size=es.size)(h1:R[j]? =some e')(h2:∀i,i≠j->R[i]? =es[i]?):sI z k v (M.1.set j ((x,y),n),M.2) R:=by
 obtain⟨a1,a2,a3,a4⟩:=h;refine⟨by rw[hs,a1];simp,λi a e q1 q2=> ?_,λi i' a b q1 q2 q3=> ?_,λi a q1=> ?_⟩
 .by_cases hi:j=i
  .subst hi;have:=(ZAB.1 hj).1;rw[ZAQ this] at q1;rw[h1] at q2;simp only[ZAV] at q1 q2;subst q1;subst q2;exact⟨hx,hy,hb⟩
  .rw[ZAX hi] at q1;rw[h2 i (ZBj hi)] at q2;exact a2 i a e q1 q2
 .obtain⟨y1,r1,r2⟩:=rJZ hj q1;obtain⟨y2,r3,r4⟩:=rJZ hj q2;exact a3 i i' y1 y2 r1 r3 (by rw[r2,r4,q3])
 grind
theorem sI.push{k v}{M}{es}{x}{y}{e'}(h:sI z k v M es)(hx:cU z.w z.M z.ρ k x e'.key)(hy:cU z.w z.M z.ρ v y e'.val)(hb:e'.born=M.2):
 sI z k v (M.1++[((x,y),M.2)],M.2+1) (es.push e'):=by
 obtain⟨a1,a2,a3,a4⟩:=h;have key:∀(i) a,(M.1++[((x,y),M.2)])[i]? =some a->(i<M.1.length/\M.1[i]? =some a)\/(i=M.1.length/\a=((x,y),M.2)):=λi a h=>by
  by_cases hi:i<M.1.length
  .rw[ZAT hi] at h;exact .inl ⟨hi,h⟩
  .rw[ZAU (by omega)] at h;have aa:=by
    have:=(ZAB.1 h).1;simpa using this
   rw[aa] at h;simp at h;exact .inr ⟨by omega,h.symm⟩
 refine⟨by simp[a1],λi a e q1 R=> ?_,λi i' a b q1 R q3=> ?_,λi a q1=> ?_⟩
 .rcases key i a q1 with⟨hi,q1⟩|⟨rfl,rfl⟩
  .rw[ZCk,ZAK (by omega)] at R;exact a2 i a e q1 R
  .rw[ZCk,ZAM a1.symm] at R;simp only[ZAV] at R;subst R;exact⟨hx,hy,hb⟩
 .rcases key i a q1 with⟨hi,q1⟩|⟨rfl,rfl⟩<;>rcases key i' b R with⟨ab,R⟩|⟨rfl,rfl⟩
  .exact a3 i i' a b q1 R q3
  .have:=a4 i a q1;simp only at q3;omega
  .have:=a4 i' b R;simp only at q3;omega
  .rfl
 grind
theorem sI.find{k v}{M}{es}{kt}{x}{vk}(h:sI z k v M es)(hk:tO P kt k=true)(hx:cU z.w z.M z.ρ k x vk):
 ∃q,(Instr.findKey kt vk es.toList).run P z.w= .ok q z.w/\((q=none/\eI M.1 x=none)\/
  ∃(j:Nat) (b:v.den) (n:Nat) (e:MapEntry),q=some (j,e.val)/\M.1[j]? =some ((x,b),n)/\es[j]? =some e/\eI M.1 x=some (b,n)/\k.eqb x x=true/\∀(R) e',R<j->M.1[R]? =some e'->k.eqb x e'.1.1=false):=by
 obtain⟨a2,a3,_⟩:=h;obtain⟨q,f1,f2⟩:=cRZ hk z.w hx es.toList (M.1.map (·.1.1)) (by grind) (λj a e e1 e2=>by
  grind)
 refine⟨q,f1,?_⟩;rcases f2.split (by grind) with⟨rfl,f3⟩|⟨j,a,e,rfl,f3,f4,f5,f6⟩
 .refine .inl ⟨rfl,?_⟩;cases hq:eI M.1 x with
  |none=>rfl
  |some y=>
   obtain⟨j,a,q1,q2,_⟩:=cNZ hq;have:=f3 j a (by simp[q1]);rw[q2] at this;cases this
 .rw[ZAW] at f3;obtain⟨⟨⟨a',b⟩,n⟩,f7,rfl⟩:=ZAH.1 f3;simp only at f5;obtain rfl:=e6Z k (lIZ hk) f5;refine .inr ⟨j,b,n,e,rfl,f7,by simpa using f4,?_,f5,λR e' aa ab=>f6 R e'.1.1 aa (by simp[ab])⟩;cases hq:eI M.1 x with
  |none=>
   have:=feZ hq j _ f7;rw[f5] at this;cases this
  |some y'=>
   obtain⟨R,a',q1,q2,q3⟩:=cNZ hq;have ac:R=j:=by
    rcases ZCd R j with ad|ae|hgt
    .have:=f6 R a' ad (by simp[q1]);rw[q2] at this;cases this
    .exact ae
    .have:=q3 j _ hgt f7;rw[f5] at this;cases this
   subst ac;rw[q1] at f7;injection f7 with f7;injection f7 with f8 f9;injection f8 with f8 af;rw[<-f9,<-af]
def OkU(P:Program)(s:Sem Unit)(z:Z)(K:AV->Hp->Option β)(r:β):Prop:=
 ∃H' z',s.run P z.w= .ok () z'.w/\bI z' H'/\Nx z z'/\K .junk H'=some r
theorem gUZ{t R et}{q}(hu:P.underlying t=some (.map R et))(hq:∀v,q=some v->∃k n,v= .int k n)(w):(Instr.makeMap t q).run P w= .ok (.map (some w.heap.size)) (w.alloc (.map #[] 0)):=by
 cases q with
 |none=>rfl
 |some v=>
  obtain⟨k,n,rfl⟩:=hq v rfl;simp[Instr.makeMap,run_underlying hu,asInt,asIntOf]
theorem kqZ{t}{a}{v}{md}{id}{K}{r:β}(h:lE P t a md id H K=some r)(hH:bI z H)(hd:¬z.D id)(ha:BB z a v):Ok P (Instr.makeMap t v) z K r:=by
 unfold lE at h;split at h
 .rename_i kt et hu
  let⟨k,h1,h2⟩:=agZ.1 h
  let⟨h3,h4⟩:=aeZ.1 h2
  have hq:∀x,v=some x->∃k n,x= .int k n:=λx hx=>by
   rcases ha with⟨rfl,rfl⟩|⟨y,u,rfl,rfl,hy⟩
   .cases hx
   .simp at hx;subst hx;cases hn:y.any? with
    |none=>simp only[hn] at h3;cases h3
    |some n=>
     let⟨kk,e⟩:=b8Z hn hy
     exact⟨kk,n,e⟩
  have aa:=gUZ hu hq z.w;have R:∀b,(bM H id=false/\id<bA)->(∀z',Kp z z'->z'.w.heap[z.w.heap.size]? =some (.map #[] 0)->gR z' z.w.heap.size 0 0 b)->K (.mp id) (bS H id (some ⟨false,b⟩))=some r->Ok P (Instr.makeMap t v) z K r:=λb hk hb hK=>by
   have ab:=(ZBH.1 (heap_alloc_new z.w (.map #[] 0))).1;obtain⟨z',p1,p2,p3,p4⟩:=hH.new hk hd (ZAN _) ab rfl ⟨rfl,ZAN _⟩ rfl (Nat.le_of_lt ab) (λk hk=>heap_alloc_old _ _ _ hk) (λz' hz kk=>hb z' kk (by rw[hz];exact heap_alloc_new _ _));exact .mk' (by rw[p1];exact aa) p2 (.mp _ _ _ _ p4) p3 hK
  cases hf:AU P et<;>rw[hf] at h4<;>simp[bq_false] at h4
  .let⟨u,h5,h6⟩:=agZ.1 h4
   let⟨h7,h8⟩:=aJZ.1 h6
   exact R (.map k (KD md u) ([],0)) h7 (λz' kk hz=>⟨#[],hz,rfl,λi x e h=>by simp at h,λi j x y h=>by simp at h,λi x h=>by simp at h⟩) h8
  .let⟨h7,h8⟩:=aJZ.1 h4
   exact R (.fmap k []) h7 (λz' kk hz=>⟨#[],0,hz,rfl,λi x e h=>by simp at h⟩) h8
 grind
theorem tpZ{t}{k v}(h:xM P t k v=true):∃kt R,P.underlying t=some (.map kt R)/\tO P kt k=true/\ty P R=some v.unref/\nY P R v=true:=by
 unfold xM at h
 grind
theorem svZ{id}{a a'}{H'}{v}(hH:bI z H)(h:KE H id a=some (a',H'))(ha:bE z a v):
 ∃z',z'.w=z.w/\bI z' H'/\Nx z z'/\bE z' a' v:=by
 unfold KE at h;split at h
 .rename_i fz k u M hg;cases hb:u.noRef<;>rw[hb] at h<;>simp[bq_false] at h
  .let⟨⟨y,H1⟩,h1,h2⟩:=agZ.1 h
   let⟨z1,q1,q2,q3,q5⟩:=rdZ hH h1 ha
   let⟨R,r1,r2,r3,_,r5⟩:=bWZ q2 h2 q5
   exact⟨R,r1.trans q1,r2,q3.trans r3,r5⟩
  .let⟨R,r1,r2,r3,_,r5⟩:=bWZ hH h ha
   exact⟨R,r1,r2,r3,r5⟩
 grind[bWZ]
theorem gbZ{t}{m ak ax}{vm vk vx}{K}{r:β}(h:nG P t m ak ax H K=some r)(hH:bI z H)(hm:bE z m vm)(hk:bE z ak vk)(hx:bE z ax vx):OkU P (Instr.mapUpdate t vm vk vx) z K r:=by
 unfold nG at h;split at h
 ·rename_i id;cases hm with|mp _ g sz n hρ=>
  split at h
  ·rename_i k l hg;obtain⟨h1,h2⟩:=aeZ.1 h;obtain⟨x,h3,h4⟩:=bVZ h2 hk;obtain⟨h5,h6⟩:=aeZ.1 h4;obtain⟨c,h7,h8⟩:=agZ.1 h6;obtain⟨h9,h10⟩:=aeZ.1 h8;unfold AW at h1;split at h1
   ·rename_i kt et hu;simp only[ZAE] at h1;obtain⟨⟨hK,_⟩,_⟩:=h1;obtain⟨_,_,_,es,clock,a1,a2,a3⟩:=hH.real hg hρ;have hck:=boZ (em:=false) z.w dB kt k (dMZ hK).2 10000 (by unfold dB;omega) x vk h3;obtain⟨q,f1,f2⟩:=cRZ hK z.w h3 es.toList (l.map (·.1)) (by simp[a2]) (fun j a e e1 e2=>by
     rw[ZAW] at e1;obtain⟨y,e3,rfl⟩:=ZAH.1 e1;exact(a3 j y e e3 (by simpa using e2)).1)
    have hno:∀(l),HM l x=true->∀(i:Nat) e,l[i]? =some e->k.eqb x e.1=false:=by
     intro l;induction l with
     |nil=>intro _ i e he;simp at he
     |cons a l ih=>
      intro hn i e he;simp only[HM,ZAE,ZAk] at hn
      match i with
      |0=>simp at he;subst he;exact hn.1
      |i+1=>exact ih hn.2 i e (by simpa using he)
    rcases f2.split (by simp[a2]) with⟨rfl,f3⟩|⟨j,a,e,rfl,f3,f4,f5,f6⟩
    ·obtain⟨p1,p2⟩:=fXZ (o:=.map (es.push {key:=vk,val:=vx,born:=clock}) (clock+1)) (b:=.fmap k (l++[(x,ax)])) hH hg hρ rfl rfl ⟨rfl,ZAN _⟩ rfl (fun z' kk hz=>by
      refine⟨_,_,hz,by simp[a2],fun i a e q1 q2=> ?_⟩;by_cases hi:i<l.length
      ·rw[ZAT hi] at q1;rw[ZCk,ZAK (by omega)] at q2;exact⟨(a3 i a e q1 q2).1.kp kk,(a3 i a e q1 q2).2.kp kk⟩
      ·rw[ZAU (by omega)] at q1;have hi0:=by
        have:=(ZAB.1 q1).1;simpa using this
       rw[hi0] at q1;rw[ZCk,ZAM (by omega)] at q2;simp at q1 q2;subst q1;subst q2;exact⟨h3.kp kk,hx.kp kk⟩)
     refine⟨_,_,?_,p1,p2,h10⟩;simp[Instr.mapUpdate,run_underlying hu,jaZ a1,hck,f1,i0Z a1]
    ·rw[ZAW] at f3;obtain⟨y,f7,rfl⟩:=ZAH.1 f3;have:=hno l h5 j y f7;rw[f5] at this;cases this
   ·cases h1
  ·obtain⟨⟨y,H1⟩,h1,h2⟩:=agZ.1 h;obtain⟨z1,s1,s2,s3,s5⟩:=svZ hH h1 hx;split at h2
   ·rename_i k v M hg;obtain⟨h3,h4⟩:=aeZ.1 h2;obtain⟨x,h5,h6⟩:=bVZ h4 (hk.kp (s3.kp hH.sub));obtain⟨w,h7,h8⟩:=bVZ h6 s5;obtain⟨kt,et,hu,hK,_,_⟩:=tpZ h3;have hρ1:z1.ρ id= .real g sz n:=by rw[s3.ext id (by rw[hρ];intro h;cases h)];exact hρ
    obtain⟨_,_,_,es,a1,a2⟩:=s2.real hg hρ1;have a2':sI z1 k v M es:=a2;have hck:=boZ (em:=false) z1.w dB kt k (dMZ hK).2 10000 (by unfold dB;omega) x vk h5;obtain⟨q,f1,f2⟩:=a2'.find hK h5;rcases f2 with⟨rfl,f3⟩|⟨j,b,nb,e,rfl,f3,f4,f5,f6,f7⟩
    ·have hp:mN M x w=(M.1++[((x,w),M.2)],M.2+1):=by unfold mN;rw[f3]
     rw[hp] at h8;obtain⟨p1,p2⟩:=fXZ (o:=.map (es.push {key:=vk,val:=vx,born:=M.2}) (M.2+1)) (b:=.map k v (M.1++[((x,w),M.2)],M.2+1)) s2 hg hρ1 rfl rfl ⟨rfl,ZAN _⟩ rfl (fun z' kk hz=>⟨_,hz,(a2'.push h5 h7 rfl).kp kk⟩);refine⟨_,_,?_,p1,s3.trans p2,h8⟩;rw[<-s1];simp[Instr.mapUpdate,run_underlying hu,jaZ a1,hck,f1,i0Z a1]
    ·have hp:mN M x w=(M.1.set j ((x,w),nb),M.2):=by unfold mN;rw[f5];simp only;rw[qJZ f3 f6 f7]
     rw[hp] at h8;obtain⟨key,w1,k1,k2,k3,k4,k5,k6⟩:=qtZ (P:=P) z1.w e.key vk;obtain⟨r1,r2,r3⟩:=a2'.2.1 j _ e f3 f4;have bM:cU z1.w z1.M z1.ρ k x key:=by rcases k2 with rfl|rfl<;>first|exact r1|exact h5
     have hj:=(ZBH.1 f4).1;obtain⟨p1,p2⟩:=fXZ (o:=.map (es.modify j fun e=>{e with key,val:=vx}) M.2) (b:=.map k v (M.1.set j ((x,w),nb),M.2)) s2 hg hρ1 k3 k4 k5 k6 (fun z' kk hz=>by
      refine⟨_,hz,(a2'.set (e':={e with key,val:=vx}) f3 bM h7 r3 (by simp) (by simp[ZB7,f4]) (fun i hi=>by simp[ZB7,ZBj hi])).kp kk⟩)
     refine⟨_,_,?_,p1,s3.trans p2,h8⟩;rw[<-s1];have a1':w1.heap[g]? =some (.map es M.2):=by rw[k3];exact a1
     simp[Instr.mapUpdate,run_underlying hu,jaZ a1,hck,f1,f4,k1,i0Z a1']
   ·cases h2
 grind
theorem sI.erase{k v}{M}{es aa}{j}(h:sI z k v M es)(hs:aa.toList=es.toList.eraseIdx j):sI z k v (M.1.eraseIdx j,M.2) aa:=by
 let⟨a1,a2,a3,a4⟩:=h
 have key:∀{α} (l:List α) (i),(l.eraseIdx j)[i]? =l[if i<j then i else i+1]? :=λl i=>by
  rw[List.getElem?_eraseIdx];split<;>rfl
 have hl:es.toList.length=M.1.length:=by simp[a1]
 refine⟨?_,λi a e R q2=> ?_,λi i' a b R q2 q3=> ?_,λi a R=> ?_⟩
 .rw[<-Array.length_toList,hs,List.length_eraseIdx,List.length_eraseIdx,hl]
 .rw[key] at R;rw[<-Array.getElem?_toList,hs,key] at q2;exact a2 _ a e R (by simpa using q2)
 .rw[key] at R q2;have:=a3 _ _ a b R q2 q3;split at this<;>split at this<;>omega
 grind
end
section
variable {P : Program} {T : Tbl} {β : Type} {z : Z} {H : Hp}
def OkX(P:Program)(s:Sem Next)(z:Z)(K:AV->Hp->Option β)(r:β):Prop:=
 ∃x H' z' nx,s.run P z.w= .ok nx z'.w/\bI z' H'/\Nx z z'/\((∃v,nx= .value v/\bE z' x v)\/(nx= .skip/\x= .junk))/\K x H'=some r
theorem OkX.v{ρ}{o}{s}{K}{r:β}(he:execOp ρ o=(do pure (.value (<-s))))(h:Ok P s z K r):OkX P (execOp ρ o) z K r:=by
 let⟨x,v,H',z',h1,h2,R,h4,h5⟩:=h
 exact⟨x,H',z',.value v,by simp_all,h2,h4,.inl ⟨v,rfl,R⟩,h5⟩
theorem OkX.u{ρ}{o}{s}{K}{r:β}(he:execOp ρ o=(do s;pure .skip))(h:OkU P s z K r):OkX P (execOp ρ o) z K r:=by
 let⟨H',z',h1,h2,R,h4⟩:=h
 exact⟨.junk,H',z',.skip,by simp_all,h2,R,.inr ⟨rfl,rfl⟩,h4⟩
theorem OkX.call{ρ}{o}{c}{b}{s}{K}{r:β}(ho:o.op= .call c)(hc:c.callee= .builtin b)
 (hb:∀R,builtin b c.argTypes o.type R (c.args.map ρ)=(do pure (.value (<-s))))(h:Ok P s z K r):OkX P (execOp ρ o) z K r:=by
 let⟨x,v,H',z',h1,h2,h3,h4,h5⟩:=h
 refine⟨x,H',z',.value v,?_,h2,h4,.inl ⟨v,rfl,h3⟩,h5⟩;unfold execOp;simp[ho,resolve,hc,invoke,hb,h1]
def BC(o:Oper):Bool:=match o.op with|.call c=>(match c.callee with|.value _=>true|_=>false)|_=>false
theorem DL.map{R:Array (Nat×Operand)}{r:Operand->AV}{ρ:Operand->Value}(hr:∀x,bE z (r x) (ρ x)):DL z (R.toList.map λx=>(x.1,r x.2)) (R.map λ(i,x)=>(i,ρ x)).toList:=by
 refine⟨by simp,λi x y h1 h2=> ?_⟩
 grind
theorem vFZ{o:Oper}{an:Ann}{r:Operand->AV}{ρ:Operand->Value}{K:AV->Hp->Option β}{ac:β}(h:evW P T o an r H K=some ac)(hH:bI z H)(hd:tS P o=true->¬z.D (an.ids.headD 0))(hr:∀x,bE z (r x) (ρ x))(hc:BC o=false):
 OkX P (execOp ρ o) z K ac:=by
 unfold evW at h;split at h
 .rename_i t R;exact .v (s:=Instr.alloc t true (.tuple #[])) (by simp[execOp,R]) (by cases hq:IS an.md<;>rw[hq] at h<;>first|exact llZ h hH (hd (by simp[tS,R]))|exact oLZ h hH (hd (by simp[tS,R])))
 .rename_i t x R;exact .v (s:=Instr.box t (ρ x)) (by simp[execOp,R]) (by cases hq:IS an.md<;>rw[hq] at h<;>first|exact pUZ h hH (hd (by simp[tS,R])) (hr x)|exact s1Z h hH (hd (by simp[tS,R])) (hr x))
 .rename_i t n ps R;exact .v (s:=Instr.buildSlice t n (ps.map λ(i,x)=>(i,ρ x))) (by simp[execOp,R]) (glZ h hH (hd (by simp[tS,R])) (DL.map hr))
 .rename_i t a x R;exact .u (s:=Instr.storeAt t (ρ a) (ρ x)) (by simp[execOp,R]) (oaZ h hH (hr a) (hr x))
 .rename_i s d x R;split at h
  .obtain⟨y,v,h1,h2,h3⟩:=fyZ h hH (hr x);exact .v (s:=convert s d (ρ x)) (by simp[execOp,R]) ⟨y,v,H,z,h1,hH,h2,Nx.refl z,h3⟩
  .exact .v (s:=convert s d (ρ x)) (by simp[execOp,R]) (juZ h hH (λhs=>hd (by simp[tS,R,hs])) (hr x))
 .rename_i t l c R;exact .v (s:=Instr.makeSlice t (ρ l) (ρ c)) (by simp[execOp,R]) (quZ h hH (hd (by simp[tS,R])) (hr l) (hr c))
 .rename_i t q R;exact .v (s:=Instr.makeMap t (q.map ρ)) (by simp[execOp,R]) (kqZ h hH (hd (by simp[tS,R])) (.map hr))
 .rename_i t m k x R;exact .u (s:=Instr.mapUpdate t (ρ m) (ρ k) (ρ x)) (by simp[execOp,R]) (gbZ h hH (hr m) (hr k) (hr x))
 .rename_i t m k x R;exact .u (s:=Instr.mapUpdate t (ρ m) (ρ k) (ρ x)) (by simp[execOp,R]) (gbZ h hH (hr m) (hr k) (hr x))
 .rename_i c R;have two:∀{α:Type} {l:Array α} {a b:α},l.toList=[a,b]->l=#[a,b]:=λhl=>by apply ZBz;rw[hl]
  split at h
  .rename_i ab;split at h
   .rename_i s x t u ha ht;have e1:=two ha;have e2:=two ht;have hb:∀aa,builtin .append c.argTypes o.type aa (c.args.map ρ)=(do pure (.value (<-Builtin.append_ #[t,u] o.type #[ρ s,ρ x]))):=λaa=>by simp[builtin,e1,e2]
    split at h
    .rename_i e' hu;exact .call R ab hb (fWZ o.type h hH (hd (by simp[tS,R,ab])) (hr s) (hr x) (.inl ⟨e',hu⟩))
    .rename_i hu;exact .call R ab hb (fWZ o.type h hH (hd (by simp[tS,R,ab])) (hr s) (hr x) (.inr hu))
    .cases h
   .cases h
  .rename_i ab;split at h
   .rename_i d x t ts ha ht;have e1:=two ha;refine .call (s:=Builtin.copy_ c.argTypes o.type #[ρ d,ρ x]) R ab (λaa=>by simp[builtin,e1]) ?_;have e0:c.argTypes[0]? =some t:=by rw[<-Array.getElem?_toList,ht];rfl
    have e2:Builtin.copy_ c.argTypes o.type #[ρ d,ρ x]=Builtin.copy_ #[t,t] o.type #[ρ d,ρ x]:=by simp[Builtin.copy_,e0]
    rw[e2];exact pOZ o.type h hH (hr d) (hr x)
   .cases h
  .rename_i ab;split at h
   .rename_i d t ha ht;have e1:c.args=#[d]:=by apply ZBz;rw[ha]
    have e2:c.argTypes=#[t]:=by apply ZBz;rw[ht]
    exact .call (s:=Builtin.clear_ #[t] o.type #[ρ d]) R ab (λaa=>by simp[builtin,e1,e2]) (o7Z o.type h hH (hr d))
   .cases h
  .rename_i f ab;simp[BC,R,ab] at hc
  .cases h
 .cases h
end
theorem g5Z:(R:List Ty)->(x:HL R)->gA R (DE R x)=x
 |[],_=>rfl
 |[_],x=>rfl
 |_::u::r,x=>by
  show(x.1,gA (u::r) (DE (u::r) x.2))=x;rw[g5Z (u::r) x.2]
  rfl
section
variable {β : Type} {z : Z}
theorem udZ{es id i j}{a:AV}(h:a.own? es id i j=true):a= .own es id i j:=by
 unfold AV.own? at h;split at h<;>simp_all
theorem s2Z{es id i j}{a:AV}(h:a.ownx? es id j=some i):a= .own es id i j:=by
 unfold AV.ownx? at h;split at h
 .rename_i R aa i' j';cases hb:(Nat.beq es R&&Nat.beq id aa&&Nat.beq j j')<;>rw[hb] at h<;>simp at h;simp[afZ] at hb;obtain⟨⟨rfl,rfl⟩,rfl⟩:=hb;rw[h]
 grind
theorem vsZ{es id}{y}{a:AV}(h:a.sl? es id=some y):a= .sl es id y.1 y.2:=by
 unfold AV.sl? at h;split at h
 .rename_i R aa i n;cases hb:(Nat.beq es R&&Nat.beq id aa)<;>rw[hb] at h<;>simp at h;simp[afZ] at hb;obtain⟨rfl,rfl⟩:=hb;rw[<-h]
 grind
theorem u7Z{es id}{a:AV}(h:a.slf? es id=true):a= .slf es id:=by
 unfold AV.slf? at h;split at h<;>simp_all
theorem vmZ{id}{a:AV}(h:a.mp? id=true):a= .mp id:=by
 unfold AV.mp? at h
 grind[afZ]
theorem vxZ{u}{l}{a:AV}(h:a.pt? u=some l):a= .pt u l 0 0:=by
 unfold AV.pt? at h
 grind
theorem v9Z{f}{y}{a}{v}(h:a.fn? f=some y)(R:bE z a v):bE z (.fn f y.1 y.2) v:=by
 unfold AV.fn? at h;split at h
 .rename_i g a c;cases hb:Nat.beq f g<;>rw[hb] at h<;>simp at h;rw[afZ] at hb;subst hb;subst h;exact R
 .rename_i g a c;cases hb:(Nat.beq f g&&(Nat.beq a.size 0&&Nat.beq c.size 0))<;>rw[hb] at h<;>simp at h;simp only[ZAE,afZ] at hb;obtain⟨rfl,h1,h2⟩:=hb;subst h;obtain rfl:=R.v.opq.1;exact .fn _ _ _ _ _ h1 h2 (λi x v h=>by simp at h) (λi x v h=>by simp at h)
 grind
theorem sOZ{v x}(h:JW v x=true):x=v:=by
 unfold JW at h
 grind
theorem tNZ{v}{a:AV}(h:a.nil? v=true):a= .p .opq v:=by
 unfold AV.nil? at h
 grind[sOZ]
theorem ugZ{a}{l}{v}(h:eS a=some l)(hg:IP a=true)(R:bE z a v):∃cs,v= .agg cs:=by
 let⟨_,_,q3⟩:=cOZ h R<;>grind
mutual
theorem co_ok:(k:Kd)->{r:List Ty}->{a:AV}->{x:HL r}->{K:HL (k.lv r)->Option β}->{R:β}->{v:Value}->co k r a x K=some R->bE z a v->
 ∃y,K y=some R/\bE z (emb k r y).1 v/\(emb k r y).2=x
 |.p t,r,a,x,K,R,v,h,ha=>by
  have h:asA t a (λy=>K (y,x))=some R:=h;obtain⟨y,h1,h2⟩:=bVZ h ha;exact⟨(y,x),h2,.p _ _ _ h1,rfl⟩
 |.pt t,r,a,x,K,R,v,h,ha=>by
  obtain⟨l,h1,h2⟩:=agZ.1 h;rw[vxZ h1] at ha;exact⟨(l,x),h2,ha,rfl⟩
 |.own es id i j,r,a,x,K,R,v,h,ha=>by
  obtain⟨h1,h2⟩:=aeZ.1 h;rw[udZ h1] at ha;exact⟨x,h2,ha,rfl⟩
 |.ownx es id j,r,a,x,K,R,v,h,ha=>by
  obtain⟨i,h1,h2⟩:=agZ.1 h;rw[s2Z h1] at ha;exact⟨(i,x),h2,ha,rfl⟩
 |.sl es id,r,a,x,K,R,v,h,ha=>by
  obtain⟨y,h1,h2⟩:=agZ.1 h;rw[vsZ h1] at ha;exact⟨(y.1,y.2,x),h2,ha,rfl⟩
 |.slf es id,r,a,x,K,R,v,h,ha=>by
  obtain⟨h1,h2⟩:=aeZ.1 h;rw[u7Z h1] at ha;exact⟨x,h2,ha,rfl⟩
 |.mp id,r,a,x,K,R,v,h,ha=>by
  obtain⟨h1,h2⟩:=aeZ.1 h;rw[vmZ h1] at ha;exact⟨x,h2,ha,rfl⟩
 |.any,r,a,x,K,R,v,h,ha=>⟨x,h,.junk v,rfl⟩
 |.fn f ka kc,r,a,x,K,R,v,h,ha=>by
  obtain⟨y,h1,h2⟩:=agZ.1 h;obtain⟨h3,h4⟩:=aeZ.1 h2;simp only[ZAE,afZ] at h3;have hf:=v9Z h1 ha;cases hf with|fn _ _ _ va vc e1 e2 e3 e4=>
  obtain⟨y1,q1,q2,q3⟩:=gFZ kc (vs:=vc.toList) h4 ⟨by simp[e2],λi a v p1 p2=>e4 i a v p1 (by simpa using p2)⟩ h3.2;obtain⟨y2,q4,q5,q6⟩:=gFZ ka (vs:=va.toList) q1 ⟨by simp[e1],λi a v p1 p2=>e3 i a v p1 (by simpa using p2)⟩ h3.1;refine⟨y2,q4,?_,by simp only[emb,q6,q3]⟩;simp only[emb,q6];refine .fn _ _ _ _ _ (by have:=q5.1;simpa using this.symm) (by have:=q2.1;simpa using this.symm) (λi x v p1 p2=>q5.2 i x v p1 (by simpa using p2)) (λi x v p1 p2=>q2.2 i x v p1 (by simpa using p2))
 |.agg l,r,a,x,K,R,v,h,ha=>by
  obtain⟨c,h1,h2⟩:=agZ.1 h;obtain⟨h3,h4⟩:=aeZ.1 h2;simp only[ZAE,afZ] at h3;obtain⟨cs,rfl⟩:=ugZ h1 h3.1 ha;obtain⟨p1,p2,_⟩:=cOZ h1 ha;obtain⟨y,q1,q2,q3⟩:=gFZ l (vs:=cs.toList) h4 p1 h3.2;refine⟨y,q1,?_,by simp only[emb,q3]⟩;simp only[emb];exact .agg _ _ (by have:=q2.1;simpa using this.symm) (λv hv=>p2 v hv) λi x v e1 e2=>q2.2 i x v e1 (by simpa using e2)
 |.tup l,r,a,x,K,R,v,h,ha=>by
  obtain⟨c,h1,h2⟩:=agZ.1 h;obtain⟨h3,h4⟩:=aeZ.1 h2;rw[afZ] at h3;obtain⟨vs,rfl,p1,p2⟩:=iJZ h1 ha;obtain⟨y,q1,q2,q3⟩:=gFZ l (vs:=vs.toList) h4 ⟨by simp[p1],λi a v e1 e2=>p2 i a v e1 (by simpa using e2)⟩ h3;refine⟨y,q1,?_,by simp only[emb,q3]⟩;simp only[emb];exact .tup _ _ (by have:=q2.1;simpa using this.symm) λi x v e1 e2=>q2.2 i x v e1 (by simpa using e2)
 |.nilp u,r,a,x,K,R,v,h,ha=>by
  obtain⟨h1,h2⟩:=aeZ.1 h;rw[tNZ h1] at ha;exact⟨x,h2,ha,rfl⟩
theorem gFZ:(k:KdL)->{r:List Ty}->{c:List AV}->{x:HL r}->{K:HL (k.lv r)->Option β}->{R:β}->{vs:List Value}->coL k r c x K=some R->bQ z c vs->c.length=k.length->
 ∃y,K y=some R/\bQ z (embL k r y).1 vs/\(embL k r y).2=x
 |.nil,r,c,x,K,R,vs,h,hc,hl=>by
  obtain rfl:c=[]:=ZAY hl;exact⟨x,h,hc,rfl⟩
 |.cons k l,r,[],x,K,R,vs,h,hc,hl=>by simp[KdL.length] at hl
 |.cons k l,r,a::c,x,K,R,[],h,hc,hl=>by have:=hc.1;simp at this
 |.cons k l,r,a::c,x,K,R,v::vs,h,hc,hl=>by
  simp only[coL,List.tail_cons,List.headD_cons] at h;obtain⟨y1,q1,q2,q3⟩:=gFZ l h hc.tail (by simpa[KdL.length] using hl);obtain⟨y2,q4,q5,q6⟩:=co_ok k q1 hc.head;refine⟨y2,q4,?_,by simp only[embL,q6,q3]⟩;simp only[embL,q6];exact .cons q5 q2
end
def Blk.isFam:Blk->Bool
 |.fam _ _ _=>true
 |_=>false
def EX(z:Z)(id:Nat)(e:Ent):Prop:=e.b.isFam=false->eW z id e
theorem bI.ex{H}(R:bI z H){id}{e}(h:bG H id=some e):EX z id e:=λhf=>by
 have h1:=R.fam id e h
 let⟨fz,b⟩:=e
 have h2:id<bA:=by cases b<;>first|exact h1|cases hf
 exact R.ent id _ (by simp_all[aqZ])
theorem uaZ{k}{r}{b}{x}{K}{R:β}(h:coB k r b x K=some R):
 (b.isFam=true->∃y,K y=some R/\(mA k r y).1=b/\(mA k r y).2=x)/\∀y,(mA k r y).1.isFam=b.isFam:=by
 cases k with
 |vars l=>
  let⟨c,h1,h2⟩:=agZ.1 h
  unfold Blk.vars? at h1;split at h1
  .exact⟨λh=>(by cases h),λ_=>rfl⟩
  simp_all
 |rows e t=>
  let⟨l,h1,h2⟩:=agZ.1 h
  unfold Blk.rows? at h1;split at h1
  .exact⟨λh=>(by cases h),λ_=>rfl⟩
  simp_all
 |map kt vt=>
  let⟨m,h1,h2⟩:=agZ.1 h
  unfold Blk.map? at h1;split at h1
  .exact⟨λh=>(by cases h),λ_=>rfl⟩
  simp_all
 |fam e s=>
  let⟨m,h1,h2⟩:=agZ.1 h
  unfold Blk.fam? at h1;split at h1
  .rename_i e' t' l';cases hb:Nat.beq e e'<;>rw[hb] at h1<;>simp at h1;rw[afZ] at hb;subst hb
   let⟨ht,h1⟩:=h1
   subst ht;subst h1;exact⟨λ_=>⟨(l',x),h2,rfl,rfl⟩,λ_=>rfl⟩
  simp_all
theorem tzZ{k}{r}{b}{x}{K}{aa:β}(h:coB k r b x K=some aa):
 (∀{g sz n},gR z g sz n b->∃y,K y=some aa/\gR z g sz n (mA k r y).1/\(mA k r y).2=x)/\(pK b->∃y,K y=some aa/\pK (mA k r y).1/\(mA k r y).2=x):=by
 cases k with
 |vars l=>
  let⟨c,h1,h2⟩:=agZ.1 h
  unfold Blk.vars? at h1;split at h1
  .rename_i c';cases hb:Nat.beq c'.length l.length<;>rw[hb] at h1<;>simp at h1;subst h1;rw[afZ] at hb;refine⟨λ{g sz n} R=> ?_,λR=>R.elim⟩
   let⟨cs,e,fr,a1,a2,a3,⟨a4,an⟩,a5,a6⟩:=R
   let⟨y,q1,q2,q3⟩:=gFZ l (vs:=cs.toList) h2 ⟨by simp[a4,a3],λi a v p1 p2=>a5 i a v p1 (by simpa using p2)⟩ hb
   refine⟨y,q1,?_,by simp[mA,q3]⟩;simp[mA];exact⟨cs,e,fr,a1,a2,a3,⟨by have:=q2.1;simp[a3] at this;exact this,an⟩,λi a v p1 p2=>q2.2 i a v p1 (by simpa using p2),a6⟩
  simp_all
 |rows e t=>
  let⟨l,h1,h2⟩:=agZ.1 h
  unfold Blk.rows? at h1;split at h1
  .rename_i e' t' l';cases hb:Nat.beq e e'<;>rw[hb] at h1<;>simp at h1;rw[afZ] at hb;subst hb
   let⟨ht,h1⟩:=h1
   subst ht;subst h1;exact⟨λR=>⟨(l',x),h2,R,rfl⟩,λR=>⟨(l',x),h2,R,rfl⟩⟩
  simp_all
 |map kt vt=>
  let⟨m,h1,h2⟩:=agZ.1 h
  unfold Blk.map? at h1;split at h1
  .rename_i k' v' m';split at h1
   .rename_i hm;have e1:k'=kt/\v'=vt:=by
     unfold HH at hm;injection hm with e1 e2;injection e1 with e1;injection e1 with e1 e3;injection e1 with e1 e4;exact⟨e1,e4⟩
    obtain⟨rfl,rfl⟩:=e1;simp at h1;subst h1;exact⟨λR=>⟨(m',x),h2,R,rfl⟩,λR=>R.elim⟩
   .cases h1
  simp_all
 |fam e s=>
  let⟨m,h1,h2⟩:=agZ.1 h
  unfold Blk.fam? at h1;split at h1
  .exact⟨λR=>R.elim,λR=>R.elim⟩
  simp_all
theorem viZ{k}{r}{id}{e}{x}{K}{R:β}(h:coB k r e.b x K=some R)(he:eW z id e):
 ∃y,K y=some R/\eW z id ⟨e.fz,(mA k r y).1⟩/\(mA k r y).2=x:=by
 unfold eW at*;cases aa:z.ρ id with
 |no=>simp_all
 |virt=>
  rw[aa] at he;exact(tzZ (z:=z) h).2 he
 |real g sz n=>
  rw[aa] at he
  let⟨h1,h2,h3,h4⟩:=he
  let⟨y,q1,q2,q3⟩:=(tzZ h).1 h4<;>grind
theorem vVZ{k}{r}{id}{e}{x}{K}{R:β}(h:coB k r e.b x K=some R)(he:EX z id e):
 ∃y,K y=some R/\EX z id ⟨e.fz,(mA k r y).1⟩/\(mA k r y).2=x/\(mA k r y).1.isFam=e.b.isFam/\(e.b.isFam=true->(mA k r y).1=e.b):=by
 let⟨q1,q2⟩:=uaZ h
 cases hf:e.b.isFam
 .let⟨y,p1,p2,p3⟩:=viZ h (he hf)
  exact⟨y,p1,λ_=>p2,p3,(q2 y).trans hf,λh=>by cases h⟩
 .let⟨y,p1,p2,p3⟩:=q1 hf
  refine⟨y,p1,λh=> ?_,p3,(q2 y).trans hf,λ_=>p2⟩
  simp_all
theorem sXZ{fz}{H}{id}{b}(h:JX fz H id=some b):bG H id=some ⟨fz,b⟩:=by
 unfold JX at h;split at h
 .rename_i e he;cases hb:(e.fz==fz)<;>rw[hb] at h<;>simp at h
  let⟨f,R⟩:=e
  simp at hb h;rw[he,hb,h]
 grind
structure TQ (H:Hp) (id:Nat) (e:Ent):Prop where
 from_:∃e0,bG H id=some e0/\e0.fz=e.fz/\e.b.isFam=e0.b.isFam/\(e0.b.isFam=true->e=e0)
theorem t2Z{H}(hH:∀id e,bG H id=some e->EX z id e):(hs:HK)->{r:List Ty}->{x:HL r}->{K:HL (fL hs r)->Option β}->{R:β}->coH hs r H x K=some R->
 ∃y,K y=some R/\(kV hs r y).2=x/\∀id e,bG (kV hs r y).1 id=some e->EX z id e/\TQ H id e
 |[],r,x,K,R,h=>⟨x,h,rfl,λid e h=>by simp_all[kV,bG]⟩
 |(id,fz,k)::hs,r,x,K,R,h=>by
  let⟨b,h1,h2⟩:=agZ.1 h
  have hb:=sXZ h1
  let⟨y1,q1,q2,q3⟩:=t2Z hH hs h2
  let⟨y2,q4,q5,q6,q7,q8⟩:=vVZ q1 (hH _ _ hb)
  refine⟨y2,q4,by simp[kV,q6,q2],λi e he=> ?_⟩;simp[kV,q6,bG] at he;cases hi:Nat.beq id i<;>rw[hi] at he<;>simp[ZAD] at he
  .exact q3 i e he
  .rw[afZ] at hi;subst hi;cases he;exact⟨q5,⟨_,hb,rfl,q7,λh=>by rw[q8 h]⟩⟩
theorem Shp.co_ok{s:Shp}{vs}{H}{K}{R:β}{vals}(h:s.co vs H K=some R)(hH:∀id e,bG H id=some e->EX z id e)(hv:bQ z vs vals):
 s.ok=true/\∃t,K t=some R/\bQ z (s.emb t).1 vals/\∀id e,bG (s.emb t).2 id=some e->EX z id e/\TQ H id e:=by
 let⟨h1,h2⟩:=aeZ.1 h
 simp[afZ] at h1
 let⟨y,q1,q2,q3⟩:=t2Z hH s.hs h2
 let⟨y2,q4,q5,q6⟩:=gFZ s.ks q1 hv h1.2
 refine⟨h1.1,_,q4,?_⟩;have key:s.emb (DE s.tys y2)=((embL s.ks (fL s.hs []) y2).1,(kV s.hs [] y).1):=by
  show((embL s.ks (fL s.hs []) (gA s.tys (DE s.tys y2))).1,(kV s.hs [] (embL s.ks (fL s.hs []) (gA s.tys (DE s.tys y2))).2).1)=_;rw[show gA s.tys (DE s.tys y2)=y2 from g5Z _ _,q6]
 simp_all
end
theorem ajZ{n}:∀{l},cH n l=true↔n∈l
 |[]=>by simp[cH]
 |i::l=>by
  simp only[cH,ZAj];by_cases h:i=n
  .subst h;simp
  .rw[ahZ h,ZAD,ajZ];constructor
   .exact .inr
   .rintro(R|R)
    .exact absurd R.symm h
    .exact R
theorem cmZ{l}:∀{r},mZ r l=true↔∀i∈r,i∈l
 |[]=>by simp[mZ]
 |i::r=>by simp[mZ,ajZ,cmZ,forall_eq_or_imp]
theorem cQZ:∀{l},kF l=true↔l.Nodup
 |[]=>by simp[kF]
 |i::l=>by
  simp only[kF,ZAE,List.nodup_cons,cQZ];constructor
  .rintro⟨h1,h2⟩;exact⟨λh=>(by rw[ajZ.2 h] at h1;cases h1),h2⟩
  .rintro⟨h1,h2⟩;refine⟨?_,h2⟩;cases hm:cH i l
   .rfl
   .exact absurd (ajZ.1 hm) h1
theorem dEZ{l}{a}{id}(h:a∈l)(hi:id∈AV.ids a):id∈AV.idsL l:=by
 induction l with
 |nil=>cases h
 |cons b l ih=>
  simp[AV.idsL]
  grind
theorem dgZ(f)(l)(i:Nat):(AV.renL f l)[i]? =(l[i]?).map (AV.ren f):=by
 induction l generalizing i<;>grind[AV.renL]
theorem csZ(f)(l):(AV.renL f l).length=l.length:=by
 induction l<;>grind[AV.renL]
section
variable {z z' : Z}
theorem bE.ren{a}{v}{f}(h:bE z a v)(hw:z'.w=z.w)(hM:z'.M=z.M)(hd:Agr z.ρ z'.ρ λfs=>a.famInT fs)(hf:∀id k,id∈AV.ids a->f id=some k->z'.ρ k=z.ρ id):bE z' (AV.ren f a) v:=by
 let⟨w',M',C',R,D'⟩:=z'
 simp at hw hM hd hf;subst hw;subst hM;induction h with
 |p t x v h=>exact .p t x v (h.to hd)
 |pt t l i j b off h1 h2 h3=>exact .pt t l i j b off h1 h2 (h3.to hd)
 |own es id i j g sz n h=>
  simp[AV.ren];cases hk:f id with
  |none=>exact .junk _
  |some k=>exact .own es k i j g sz n (by show R k=_;rw[hf id k (by simp[AV.ids]) hk,h])
 |rp g es k' i j g' sz n h=>
  refine .rp g es k' i j g' sz n ?_;show R (enc g k')=_;rcases hd with hd|⟨fs,h1,h2⟩
  .rw[hd _ (ciZ g k') (by simp_all),h]
  .rw[h1 g k' h2 (by simp_all),h]
 |slV es id off A h=>
  simp[AV.ren];cases hk:f id with
  |none=>exact .junk _
  |some k=>exact .slV es k off A (by show R k=_;rw[hf id k (by simp[AV.ids]) hk,h])
 |slE es id off g sz m o h=>
  simp[AV.ren];cases hk:f id with
  |none=>exact .junk _
  |some k=>exact .slE es k off g sz m o (by show R k=_;rw[hf id k (by simp[AV.ids]) hk,h])
 |sl es id off n g sz m c h h1 h2 h3=>
  simp[AV.ren];cases hk:f id with
  |none=>exact .junk _
  |some k=>exact .sl es k off n g sz m c (by show R k=_;rw[hf id k (by simp[AV.ids]) hk,h]) h1 h2 h3
 |slfV es id A h=>
  simp only[AV.ren];cases hk:f id with
  |none=>exact .junk _
  |some k=>exact .slfV es k A (by show R k=_;rw[hf id k (by simp[AV.ids]) hk,h])
 |slf es id g sz n c h h1 h2 h3=>
  simp only[AV.ren];cases hk:f id with
  |none=>exact .junk _
  |some k=>exact .slf es k g sz n c (by show R k=_;rw[hf id k (by simp[AV.ids]) hk,h]) h1 h2 h3
 |mp id g sz n h=>
  simp only[AV.ren];cases hk:f id with
  |none=>exact .junk _
  |some k=>exact .mp k g sz n (by show R k=_;rw[hf id k (by simp[AV.ids]) hk,h])
 |fn g a c va vc ha hc h1 h2 aa ab=>
  simp only[AV.ren];refine .fn g _ _ va vc (by simp_all[csZ]) (by simp_all[csZ]) (λi x v p1 p2=> ?_) (λi x v p1 p2=> ?_)
  .rw[dgZ] at p1;obtain⟨y,p3,rfl⟩:=ZAH.1 p1;exact aa i y v p3 p2 (hd.mono λfs h=>by simp only[AV.famInT,ZAE] at h;grind[bqZ,ZAI]) λid k hi hk=>hf id k (by simp only[AV.ids,ZAh];exact .inl (dEZ (ZAI p3) hi)) hk
  .rw[dgZ] at p1;obtain⟨y,p3,rfl⟩:=ZAH.1 p1;exact ab i y v p3 p2 (hd.mono λfs h=>by simp only[AV.famInT,ZAE] at h;grind[bqZ,ZAI]) λid k hi hk=>hf id k (by simp only[AV.ids,ZAh];exact .inr (dEZ (ZAI p3) hi)) hk
 |agg l cs hs h1 h ih=>
  simp only[AV.ren];refine .agg _ cs (by rw[csZ];exact hs) h1 λi x v p1 p2=> ?_;rw[dgZ] at p1;obtain⟨y,p3,rfl⟩:=ZAH.1 p1;exact ih i y v p3 p2 (hd.mono λfs h=>bqZ h (ZAI p3)) λid k hi hk=>hf id k (by simp only[AV.ids];exact dEZ (ZAI p3) hi) hk
 |tup l vs hs h ih=>
  simp only[AV.ren];refine .tup _ vs (by rw[csZ];exact hs) λi x v p1 p2=> ?_;rw[dgZ] at p1;obtain⟨y,p3,rfl⟩:=ZAH.1 p1;exact ih i y v p3 p2 (hd.mono λfs h=>bqZ h (ZAI p3)) λid k hi hk=>hf id k (by simp only[AV.ids];exact dEZ (ZAI p3) hi) hk
 |junk v=>exact .junk v
theorem bQ.ren{l}{vs}{f}(h:bQ z l vs)(hw:z'.w=z.w)(hM:z'.M=z.M)(hd:Agr z.ρ z'.ρ λfs=>AV.famInTL fs l)(hf:∀id k,id∈AV.idsL l->f id=some k->z'.ρ k=z.ρ id):bQ z' (AV.renL f l) vs:=by
 refine⟨by rw[csZ];exact h.1,λi a v p1 p2=> ?_⟩;rw[dgZ] at p1;obtain⟨y,R,rfl⟩:=ZAH.1 p1;exact(h.2 i y v R p2).ren hw hM (hd.mono λfs h=>bqZ h (ZAI R)) λid k hi hk=>hf id k (dEZ (ZAI R) hi) hk
mutual
theorem jcZ:(a:AV)->AV.ren some a=a
 |.p _ _|.pt _ _ _ _|.own _ _ _ _|.rp _ _ _ _ _|.sl _ _ _ _|.slf _ _|.mp _|.junk=>rfl
 |.fn g a c=>by simp only[AV.ren,cqZ a,cqZ c]
 |.agg l=>by simp only[AV.ren,cqZ l]
 |.tup l=>by simp only[AV.ren,cqZ l]
theorem cqZ:(l:List AV)->AV.renL some l=l
 |[]=>rfl
 |a::l=>by simp only[AV.renL,jcZ a,cqZ l]
end
theorem bE.rho{a}{v}(h:bE z a v)(R:z'.w=z.w)(hM:z'.M=z.M)(hd:Agr z.ρ z'.ρ λfs=>a.famInT fs)(hf:∀id∈AV.ids a,z'.ρ id=z.ρ id):bE z' a v:=by
 have:=h.ren (f:=some) R hM hd λid k hi hk=>by
  cases hk;exact hf id hi
 simp_all[jcZ]
theorem bQ.rho{l}{vs}(h:bQ z l vs)(R:z'.w=z.w)(hM:z'.M=z.M)(hd:Agr z.ρ z'.ρ λfs=>AV.famInTL fs l)(hf:∀id∈AV.idsL l,z'.ρ id=z.ρ id):bQ z' l vs:=by
 have:=h.ren (f:=some) R hM hd λid k hi hk=>by
  cases hk;exact hf id hi
 simp_all[cqZ]
theorem gR.ren{g sz n}{b}{f}{fz}(h:gR z g sz n b)(hw:z'.w=z.w)(hM:z'.M=z.M)(hd:Agr z.ρ z'.ρ λfs=>b.famInT fs)(hf:∀id k,id∈Ent.ids ⟨fz,b⟩->f id=some k->z'.ρ k=z.ρ id):gR z' g sz n (b.ren f):=by
 cases b with
 |vars c=>
  let⟨cs,e,fr,a1,a2,R,⟨a4,an⟩,a5,a6⟩:=h
  refine⟨cs,e,fr,by simp_all,a2,R,⟨by simp_all[csZ],an⟩,λi a v p1 p2=> ?_,a6⟩;rw[dgZ] at p1;obtain⟨y,p3,rfl⟩:=ZAH.1 p1;exact(a5 i y v p3 p2).ren hw hM (hd.mono λfs h=>bqZ h (ZAI p3)) λid k hi hk=>hf id k (by simp[Ent.ids];exact dEZ (ZAI p3) hi) hk
 |rows e t l=>
  let⟨cs,fr,a1,a2,R,a4,a5,a6,a7⟩:=h
  refine⟨cs,fr,by simp_all,a2,R,a4,a5,a6,λi x hx=> ?_⟩
  let⟨u,b1,b2⟩:=a7 i x hx
  exact⟨u,by rw[hw,hM];exact b1.to hd,b2⟩
 |fam e s ms=>exact h.elim
 |map kt vt m=>
  let⟨es,a1,a2,R,a4⟩:=h
  exact⟨es,by rw[hw];exact a1,a2,λi x e q1 q2=>by rw[hw,hM];exact⟨(R i x e q1 q2).1.to (hd.mono λfs h=>by simp[Blk.famInT,ZAE] at h;exact h.1),(R i x e q1 q2).2.1.to (hd.mono λfs h=>by simp only[Blk.famInT,ZAE] at h;exact h.2),(R i x e q1 q2).2.2⟩,a4⟩
 |fmap kt l=>
  let⟨es,aa,a1,a2,R⟩:=h
  refine⟨es,aa,by rw[hw];exact a1,by simp[a2],λi x e q1 q2=> ?_⟩;rw[ZAW] at q1;obtain⟨y,q3,rfl⟩:=ZAH.1 q1
  let⟨b1,b2⟩:=R i y e q3 q2
  refine⟨by rw[hw,hM];exact b1.to (hd.mono λfs h=>by simp only[Blk.famInT,ZAE] at h;exact h.1),b2.ren hw hM (hd.mono λfs h=>by simp only[Blk.famInT,ZAE,ZCP] at h;exact h.2 y (ZAI q3)) λid k hi hk=>hf id k ?_ hk⟩;simp only[Ent.ids,ZCj];exact⟨y,ZAI q3,hi⟩
end
theorem dOZ:∀{R} {id k},gB R id=some k->(id,k)∈R
 |(i,j)::R,id,k,h=>by
  simp[gB] at h;cases hb:Nat.beq i id<;>rw[hb] at h<;>simp[ZAD] at h
  .exact ZAc _ (dOZ h)
  simp_all
def gX:List (Nat×Nat)->Nat->Option Nat
 |[],_=>none
 |(i,k)::r,n=>bif Nat.beq k n then some i else gX r n
theorem aKZ:∀{R} {id k},gX R k=some id->(id,k)∈R
 |(i,j)::R,id,k,h=>by
  simp[gX] at h;cases hb:Nat.beq j k<;>rw[hb] at h<;>simp[ZAD] at h
  .exact ZAc _ (aKZ h)
  simp_all
theorem dAZ{R}{id k}(h:(id,k)∈R):k∈kG R:=by
 induction R with
 |nil=>cases h
 |cons x R ih=>
  rcases ZAj.1 h with h|h
  .cases h;exact ZAq
  .exact ZAc _ (ih h)
theorem f6Z{R}{id k}(h:(id,k)∈R):id∈lZ R:=by
 induction R with
 |nil=>cases h
 |cons x R ih=>
  rcases ZAj.1 h with h|h
  .cases h;exact ZAq
  .exact ZAc _ (ih h)
theorem flZ:∀{R} {id k},(kG R).Nodup->(id,k)∈R->gX R k=some id
 |(i,j)::R,id,k,hn,h=>by
  simp[kG] at hn;simp[gX];rcases ZAj.1 h with h|h
  .simp_all
  .have:j≠k:=λe=>hn.1 (e▸dAZ h);rw[ahZ this];exact flZ hn.2 h
theorem mhZ:∀{R} {id k},(lZ R).Nodup->(id,k)∈R->gB R id=some k
 |(i,j)::R,id,k,hn,h=>by
  simp[lZ] at hn;simp[gB];rcases ZAj.1 h with h|h
  .simp_all
  .have:i≠id:=λe=>hn.1 (e▸f6Z h);rw[ahZ this];exact mhZ hn.2 h
theorem elZ{H}:∀{l},iU H l=true->∀i∈l,∃e,bG H i=some e
 |[],_,i,h=>by cases h
 |j::l,h,i,hi=>by
  simp[iU] at h;rcases ZAj.1 hi with rfl|hi
  .cases hg:bG H i with
   |none=>rw[hg] at h;exact absurd h.1 (by simp)
   |some e=>exact⟨e,rfl⟩
  .exact elZ h.2 i hi
theorem bFZ{H}{f}:∀{R},iU H (lZ R)=true->∀k,bG (iT H f R) k=(gX R k).bind (λid=>(bG H id).map (Ent.ren f))/\bM (iT H f R) k=(gX R k).isSome
 |[],_,k=>⟨rfl,rfl⟩
 |(i,j)::R,h,k=>by
  simp[lZ,iU] at h;cases hg:bG H i with
  |none=>rw[hg] at h;exact absurd h.1 (by simp)
  |some e=>
   obtain⟨q1,q2⟩:=bFZ h.2 k;simp[iT,hg,bG,bM,gX];cases hb:Nat.beq j k
   .exact⟨q1,q2⟩
   .simp[hg]
section
variable {z : Z} {H : Hp}
def Z.ren(z:Z)(H:Hp)(R:List (Nat×Nat)):Z:=
 {z with ρ:=λk=>match gX R k with|some id=>z.ρ id|none=>if bC<=k then z.ρ k else .no,C:=λg=>∃id e sz n,rt id∈lZ R/\bP H id=some e/\e.fz=false/\z.ρ id= .real g sz n,D:=λk=>bC<=k/\rt k∉kG R}
theorem bIZ:∀{l} {k},tJ l=true->k∈l->k<bC
 |[],k,_,h=>by cases h
 |i::l,k,R,h=>by
  simp[tJ] at R;rcases ZAj.1 h with rfl|h
  .simp_all
  .exact bIZ R.2 h
theorem brZ:∀{R} {i k},uW R=true->(i,k)∈R->i=k\/(i<bA/\k<bA)
 |[],i,k,_,h=>by cases h
 |(a,b)::R,i,k,hs,h=>by
  simp[uW,ZBd] at hs;rcases ZAj.1 h with h|h
  .simp_all
  .exact brZ hs.2 h
theorem Z.ren_dyn{R}(hs:tJ (kG R)=true){k}(hk:bC<=k):(z.ren H R).ρ k=z.ρ k:=by
 show(match gX R k with|some id=>z.ρ id|none=>if bC<=k then z.ρ k else .no)=_;cases h:gX R k with
 |none=>simp_all
 |some id=>
  have:=bIZ hs (dAZ (aKZ h));omega
theorem fdZ(e)(f)(k):(e.ren f).has k=e.has k/\(bC<=bC->pick k (e.ren f)=pick k e):=by
 let⟨fz,b⟩:=e
 cases b<;>exact⟨rfl,λ_=>rfl⟩
theorem e1Z{e x}{k}(h:pick k e=some x)(f):x.ren f=x/\x.ids=[]:=by
 unfold pick at h;split at h
 .split at h
  .split at h
   .cases h
   .simp at h;subst h;exact⟨rfl,rfl⟩
  .cases h
 grind
def OfX(R:List (Nat×Nat))(id k:Nat):Prop:=((id,k)∈R/\id<bA/\k<bA)\/(id=k/\bC<=k/\(rt k,rt k)∈R)
theorem OfX.fst{R}{id k}(h:OfX R id k):rt id∈lZ R:=by
 have h0:=eIZ;rcases h with⟨h1,h2,_⟩|⟨rfl,_,h1⟩
 .rw[bbZ (by omega)];exact f6Z h1
 grind[f6Z]
theorem OfX.inj{R}{id k k'}(hn:(lZ R).Nodup)(h:OfX R id k)(h':OfX R id k'):k=k':=by
 have h0:=eIZ;rcases h with⟨h1,h2,_⟩|⟨rfl,h2,h1⟩<;>rcases h' with⟨h3,h4,_⟩|⟨rfl,h4,h3⟩
 .have a1:=mhZ hn h1;have a2:=mhZ hn h3
  simp_all
 .omega
 .omega
 .rfl
theorem OfX.ro{R}{id k}(h:OfX R id k)(hr:Ro id):Ro k:=by
 rcases h with⟨_,h,_⟩|⟨rfl,_⟩
 .exact absurd hr (bUZ h)
 omega
theorem renX{H}{f}{R}(h1:(lZ R).Nodup)(h2:(kG R).Nodup)(h3:iU H (lZ R)=true)(hf:uW R=true){k}{e'}(h:bP (iT H f R) k=some e'):
 ∃id e,OfX R id k/\bP H id=some e/\e'=e.ren f:=by
 by_cases hd:bC<=k
 .rw[a8Z hd,(bFZ h3 (rt k)).1] at h
  let⟨e0,q1,q2⟩:=ZAG.1 h
  let⟨id,q3,q4⟩:=ZAG.1 q1
  obtain⟨e1,q5,rfl⟩:=ZAH.1 q4;have hm:=aKZ q3;have:=(brZ hf hm).resolve_right λh=>by have:=(bNZ hd).1;omega
  subst this;rw[(fdZ e1 f _).2 (ZAN _)] at q2;refine⟨k,e',.inr ⟨rfl,hd,hm⟩,?_,(e1Z q2 f).1.symm⟩;rw[a8Z hd,q5];exact q2
 .by_cases hk:bA<=k
  .unfold bP at h;rw[ZAK hd,ZAM hk] at h;cases h
  .have aa:=ZBN.1 hk;rw[aqZ aa,(bFZ h3 k).1] at h
   let⟨id,q1,q2⟩:=ZAG.1 h
   let⟨e,q3,q4⟩:=ZAH.1 q2
   have hm:=aKZ q1;have ab:id<bA:=by
    rcases brZ hf hm with h|h
    .omega
    .exact h.1
   exact⟨id,e,.inl ⟨hm,ab,aa⟩,by rw[aqZ ab];exact q3,q4.symm⟩
theorem vZZ{R}(hH:bI z H)(h1:kF (lZ R)=true)(h2:kF (kG R)=true)(h3:iU H (lZ R)=true)(hs:tJ (kG R)=true)(hf:uW R=true):
 bI (z.ren H R) (iT H (gB R) R)/\(∀id k,(id,k)∈R->(z.ren H R).ρ k=z.ρ id)/\∀g,(z.ren H R).C g->z.C g:=by
 have h0:=eIZ;rw[cQZ] at h1 h2;have hd:eY z.ρ (z.ren H R).ρ:=λid aa _=>Z.ren_dyn hs aa;have ad:∀id k,(id,k)∈R->(z.ren H R).ρ k=z.ρ id:=λid k h=>by
  show(match gX R k with|some id=>z.ρ id|none=>if bC<=k then z.ρ k else .no)=_;rw[flZ h2 h]
 have ab:∀id k,OfX R id k->(z.ren H R).ρ k=z.ρ id:=λid k h=>by
  rcases h with⟨h,_⟩|⟨rfl,h,_⟩
  .exact ad id k h
  simp_all[Z.ren_dyn]
 have hC:∀g,(z.ren H R).C g->z.C g:=λg ⟨id,e,sz,n,q1,q2,q3,q4⟩=>(hH.realX q2 q4).2.1 q3;have ae:∀k,k∈kG R->∃id,(id,k)∈R/\∃e,bG H id=some e:=λk hk=>by
  have:∀{R},k∈kG R->∃id,(id,k)∈R:=λ{R}=>by
   induction R with
   |nil=>intro h;cases h
   |cons x R ih=>
    let⟨i,j⟩:=x
    intro h;rcases ZAj.1 h with rfl|h
    .exact⟨i,ZAq⟩
    .let⟨id,h⟩:=ih h;exact⟨id,ZAc _ h⟩
  let⟨id,h⟩:=this hk
  let⟨e,he⟩:=elZ h3 id (f6Z h)<;>grind
 refine⟨⟨λk e' h=> ?_,λk k' e e' g sz n g' ag n' ah p1 p2 m1 m2 p3 p4=> ?_,λk h=> ?_,λg h=>hH.sub g (hC g h),λk x h=> ?_,λk h=> ?_,λk al h=> ?_,λk ai aj=> ?_⟩,ad,hC⟩
 .obtain⟨id,e,q1,q2,rfl⟩:=renX h1 h2 h3 hf h;have h0:=hH.ent _ _ q2;unfold eW at h0⊢;rw[ab id k q1];cases hr:z.ρ id with
  |no=>simp_all
  |virt=>
   rw[hr] at h0
   let⟨fz,b⟩:=e
   cases b<;>first|exact h0.elim|exact h0
  |real g sz n=>
   rw[hr] at h0
   let⟨a1,a2,a3,a4⟩:=h0
   exact⟨a1,λhf=>⟨id,e,sz,n,q1.fst,q2,hf,hr⟩,a3,a4.ren (fz:=e.fz) rfl rfl (.inl hd) λac k' _ ak=>ad ac k' (dOZ ak)⟩
 .obtain⟨id,e1,q1,q2,rfl⟩:=renX h1 h2 h3 hf p1;obtain⟨ac,e2,q3,q4,rfl⟩:=renX h1 h2 h3 hf p2;rw[ab id k q1] at p3;rw[ab ac k' q3] at p4;have aa:id≠ac:=λh=>by
   subst h;exact ah (q1.inj h1 q3)
  exact λp5=>hH.inj id ac e1 e2 g sz n g' ag n' aa q2 q4 m1 m2 p3 p4 λh=>p5 ⟨q1.ro h.1,q3.ro h.2⟩
 .by_cases hd:bC<=k
  .by_cases hk:rt k∈kG R
   .left
    let⟨id,hm,e,he⟩:=ae _ hk
    have:=(brZ hf hm).resolve_right λh=>by have:=(bNZ hd).1;omega
    subst this;rw[Z.ren_dyn hs hd];refine(hH.fresh k ?_).resolve_right (hH.dyn k hd (aiZ he));rw[ayZ hd,(bFZ h3 (rt k)).1,flZ h2 hm] at h;rw[ayZ hd,he];simp only[ZAA,he,ZBS] at h;rw[(fdZ e _ _).1] at h;exact h
   .exact .inr ⟨hd,hk⟩
  .left;by_cases hk:bA<=k
   .show(match gX R k with|some id=>z.ρ id|none=>if bC<=k then z.ρ k else .no)=_;cases hi:gX R k with
    |none=>simp only[ZAK hd]
    |some id=>
     have:=(brZ hf (aKZ hi)).resolve_right λh=>by omega
     subst this;exact hH.nos id hk (by omega)
   .rw[aCZ (by omega),(bFZ h3 k).2] at h;show(match gX R k with|some id=>z.ρ id|none=>if bC<=k then z.ρ k else .no)=_;cases hk:gX R k with
    |none=>simp only[ZAK hd]
    |some id=>rw[hk] at h;cases h
 .rw[(bFZ h3 k).1] at h
  let⟨id,q1,q2⟩:=ZAG.1 h
  obtain⟨e,q3,rfl⟩:=ZAH.1 q2;have hm:=aKZ q1;have af:=hH.fam id e q3
  let⟨fz,b⟩:=e
  cases b with
  |fam e s ms=>
   have:=(brZ hf hm).resolve_right λh=>by have:=af.1;omega
   subst this;exact af
  |_=>
   have aa:id<bA:=af;show k<bA;rcases brZ hf hm with h|h
   .omega
   .exact h.2
 .rw[(bFZ h3 k).2] at h
  let⟨id,aa⟩:=ZBt.1 h
  exact bIZ hs (dAZ (aKZ aa))
 .rw[(bFZ h3 (rt k)).2] at h
  let⟨id,aa⟩:=ZBt.1 h
  exact λhD=>hD.2 (dAZ (aKZ aa))
 .show(match gX R k with|some id=>z.ρ id|none=>if bC<=k then z.ρ k else .no)=_;cases hi:gX R k with
  |none=>simp only[ZAK (show¬bC<=k by omega)]
  |some id=>
   have:=(brZ hf (aKZ hi)).resolve_right λh=>by omega
   subst this;exact hH.nos id ai aj
end
mutual
theorem ukZ:(k:Kd)->{r:List Ty}->(y:HL (k.lv r))->AV.ids (emb k r y).1=k.ids
 |.p _,r,y|.pt _,r,y|.own _ _ _ _,r,y|.ownx _ _ _,r,y|.sl _ _,r,y|.slf _ _,r,y|.mp _,r,y|.any,r,y|.nilp _,r,y=>rfl
 |.fn f a c,r,y=>congr (congrArg HAppend.hAppend (cyZ a (r:=c.lv r) y)) (cyZ c (r:=r) _)
 |.agg l,r,y=>cyZ l (r:=r) y
 |.tup l,r,y=>cyZ l (r:=r) y
theorem cyZ:(k:KdL)->{r:List Ty}->(y:HL (k.lv r))->AV.idsL (embL k r y).1=k.ids
 |.nil,r,y=>rfl
 |.cons k l,r,y=>congr (congrArg HAppend.hAppend (ukZ k (r:=l.lv r) y)) (cyZ l (r:=r) _)
end
theorem rQZ{k}{r}{fz}(y):Ent.ids ⟨fz,(mA k r y).1⟩=k.ids:=by
 cases k with
 |vars l=>exact cyZ l y
 |rows e t=>rfl
 |map R vt=>rfl
 |fam e s=>rfl
theorem c5Z:(R:HK)->{r:List Ty}->(y:HL (fL R r))->∀id,bM (kV R r y).1 id=cH id (bJ R)/\(cH id (bJ R)=true->∃e,bG (kV R r y).1 id=some e)/\∀e,bG (kV R r y).1 id=some e->∀i∈e.ids,i∈vR R
 |[],r,y,id=>⟨rfl,λh=>by simp_all[bJ,cH],λe h=>by simp_all[kV,bG]⟩
 |(j,fz,k)::R,r,y,id=>by
  let⟨q1,q2,q3⟩:=c5Z R (mA k (fL R r) y).2 id
  simp only[kV,bM,bG,bJ,cH];cases hb:Nat.beq j id
  .simp_all[vR]
  .simp only[ZAL]
   grind[rQZ,fL,vR,ZAh]
section
variable {z : Z} {H : Hp} {β : Type}
def Z.cut(z:Z)(ks:List Nat)(R:Rho)(C':Nat->Prop):Z:={z with ρ:=λk=>bif cH k ks then z.ρ k else if bC<=k then z.ρ k else R k,C:=C',D:=λk=>cH (rt k) ks=false/\(bC<=k\/R k≠.no)}
theorem Z.cut_dyn(z:Z)(ks)(ρ0)(C'):eY z.ρ (z.cut ks ρ0 C').ρ:=λid R _=>by
 show(bif cH id ks then z.ρ id else if bC<=id then z.ρ id else ρ0 id)=_
 simp_all
theorem eW.rho{z z'}{id}{e}(h:eW z id e)(hw:z'.w=z.w)(hM:z'.M=z.M)(hd:Agr z.ρ z'.ρ λfs=>e.b.famInT fs)(R:z'.ρ id=z.ρ id)(hf:∀i∈e.ids,z'.ρ i=z.ρ i)(hC:∀g sz n,z.ρ id= .real g sz n->e.fz=false->z.C g->z'.C g):eW z' id e:=by
 unfold eW at*;rw[R];cases hr:z.ρ id with
 |no=>simp_all
 |virt=>simp_all
 |real g sz n=>
  rw[hr] at h
  let⟨h1,h2,h3,h4⟩:=h
  have:=h4.ren (f:=some) hw hM hd λi k hi hk=>by
   cases hk;exact hf i hi
  have e1:e.b.ren some=e.b:=by
   cases e.b with
   |vars c=>simp[Blk.ren,cqZ]
   |rows _ _ _=>rfl
   |map _ _ _=>rfl
   |fam _ _ _=>rfl
   |fmap k l=>
    simp[Blk.ren];congr 1
    conv=>rhs;rw[<-List.map_id l]
    apply ZCl;intro x _;simp[jcZ]
  simp_all
theorem Shp.rco_ok{s:Shp}{vs}{R}{K}{am:β}{vals}(ab:Rho)(aj:∀k,bA<=k->k<bC->ab k= .no)(h:s.rco vs H R K=some am)(hH:bI z H)(hv:bQ z vs vals):
 ∃t z',K t=some am/\z'.w=z.w/\z'.M=z.M/\bI z' (s.emb t).2/\bQ z' (s.emb t).1 vals/\(∀k,cH k (bJ s.hs)=true->∃id,(id,k)∈R/\z'.ρ k=z.ρ id)/\(∀k,cH k (bJ s.hs)=false->z'.ρ k=if bC<=k then z.ρ k else ab k)/\
  (∀g,z'.C g->z.C g)/\(∀g,z'.C g->∃id e sz n,rt id∈lZ R/\bP H id=some e/\e.fz=false/\z.ρ id= .real g sz n)/\z'.D=(λk=>cH (rt k) (bJ s.hs)=false/\(bC<=k\/ab k≠.no))/\(∀k,bM (s.emb t).2 k=cH k (bJ s.hs))/\eY z.ρ z'.ρ/\(∀k,cH k (bJ s.hs)=true->k<bC)/\(∀i,i∈s.ks.ids\/i∈vR s.hs->i∈bJ s.hs):=by
 have h0:=eIZ;unfold Shp.rco at h;obtain⟨h1,h2⟩:=aeZ.1 h;simp only[ZAE] at h1;obtain⟨⟨g1,g2,g3,g4⟩,g5⟩:=h1;obtain⟨r1,r2,r3⟩:=vZZ hH g1 g2 g5 g3 g4;have ar:eY z.ρ (z.ren H R).ρ:=λid ac _=>Z.ren_dyn g3 ac;have as:bQ (z.ren H R) (AV.renL (gB R) vs) vals:=hv.ren rfl rfl (.inl ar) λid k _ hk=>r2 id k (dOZ hk);obtain⟨k1,t,k2,k3,k4⟩:=Shp.co_ok h2 (λid e he=>r1.ex he) as;unfold Shp.ok at k1;simp only[ZAE,cmZ,ZAh] at k1;have hg:=λid=>c5Z s.hs (embL s.ks (fL s.hs []) (gA s.tys t)).2 id;have au:AV.idsL (s.emb t).1=s.ks.ids:=cyZ s.ks _
 let z':=(z.ren H R).cut (bJ s.hs) ab (z.ren H R).C
 have ak:eY (z.ren H R).ρ z'.ρ:=Z.cut_dyn _ _ _ _;have ah:∀k,k∈bJ s.hs->z'.ρ k=(z.ren H R).ρ k:=λk hk=>by
  show(bif cH k (bJ s.hs) then(z.ren H R).ρ k else if bC<=k then(z.ren H R).ρ k else ab k)=_;rw[ajZ.2 hk];rfl
 have av:∀k e,bG (s.emb t).2 k=some e->k∈bJ s.hs:=λk e he=>by
  have:=aiZ he;rw[show bM (s.emb t).2 k=cH k (bJ s.hs) from(hg k).1] at this;exact ajZ.1 this
 have an:∀k,cH k (bJ s.hs)=true->k<bC:=λk hk=>by
  obtain⟨e,he⟩:=(hg k).2.1 hk;obtain⟨_,⟨e0,q1,_⟩⟩:=k4 k e he;have:=aiZ q1;rw[(bFZ g5 k).2] at this;obtain⟨id,ac⟩:=ZBt.1 this;exact bIZ g3 (dAZ (aKZ ac))
 have ae:∀k e,bG (s.emb t).2 k=some e->bA<=k->bG (iT H (gB R) R) k=some e:=λk e he hk=>by
  obtain⟨_,⟨e0,q1,q2,q3,q4⟩⟩:=k4 k e he;have af:=r1.fam k e0 q1;have aw:e0.b.isFam=true:=by
   obtain⟨fz,b⟩:=e0;cases b<;>first|rfl|(have:k<bA:=af;omega)
  rw[q4 aw];exact q1
 have ag:∀k e,bG (s.emb t).2 k=some e->k<bA->e.b.isFam=false:=λk e he hk=>by
  obtain⟨_,⟨e0,q1,q2,q3,q4⟩⟩:=k4 k e he;have af:=r1.fam k e0 q1;rw[q3];obtain⟨fz,b⟩:=e0;cases b<;>first|rfl|(have:=af.1;omega)
 have hX:∀k e,bP (s.emb t).2 k=some e->eW (z.ren H R) k e/\(∃e1,bP (iT H (gB R) R) k=some e1/\e1.fz=e.fz)/\(k∈bJ s.hs\/bC<=k)/\∀i∈e.ids,i∈bJ s.hs:=λk e he=>by
  by_cases hd:bC<=k
  .rw[a8Z hd] at he;obtain⟨e0,p1,p2⟩:=ZAG.1 he;have p3:=ae _ _ p1 (bNZ hd).1;have p4:bP (iT H (gB R) R) k=some e:=by rw[a8Z hd,p3];exact p2
   exact⟨r1.ent _ _ p4,⟨e,p4,rfl⟩,.inr hd,λi hi=>by rw[(e1Z p2 some).2] at hi;cases hi⟩
  .by_cases hk:bA<=k
   .unfold bP at he;rw[ZAK hd,ZAM hk] at he;cases he
   .have al:k<bA:=ZBN.1 hk;rw[aqZ al] at he;obtain⟨q0,⟨e0,q1,q2,_⟩⟩:=k4 k e he;have ao:=(hg k).2.2 e he;exact⟨q0 (ag k e he al),⟨e0,by rw[aqZ al];exact q1,q2⟩,.inl (av k e he),λi hi=>k1.2 i (.inr (ao i hi))⟩
 have ad:∀k,k∈bJ s.hs\/bC<=k->z'.ρ k=(z.ren H R).ρ k:=λk hk=>by
  rcases hk with hk|hk
  .exact ah k hk
  .show(bif cH k (bJ s.hs) then(z.ren H R).ρ k else if bC<=k then(z.ren H R).ρ k else ab k)=_;rw[ZAM hk];cases cH k (bJ s.hs)<;>rfl
 refine⟨t,z',k2,rfl,rfl,⟨λk e he=> ?_,λi i' e e' g sz n g' ax n' ay p1 p2 m1 m2 p3 p4=> ?_,λk hk=> ?_,r1.sub,λk x hx=> ?_,λk hk=>an k (by rw[<-(hg k).1];exact hk),λk hd hk=> ?_,λk ap aq=> ?_⟩,?_,λk hk=> ?_,λk hk=> ?_,r3,λg hC=>hC,rfl,λk=>(hg k).1,λid ac hn=> ?_,an,k1.2⟩
 .obtain⟨q1,_,q3,q4⟩:=hX k e he;exact q1.rho rfl rfl (.inl ak) (ad k q3) (λi hi=>ah i (q4 i hi)) (λg sz n _ _ h=>h)
 .obtain⟨_,⟨e0,q1,q2⟩,q3,_⟩:=hX i e p1;obtain⟨_,⟨az,q4,q5⟩,q6,_⟩:=hX i' e' p2;rw[ad i q3] at p3;rw[ad i' q6] at p4;exact r1.inj i i' e0 az g sz n g' ax n' ay q1 q4 (by rw[q2];exact m1) (by rw[q5];exact m2) p3 p4
 .by_cases aa:bC<=k
  .rw[ayZ aa] at hk;cases he:bG (s.emb t).2 (rt k) with
   |none=>
    rw[he] at hk;have hk:bM (s.emb t).2 (rt k)=false:=hk;rw[show bM (s.emb t).2 (rt k)=cH (rt k) (bJ s.hs) from(hg _).1] at hk;exact .inr ⟨hk,.inl aa⟩
   |some e0=>
    rw[he] at hk;have p3:=ae _ _ he (bNZ aa).1;left;rw[ad k (.inr aa)];refine(r1.fresh k (by rw[ayZ aa,p3];exact hk)).resolve_right (r1.dyn k aa (aiZ p3))
  .by_cases ai:bA<=k
   .left;show(bif cH k (bJ s.hs) then(z.ren H R).ρ k else if bC<=k then(z.ren H R).ρ k else ab k)=_;rw[ZAK aa];cases cH k (bJ s.hs)
    .exact aj k ai (by omega)
    .exact r1.nos k ai (by omega)
   .rw[aCZ (by omega),show bM (s.emb t).2 k=cH k (bJ s.hs) from(hg k).1] at hk;have e1:z'.ρ k=ab k:=by
     show(bif cH k (bJ s.hs) then(z.ren H R).ρ k else if bC<=k then(z.ren H R).ρ k else ab k)=_;rw[hk,ZAK aa];rfl
    by_cases h0:ab k= .no
    .left;rw[e1,h0]
    .exact .inr ⟨by rw[bbZ (by omega)];exact hk,.inr h0⟩
 .obtain⟨_,⟨e0,q1,q2,q3,q4⟩⟩:=k4 k x hx;have af:=r1.fam k e0 q1;by_cases ai:bA<=k
  .have:=ae k x hx ai;rw[this] at q1;injection q1 with q1;rw[q1];exact af
  .have:=ag k x hx (by omega);obtain⟨fz,b⟩:=x;cases b<;>first|(show k<bA;omega)|cases this
 .rw[show bM (s.emb t).2 (rt k)=cH (rt k) (bJ s.hs) from(hg _).1] at hk;exact λhD=>by have:=hD.1;rw[hk] at this;cases this
 .show(bif cH k (bJ s.hs) then(z.ren H R).ρ k else if bC<=k then(z.ren H R).ρ k else ab k)=_;rw[ZAK (show¬bC<=k by omega)];cases cH k (bJ s.hs)
  .exact aj k ap aq
  .exact r1.nos k ap aq
 .exact k3.rho rfl rfl (.inl ak) λi hi=>ah i (k1.2 i (.inl (by rw[<-au];exact hi)))
 .obtain⟨e,he⟩:=(hg k).2.1 hk;obtain⟨_,⟨e0,q1,_⟩⟩:=k4 k e he;have:=aiZ q1;rw[(bFZ g5 k).2] at this;obtain⟨id,ac⟩:=ZBt.1 this;exact⟨id,aKZ ac,by rw[ah k (ajZ.1 hk),r2 id k (aKZ ac)]⟩
 .show(bif cH k (bJ s.hs) then(z.ren H R).ρ k else if bC<=k then(z.ren H R).ρ k else ab k)=_;rw[hk];by_cases aa:bC<=k
  .rw[ZAM aa,ZAM aa];exact Z.ren_dyn g3 aa
  .rw[ZAK aa,ZAK aa];rfl
 .rw[ak id ac (by rw[Z.ren_dyn g3 ac];exact hn),Z.ren_dyn g3 ac]
end
end Go.Ab
