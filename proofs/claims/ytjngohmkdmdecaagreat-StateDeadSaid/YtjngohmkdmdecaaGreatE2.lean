/- An evaluator of the model's code over plain values, and its soundness; of no program. -/
import Derived.Test.YtjngohmkdmdecaaGreatE1
import Derived.MapKept
import Derived.WideKeyRuns
import Derived.Deep.AppendSrc
import Derived.Laws.MakeOwn
import Derived.Great.BuildSlice
import Derived.Deep.Upon
set_option linter.all false
namespace Go.Ab
theorem ZAQ:type_of% @Bool.not_true:=@Bool.not_true
theorem ZAY:type_of% @List.getElem?_map:=@List.getElem?_map
theorem ZAb:type_of% @List.mem_cons_of_mem:=@List.mem_cons_of_mem
theorem ZAd:type_of% @beq_self_eq_true:=@beq_self_eq_true
theorem ZAk:type_of% @List.mem_cons_self:=@List.mem_cons_self
theorem ZAl:type_of% @List.length_map:=@List.length_map
theorem ZAq:type_of% @List.getElem?_take:=@List.getElem?_take
theorem ZAu:type_of% @List.take_length:=@List.take_length
theorem ZA1:type_of% @Nat.lt_irrefl:=@Nat.lt_irrefl
theorem ZA7:type_of% @Bool.false_eq_true:=@Bool.false_eq_true
theorem ZBC:type_of% @Nat.min_eq_left:=@Nat.min_eq_left
theorem ZBE:type_of% @Array.getElem?_eq_some_iff:=@Array.getElem?_eq_some_iff
theorem ZBG:type_of% @decide_eq_false_iff_not:=@decide_eq_false_iff_not
theorem ZBK:type_of% @List.size_toArray:=@List.size_toArray
theorem ZBM:type_of% @List.mem_map:=@List.mem_map
theorem ZBT:type_of% @Bool.true_and:=@Bool.true_and
theorem ZBU:type_of% @List.cons.injEq:=@List.cons.injEq
theorem ZBV:type_of% @List.drop_eq_getElem_cons:=@List.drop_eq_getElem_cons
theorem ZBW:type_of% @List.ext_getElem?:=@List.ext_getElem?
theorem ZBX:type_of% @Nat.blt_eq:=@Nat.blt_eq
theorem ZBY:type_of% @Array.size_append:=@Array.size_append
theorem ZBd:type_of% @Nat.le_succ:=@Nat.le_succ
theorem ZBr:type_of% @Int.natCast_mul:=@Int.natCast_mul
theorem ZB0:type_of% @Option.isSome_iff_exists:=@Option.isSome_iff_exists
theorem ZB4:type_of% @Array.ext':=@Array.ext'
theorem ZB5:type_of% @Option.map_some:=@Option.map_some
theorem ZCD:type_of% @List.length_replicate:=@List.length_replicate
theorem ZCE:type_of% @Array.getElem?_modify:=@Array.getElem?_modify
theorem ZCR:type_of% @if_false:=@if_false
theorem ZCT:type_of% @List.length_eq_zero_iff:=@List.length_eq_zero_iff
theorem ZCU:type_of% @Array.toList_append:=@Array.toList_append
theorem ZCW:type_of% @List.all_eq_true:=@List.all_eq_true
theorem ZCb:type_of% @Nat.add_zero:=@Nat.add_zero
theorem ZCc:type_of% @List.set_getElem_self:=@List.set_getElem_self
theorem ZCj:type_of% @List.mem_flatMap:=@List.mem_flatMap
theorem ZCl:type_of% @Array.getElem?_push:=@Array.getElem?_push
theorem ZCm:type_of% @List.map_congr_left:=@List.map_congr_left
theorem ZCt:type_of% @if_true:=@if_true
theorem ZCv:type_of% @List.take_take:=@List.take_take
theorem ZCw:type_of% @Nat.mul_comm:=@Nat.mul_comm
section
variable {P : Program} {β : Type} {z : Z} {H : Hp}
theorem gRZ{t}{a ix}{K}{r:β}{v vi}(h:jA P t a ix H K=some r)(hH:aH z H)(ha:aF z a v)(hi:aF z ix vi):
 OkP P (Instr.indexAt t v vi) z K r:=by
 unfold jA at h
 let⟨x,h1,h2⟩:=agZ.1 h
 obtain⟨k,rfl⟩:=bCZ h1 hi;split at h2
 ·rename_i n e hu;have hh:=adZ.1 h2;clear h2 h
  let⟨h0,h2⟩:=hh
  simp at h0;have hm0:P.cellsOf e≠0:=fun h=>by rw[h] at h0;cases h0
  split at h2
  ·rename_i es id i j;cases ha with|own _ _ _ _ g sz m hρ=>
   cases hb:(Nat.beq es (P.cellsOf e)&&Nat.beq i 0&&Nat.beq j 0)<;>rw[hb] at h2<;>simp[bq_false] at h2
   ·let⟨q,h3,h4⟩:=ZAH.1 h2
    let⟨q1,q2,q3⟩:=coZ h3
    exact .mk' (by rw[byZ z.w hu q1 q2 q3 rfl hm0,ZCC]) (.own _ _ _ _ _ _ _ hρ) h4
   ·let⟨q,h3,h4⟩:=ZAH.1 h2
    let⟨q1,q2,q3⟩:=coZ h3
    simp[afZ] at hb;obtain⟨⟨rfl,rfl⟩,rfl⟩:=hb;exact .mk' (by rw[byZ z.w hu q1 q2 q3 rfl hm0];simp) (.own _ _ _ _ _ _ _ hρ) h4
  ·rename_i u l i j;cases ha with|pt _ _ _ _ b off hM hlt hr=>
   cases hb:(Nat.beq u.cells (P.cellsOf e)&&Nat.beq i 0&&Nat.beq j 0)<;>rw[hb] at h2<;>simp[bq_false] at h2
   ·let⟨q,h3,h4⟩:=ZAH.1 h2
    let⟨q1,q2,q3⟩:=coZ h3
    exact .mk' (by rw[byZ z.w hu q1 q2 q3 rfl hm0,ZCC (off+i*u.cells)]) (.pt _ _ _ _ _ _ hM hlt hr) h4
   ·let⟨q,h3,h4⟩:=ZAH.1 h2
    let⟨q1,q2,q3⟩:=coZ h3
    simp[afZ] at hb;obtain⟨⟨hb1,rfl⟩,rfl⟩:=hb;exact .mk' (by rw[byZ z.w hu q1 q2 q3 rfl hm0,<-hb1];simp) (.pt _ _ q 0 _ _ hM hlt hr) h4
  ·cases h2
 ·rename_i e hu;have hh:=adZ.1 h2;clear h2 h
  let⟨h0,h2⟩:=hh
  simp at h0;have hm0:P.cellsOf e≠0:=fun h=>by rw[h] at h0;cases h0
  split at h2
  ·rename_i es id;cases hb:Nat.beq es (P.cellsOf e)<;>rw[hb] at h2<;>simp only[bq_true,bq_false] at h2
   ·cases h2
   ·rw[afZ] at hb;split at h2
    ·rename_i n hvl
     let⟨q,h4,h5⟩:=ZAH.1 h2
     let⟨q1,q2,q3⟩:=coZ h4
     obtain⟨_,g,sz,c,hρ,rfl,_⟩:=hzZ hvl hH ha;refine .mk' (aSZ z.w hu q1 q2 q3 hb.symm (by rw[hb];exact hm0)) ?_ h5;rw[ZA5];exact .own _ _ q 0 _ _ _ hρ
    let⟨fz,e',u,l,hg,he,h3⟩:=dPZ h2
    let⟨q,h4,h5⟩:=ZAH.1 h3
    let⟨q1,q2,q3⟩:=coZ h4
    obtain⟨A,c,rfl,hc,hA,_⟩:=iRZ hH hg ha;obtain⟨g,sz,m,hρ,rfl,_⟩:=hA (by omega);refine .mk' (aSZ z.w hu q1 q2 q3 hb.symm (by rw[hb];exact hm0)) ?_ h5;rw[ZA5];exact .own _ _ q 0 _ _ _ hρ
  ·rename_i es id off n;cases hb:Nat.beq es (P.cellsOf e)<;>rw[hb] at h2<;>simp only[bq_true,bq_false] at h2
   ·cases h2
   ·rw[afZ] at hb
    let⟨q,h4,h5⟩:=ZAH.1 h2
    let⟨q1,q2,q3⟩:=coZ h4
    cases ha with
    |slV=>omega
    |slE=>omega
    |sl _ _ _ _ g sz m c hρ hn hs hm=>
     refine .mk' (aSZ z.w hu q1 q2 q3 hb.symm (by rw[hb];exact hm0)) ?_ h5;have:=aF.own es id (off+q) 0 g sz m hρ;rw[ZAr] at this;exact this
  ·rename_i u l;cases hb:Nat.beq u.cells (P.cellsOf e)<;>rw[hb] at h2<;>simp only[bq_true,bq_false] at h2
   ·cases h2
   ·rw[afZ] at hb
    let⟨q,h4,h5⟩:=ZAH.1 h2
    let⟨q1,q2,q3⟩:=coZ h4
    obtain⟨A,c,rfl,hc,hm,_,hA⟩:=bK.sl ha.v;obtain⟨b,off,rfl,hM,hlt,hr⟩:=hA (by omega);refine .mk' (aSZ z.w hu q1 q2 q3 hb.symm (by rw[hb];exact hm0)) ?_ h5;exact .pt u l q 0 b off hM hlt hr
  ·rename_i f u rr;cases hb:Nat.beq u.cells (P.cellsOf e)<;>rw[hb] at h2<;>simp only[bq_true,bq_false] at h2
   ·cases h2
   ·rw[afZ] at hb
    let⟨⟨k,off,n⟩,h3,h2'⟩:=ZAH.1 h2
    have:rr= .inr (some (k,off,n)):=by
     unfold vS at h3;split at h3
     ·rw[h3]
     ·cases h3
    subst this
    ·let⟨q,h4,h5⟩:=ZAH.1 h2'
     simp at h4 h5
     let⟨q1,q2,q3⟩:=coZ h4
     rcases ha.v.scal rfl rfl with⟨A,_,rfl,_⟩|⟨g,sz,m,c,hρ,hn,hs,hm,hv⟩
     ·omega
     ·simp[ZBp] at hv;subst hv;refine .mk' (aSZ z.w hu q1 q2 q3 hb.symm (by rw[hb];exact hm0)) ?_ h5;have:=aF.rp f u.cells k (off+q) 0 g sz m hρ;rw[ZAr,ZCb] at this;exact this
  ·cases h2
 simp_all
theorem fhZ{css:List (List Value)}{c}(hl:∀u∈css,u.length=c):∀(q) u,css[q]? =some u->(css.flatten.drop (q*c)).take c=u:=by
 induction css with
 |nil=>simp_all
 |cons w css ih=>
  intro q u h;have hw:=hl w (by simp)
  match q with
  |0=>
   simp_all
  |q+1=>
   rw[ZCS,ZCB,Nat.add_comm,ZCi,hw,ZBH (by omega),ZA9]
   simp_all
theorem Cl.nth{w}{M}{ρ}{n}{u}{l:List u.den}{cs}(h:Cl w M ρ (.arr n u) l cs){q}{y}(hy:l[q]? =some y):Cl w M ρ u y ((cs.drop (q*u.cells)).take u.cells):=by
 obtain⟨hn,css,h1,rfl,h2⟩:=h;have hq:q<css.length:=by
  have:=(ZAB.1 hy).1;omega
 have hl:∀u'∈css,u'.length=u.cells:=fun u' hu=>by
  let⟨k,hk⟩:=ZAP hu
  let⟨e,he⟩:=bfZ (h1.trans hn.symm) hk
  exact(h2 k e u' he hk).len
 rw[fhZ hl q _ (ZAC hq)];exact h2 q y _ hy (ZAC hq)
theorem o8Z{t}{a ix}{K}{r:β}{v vi}(h:sZ P t a ix K=some r)(ha:aF z a v)(hi:aF z ix vi):
 OkP P (Instr.index t v vi) z K r:=by
 unfold sZ at h
 let⟨x,h1,h2⟩:=agZ.1 h
 obtain⟨k,rfl⟩:=bCZ h1 hi;split at h2
 ·rename_i hu
  let⟨l,h3,h4⟩:=agZ.1 h2
  let⟨q,h5,h6⟩:=ZAH.1 h4
  let⟨c,h7,h8⟩:=ZAH.1 h6
  obtain rfl:=eoZ h3 ha
  let⟨q1,q2,q3⟩:=coZ h5
  have aG:(⟨⟨l⟩⟩:ByteArray)[x.toNat]? =some c:=by
   rw[q3];have:=(ZAB.1 h7).1;rw[getElem?_pos (⟨⟨l⟩⟩:ByteArray) q this];congr 1;exact ZAh ((ZAC this).symm.trans h7)
  exact .mk' (by simp[Instr.index,asIntOf,run_underlying hu,q1,aG]) (.mkI _ _) h8
 ·rename_i n e hu
  let⟨u,h3,h4⟩:=agZ.1 h2
  let⟨t1,t2,t3,t4⟩:=dmZ h3
  let⟨l,h5,h6⟩:=bTZ h4 ha
  let⟨q,h7,h8⟩:=ZAH.1 h6
  let⟨y,h9,h10⟩:=ZAH.1 h8
  let⟨q1,q2,q3⟩:=coZ h7
  let⟨cs,c1,c2⟩:=h5
  simp[Ty.isAgg] at c2;subst c2;have hc:=Cl.nth c1 h9;have hs:=a7Z z.w t1.symm (by omega);have hrun:(Instr.index t (.agg cs.toArray) (.int k x)).run P z.w=(part e cs.toArray (q*u.cells)).run P z.w:=by
   simp[Instr.index,asIntOf,run_underlying hu,q1,q2,hs,q3]
  have hl:=hc.len;cases hagg:u.isAgg
  ·have hcells:u.cells=1:=by cases u<;>first|rfl|(simp[Ty.isAgg] at hagg;done)
   match hvs:(cs.drop (q*u.cells)).take u.cells,hl with
   |[],hl=>rw[hcells] at hl;simp at hl
   |_::_::_,hl=>rw[hcells] at hl;simp at hl
   |[v],_=>
    rw[hvs] at hc;have hv:cs.toArray[q*u.cells]? =some v:=by
     have:((cs.drop (q*u.cells)).take u.cells)[0]? =some v:=by rw[hvs];rfl
     rw[ZBo (by omega),ZA4] at this;simpa using this
    exact .mk' (by rw[hrun];exact bhZ z.w (t4 hagg) hv) (b7Z (.mkSc hc hagg)) h10
  ·refine .mk' (by rw[hrun];exact bwZ z.w (t3 hagg) t1.symm (by omega)) (b7Z ⟨_,hc,?_⟩) h10;rw[hagg];simp only[ZAK];congr 1;apply ZB4;rw[ZCQ,ZCL,ZA9]
 simp_all
def Bnd(a:Option AV)(v:Option Value)(d m k:Nat):Prop:=(a=none/\v=none/\k=d)\/∃kk n,v=some (.int kk n)/\0<=n/\n<=m/\n.toNat=k
def AJ(z:Z)(a:Option AV)(v:Option Value):Prop:=(a=none/\v=none)\/∃x u,a=some x/\v=some u/\aF z x u
theorem c9Z{a}{v}{d m}{K}{r:β}(h:tC a d m K=some r)(ha:AJ z a v):∃k,Bnd a v d m k/\K k=some r:=by
 rcases ha with⟨rfl,rfl⟩|⟨x,u,rfl,rfl,hx⟩
 ·exact⟨d,.inl ⟨rfl,rfl,rfl⟩,h⟩
 ·let⟨n,h1,h2⟩:=agZ.1 h
  let⟨k,h3,h4⟩:=ZAH.1 h2
  obtain⟨kk,rfl⟩:=bCZ h1 hx
  let⟨q1,q2,q3⟩:=cvZ h3
  exact⟨k,.inr ⟨kk,n,rfl,q1,q2,q3⟩,h4⟩
theorem Bnd.le{a}{v}{d m k}(h:Bnd a v d m k)(hd:d<=m):k<=m:=by
 rcases h with⟨_,_,rfl⟩|⟨kk,n,_,h1,h2,h3⟩<;>grind
theorem bqZ{isSlice}{len cap h b}{lo hi}{vlo vhi}(w)(hc:len<=cap)(hh:Bnd hi vhi len len h)(hb:Bnd lo vlo 0 h b):
 (Instr.sliceBounds isSlice len cap vlo vhi none).run P w= .ok (b,h,cap) w:=by
 have sb:∀(kk) (n:Int) (y:Nat) (code),0<=n->n<=y->(Instr.sliceBound (.int kk n) y code).run P w= .ok n.toNat w:=fun kk n y code h0 h1=>by
  simp[Instr.sliceBound,asIntOf,h0,h1]
 rcases hh with⟨_,rfl,rfl⟩|⟨kk,n,rfl,h1,h2,h3⟩
 ·rcases hb with⟨_,rfl,rfl⟩|⟨kk',n',rfl,p1,p2,p3⟩
  ·simp[Instr.sliceBounds]
  ·simp[Instr.sliceBounds,sb kk' n' _ _ p1 p2,p3]
 ·rcases hb with⟨_,rfl,rfl⟩|⟨kk',n',rfl,p1,p2,p3⟩
  ·simp[Instr.sliceBounds,sb kk n cap _ h1 (by omega),h3]
  ·simp[Instr.sliceBounds,sb kk n cap _ h1 (by omega),h3,sb kk' n' _ _ p1 p2,p3]
theorem a1Z{t e}{A}{len cap h b m}{lo hi}{vlo vhi}(w)(hu:P.underlying t=some (.slice e))(hm:P.cellsOf e=m)(hm0:m≠0)
 (hc:len<=cap)(hh:Bnd hi vhi len len h)(hb:Bnd lo vlo 0 h b):
 (Instr.sliceAt t (.slice A len cap) vlo vhi none).run P w= .ok (.slice (if cap=b then A else A.map (·.add (b*m))) (h-b) (cap-b)) w:=by
 have hs:=a7Z w hm hm0;simp[Instr.sliceAt,Instr.slice,run_underlying hu,bqZ w hc hh hb,hs]
theorem cpZ{t e}{g o n h b m}{lo hi}{vlo vhi}(w)(hu:P.underlying t=some (.array n e))(hm:P.cellsOf e=m)(hm0:m≠0)
 (hh:Bnd hi vhi n n h)(hb:Bnd lo vlo 0 h b):
 (Instr.sliceAt t (.pointer (some ⟨g,o,none⟩)) vlo vhi none).run P w= .ok (.slice (some (if n=b then⟨g,o,none⟩ else⟨g,o+b*m,none⟩)) (h-b) (n-b)) w:=by
 have hs:=a7Z w hm hm0;simp[Instr.sliceAt,run_underlying hu,bqZ w (ZAL n) hh hb,hs,Instr.sureAddr,Addr.add_mid]
theorem l3Z{es id off c g sz m h b}(hρ:z.ρ id= .real g sz m)(hbh:b<=h)(hc:h<=c)(hs:(off+c)*es<=sz)(hm:c<=maxLen):
 aF z (.sl es id (off+b) (h-b)) (.slice (if c=b then some ⟨g,off*es,none⟩ else(some ⟨g,off*es,none⟩:Option Addr).map (·.add (b*es))) (h-b) (c-b)):=by
 by_cases hcb:c=b
 ·rw[ZAN hcb];rw[show h-b=0 from by omega,show c-b=0 from by omega];exact .slE _ _ _ _ _ _ _ hρ
 ·rw[ZAM hcb];simp[Addr.add_mid];rw[<-Nat.add_mul];exact .sl _ _ _ _ _ _ _ _ hρ (by omega) (by grind) (by omega)
theorem lMZ{α}{l}{lo hi}{vlo vhi}{K:List α->Option β}{r}(h:EV l lo hi K=some r)(hlo:AJ z lo vlo)(hhi:AJ z hi vhi):
 ∃b h' l',Bnd hi vhi l.length l.length h'/\Bnd lo vlo 0 h' b/\l'=(l.take h').drop b/\h'<=l.length/\b<=h'/\K l'=some r:=by
 rcases hlo with⟨rfl,rfl⟩|⟨x,u,rfl,rfl,hx⟩
 ·rcases hhi with⟨rfl,rfl⟩|⟨y,w,rfl,rfl,hy⟩
  ·exact⟨0,l.length,l,.inl ⟨rfl,rfl,rfl⟩,.inl ⟨rfl,rfl,rfl⟩,by simp,ZAL _,ZBI _,h⟩
  ·let⟨n,h1,h2⟩:=agZ.1 h
   let⟨k,h3,h4⟩:=ZAH.1 h2
   obtain⟨kk,rfl⟩:=bCZ h1 hy
   let⟨q1,q2,q3⟩:=cvZ h3
   exact⟨0,k,_,.inr ⟨kk,n,rfl,q1,q2,q3⟩,.inl ⟨rfl,rfl,rfl⟩,by simp,by omega,ZBI _,h4⟩
 ·rcases hhi with⟨rfl,rfl⟩|⟨y,w,rfl,rfl,hy⟩
  ·let⟨n,h1,h2⟩:=agZ.1 h
   let⟨k,h3,h4⟩:=ZAH.1 h2
   obtain⟨kk,rfl⟩:=bCZ h1 hx
   let⟨q1,q2,q3⟩:=cvZ h3
   exact⟨k,l.length,_,.inl ⟨rfl,rfl,rfl⟩,.inr ⟨kk,n,rfl,q1,q2,q3⟩,by simp,ZAL _,by omega,h4⟩
  ·let⟨n,h1,h2⟩:=agZ.1 h
   let⟨k,h3,h4⟩:=ZAH.1 h2
   let⟨n',h5,h6⟩:=agZ.1 h4
   let⟨k',h7,h8⟩:=ZAH.1 h6
   obtain⟨kk,rfl⟩:=bCZ h1 hy
   let⟨q1,q2,q3⟩:=cvZ h3
   obtain⟨kk',rfl⟩:=bCZ h5 hx
   let⟨p1,p2,p3⟩:=cvZ h7
   exact⟨k',k,_,.inr ⟨kk,n,rfl,q1,q2,q3⟩,.inr ⟨kk',n',rfl,p1,p2,p3⟩,rfl,by omega,by omega,h8⟩
theorem myZ{u}{l}{A}{c b h}(hc:l.length<=c)(hm:c<=maxLen)(hn:A=none->c=0)
 (hA:l.length≠0->∃b off,A=some ⟨b,off,none⟩/\¬z.M b/\b<z.w.heap.size/\eR z.w z.M z.ρ b off u l)(hh:h<=l.length)(hb:b<=h):
 aF z (.p (.sl u) ((l.take h).drop b)) (.slice (if c=b then A else A.map (·.add (b*u.cells))) (h-b) (c-b)):=by
 have hlen:((l.take h).drop b).length=h-b:=by rw[ZAx,ZAS];omega
 have:bK z.w z.M z.ρ (.sl u) ((l.take h).drop b) (.slice (if c=b then A else A.map (·.add (b*u.cells))) ((l.take h).drop b).length (c-b)):=by
  refine .mkSc ⟨_,_,rfl,by omega,by omega,fun h0=> ?_,fun h0=> ?_⟩ rfl
  ·split at h0<;>simp_all
  ·have h0':=by rwa [hlen] at h0
   obtain⟨b0,off,rfl,h1,h2,h3⟩:=hA (by omega);refine⟨b0,off+b*u.cells,?_,h1,h2,?_⟩
   ·rw[ZAM (by omega)];simp[Addr.add_mid]
   ·have:=h3.sub b (h-b);rwa [<-List.drop_take] at this
 rw[hlen] at this;exact .p _ _ _ this
theorem oDZ{t}{a}{lo hi}{K}{r:β}{v}{vlo vhi}(h:pT P t a lo hi H K=some r)(hH:aH z H)(ha:aF z a v)
 (hlo:AJ z lo vlo)(hhi:AJ z hi vhi):OkP P (Instr.sliceAt t v vlo vhi none) z K r:=by
 unfold pT at h;split at h
 ·rename_i hu;obtain⟨l,h1,h2⟩:=agZ.1 h;obtain rfl:=eoZ h1 ha;obtain⟨b,h',l',q1,q2,rfl,q3,q4,q5⟩:=lMZ h2 hlo hhi;refine .mk' ?_ (.mkS _) q5;have hsz:(⟨⟨l⟩⟩:ByteArray).size=l.length:=rfl;simp only[Instr.sliceAt,Instr.slice,Sem.run_bind,run_underlying hu,Result.andThen_ok];simp only[Option.isSome_none,ZA7,ZCR,hsz];have:=bqZ (P:=P) (isSlice:=false) z.w (ZAL l.length) q1 q2;simp only[Sem.run_bind,Sem.run_pure,Result.andThen_ok,this];congr 2;apply ByteArray.ext;rw[ByteArray.data_extract];apply ZB4;rw[ZCQ,ZCL,List.drop_take]
 ·rename_i e hu;split at h
  ·rename_i es id;cases hb:(Nat.beq es (P.cellsOf e)&& !Nat.beq es 0)<;>rw[hb] at h<;>simp only[bq_true,bq_false] at h
   ·cases h
   simp only[ZAF,ZAj,afZ] at hb;obtain⟨he,he0⟩:=hb;have hm0:es≠0:=fun h=>by rw[h] at he0;cases he0
   split at h
   ·obtain⟨_,rfl⟩:(none:Option AV)=none/\vlo=none:=by rcases hlo with h|⟨_,_,h,_⟩<;>first|exact h|cases h
    obtain⟨_,rfl⟩:(none:Option AV)=none/\vhi=none:=by rcases hhi with h|⟨_,_,h,_⟩<;>first|exact h|cases h
    have form:∃A n c,v= .slice A n c/\n<=c:=by
     cases ha with
     |slfV _ _ A hρ=>exact⟨A,0,0,rfl,ZAL _⟩
     |slf _ _ g sz n c hρ hn hs hm=>exact⟨_,n,c,rfl,hn⟩
    obtain⟨A,n,c,rfl,hnc⟩:=form;have hrun:=a1Z (A:=A) z.w hu he.symm hm0 hnc (.inl ⟨rfl,rfl,rfl⟩) (.inl ⟨rfl,rfl,rfl⟩);have e1:(if c=0 then A else A.map (·.add (0*es)))=A:=by
     split
     ·rfl
     ·cases A<;>simp[Addr.add]
    rw[e1] at hrun;exact .mk' hrun (by simpa using ha) h
   ·rename_i lo hi _;obtain⟨fz,e',u,l,hg,heu,h3⟩:=dPZ h;obtain⟨h',q1,h4⟩:=c9Z h3 hhi;obtain⟨b,q2,h5⟩:=c9Z h4 hlo;have l1:=q1.le (ZAL _);have l2:=q2.le (ZBI _);obtain⟨A,c,rfl,hc,_,hA,_⟩:=iRZ hH hg ha;refine .mk' (a1Z z.w hu he.symm hm0 hc q1 q2) ?_ h5;rcases hA with hρ|⟨g,sz,n,hρ,rfl,hs,hm⟩
    ·obtain⟨rfl,_⟩:=hH.virt hg hρ;have e0:=Nat.le_zero.1 l1;have e1:b=0:=by omega
     subst e0;subst e1;cases ha with
     |slfV _ _ _ _=>exact .slV _ _ _ _ hρ
     |slf _ _ _ _ _ _ h'=>rw[hρ] at h';cases h'
    ·have:=l3Z hρ l2 (by omega:h'<=c) (by rw[ZA5];exact hs) hm;simpa using this
  ·rename_i es id off n;cases hb:(Nat.beq es (P.cellsOf e)&& !Nat.beq es 0)<;>rw[hb] at h<;>simp only[bq_true,bq_false] at h
   ·cases h
   simp only[ZAF,ZAj,afZ] at hb;obtain⟨he,he0⟩:=hb;have hm0:es≠0:=fun h=>by rw[h] at he0;cases he0
   obtain⟨h',q1,h4⟩:=c9Z h hhi;obtain⟨b,q2,h5⟩:=c9Z h4 hlo;have l1:=q1.le (ZAL _);have l2:=q2.le (ZBI _);cases ha with
   |slV _ _ _ A hρ=>
    refine .mk' (a1Z z.w hu he.symm hm0 (ZAL 0) q1 q2) ?_ h5;have e0:h'=0:=by omega
    have e1:b=0:=by omega
    subst e0;subst e1;exact .slV _ _ _ _ hρ
   |slE _ _ _ g sz m o hρ=>
    refine .mk' (a1Z z.w hu he.symm hm0 (ZAL 0) q1 q2) ?_ h5;have e0:h'=0:=by omega
    have e1:b=0:=by omega
    subst e0;subst e1;exact .slE _ _ _ _ _ _ _ hρ
   |sl _ _ _ _ g sz m c hρ hn hs hm=>
    exact .mk' (a1Z z.w hu he.symm hm0 hn q1 q2) (l3Z hρ l2 (by omega) hs hm) h5
  ·rename_i u l;cases hb:(Nat.beq u.cells (P.cellsOf e)&& !Nat.beq u.cells 0)<;>rw[hb] at h<;>simp only[bq_true,bq_false] at h
   ·cases h
   simp only[ZAF,ZAj,afZ] at hb;obtain⟨he,he0⟩:=hb;have hm0:u.cells≠0:=fun h=>by rw[h] at he0;cases he0
   obtain⟨b,h',l',q1,q2,rfl,q3,q4,q5⟩:=lMZ h hlo hhi;obtain⟨A,c,rfl,hc,hm,hn,hA⟩:=bK.sl (t:=u) ha.v;exact .mk' (a1Z z.w hu he.symm hm0 hc q1 q2) (myZ hc hm hn hA q3 q4) q5
  ·obtain⟨hm,h3⟩:=adZ.1 h;simp only[ZAj] at hm;have hm0:P.cellsOf e≠0:=fun h=>by rw[h] at hm;cases hm
   obtain⟨h',q1,h4⟩:=c9Z h3 hhi;obtain⟨b,q2,h5⟩:=c9Z h4 hlo;have l1:=q1.le (ZAL _);have l2:=q2.le (ZBI _);have e0:h'=0:=by omega
   have e1:b=0:=by omega
   subst e0;subst e1;obtain⟨rfl,_⟩:=ha.v.opq;have hrun:=a1Z (P:=P) (A:=none) z.w hu rfl hm0 (ZAL 0) q1 q2;exact .mk' (x:=.p .opq (.slice none 0 0)) (v:=.slice none 0 0) (by simpa using hrun) ha h5
  ·rename_i f u x;cases hb:(Nat.beq u.cells (P.cellsOf e)&& !Nat.beq u.cells 0)<;>rw[hb] at h<;>simp only[bq_true,bq_false] at h
   ·cases h
   simp only[ZAF,ZAj,afZ] at hb;obtain⟨he,he0⟩:=hb;have hm0:u.cells≠0:=fun h=>by rw[h] at he0;cases he0
   obtain⟨h',q1,h4⟩:=c9Z h hhi;obtain⟨b,q2,h5⟩:=c9Z h4 hlo;have l1:=q1.le (ZAL _);have l2:=q2.le (ZBI _);have hx:=ha.v.scal rfl rfl;have empty:∀A c,c<=maxLen->(A=none->c=0)->aF z (.p (.ref f u) (.inl [])) (.slice A 0 c):=fun A c h1 h2=>
    .p _ _ _ (.mkSc ⟨A,c,rfl,ZBI _,h1,h2,fun h=>absurd rfl h⟩ rfl)
   rcases x with l|(_|⟨k,off,n⟩)
   ·have hv:bK z.w z.M z.ρ (.sl u) l v:=.mkSc hx rfl;obtain⟨A,c,rfl,hc,hm,hn,hA⟩:=bK.sl (t:=u) hv;refine .mk' (a1Z z.w hu he.symm hm0 hc q1 q2) ?_ h5;have hcut:=(myZ (z:=z) hc hm hn hA l1 l2).v.scal rfl rfl;rw[show kH (α:=u.den) (.inl l) b (h'-b)= .inl ((l.take h').drop b) from by unfold kH;rw[show b+(h'-b)=h' from by omega]];exact .p _ _ _ (.mkSc hcut rfl)
   ·have hx:[v]=[.slice none 0 0]:=hx;simp only[ZBU,ZBp] at hx;subst hx;have l1:h'<=0:=l1;obtain rfl:h'=0:=by omega
    obtain rfl:b=0:=by omega
    have hrun:=a1Z (P:=P) (A:=none) z.w hu he.symm hm0 (ZAL 0) q1 q2;refine .mk' (v:=.slice none 0 0) (by simpa using hrun) ?_ h5;exact .p _ _ _ (.mkSc rfl rfl)
   ·have l1:h'<=n:=l1;have q1:Bnd hi vhi n n h':=q1;rcases hx with⟨A,hρ,rfl,hx⟩|⟨g,sz,m,c,hρ,hnc,hs,hm,hx⟩
    ·simp only[ZBU,ZBp] at hx;subst hx;obtain rfl:h'=0:=by omega
     obtain rfl:b=0:=by omega
     have hrun:=a1Z (P:=P) (A:=A) z.w hu he.symm hm0 (ZAL 0) q1 q2;refine .mk' hrun ?_ h5;exact empty _ _ (ZBI _) fun _=>rfl
    ·simp only[ZBU,ZBp] at hx;subst hx;refine .mk' (a1Z z.w hu he.symm hm0 hnc q1 q2) ?_ h5;by_cases h0:h'-b=0
     ·rw[show kH (α:=u.den) (.inr (some (k,off,n))) b (h'-b)= .inl [] from by unfold kH;rw[h0];rfl,h0];refine empty _ _ (by omega) fun hA=> ?_;split at hA
      ·cases hA
      ·cases hA
     ·rw[show kH (α:=u.den) (.inr (some (k,off,n))) b (h'-b)= .inr (some (k,off+b,h'-b)) from by
       unfold kH;have:Nat.beq (h'-b) 0=false:=by
        cases hh:Nat.beq (h'-b) 0 with
        |false=>rfl
        |true=>rw[afZ] at hh;exact absurd hh h0
       rw[this];rfl,ZAM (by omega)]
      refine .p _ _ _ (.mkSc (.inr ⟨g,sz,m,c-b,hρ,by omega,?_,by omega,?_⟩) rfl)
      ·have:off+b+(c-b)=off+c:=by omega
       rw[this];exact hs
      ·simp[Addr.add_mid,ZAr]
  ·cases h
 ·rename_i n e hu;split at h
  ·rename_i es id;cases hb:(Nat.beq es (P.cellsOf e)&& !Nat.beq es 0)<;>rw[hb] at h<;>simp only[bq_true,bq_false] at h
   ·cases h
   simp only[ZAF,ZAj,afZ] at hb;obtain⟨he,he0⟩:=hb;have hm0:es≠0:=fun h=>by rw[h] at he0;cases he0
   obtain⟨fz,e',u,l,hg,heu,h3⟩:=dPZ h;obtain⟨h4,h5⟩:=adZ.1 h3;simp only[ZAF,afZ,ZAm] at h4;obtain⟨hroom,h4⟩:=h4;cases ha with|own _ _ _ _ g sz m hρ=>
   obtain⟨_,_,_,cs,fr,a1,a2,a3,a4,a5,a6,a7⟩:=hH.real hg hρ;have hml:n<=maxLen:=by unfold bG at hroom;unfold maxLen;omega
   split at h5
   ·obtain⟨_,rfl⟩:(none:Option AV)=none/\vlo=none:=by rcases hlo with h|⟨_,_,h,_⟩<;>first|exact h|cases h
    obtain⟨_,rfl⟩:(none:Option AV)=none/\vhi=none:=by rcases hhi with h|⟨_,_,h,_⟩<;>first|exact h|cases h
    have hrun:=cpZ (P:=P) (g:=g) (o:=0*es+0) (lo:=none) (hi:=none) z.w hu he.symm hm0 (.inl ⟨rfl,rfl,rfl⟩) (.inl ⟨rfl,rfl,rfl⟩);refine .mk' hrun ?_ h5;have:(if n=0 then(⟨g,0*es+0,none⟩:Addr) else⟨g,0*es+0+0*es,none⟩)=⟨g,0,none⟩:=by split<;>simp
    rw[this];have a4':n=m:=h4.trans a4;subst a4';exact .slf _ _ _ _ _ _ hρ (by omega) (by rw[heu,Nat.sub_zero,h4];exact a5) (by omega)
   ·obtain⟨h',q1,h6⟩:=c9Z h5 hhi;obtain⟨b,q2,h7⟩:=c9Z h6 hlo;have l1:=q1.le (ZAL _);have l2:=q2.le (ZBI _);refine .mk' (cpZ z.w hu he.symm hm0 q1 q2) ?_ h7;have:=l3Z (z:=z) (es:=es) (off:=0) (c:=n) hρ l2 l1 (by rw[ZA5,heu,h4];exact a5) hml;simp only[ZBu,ZA5,ZCb] at this⊢;split at this
    ·rename_i hnb;rw[ZAN hnb];exact this
    ·rename_i hnb;rw[ZAM hnb];simpa[Addr.add_mid] using this
  ·rename_i u l;cases hb:(Nat.beq u.cells (P.cellsOf e)&& !Nat.beq u.cells 0&&Nat.ble n bG&&Nat.beq n l.length)<;>rw[hb] at h<;>simp only[bq_true,bq_false] at h
   ·cases h
   simp only[ZAF,ZAj,afZ,ZAm] at hb;obtain⟨⟨⟨he,he0⟩,hroom⟩,hn⟩:=hb;have hm0:u.cells≠0:=fun h=>by rw[h] at he0;cases he0
   cases ha with|pt _ _ _ _ b0 off hM hlt hr=>
   obtain⟨b,h',l',q1,q2,rfl,q3,q4,q5⟩:=lMZ h hlo hhi;rw[<-hn] at q1;refine .mk' (cpZ z.w hu he.symm hm0 q1 q2) ?_ q5;have:=myZ (z:=z) (u:=u) (l:=l) (A:=some ⟨b0,off,none⟩) (c:=n) (by omega) (by unfold bG at hroom;unfold maxLen;omega) (fun h=>by cases h) (fun _=>⟨b0,off,rfl,hM,hlt,hr⟩) q3 q4;simp only[ZBu,ZCb] at this⊢;split at this
   ·rename_i hnb;rw[ZAN hnb];exact this
   ·rename_i hnb;rw[ZAM hnb];simpa[Addr.add_mid] using this
  ·cases h
 grind
theorem dxZ{t e}{A}{len cap h b m y:Nat}{lo}{vlo vhi vmx}{kx ky}{nx ny:Int}(w)(hu:P.underlying t=some (.slice e))(hm:P.cellsOf e=m)(hm0:m≠0)
 (hmx:vmx=some (.int ky ny))(hy0:0<=ny)(hy1:ny<=cap)(hy:ny.toNat=y)(hhi:vhi=some (.int kx nx))(hx0:0<=nx)(hx1:nx<=y)(hx:nx.toNat=h)(hb:Bnd lo vlo 0 h b):
 (Instr.sliceAt t (.slice A len cap) vlo vhi vmx).run P w= .ok (.slice (if y=b then A else A.map (·.add (b*m))) (h-b) (y-b)) w:=by
 have sb:∀(kk) (n:Int) (y:Nat) (code),0<=n->n<=y->(Instr.sliceBound (.int kk n) y code).run P w= .ok n.toNat w:=fun kk n y code h0 h1=>by
  simp[Instr.sliceBound,Sem.run_bind,asIntOf,h0,h1]
 have hs:=a7Z w hm hm0;subst hmx hhi;have hbd:(Instr.sliceBounds true len cap vlo (some (.int kx nx)) (some (.int ky ny))).run P w= .ok (b,h,y) w:=by
  rcases hb with⟨_,rfl,rfl⟩|⟨kk',n',rfl,p1,p2,p3⟩
  ·simp[Instr.sliceBounds,Sem.run_bind,sb ky ny cap _ hy0 hy1,hy,sb kx nx y _ hx0 hx1,hx]
  ·simp[Instr.sliceBounds,Sem.run_bind,sb ky ny cap _ hy0 hy1,hy,sb kx nx y _ hx0 hx1,hx,sb kk' n' _ _ p1 p2,p3]
 simp[Instr.sliceAt,Instr.slice,Sem.run_bind,run_underlying hu,hbd,hs]
theorem llZ{t}{a hi mx}{lo}{K}{r:β}{v vhi vmx}{vlo}(h:mA P t a lo hi mx K=some r)(ha:aF z a v)
 (hlo:AJ z lo vlo)(hhi:aF z hi vhi)(hmx:aF z mx vmx):OkP P (Instr.sliceAt t v vlo (some vhi) (some vmx)) z K r:=by
 unfold mA at h;split at h
 ·rename_i e hu;split at h
  ·rename_i u l;cases hb:(Nat.beq u.cells (P.cellsOf e)&& !Nat.beq u.cells 0)<;>rw[hb] at h<;>simp only[bq_true,bq_false] at h
   ·cases h
   simp[afZ] at hb
   let⟨he,he0⟩:=hb
   have hm0:u.cells≠0:=fun h=>by rw[h] at he0;cases he0
   let⟨y,h1,h2⟩:=agZ.1 h
   let⟨m,h3,h4⟩:=ZAH.1 h2
   obtain⟨ky,rfl⟩:=bCZ h1 hmx
   let⟨q1,q2,q3⟩:=cvZ h3
   let⟨x,h5,h6⟩:=agZ.1 h4
   let⟨h',h7,h8⟩:=ZAH.1 h6
   obtain⟨kx,rfl⟩:=bCZ h5 hhi
   let⟨p1,p2,p3⟩:=cvZ h7
   obtain⟨A,c,rfl,hc,hm,hn,hA⟩:=bK.sl ha.v;have hml:m<=List.length l:=by omega
   have hhm:h'<=m:=by omega
   have htl:(List.take m l).length=m:=by rw[ZAS];omega
   have cut:∀b,b<=h'->aF z (.p (.sl u) (((List.take m l).take h').drop b)) (.slice (if m=b then A else A.map (·.add (b*u.cells))) (h'-b) (m-b)):=fun b hbh=>by
    have:=myZ (by rw[htl];exact ZAL _) (by omega) (fun h0=>by have:=hn h0;omega) (fun h0=>by
     rw[htl] at h0
     let⟨b0,off,e1,e2,e3,e4⟩:=hA (by omega)
     exact⟨b0,off,e1,e2,e3,fun i e he'=>e4 i e (by rw[ZAq] at he';split at he'<;>first|exact he'|cases he')⟩) (by rw[htl];exact hhm) hbh
    exact this
   have ett:((List.take m l).take h')=List.take h' l:=by rw[ZCv,ZBC hhm]
   rcases hlo with⟨rfl,rfl⟩|⟨xl,vl,rfl,rfl,hxl⟩
   ·refine .mk' (dxZ z.w hu he.symm hm0 rfl q1 (by omega) q3 rfl p1 (by omega) p3 (.inl ⟨rfl,rfl,rfl⟩)) ?_ h8;have:=cut 0 (ZBI _);rw[ett,ZCK] at this;exact this
   ·simp only at h8
    let⟨n,g1,g2⟩:=agZ.1 h8
    let⟨b,g3,g4⟩:=ZAH.1 g2
    obtain⟨kl,rfl⟩:=bCZ g1 hxl
    let⟨r1,r2,r3⟩:=cvZ g3
    refine .mk' (dxZ (lo:=some xl) z.w hu he.symm hm0 rfl q1 (by omega) q3 rfl p1 (by omega) p3 (.inr ⟨kl,n,rfl,r1,r2,r3⟩)) ?_ g4;have:=cut b (by omega);rw[ett] at this;exact this
  ·cases h
 grind
end
section
variable {P : Program} {β : Type} {z : Z} {H : Hp}
def eF(z:Z)(u:Ty)(m:List u.den)(v:Value):Prop:=
 (∃h:u= .byte,v= .string ⟨⟨Ty.toL h m⟩⟩)\/
 ∃A c,v= .slice A m.length c/\m.length<=c/\c<=maxLen/\(m.length≠0->∃b off,A=some ⟨b,off,none⟩/\b<z.w.heap.size/\eR z.w z.M z.ρ b off u m)
theorem g1Z{u}{a}{K}{r:β}{v}(h:oD H u a K=some r)(hH:aH z H)(ha:aF z a v):∃m,eF z u m v/\K m=some r:=by
 unfold oD at h;split at h
 ·rename_i t x;rcases aUZ h with⟨ht,h⟩|h
  ·subst ht;obtain⟨A,c,rfl,hc,hm,hn,hA⟩:=bK.sl ha.v;exact⟨x,.inr ⟨A,c,rfl,hc,hm,fun h0=>by let⟨b,off,e,_,h2,h3⟩:=hA h0;exact⟨b,off,e,h2,h3⟩⟩,h⟩
  ·rcases aUZ h with⟨ht,h⟩|h
   ·rcases aUZ h with⟨hu,h⟩|h
    ·subst ht;obtain rfl:u= .byte:=by injection hu with hu;exact hu.symm
     obtain rfl:=ha.v.str;exact⟨x,.inl ⟨rfl,rfl⟩,h⟩
    ·cases h
   ·let⟨l,h1,h2⟩:=agZ.1 h
    obtain⟨A,c,rfl,hc,hm,hn,hA⟩:=bK.sl (m7Z h1 ha.v);exact⟨l,.inr ⟨A,c,rfl,hc,hm,fun h0=>by let⟨b,off,e,_,h2,h3⟩:=hA h0;exact⟨b,off,e,h2,h3⟩⟩,h2⟩
 ·rename_i es id;split at h
  ·rename_i fz e t l hg;rcases aUZ h with⟨ht,h⟩|h
   ·subst ht;cases hb:Nat.beq es t.cells<;>rw[hb] at h<;>simp only[bq_true,bq_false] at h
    ·cases h
    ·obtain⟨A,c,rfl,hc,_,hA,hml⟩:=iRZ hH hg ha;refine⟨l,.inr ⟨A,c,rfl,hc,hml,fun h0=> ?_⟩,h⟩
     ·rcases hA with hρ|⟨g,sz,n,hρ,rfl,hs,hm⟩
      ·obtain⟨rfl,_⟩:=hH.virt hg hρ;exact absurd rfl h0
      ·exact⟨g,0,rfl,(hH.real hg hρ).1,(hH.real hg hρ).2.2.2.rowAt⟩
   ·cases h
  ·cases h
 ·rename_i es id off n;split at h
  ·rename_i fz e t l hg;rcases aUZ h with⟨ht,h5⟩|h
   ·subst ht;clear h;cases hb:(Nat.beq es t.cells&&Nat.ble (off+n) l.length)<;>rw[hb] at h5<;>simp only[bq_true,bq_false] at h5
    ·cases h5
    ·simp[ZAm] at hb;obtain⟨rfl,hb⟩:=hb;have hlen:((l.drop off).take n).length=n:=by rw[ZAS,ZAx];omega
     have key:eF z t ((l.drop off).take n) v:=by
      refine .inr ?_;rw[hlen];cases ha with
      |slV _ _ _ A hρ=>exact⟨A,0,rfl,ZAL _,by unfold maxLen;omega,fun h=>absurd rfl h⟩
      |slE _ _ _ g sz m o hρ=>exact⟨_,0,rfl,ZAL _,by unfold maxLen;omega,fun h=>absurd rfl h⟩
      |sl _ _ _ _ g sz m c hρ hn hs hm=>
       refine⟨_,c,rfl,hn,hm,fun _=>⟨g,off*t.cells,rfl,(hH.real hg hρ).1,?_⟩⟩;have:=(hH.real hg hρ).2.2.2.rowAt.sub off n;rwa [ZA5] at this
     exact⟨_,key,h5⟩
   ·cases h
  ·cases h
 grind
theorem ojZ(l):∀(s:ByteArray),((l.map fun c=>(c.toNat:Int)).foldl (fun r n=>r.push (UInt8.ofNat n.toNat)) s).data.toList=s.data.toList++l:=by
 induction l<;>simp_all
theorem eR.bytes{w}{M}{ρ}{b off}{l:List UInt8}(h:eR w M ρ b off .byte l):w.rangeAt b off (l.map fun c=>Value.int .u8 (c.toNat:Int)):=fun j v hj=>by
 rw[ZAY] at hj;obtain⟨c,h1,rfl⟩:=ZAI.1 hj
 let⟨u,h2,h3⟩:=h j c h1
 subst h2;have:=h3 0 _ rfl
 simp_all[Ty.cells]
theorem kwZ{A}{l:List UInt8}{c}(hA:l.length≠0->∃b off,A=some ⟨b,off,none⟩/\b<z.w.heap.size/\eR z.w z.M z.ρ b off .byte l):
 (Conv.bytesToString (.slice A l.length c)).run P z.w= .ok (.string ⟨⟨l⟩⟩) z.w:=by
 cases A with
 |none=>
  have:l=[]:=by
   rcases ZBq l.length with h|h
   ·simp_all
   ·simp_all
  subst this
  rfl
 |some a=>
  have hl:(loadCells a l.length).run P z.w= .ok ((l.map fun c=>(c.toNat:Int)).map (Value.int .u8)).toArray z.w:=by
   have:=run_loadCells_list (P:=P) z.w a (l.map fun c=>Value.int .u8 (c.toNat:Int)) (fun j v hj=>by
    have hj':=by
     have:=(ZAB.1 hj).1;simpa using this
    let⟨b,off,h1,_,h3⟩:=hA (by omega)
    cases h1;rw[Addr.add_mid];exact h3.bytes j v hj)
   simpa[Function.comp_def] using this
  rw[run_bytesToString z.w a l.length c _ hl];congr 2;apply ByteArray.ext;apply ZB4
  simp_all[ojZ]
theorem uDZ{e}(h:isB P e=true):P.underlying e=some (.int .u8):=by
 grind[isB]
theorem fmZ{src dst}{a}{K}{r:β}{v}(h:iN P src dst a H K=some r)(hH:aH z H)(ha:aF z a v):OkP P (convert src dst v) z K r:=by
 unfold iN at h;split at h
 ·rename_i ks k hs hd
  let⟨n,h1,h2⟩:=agZ.1 h
  obtain rfl:=ekZ h1 ha;exact .mk' (by simp[convert,run_underlying hs,run_underlying hd,Conv.intToInt]) (.mkI _ _) h2
 ·rename_i hs hd
  let⟨l,h1,h2⟩:=agZ.1 h
  obtain rfl:=eoZ h1 ha;exact .mk' (by simp[convert,run_underlying hs,run_underlying hd]) (.mkS _) h2
 ·rename_i e hs hd;cases hb:isB P e<;>rw[hb] at h<;>simp only[bq_true,bq_false] at h
  ·cases h
  ·let⟨m,h1,h2⟩:=g1Z h hH ha
   rcases h1 with⟨hh,rfl⟩|⟨A,c,rfl,q1,q2,q3⟩
   ·have:Ty.toL hh m=m:=rfl;rw[this];exact .mk' (by simp[convert,run_underlying hs,run_underlying hd]) (.mkS _) h2
   ·refine .mk' ?_ (.mkS _) h2;have:=kwZ (P:=P) (c:=c) q3;cases A<;>simp[convert,run_underlying hs,run_underlying hd,run_underlying (uDZ hb),this]
 ·cases h
 grind
theorem sRZ{op}{k k'}{x y}{t}{K}{r:β}(h:zC op k x y K=some r)(hk:JR op k k'=true):
 OkP P (binOp op t (.int k x) (.int k' y)) z K r:=by
 cases op<;>simp[zC] at h<;>simp[JR] at hk
 case quo=>
  let⟨h1,h2⟩:=adZ.1 h
  simp[ZBG] at h1;subst hk;exact .mk' (by simp[binOp,Op.intDiv,h1]) (.mkI _ _) h2
 case rem=>
  let⟨h1,h2⟩:=adZ.1 h
  simp[ZBG] at h1;subst hk;exact .mk' (by simp[binOp,Op.intDiv,h1]) (.mkI _ _) h2
 case shl=>
  let⟨h1,h2⟩:=adZ.1 h
  simp at h1;exact .mk' (by simp[binOp,Op.shift,show¬y<0 from by omega]) (.mkI _ _) h2
 case shr=>
  let⟨h1,h2⟩:=adZ.1 h
  simp at h1;exact .mk' (by simp[binOp,Op.shift,show¬y<0 from by omega]) (.mkI _ _) h2
 case add=>subst hk;exact .mk' (by simp[binOp,Op.intArith]) (.mkI _ _) h
 case sub=>subst hk;exact .mk' (by simp[binOp,Op.intArith]) (.mkI _ _) h
 case mul=>subst hk;exact .mk' (by simp[binOp,Op.intArith]) (.mkI _ _) h
 case and=>subst hk;exact .mk' (by simp[binOp,Op.intBits,wY]) (.mkI _ _) h
 case or=>subst hk;exact .mk' (by simp[binOp,Op.intBits,wY]) (.mkI _ _) h
 case xor=>subst hk;exact .mk' (by simp[binOp,Op.intBits,wY]) (.mkI _ _) h
 case andNot=>subst hk;exact .mk' (by simp[binOp,Op.intBits,wY]) (.mkI _ _) h
 case eql=>subst hk;exact .mk' (by simp[binOp,Op.intCmp]) (.mkB _) h
 case neq=>subst hk;exact .mk' (by simp[binOp,Op.intCmp,bne]) (.mkB _) h
 case lss=>subst hk;exact .mk' (by simp[binOp,Op.intCmp]) (.mkB _) h
 case leq=>subst hk;exact .mk' (by simp[binOp,Op.intCmp]) (.mkB _) h
 case gtr=>subst hk;exact .mk' (by simp[binOp,Op.intCmp]) (.mkB _) h
 case geq=>subst hk;exact .mk' (by simp[binOp,Op.intCmp]) (.mkB _) h
theorem cuZ(l):(⟨⟨l⟩⟩:ByteArray).toList=l:=by simp_all
theorem krZ(l m):(⟨⟨l⟩⟩:ByteArray)++(⟨⟨m⟩⟩:ByteArray)=⟨⟨l++m⟩⟩:=by
 apply ByteArray.ext
 simp_all
theorem sLZ{op}{x y}{t}{K}{r:β}(h:zD op x y K=some r):OkP P (binOp op t (.string ⟨⟨x⟩⟩) (.string ⟨⟨y⟩⟩)) z K r:=by
 cases op<;>simp only[zD] at h<;>first|(cases h)|skip
 case add=>
  let⟨h1,h2⟩:=adZ.1 h
  rw[ZAm] at h1;refine .mk' ?_ (.mkS _) h2;have:¬(((⟨⟨x⟩⟩:ByteArray).size+(⟨⟨y⟩⟩:ByteArray).size:Nat):Int)>IntKind.i64.max:=by
   show¬((x.length+y.length:Nat):Int)>_;have:IntKind.i64.max=9223372036854775807:=by decide
   unfold bG at h1;omega
  simp[binOp,Op.stringOp]
  simp_all[krZ]
 all_goals exact .mk' (by simp only[binOp,Op.stringOp,cuZ];rfl) (.mkB _) h
theorem uHZ{f}{d}(w){M}{ρ}
 (hf:∀t u,f t u=true->∀(x y) (vx vy),bK w M ρ u x vx->bK w M ρ u y vy->(Op.equalIn d t vx vy).run P w= .ok (u.eqb x y) w)
 (hagg:∀t u,f t u=true->0<u.cells/\(u.isAgg=true->fG P t=true)/\(u.isAgg=false->eP P t=true)):
 ∀(fs) (o) (u),qO P f fs o u=true->∀(x y) (xs ys),Cl w M ρ u x ((xs.toList.drop o).take u.cells)->Cl w M ρ u y ((ys.toList.drop o).take u.cells)->
  (Op.eqFields d xs ys fs).run P w= .ok (u.eqb x y) w:=by
 have part1:∀(x:Field) (o) (u),(x.name != "_" &&Nat.beq x.offset o&&Nat.beq (P.cellsOf x.type) u.cells&&f x.type u)=true->∀(a) (xs),Cl w M ρ u a ((xs.toList.drop o).take u.cells)->
  x.name≠ "_" /\∃v,(part x.type xs x.offset).run P w= .ok v w/\bK w M ρ u a v:=by
  intro x o u h a xs hc;simp only[ZAF,bne_iff_ne,ne_eq,afZ] at h;obtain⟨⟨⟨h1,rfl⟩,h3⟩,h4⟩:=h;obtain⟨g1,g2,g3⟩:=hagg _ _ h4;refine⟨h1,?_⟩;have hl:=hc.len;cases hg:u.isAgg
  ·have hcells:u.cells=1:=by cases u<;>first|rfl|simp_all[Ty.isAgg]
   match hvs:(xs.toList.drop x.offset).take u.cells,hl with
   |[],hl=>simp_all
   |_::_::_,hl=>simp_all
   |[v],_=>
    rw[hvs] at hc;have hv:xs[x.offset]? =some v:=by
     have:((xs.toList.drop x.offset).take u.cells)[0]? =some v:=by rw[hvs];rfl
     rw[hcells] at this;simpa using this
    exact⟨v,bhZ w (g3 hg) hv,.mkSc hc hg⟩
  ·refine⟨_,bwZ w (g2 hg) h3 (by omega),⟨_,hc,?_⟩⟩;rw[hg];simp only[ZAK];congr 1
   grind
 intro fs;induction fs with
 |nil=>simp_all[qO]
 |cons x fs ih=>
  intro o u h a b xs ys ha hb
  match fs,u,h with
  |[],u,h=>
   have h':(x.name != "_" &&Nat.beq x.offset o&&Nat.beq (P.cellsOf x.type) u.cells&&f x.type u)=true:=by
    cases u<;>simpa only[qO] using h
   obtain⟨h1,v1,q1,q2⟩:=part1 x o u h' a xs ha;obtain⟨_,v2,p1,p2⟩:=part1 x o u h' b ys hb;have hfx:f x.type u=true:=by
    simp only[ZAF] at h';exact h'.2
   have:=hf _ _ hfx a b v1 v2 q2 p2;simp only[Op.eqFields,h1,ne_eq,not_false_eq_true,ZCt,Sem.run_bind,q1,p1,this,Result.andThen_ok];cases u.eqb a b<;>simp
  |y::fs,.pair s t,h=>
   simp only[qO] at h;have h':(x.name != "_" &&Nat.beq x.offset o&&Nat.beq (P.cellsOf x.type) s.cells&&f x.type s)=true/\qO P f (y::fs) (o+s.cells) t=true:=by
    simp only[ZAF] at h⊢;exact h
   obtain⟨h',h''⟩:=h';obtain⟨u1,u2,e1,c1,c2⟩:=ha;obtain⟨w1,w2,e2,d1,d2⟩:=hb;have cut:∀(l v1 v2:List Value),(l.drop o).take (Ty.pair s t).cells=v1++v2->v1.length=s.cells->v2.length=t.cells->(l.drop o).take s.cells=v1/\(l.drop (o+s.cells)).take t.cells=v2:=by
    intro l v1 v2 e l1 l2;simp only[Ty.cells] at e;constructor
    ·rw[show(l.drop o).take s.cells=((l.drop o).take (s.cells+t.cells)).take s.cells from by rw[ZCv,ZBC (by omega)],e,ZBJ (by omega),ZA0 (by omega)]
    ·rw[show(l.drop (o+s.cells)).take t.cells=((l.drop o).take (s.cells+t.cells)).drop s.cells from by rw[List.drop_take,List.drop_drop,ZA9],e,ZB2 (by omega),ZBH (by omega),ZBh]
   obtain⟨ea1,ea2⟩:=cut _ _ _ e1 c1.len c2.len;obtain⟨eb1,eb2⟩:=cut _ _ _ e2 d1.len d2.len;obtain⟨h1,v1,q1,q2⟩:=part1 x o s h' a.1 xs (by rw[ea1];exact c1);obtain⟨_,v2,p1,p2⟩:=part1 x o s h' b.1 ys (by rw[eb1];exact d1);have hfx:f x.type s=true:=by
    simp only[ZAF] at h';exact h'.2
   have:=hf _ _ hfx a.1 b.1 v1 v2 q2 p2;have hr:=ih (o+s.cells) t h'' a.2 b.2 xs ys (by rw[ea2];exact c2) (by rw[eb2];exact d2);rw[Op.eqFields];simp only[h1,ne_eq,not_false_eq_true,ZCt,Sem.run_bind,q1,p1,this,Result.andThen_ok];simp only[Ty.eqb];cases s.eqb a.1 b.1
   ·simp
   simp_all
  |_::_,.one _,h|_::_,.int _,h|_::_,.byte,h|_::_,.bool,h|_::_,.str,h|_::_,.opq,h|_::_,.nat,h|_::_,.ptr _,h|_::_,.sl _,h|_::_,.ref _ _,h|_::_,.arr _ _,h=>grind[qO]
end
section
variable {P : Program} {β : Type} {z : Z} {H : Hp}
theorem etZ{t}{u}(h:mW P t u=true):0<u.cells/\(u.isAgg=true->fG P t=true)/\(u.isAgg=false->eP P t=true):=by
 unfold mW at h;simp[ZAj] at h
 let⟨h1,h2⟩:=h
 refine⟨?_,fun h=>by rw[h] at h2;exact h2,fun h=>by rw[h] at h2;exact h2⟩;rcases ZBq u.cells with h|h<;>simp_all
theorem eRZ{w}{M}{ρ}{u}{x}{cs}(h:Cl w M ρ u x cs):Cl w M ρ u x ((cs.drop 0).take u.cells):=by
 rw[ZCK,ZA0 (by rw[h.len];omega)];exact h
theorem eGZ{α:Type}{l:List α}{i}{x}(h:l[i]? =some x):l.drop i=x::l.drop (i+1):=by
 grind[ZAB,ZBV]
theorem mIZ(w){M}{ρ}:∀(n) (t) (u),eqT P n t u=true->∀(d),n<=d->∀(x y) (vx vy),bK w M ρ u x vx->bK w M ρ u y vy->
 (Op.equalIn d t vx vy).run P w= .ok (u.eqb x y) w
 |0,_,_,h,_,_,_,_,_,_,_,_=>by simp[eqT] at h
 |n+1,t,u,h,d,hd,x,y,vx,vy,hx,hy=>by
  obtain⟨d,rfl⟩:∃d',d=d'+1:=⟨d-1,by omega⟩;have hd':n<=d:=by omega
  have struct:∀(fs) (v) (x y) (cx cy),P.underlying t=some (.struct fs)->(!P.stoodInHeld t&&qO P (fun t u=>mW P t u&&eqT P n t u) fs.toList 0 v)=true->Cl w M ρ v x cx->Cl w M ρ v y cy->
   (Op.equalIn (d+1) t (.agg cx.toArray) (.agg cy.toArray)).run P w= .ok (v.eqb x y) w:=by
   intro fs v x y cx cy hu hc h1 h2;simp[ZAj] at hc;have hfs:P.fieldsOf t=fs:=by simp[Program.fieldsOf,hu]
   rw[run_equalIn_struct w d t _ _ (by rw[hfs];exact hu) hc.1,hfs];refine uHZ w (M:=M) (ρ:=ρ) (fun t u hf x y vx vy hx hy=> ?_) (fun t u hf=> ?_) _ 0 v hc.2 x y _ _ ?_ ?_
   ·simp at hf;exact mIZ w n t u hf.2 d hd' x y vx vy hx hy
   ·simp at hf;exact etZ hf.1
   ·exact eRZ h1
   ·exact eRZ h2
  simp[eqT] at h;split at h
  ·rename_i k k' hu;simp at h;obtain rfl:=hx.int;obtain rfl:=hy.int;exact run_equalIn_int w d t k' k x y hu
  ·rename_i k hu;simp at h;have e1:=hx.scal rfl rfl;have e2:=hy.scal rfl rfl;simp[Cl,ZBp] at e1 e2;subst e1;subst e2;rw[run_equalIn_int w d t .u8 k _ _ hu];congr 1;show(((x:UInt8).toNat:Int)==((y:UInt8).toNat:Int))=((x:UInt8)==y);rw[Bool.eq_iff_iff];simp[ZBz];constructor
   ·intro h;exact UInt8.toNat_inj.1 (by omega)
   ·intro h;rw[h]
  ·rename_i hu;obtain rfl:=hx.bool;obtain rfl:=hy.bool;exact run_equalIn_bool w d t x y hu
  ·rename_i hu;obtain rfl:=hx.str;obtain rfl:=hy.str;rw[run_equalIn_string w d t _ _ hu,cuZ,cuZ]
   rfl
  ·rename_i fs v hu;obtain⟨cx,h1,rfl⟩:=hx;obtain⟨cy,h2,rfl⟩:=hy;exact struct fs v x y cx cy hu h h1 h2
  ·rename_i fs a b hu;obtain⟨cx,h1,rfl⟩:=hx;obtain⟨cy,h2,rfl⟩:=hy;exact struct fs (.pair a b) x y cx cy hu h h1 h2
  ·rename_i m e m' v hu;simp only[ZAF,afZ] at h;obtain⟨⟨⟨rfl,hc⟩,hf⟩,he⟩:=h;obtain⟨cx,h1,rfl⟩:=hx;obtain⟨cy,h2,rfl⟩:=hy
   let⟨f1,f2,f3⟩:=etZ hf
   have hi:=b6Z hc (by omega);cases hq:P.info? e with
   |none=>simp[hq] at hi
   |some i=>
    rw[show(bif (Ty.arr m v).isAgg then Value.agg cx.toArray else cx.headD undef)= .agg cx.toArray from rfl,show(bif (Ty.arr m v).isAgg then Value.agg cy.toArray else cy.headD undef)= .agg cy.toArray from rfl,
     run_equalIn_array w d _ _ hu hq,hc]
    have hlx:=h1.1;have hly:=h2.1;have pt:∀(cs) (l) (q) (a),Cl w M ρ (.arr m v) l cs->l[q]? =some a->∃va,(part e cs.toArray (q*v.cells)).run P w= .ok va w/\bK w M ρ v a va:=by
     intro cs l q a hcs ha;have hc':=Cl.nth hcs ha;have hl:=hc'.len;cases hagg:v.isAgg
     ·have hcells:v.cells=1:=by cases v<;>first|rfl|(simp[Ty.isAgg] at hagg;done)
      match hvs:(cs.drop (q*v.cells)).take v.cells,hl with
      |[],hl=>rw[hcells] at hl;simp at hl
      |_::_::_,hl=>rw[hcells] at hl;simp at hl
      |[u],_=>
       rw[hvs] at hc';have hv:cs.toArray[q*v.cells]? =some u:=by
        have:((cs.drop (q*v.cells)).take v.cells)[0]? =some u:=by rw[hvs];rfl
        rw[ZBo (by omega),ZA4] at this;simpa using this
       exact⟨u,bhZ w (f3 hagg) hv,.mkSc hc' hagg⟩
     ·refine⟨_,bwZ w (f2 hagg) hc (by omega),⟨_,hc',?_⟩⟩;rw[hagg];simp only[ZAK];congr 1;apply ZB4;rw[ZCQ,ZCL,ZA9]
    have key:∀(k i),i+k=m->(Op.eqItems d e v.cells cx.toArray cy.toArray (List.range' i k)).run P w= .ok (jX v.eqb (List.drop i x) (List.drop i y)) w:=by
     intro k;induction k with
     |zero=>
      intro i hi;rw[ZBH (by omega),ZBH (by omega)];simp[Op.eqItems,jX]
     |succ k ih=>
      intro i hi;have hxi:((x))[i]? =some (((x))[i]'(by rw[hlx];omega)):=ZAC _;have hyi:((y))[i]? =some (((y))[i]'(by rw[hly];omega)):=ZAC _;generalize ((x))[i]'(by rw[hlx];omega)=xi at hxi;generalize ((y))[i]'(by rw[hly];omega)=yi at hyi
      let⟨va,q1,q2⟩:=pt cx x i xi h1 hxi
      let⟨vb,p1,p2⟩:=pt cy y i yi h2 hyi
      have heq:=mIZ w n e v he d hd' xi yi va vb q2 p2;rw[eGZ hxi,eGZ hyi,List.range'_succ];simp only[Op.eqItems,Sem.run_bind,q1,p1,heq,Result.andThen_ok,jX];cases v.eqb xi yi
      ·simp
      ·simp only[ZAQ,ZA7,ZCR,ZBT];exact ih (i+1) (by omega)
    have:=key m 0 (by omega);rw[<-List.range_eq_range'] at this;exact this
  grind
theorem jtZ{op}{t}{x y}{a b}(w)(h1:a≠.nilIface)(h2:(∃xs,a= .agg xs)->P.eqGuardType P.depth t=false):
 (eqGuard op t x y a b).run P w= .ok () w:=by
 cases a with
 |nilIface=>simp_all
 |agg xs=>
  cases b with
  |agg ys=>exact run_eqGuard_agg w op t x y xs ys (h2 ⟨xs,rfl⟩)
  |_=>cases op<;>rfl
 |_=>cases op<;>rfl
theorem iPZ{a}{K}{r:β}{v}(h:AA H a K=some r)(hH:aH z H)(ha:aF z a v):∃A n c,v= .slice A n c/\n<=c/\c<=maxLen/\(A=none->n=0)/\K n=some r:=by
 unfold AA at h;split at h
 ·cases ha with
  |slV _ _ _ A hρ=>exact⟨A,0,0,rfl,ZAL _,by omega,fun _=>rfl,h⟩
  |slE=>exact⟨_,0,0,rfl,ZAL _,by omega,fun _=>rfl,h⟩
  |sl _ _ _ _ g sz m c hρ hn hs hm=>exact⟨_,_,c,rfl,hn,hm,(fun h=>by cases h),h⟩
 ·split at h
  ·rename_i n hvl;obtain⟨_,g,sz,c,hρ,rfl,h1,h2⟩:=hzZ hvl hH ha;exact⟨_,_,c,rfl,h1,h2,(fun h=>by cases h),h⟩
  let⟨fz,e,u,l,hg,he,h3⟩:=dPZ h
  obtain⟨A,c,rfl,hc,hA,_,hm⟩:=iRZ hH hg ha;refine⟨A,_,c,rfl,hc,hm,fun h0=> ?_,h3⟩;rcases ZBq l.length with h|h
  ·exact h
  ·let⟨g,sz,n,_,h1,_⟩:=hA (by omega)
   rw[h0] at h1;cases h1
 ·rename_i u l;obtain⟨A,c,rfl,hc,hm,hn,hA⟩:=bK.sl ha.v;exact⟨A,_,c,rfl,hc,hm,fun h0=>by have:=hn h0;omega,h⟩
 ·obtain⟨rfl,_⟩:=ha.v.opq;exact⟨none,0,0,rfl,ZAL _,by unfold maxLen;omega,fun _=>rfl,h⟩
 ·rename_i f u x;have hc:=ha.v.scal rfl rfl
  match x,h,hc with
  |.inl l,h,hc=>
   let⟨A,c,h1,h2,h3,h4,_⟩:=hc
   simp[ZBp] at h1;subst h1;exact⟨A,_,c,rfl,h2,h3,fun h0=>by have:=h4 h0;omega,h⟩
  |.inr none,h,hc=>
   have hc:[v]=[Value.slice none 0 0]:=hc;simp[ZBp] at hc;subst hc;exact⟨none,0,0,rfl,ZAL _,by unfold maxLen;omega,fun _=>rfl,h⟩
  |.inr (some (k,off,n)),h,hc=>
   rcases hc with⟨A,_,rfl,h1⟩|⟨g,sz,m,c,_,h2,_,h3,h1⟩
   ·simp[ZBp] at h1;subst h1;exact⟨A,0,0,rfl,ZAL _,by unfold maxLen;omega,fun _=>rfl,h⟩
   ·simp[ZBp] at h1;subst h1;exact⟨_,n,c,rfl,h2,h3,(fun h=>by cases h),h⟩
 grind
theorem p8Z{a b}{q}{va vb}(h:EW a b=some q)(ha:aF z a va)(hb:aF z b vb):
 ∃p p',va= .pointer p/\vb= .pointer p'/\(p=none\/p'=none)/\q=(p.isNone&&p'.isNone):=by
 unfold EW at h;split at h<;>first|(done)|skip
 all_goals simp at h
 all_goals subst h
 ·obtain⟨rfl,_⟩:=ha.v.opq;obtain⟨rfl,_⟩:=hb.v.opq<;>grind
 ·obtain⟨rfl,_⟩:=hb.v.opq;cases ha<;>grind
 ·obtain⟨rfl,_⟩:=ha.v.opq;cases hb<;>grind
 ·obtain⟨rfl,_⟩:=hb.v.opq;cases ha<;>grind
 ·obtain⟨rfl,_⟩:=ha.v.opq;cases hb<;>grind
 ·rename_i t l;obtain⟨rfl,_⟩:=hb.v.opq;rcases ha.v.scal rfl rfl with⟨h1,h2⟩|⟨h1,b,off,h2,_⟩
  ·obtain rfl:=List.cons.inj h2|>.1;refine⟨none,none,rfl,rfl,.inl rfl,?_⟩;rw[ZCT.1 h1];rfl
  ·obtain rfl:=List.cons.inj h2|>.1;refine⟨_,none,rfl,rfl,.inr rfl,?_⟩;revert h1;cases((l)) with
   |nil=>simp_all
   |cons x r=>intro _;rfl
theorem rnZ{a b}{q}{va vb}(h:EY a b=some q)(ha:aF z a va)(hb:aF z b vb):
 ∃p p',va= .map p/\vb= .map p'/\(p=none\/p'=none)/\q=(p.isNone&&p'.isNone):=by
 unfold EY at h;split at h<;>first|(done)|skip
 all_goals simp at h
 ·obtain⟨rfl,_⟩:=hb.v.opq;cases ha<;>grind
 ·obtain⟨rfl,_⟩:=ha.v.opq;cases hb<;>grind
 ·obtain⟨rfl,_⟩:=ha.v.opq;obtain⟨rfl,_⟩:=hb.v.opq<;>grind
theorem reZ{a b}{q}{va vb}(h:EZ a b=some q)(ha:aF z a va)(hb:aF z b vb):
 (va= .nilFunc/\vb= .nilFunc/\q=true)\/(∃f x y,va= .func f x y/\vb= .nilFunc/\q=false)\/(∃f x y,va= .nilFunc/\vb= .func f x y/\q=false):=by
 unfold EZ at h;split at h<;>first|(cases h;done)|skip
 all_goals simp at h
 all_goals subst h
 ·obtain⟨rfl,_⟩:=ha.v.opq;obtain⟨rfl,_⟩:=hb.v.opq<;>grind
 ·obtain⟨rfl,_⟩:=hb.v.opq;cases ha<;>grind
 ·obtain⟨rfl,_⟩:=ha.v.opq;cases hb<;>grind
theorem r6Z{n}{K}{r:β}{A:Option Addr}(h:qP n K=some r)(hA:A=none->n=0):K A.isNone=some r:=by
 unfold qP at h;split at h
 ·rename_i hq;cases A with
  |none=>rw[<-hq (hA rfl)] at h;exact h
  |some a=>exact h
 grind
def OA(P:Program)(t:TypeId)(va vb:Value):Prop:=
 va≠.nilIface/\((∃xs,va= .agg xs)->P.eqGuardType P.depth t=false)/\binOp .eql t va vb=(do pure (.bool (<-Op.equal t va vb)))/\binOp .neq t va vb=(do pure (.bool (!(<-Op.equal t va vb))))
theorem dDZ{t}{x y}{w}{q}(h:∀d,(Op.equalIn (d+1) t x y).run P w= .ok q w):(Op.equal t x y).run P w= .ok q w:=h 9999
theorem rcZ{t}{a b}{K}{r:β}{va vb}(h:FA P t a b H K=some r)(hH:aH z H)(ha:aF z a va)(hb:aF z b vb)
 (hni:∀k,P.underlying t≠some (.int k))(hns:P.underlying t≠some .string):
 ∃q,(Op.equal t va vb).run P z.w= .ok q z.w/\K q=some r/\OA P t va vb:=by
 unfold FA at h;split at h
 ·rename_i e hu;obtain⟨q,h1,h2⟩:=agZ.1 h;obtain⟨p,p',rfl,rfl,hn,rfl⟩:=p8Z h1 ha hb;refine⟨_,dDZ fun d=> ?_,h2,by simp,by simp,rfl,rfl⟩;rcases hn with rfl|rfl
  ·cases p'<;>simp[Op.equalIn,Sem.run_bind,run_underlying hu]
  ·cases p<;>simp[Op.equalIn,Sem.run_bind,run_underlying hu]
 ·rename_i k e hu;obtain⟨q,h1,h2⟩:=agZ.1 h;obtain⟨p,p',rfl,rfl,hn,rfl⟩:=rnZ h1 ha hb;refine⟨_,dDZ fun d=> ?_,h2,by simp,by simp,rfl,rfl⟩;rcases hn with rfl|rfl
  ·cases p'<;>simp[Op.equalIn,Sem.run_bind,run_underlying hu]
  ·cases p<;>simp[Op.equalIn,Sem.run_bind,run_underlying hu]
 ·rename_i p1 p2 p3 hu;obtain⟨q,h1,h2⟩:=agZ.1 h;rcases reZ h1 ha hb with⟨rfl,rfl,rfl⟩|⟨f,x,y,rfl,rfl,rfl⟩|⟨f,x,y,rfl,rfl,rfl⟩
  all_goals exact⟨_,dDZ fun d=>by simp[Op.equalIn,Sem.run_bind,run_underlying hu],h2,by simp,by simp,rfl,rfl⟩
 ·rename_i e hu;split at h
  ·obtain⟨rfl,_⟩:=ha.v.opq;obtain⟨rfl,_⟩:=hb.v.opq;exact⟨_,dDZ fun d=>by simp[Op.equalIn,Sem.run_bind,run_underlying hu],h,by simp,by simp,rfl,rfl⟩
  ·obtain⟨rfl,_⟩:=hb.v.opq;obtain⟨A,n,c,rfl,_,_,hA,h2⟩:=iPZ h hH ha;exact⟨_,dDZ fun d=>run_equalIn_slice_nil z.w d t e A n c hu,r6Z h2 hA,by simp,by simp,rfl,rfl⟩
  ·obtain⟨rfl,_⟩:=ha.v.opq;obtain⟨A,n,c,rfl,_,_,hA,h2⟩:=iPZ h hH hb;exact⟨_,dDZ fun d=>by simp[Op.equalIn,Sem.run_bind,run_underlying hu],r6Z h2 hA,by simp,by simp,rfl,rfl⟩
  grind
 ·obtain⟨u,h1,h2⟩:=agZ.1 h;obtain⟨h3,h4⟩:=adZ.1 h2;simp only[ZAF,ZAj] at h3;obtain⟨x,h5,h6⟩:=bTZ h4 ha;obtain⟨y,h7,h8⟩:=bTZ h6 hb;have hq:(Op.equal t va vb).run P z.w= .ok (u.eqb x y) z.w:=mIZ z.w bW t u h3.1 10000 (by simp_all[bW]) x y va vb h5 h7;have form:(∃xs ys,va= .agg xs/\vb= .agg ys)\/(∃p q,va= .bool p/\vb= .bool q):=by
   have he:=h3.1;unfold bW at he;simp only[eqT] at he;split at he
   ·simp_all
   ·simp_all
   ·exact .inr ⟨x,y,h5.bool,h7.bool⟩
   ·simp_all
   ·obtain⟨c1,_,rfl⟩:=h5;obtain⟨c2,_,rfl⟩:=h7;exact .inl ⟨_,_,rfl,rfl⟩
   ·obtain⟨c1,_,rfl⟩:=h5;obtain⟨c2,_,rfl⟩:=h7;exact .inl ⟨_,_,rfl,rfl⟩
   ·obtain⟨c1,_,rfl⟩:=h5;obtain⟨c2,_,rfl⟩:=h7;exact .inl ⟨_,_,rfl,rfl⟩
   ·grind
  refine⟨_,hq,h8,?_⟩;rcases form with⟨xs,ys,rfl,rfl⟩|⟨p,q,rfl,rfl⟩
  ·exact⟨by simp,fun _=>h3.2,rfl,rfl⟩
  ·exact⟨by simp,by simp,rfl,rfl⟩
theorem rYZ{op}{t u}{a b}{K}{r:β}{va vb}(x y)(h:zF P op t u a b H K=some r)(hH:aH z H)(ha:aF z a va)(hb:aF z b vb):
 OkP P (do eqGuard op t x y va vb;binOp op t va vb) z K r:=by
 have triv:∀{s},va≠.nilIface->((∃xs,va= .agg xs)->P.eqGuardType P.depth t=false)->OkP P s z K r->OkP P (do eqGuard op t x y va vb;s) z K r:=fun{s} h1 h2 ⟨q,v,e1,e2,e3⟩=>
  ⟨q,v,by simp_all[jtZ],e2,e3⟩
 unfold zF at h;split at h
 ·split at h
  ·let⟨m,h1,h2⟩:=agZ.1 h
   let⟨n,h3,h4⟩:=agZ.1 h2
   let⟨h5,h6⟩:=adZ.1 h4
   obtain rfl:=ekZ h1 ha;obtain rfl:=ekZ h3 hb;exact triv (by simp) (by simp) (sRZ h6 h5)
  grind
 ·let⟨m,h1,h2⟩:=agZ.1 h
  let⟨n,h3,h4⟩:=agZ.1 h2
  obtain rfl:=eoZ h1 ha;obtain rfl:=eoZ h3 hb;exact triv (by simp) (by simp) (sLZ h4)
 ·rename_i hni hns;split at h
  ·let⟨q,h1,h2,h3,h4,h5,h6⟩:=rcZ h hH ha hb (fun k e=>hni k e) (fun e=>hns e)
   refine triv h3 h4 ⟨_,_,?_,.mkB q,h2⟩;rw[h5];simp[h1]
  ·let⟨q,h1,h2,h3,h4,h5,h6⟩:=rcZ h hH ha hb (fun k e=>hni k e) (fun e=>hns e)
   refine triv h3 h4 ⟨_,_,?_,.mkB (!q),h2⟩;rw[h6];simp[h1]
  ·cases h
theorem tJZ{op}{t}{a}{K}{r:β}{va}(h:IF P op t a K=some r)(ha:aF z a va):OkP P (Op.unary op va) z K r:=by
 unfold IF at h;split at h
 ·let⟨x,h1,h2⟩:=agZ.1 h
  obtain rfl:=bYZ h1 ha;exact .mk' (by simp[Op.unary]) (.mkB _) h2
 ·let⟨x,h1,h2⟩:=agZ.1 h
  obtain rfl:=ekZ h1 ha;exact .mk' (by simp[Op.unary,Op.intArith]) (.mkI _ _) h2
 ·let⟨x,h1,h2⟩:=agZ.1 h
  obtain rfl:=ekZ h1 ha;exact .mk' (by simp[Op.unary,Op.intBits,wY]) (.mkI _ _) h2
 grind
theorem rjZ{t}{c a b}{K}{r:β}{vc va vb}(h:wZ P t c a b K=some r)(hc:aF z c vc)(ha:aF z a va)(hb:aF z b vb):
 OkP P (do pure (if<-asBool vc then va else vb)) z K r:=by
 let⟨q,h1,h2⟩:=agZ.1 h
 obtain rfl:=bYZ h1 hc;have run:(do pure (if<-asBool (.bool q) then va else vb):Sem Value).run P z.w= .ok (if q then va else vb) z.w:=by simp[asBool]
 split at h2
 ·split at h2
  ·rename_i x y hx hy;obtain rfl:=bYZ hx ha;obtain rfl:=bYZ hy hb;refine .mk' run ?_ h2;cases q
   ·exact .mkB _
   ·exact .mkB _
  ·rename_i x hx hx2;obtain rfl:=bYZ hx ha
   let⟨h3,h4⟩:=adZ.1 h2
   subst h3;exact .mk' run (.mkB _) h4
  ·rename_i y hx hy;obtain rfl:=bYZ hy hb
   let⟨h3,h4⟩:=adZ.1 h2
   simp at h3;subst h3;exact .mk' run (.mkB _) h4
  simp_all
 ·cases q
  ·exact .mk' run hb h2
  ·exact .mk' run ha h2
end
section
variable {P : Program} {β : Type} {z : Z} {H : Hp}
theorem t9Z(v)(h:v.oneCell'=true\/∃cs,v= .tuple cs):aF z (AV.lit v) v:=by
 unfold AV.lit;split
 ·exact .mkI _ _
 ·exact .mkB _
 ·rename_i s;exact .mkS _
 ·exact .junk _
 ·exact .junk _
 ·refine .p _ _ _ (.mkSc ⟨rfl,?_⟩ rfl)
  simp_all
theorem tOZ(l)(h:∀v∈l,v.oneCell'=true):aR z (l.map AV.lit) l:=by
 refine⟨by simp,fun i a v h1 h2=> ?_⟩
 grind[ZAY,t9Z,ZAG]
theorem gyZ{t}{l}(h:zW P t=some l):∃i v,P.info? t=some i/\i.zero=some v/\aR z l v.cells.toList/\∀u∈v.cells,u.oneCell'=true:=by
 let⟨i,h1,h2⟩:=agZ.1 h
 let⟨v,h3,h4⟩:=agZ.1 h2
 grind[bq_true,bq_false,ZAO,ZCW,tOZ]
theorem iLZ{t}{i}{v}(h1:P.info? t=some i)(h3:i.zero=some v)(w):(zeroValue t).run P w= .ok v w:=by
 simp[zeroValue,typeInfo,h1,h3]
theorem aR.setFrom{c l}{vs us}(h:aR z c vs)(h':aR z l us)(j)(hj:j+l.length<=c.length):aR z (setFrom c j l) (setFrom vs j us):=by
 refine⟨by rw[cZZ,cZZ];exact h.1,fun i a v h1 h2=> ?_⟩;rw[daZ _ _ _ _ hj] at h1;rw[daZ _ _ _ _ (by rw[<-h'.1,<-h.1];omega),<-h'.1] at h2;split at h1
 ·rename_i hc;rw[ZAN hc] at h2;exact h'.2 _ a v h1 h2
 ·rename_i hc;rw[ZAM hc] at h2;exact h.2 _ a v h1 h2
theorem rkZ(cs):∀(a) (off k),((cs.zipIdx k).foldl (fun(cs:Array Value) x=>cs.setIfInBounds (off+x.2) x.1) a).toList=Go.Ab.setFrom a.toList (off+k) cs:=by
 induction cs<;>simp_all[Go.Ab.setFrom,ZCC]
theorem fDZ{pl}:∀{parts} {vparts} {c c'} {cs},tE pl c parts=some c'->aR z c cs.toList->(∀u∈cs,u.oneCell'=true)->
 parts.length=vparts.length->(∀(i:Nat) x y,parts[i]? =some x->vparts[i]? =some y->x.1=y.1/\aF z x.2 y.2)->
 ∃cs',Instr.fill pl cs vparts=some cs'/\aR z c' cs'.toList/\∀u∈cs',u.oneCell'=true
 |[],[],c,c',cs,h,hc,h1,_,_=>by
  simp[tE] at h;subst h;exact⟨cs,rfl,hc,h1⟩
 |(i,a)::parts,(i',v)::vparts,c,c',cs,h,hc,h1,hl,hp=>by
  obtain⟨rfl,ha⟩:=hp 0 _ _ rfl rfl;simp[tE] at h
  let⟨⟨off,size⟩,h2,h3⟩:=agZ.1 h
  let⟨l,h4,h5⟩:=agZ.1 h3
  cases hb:(Nat.beq l.length size&&Nat.ble (off+l.length) c.length)<;>rw[hb] at h5<;>simp only[bq_false] at h5
  ·grind
  ·simp[afZ,ZAm] at hb
   let⟨hs,hfit⟩:=hb
   let⟨q1,q2,q3⟩:=cHZ h4 ha
   have hvs:=by have:=q1.1;simpa using this.symm
   have hcs:=by have:=hc.1;simpa using this.symm
   have aS:=hc.setFrom q1 off hfit;have hfold:(v.cells.zipIdx.foldl (fun cs x=>cs.setIfInBounds (off+x.2) x.1) cs).toList=setFrom cs.toList off v.cells.toList:=by
    rw[<-Array.foldl_toList,Array.toList_zipIdx];exact rkZ _ _ _ _
   obtain⟨cs',p1,p2,p3⟩:=fDZ h5 (by rw[hfold];exact aS) (fun u hu=>by
    have hu':u∈setFrom cs.toList off v.cells.toList:=by rw[<-hfold];simpa using hu
    let⟨k,hk⟩:=ZAP hu'
    rw[daZ _ _ _ _ (by simp;omega)] at hk;split at hk
    ·exact q2 u (by have:=ZAG hk;simpa using this)
    ·exact h1 u (by have:=ZAG hk;simpa using this)) (by simpa using hl) (fun i x y e1 e2=>hp (i+1) x y (by simpa using e1) (by simpa using e2))
   refine⟨cs',?_,p2,p3⟩;simp only[Instr.fill,h2];rw[ZAM (by simp only[ZBB,ZAt,bne_iff_ne,ne_eq,not_or];omega)];exact p1
 |[],_::_,_,_,_,_,_,_,hl,_=>by simp at hl
 |_::_,[],_,_,_,_,_,_,hl,_=>by simp at hl
def CW(z:Z)(parts:List (Nat×AV))(vparts:List (Nat×Value)):Prop:=
 parts.length=vparts.length/\∀(i:Nat) x y,parts[i]? =some x->vparts[i]? =some y->x.1=y.1/\aF z x.2 y.2
theorem opZ{t}{parts}{vparts}{K}{r:β}(h:tF P t parts K=some r)(hp:CW z parts vparts.toList):
 OkP P (Instr.build t vparts) z K r:=by
 let⟨l,h1,h2⟩:=agZ.1 h
 obtain⟨i,v0,q1,q2,q3,q4⟩:=gyZ h1;split at h2
 ·rename_i fs hu
  let⟨places,h3,h4⟩:=agZ.1 h2
  let⟨c,h5,h6⟩:=agZ.1 h4
  let⟨cs',p1,p2,p3⟩:=fDZ h5 q3 q4 hp.1 hp.2
  refine .mk' (run_build z.w t vparts cs' ?_) (.agg _ _ ?_ p3 fun i x v e1 e2=>p2.2 i x v e1 (by simpa using e2)) h6
  ·unfold Program.built;simp only[q1,hu,q2,h3];exact p1
  ·have:=p2.1;simpa using this.symm
 ·rename_i m e hu
  let⟨ie,h3,h4⟩:=agZ.1 h2
  let⟨c,h5,h6⟩:=agZ.1 h4
  let⟨cs',p1,p2,p3⟩:=fDZ h5 q3 q4 hp.1 hp.2
  refine .mk' (run_build z.w t vparts cs' ?_) (.agg _ _ ?_ p3 fun i x v e1 e2=>p2.2 i x v e1 (by simpa using e2)) h6
  ·unfold Program.built;simp[q1,hu,q2,h3];exact p1
  ·have:=p2.1;simpa using this.symm
 simp_all
theorem ubZ{t}{a}{K}{r:β}{v}(ty)(h:ID P t H a K=some r)(hH:aH z H)(ha:aF z a v):
 ∃n:Nat,(Builtin.len_ #[t] ty #[v]).run P z.w= .ok (.int .i64 (n:Int)) z.w/\K n=some r:=by
 unfold ID at h;split at h
 ·rename_i hu
  let⟨l,h1,h2⟩:=agZ.1 h
  obtain rfl:=eoZ h1 ha;exact⟨l.length,by simp[Builtin.len_,run_underlying hu];rfl,h2⟩
 ·rename_i e hu;obtain⟨A,n,c,rfl,_,_,_,h2⟩:=iPZ h hH ha;exact⟨n,by simp[Builtin.len_,run_underlying hu,goInt],h2⟩
 ·rename_i k e hu;unfold JO at h;split at h
  ·obtain⟨rfl,_⟩:=ha.v.opq;exact⟨0,by simp[Builtin.len_,run_underlying hu,goInt],h⟩
  ·rename_i id;split at h
   ·rename_i fz kt vt m hg;cases ha with|mp _ g sz n hρ=>
    let⟨_,_,_,es,a1,a2,_⟩:=hH.real hg hρ
    refine⟨m.1.length,?_,h⟩;simp[Builtin.len_,run_underlying hu,goInt,getObj,Sem.run,a1,a2]
   ·cases h
  ·cases h
 ·rename_i n e hu;exact⟨n,by simp[Builtin.len_,run_underlying hu,goInt],h⟩
 grind
theorem iUZ{k}:∀{l} {ns} {vs},VC k l=some ns->aR z l vs->vs=ns.map (Value.int k)
 |[],ns,vs,h,hr=>by
  simp[VC] at h;subst h;exact ZAX hr.1.symm
 |a::l,ns,vs,h,hr=>by
  let⟨n,h1,h2⟩:=agZ.1 h
  obtain⟨r,h3,rfl⟩:=ZAI.1 h2
  match vs,hr with
  |[],hr=>have:=hr.1;simp at this
  |v::vs,hr=>
   rw[ekZ h1 hr.head,iUZ h3 hr.tail]
   rfl
theorem giZ{k}(w):∀(l:List Int) (x),((l.map (Value.int k)).foldlM Builtin.min2 (.int k x)).run P w= .ok (.int k (NW l x)) w
 |[],x=>by simp[NW]
 |y::l,x=>by
  simp[Sem.run_bind];exact giZ w l _
theorem gNZ{k}(w):∀(l:List Int) (x),((l.map (Value.int k)).foldlM Builtin.max2 (.int k x)).run P w= .ok (.int k (NX l x)) w
 |[],x=>by simp[NX]
 |y::l,x=>by
  simp[Sem.run_bind];exact gNZ w l _
theorem uJZ{n}{K}{r:β}(h:SU n K=some r)(c)(h1:n<=c)(h2:c<=maxLen):K (c:Int)=some r:=by
 unfold SU at h;split at h
 ·rename_i hc;rw[<-h];exact hc.choose_spec c h1 (by unfold maxLen at h2;omega)
 grind
end
section
variable {P : Program} {β : Type} {z : Z} {H : Hp}
theorem e7Z{w}{M}{ρ}{u}{a}{t}{xs}{o}(hf:0<u.cells/\(u.isAgg=true->fG P t=true)/\(u.isAgg=false->eP P t=true))(hc':P.cellsOf t=u.cells)
 (hc:Cl w M ρ u a ((xs.toList.drop o).take u.cells))(w'):∃v,(part t xs o).run P w'= .ok v w'/\bK w M ρ u a v:=by
 let⟨g1,g2,g3⟩:=hf
 have hl:=hc.len;cases hg:u.isAgg
 ·have hcells:u.cells=1:=by cases u<;>first|rfl|simp_all[Ty.isAgg]
  match hvs:(xs.toList.drop o).take u.cells,hl with
  |[],hl=>simp_all
  |_::_::_,hl=>simp_all
  |[v],_=>
   rw[hvs] at hc;have hv:=by
    have:((xs.toList.drop o).take u.cells)[0]? =some v:=by rw[hvs];rfl
    rw[hcells] at this;simpa using this
   exact⟨v,bhZ w' (g3 hg) hv,.mkSc hc hg⟩
 ·refine⟨_,bwZ w' (g2 hg) hc' (by omega),⟨_,hc,?_⟩⟩;rw[hg];simp;congr 1
  grind
theorem rVZ{s t}{o}{l v1 v2:List Value}(e:(l.drop o).take (Ty.pair s t).cells=v1++v2)(l1:v1.length=s.cells)(l2:v2.length=t.cells):
 (l.drop o).take s.cells=v1/\(l.drop (o+s.cells)).take t.cells=v2:=by
 simp only[Ty.cells] at e;constructor
 ·rw[show(l.drop o).take s.cells=((l.drop o).take (s.cells+t.cells)).take s.cells from by grind,e,ZBJ (by omega),ZA0 (by omega)]
 ·rw[show(l.drop (o+s.cells)).take t.cells=((l.drop o).take (s.cells+t.cells)).drop s.cells from by rw[List.drop_take,List.drop_drop,ZA9],e,ZB2 (by omega),ZBH (by omega),ZBh]
theorem ukZ{f}{d}{em}(w){M}{ρ}
 (hf:∀t u,f t u=true->∀(x) (vx),bK w M ρ u x vx->(Instr.checkKey em d t vx).run P w= .ok () w)
 (hagg:∀t u,f t u=true->0<u.cells/\(u.isAgg=true->fG P t=true)/\(u.isAgg=false->eP P t=true)):
 ∀(fs) (o) (u),qO P f fs o u=true->∀(x) (xs),Cl w M ρ u x ((xs.toList.drop o).take u.cells)->
  (forIn (m:=Sem) fs PUnit.unit fun f _=>do
   if f.name≠ "_" then do
    Instr.checkKey em d f.type (<-part f.type xs f.offset)
    pure (ForInStep.yield PUnit.unit)
   else pure (ForInStep.yield PUnit.unit)).run P w= .ok PUnit.unit w:=by
 have one:∀(x:Field) (o) (u),(x.name != "_" &&Nat.beq x.offset o&&Nat.beq (P.cellsOf x.type) u.cells&&f x.type u)=true->∀(a) (xs),Cl w M ρ u a ((xs.toList.drop o).take u.cells)->
  x.name≠ "_" /\∃v,(part x.type xs x.offset).run P w= .ok v w/\(Instr.checkKey em d x.type v).run P w= .ok () w:=by
  intro x o u h a xs hc;simp only[ZAF,bne_iff_ne,ne_eq,afZ] at h;obtain⟨⟨⟨h1,rfl⟩,h3⟩,h4⟩:=h;obtain⟨v,q1,q2⟩:=e7Z (hagg _ _ h4) h3 hc w;exact⟨h1,v,q1,hf _ _ h4 a v q2⟩
 intro fs;induction fs with
 |nil=>simp_all
 |cons x fs ih=>
  intro o u h a xs ha
  match fs,u,h with
  |[],u,h=>
   have h':(x.name != "_" &&Nat.beq x.offset o&&Nat.beq (P.cellsOf x.type) u.cells&&f x.type u)=true:=by
    cases u<;>simpa only[qO] using h
   obtain⟨h1,v1,q1,q2⟩:=one x o u h' a xs ha<;>simp_all
  |y::fs,.pair s t,h=>
   simp only[qO] at h;have h':(x.name != "_" &&Nat.beq x.offset o&&Nat.beq (P.cellsOf x.type) s.cells&&f x.type s)=true/\qO P f (y::fs) (o+s.cells) t=true:=by
    simp only[ZAF] at h⊢;exact h
   obtain⟨h',h''⟩:=h';obtain⟨u1,u2,e1,c1,c2⟩:=ha;obtain⟨ea1,ea2⟩:=rVZ e1 c1.len c2.len;obtain⟨h1,v1,q1,q2⟩:=one x o s h' a.1 xs (by rw[ea1];exact c1);have hr:=ih (o+s.cells) t h'' a.2 xs (by rw[ea2];exact c2);rw[List.forIn_cons];simp only[h1,ne_eq,not_false_eq_true,ZCt,Sem.run_bind,q1,q2,Result.andThen_ok,Sem.run_pure];exact hr
  |_::_,.one _,h|_::_,.int _,h|_::_,.byte,h|_::_,.bool,h|_::_,.str,h|_::_,.opq,h|_::_,.nat,h|_::_,.ptr _,h|_::_,.sl _,h|_::_,.ref _ _,h|_::_,.arr _ _,h=>simp[qO] at h
theorem boZ(w){M}{ρ}{em}:∀(n) (t) (u),eqT P n t u=true->∀(d),n<=d->∀(x) (vx),bK w M ρ u x vx->
 (Instr.checkKey em d t vx).run P w= .ok () w
 |0,_,_,h,_,_,_,_,_=>by simp[eqT] at h
 |n+1,t,u,h,d,hd,x,vx,hx=>by
  obtain⟨d,rfl⟩:∃d',d=d'+1:=⟨d-1,by omega⟩;have hd':n<=d:=by omega
  have struct:∀(fs) (v) (x) (cx),P.underlying t=some (.struct fs)->(!P.stoodInHeld t&&qO P (fun t u=>mW P t u&&eqT P n t u) fs.toList 0 v)=true->Cl w M ρ v x cx->
   (Instr.checkKey em (d+1) t (.agg cx.toArray)).run P w= .ok () w:=by
   intro fs v x cx hu hc h1;simp[ZAF,ZAj] at hc;rw[Instr.checkKey];simp only[Sem.run_bind,run_underlying hu,Result.andThen_ok];rw[<-Array.forIn_toList];have:=ukZ (em:=em) w (fun t u hf x vx hx=>by
    simp only[ZAF] at hf;exact boZ w n t u hf.2 d hd' x vx hx) (fun t u hf=>by
    simp only[ZAF] at hf;exact etZ hf.1) fs.toList 0 v hc.2 x cx.toArray (eRZ h1)
   simp at this⊢;rw[this]
   rfl
  simp only[eqT] at h;split at h
  ·rename_i k k' hu;obtain rfl:=hx.int;simp[Instr.checkKey,Sem.run_bind,run_underlying hu]
  ·rename_i k hu;simp[Instr.checkKey,Sem.run_bind,run_underlying hu]
  ·rename_i hu;simp[Instr.checkKey,Sem.run_bind,run_underlying hu]
  ·rename_i hu;simp[Instr.checkKey,Sem.run_bind,run_underlying hu]
  ·rename_i fs v hu;obtain⟨cx,h1,rfl⟩:=hx;exact struct fs v x cx hu h h1
  ·rename_i fs a b hu;obtain⟨cx,h1,rfl⟩:=hx;exact struct fs (.pair a b) x cx hu h h1
  ·rename_i m e m' v hu;simp only[ZAF,afZ] at h;obtain⟨⟨⟨rfl,hc⟩,hf⟩,he⟩:=h;obtain⟨cx,h1,rfl⟩:=hx;have hfo:=etZ hf;have hs:=fun w=>a7Z w hc (by omega);rw[show(bif (Ty.arr m v).isAgg then Value.agg cx.toArray else cx.headD undef)= .agg cx.toArray from rfl,Instr.checkKey];simp only[Sem.run_bind,run_underlying hu,Result.andThen_ok];simp only[Std.Legacy.Range.forIn_eq_forIn_range',Std.Legacy.Range.size,Nat.sub_zero,Nat.add_one_sub_one,Nat.div_one];have hlx:=h1.1;have key:∀(k i),i+k=m->∀(f),(∀j,j<m->(f j PUnit.unit).run P w= .ok (.yield PUnit.unit) w)->(forIn (m:=Sem) (List.range' i k) PUnit.unit f).run P w= .ok PUnit.unit w:=by
    intro k;induction k with
    |zero=>intro i _ f _;simp
    |succ k ih=>
     intro i hi f hfj;rw[List.range'_succ,List.forIn_cons];simp only[Sem.run_bind,hfj i (by omega),Result.andThen_ok];exact ih (i+1) (by omega) f hfj
   refine(congrArg (fun r=>Result.andThen r _) (key m 0 (by omega) _ fun j hj=> ?_)).trans (by simp);have hxi:((x))[j]? =some (((x))[j]'(by rw[hlx];omega)):=ZAC _;have hc':=Cl.nth h1 hxi
   let⟨va,q1,q2⟩:=e7Z hfo hc hc' w
   have:=boZ (em:=em) w n e v he d hd' _ va q2;simp[Sem.run_bind,hs,q1,this]
  grind
theorem eSZ{k v:Ty}:∀{l:List ((k.den×v.den)×Nat)} {x},dF l x=none->∀(i:Nat) e,l[i]? =some e->k.eqb x e.1.1=false
 |((a,b),n)::l,x,h,i,e,he=>by
  simp[dF] at h;cases hq:k.eqb x a<;>rw[hq] at h<;>simp only[ZAK,ZAD] at h
  ·match i with
   |0=>simp at he;subst he;exact hq
   |i+1=>exact eSZ h i e (by simpa using he)
  grind
theorem cFZ{k v:Ty}:∀{l} {x} {y:v.den×Nat},dF l x=some y->
 ∃(i:Nat) (a:k.den),l[i]? =some ((a,y.1),y.2)/\k.eqb x a=true/\∀j e,j<i->l[j]? =some e->k.eqb x e.1.1=false
 |((a,b),n)::l,x,y,h=>by
  simp[dF] at h;cases hq:k.eqb x a<;>rw[hq] at h<;>simp only[ZAK,ZAD] at h
  ·let⟨i,a',h1,h2,h3⟩:=cFZ h
   refine⟨i+1,a',by simpa using h1,h2,fun j e hj he=> ?_⟩
   grind
  ·simp at h;subst h;exact⟨0,a,rfl,hq,fun j e hj=>by omega⟩
def vK(es:List MapEntry)(eq:Nat->Bool):Nat->Option (Nat×Value)->Prop
 |i,none=>∀j,j<es.length->eq (i+j)=false
 |i,some (p,v)=>∃j e,p=i+j/\es[j]? =some e/\e.val=v/\eq (i+j)=true/\∀j',j'<j->eq (i+j')=false
theorem hMZ{d}{x}{eq}:∀(es) (i),(∀(j) e,es[j]? =some e->Instr.sameNow d x e.key=some (eq (i+j)))->∃r,Instr.findNow d x es i=some r/\vK es eq i r
 |[],i,_=>⟨none,rfl,fun j hj=>by grind⟩
 |e::es,i,h=>by
  have h0:=h 0 e rfl;cases hq:eq i
  ·obtain⟨r,h1,h2⟩:=hMZ es (i+1) (fun j e' he'=>by have:=h (j+1) e' (by simp_all);rwa [show i+(j+1)=i+1+j from by omega] at this);refine⟨r,by simp[Instr.findNow,h0,hq,h1],?_⟩
   match r,h2 with
   |none,h2=>
    intro j hj
    match j with
    |0=>omega
    |j+1=>rw[show i+(j+1)=i+1+j from by omega];exact h2 j (by simp_all)
   |some (p,v),⟨j,e',e1,e2,e3,e4,e5⟩=>
    refine⟨j+1,e',by omega,by simp_all,e3,by grind,fun j' hj'=> ?_⟩
    match j' with
    |0=>omega
    |j'+1=>grind
  ·exact⟨some (i,e.val),by simp[Instr.findNow,h0,hq],0,e,rfl,rfl,rfl,hq,fun j' hj'=>by omega⟩
theorem eyZ{kt}{x}{eq}(w):∀(es) (i),(∀(j) e,es[j]? =some e->(Op.equal kt x e.key).run P w= .ok (eq (i+j)) w)->
 ∃r,(Instr.findAsking kt x es i).run P w= .ok r w/\vK es eq i r
 |[],i,_=>⟨none,by simp[Instr.findAsking],fun j hj=>by grind⟩
 |e::es,i,h=>by
  have h0:=h 0 e rfl;cases hq:eq i
  ·obtain⟨r,h1,h2⟩:=eyZ w es (i+1) (fun j e' he'=>by have:=h (j+1) e' (by simp_all);rwa [show i+(j+1)=i+1+j from by omega] at this);refine⟨r,by simp[Instr.findAsking,h0,hq,h1],?_⟩
   match r,h2 with
   |none,h2=>
    intro j hj
    match j with
    |0=>omega
    |j+1=>rw[show i+(j+1)=i+1+j from by omega];exact h2 j (by simp_all)
   |some (p,v),⟨j,e',e1,e2,e3,e4,e5⟩=>
    refine⟨j+1,e',by omega,by simp_all,e3,by grind,fun j' hj'=> ?_⟩
    match j' with
    |0=>omega
    |j'+1=>grind
  ·exact⟨some (i,e.val),by simp[Instr.findAsking,h0,hq],0,e,rfl,rfl,rfl,hq,fun j' hj'=>by omega⟩
theorem d5Z{kt}{k}(h:tD P kt k=true):ty P kt=some k/\eqT P bW kt k=true:=by
 simp_all[tD,ZAt]
theorem cMZ{kt}{k}(hk:tD P kt k=true)(w){M}{ρ}{x}{vx}(hx:bK w M ρ k x vx)(es)(ks:List k.den)(hl:ks.length=es.length)
 (hks:∀(j:Nat) a e,ks[j]? =some a->es[j]? =some e->bK w M ρ k a e.key):
 ∃r,(Instr.findKey kt vx es).run P w= .ok r w/\vK es (fun j=>match ks[j]? with|some a=>k.eqb x a|none=>false) 0 r:=by
 have he:=(d5Z hk).2;have aG:∀(j:Nat) e,es[j]? =some e->∃a,ks[j]? =some a/\bK w M ρ k a e.key:=fun j e hj=>by
  let⟨a,ha⟩:=bfZ hl.symm hj<;>grind
 cases hu:P.underlying kt with
 |none=>simp_all[bW,eqT]
 |some d=>
  have ask:(∀j e,es[j]? =some e->(Op.equal kt vx e.key).run P w= .ok (match ks[0+j]? with|some a=>k.eqb x a|none=>false) w):=fun j e hj=>by
   let⟨a,ha,hv⟩:=aG j e hj
   rw[ZA5,ha];exact mIZ w bW kt k he 10000 (by simp_all[bW]) x a vx e.key hx hv
  by_cases hwide:(match P.underlying kt with|some (.array _ _)|some (.struct _)=>true|_=>false)=true
  ·rw[run_findKey_eq w hwide];exact eyZ w es 0 ask
  ·have now:∃r,Instr.findNow d vx es 0=some r/\vK es (fun j=>match ks[j]? with|some a=>k.eqb x a|none=>false) 0 r:=by
    refine hMZ es 0 fun j e hj=> ?_
    let⟨a,ha,hv⟩:=aG j e hj
    simp only[ZA5,ha];unfold bW at he;simp only[eqT] at he;split at he
    ·rename_i q q' hu';rw[hu] at hu';cases hu';rw[hx.int,hv.int];simp[Instr.sameNow]
     rfl
    ·rename_i q hu';rw[hu] at hu';cases hu';have e1:=hx.scal rfl rfl;have e2:=hv.scal rfl rfl;simp only[Cl,ZBU,ZBp] at e1 e2;rw[e1,e2];simp only[Instr.sameNow,ZCt,ZAO];show(((x:UInt8).toNat:Int)==((a:UInt8).toNat:Int))=((x:UInt8)==a);rw[Bool.eq_iff_iff];simp only[ZBz]
     grind[UInt8.toNat_inj]
    ·rename_i hu';rw[hu] at hu';cases hu';rw[hx.bool,hv.bool]
     rfl
    ·rename_i hu';rw[hu] at hu';cases hu';rw[hx.str,hv.str];simp only[Instr.sameNow,ZAO,beq_toListBytes,cuZ]
     rfl
    ·rename_i hu';rw[hu'] at hwide;simp_all
    ·rename_i hu';rw[hu'] at hwide;simp_all
    ·rename_i hu';rw[hu'] at hwide;simp_all
    ·grind
   let⟨r,h1,h2⟩:=now
   exact⟨r,by simp[Instr.findKey,Sem.run_bind,run_underlying hu,h1],h2⟩
theorem h6Z:∀{l r},pP l r=true->l.length=r.length/\∀(i:Nat) a b,l[i]? =some a->r[i]? =some b->wA a b=true
 |[],[],_=>⟨rfl,fun i a b h=>by grind⟩
 |x::l,y::r,h=>by
  simp[pP] at h
  let⟨h1,h2⟩:=h6Z h.2
  refine⟨by simp[h1],fun i a b ha hb=> ?_⟩
  match i with
  |0=>simp at ha hb;subst ha;subst hb;exact h.1
  |i+1=>exact h2 i a b (by simpa using ha) (by simpa using hb)
 |[],_::_,h|_::_,[],h=>by grind[pP]
theorem n8Z{a b}(h:wA a b=true):a=b:=by
 unfold wA at h;split at h
 ·simp[ZBz] at h;rw[h.1,h.2]
 ·simp at h;rw[h]
 ·rename_i x y
  let⟨⟨ly⟩⟩:=y
  simp at h
  let⟨h1,h2⟩:=h
  rw[h2] at h1;obtain rfl:=ZAX h1.symm;subst h2
  rfl
 ·rfl
 ·rfl
 grind
theorem saZ{l r}(h:pP l r=true):l=r:=by
 let⟨h1,h2⟩:=h6Z h
 apply ZBW fun i=> ?_
 grind[ZAC,n8Z,ZAw]
theorem Cl.zero{w}{M}{ρ}:{u:Ty}->u.plain=true->Cl w M ρ u u.zero u.zeros
 |.int _,_|.bool,_=>rfl
 |.byte,_=>rfl
 |.str,_=>rfl
 |.sl t,_=>⟨none,0,rfl,ZAL _,by omega,fun _=>rfl,fun h=>absurd rfl h⟩
 |.ref f t,_=>rfl
 |.ptr t,_=>.inl ⟨rfl,rfl⟩
 |.one t,h=>Cl.zero (u:=t) h
 |.pair a b,h=>by
  simp[Ty.plain] at h;exact⟨_,_,rfl,Cl.zero h.1,Cl.zero h.2⟩
 |.arr n t,h=>by
  refine⟨by simp[Ty.zero],List.replicate n t.zeros,by simp,rfl,fun i e u h1 h2=> ?_⟩;have hi:=by
   have:=(ZAB.1 h2).1;simpa using this
  have h1':(List.replicate n t.zero)[i]? =some e:=h1;simp[hi] at h1' h2;subst h1';subst h2;exact Cl.zero h
theorem cSZ{t}{u}(h:mV P t u=true):∃i v,P.info? t=some i/\i.zero=some v/\∀w M ρ,bK w M ρ u u.zero v:=by
 unfold mV at h;simp at h
 let⟨hp,h⟩:=h
 split at h
 ·rename_i i hi;split at h
  ·rename_i v hv;simp at h;have hz:=saZ h.1;refine⟨i,v,hi,hv,fun w M ρ=>⟨u.zeros,Cl.zero hp,?_⟩⟩;have h2:=h.2;split at h2
   ·rename_i cs;rw[h2];simp;have hz':cs.toList=u.zeros:=hz;rw[<-hz']
   ·rename_i hne;simp at h2;rw[h2];rw[<-hz];cases v<;>first|rfl|exact absurd rfl (hne _)
  ·cases h
 grind
theorem e2Z{c}{a}{v}{q}(h:aF z a v):aF z (VL c a q) (if c then .tuple #[v,.bool q] else v):=by
 cases c
 ·exact h
 ·refine .tup _ _ rfl fun i x u h1 h2=> ?_
  match i with
  |0=>simp_all
  |1=>simp at h1 h2;subst h1;subst h2;exact .mkB q
  |i+2=>grind
theorem hNZ{t kt et}{g}{es:Array MapEntry}{clock}{vk}{c}{r}{i}{zv}(hu:P.underlying t=some (.map kt et))
 (hg:z.w.heap[g]? =some (.map es clock))(hck:(Instr.checkKey es.isEmpty 10000 kt vk).run P z.w= .ok () z.w)(hf:(Instr.findKey kt vk es.toList).run P z.w= .ok r z.w)(hi:r=none->P.info? et=some i/\i.zero=some zv):
 (Instr.lookup t (.map (some g)) vk c).run P z.w= .ok (let x:=(match r with|some (_,v)=>v|none=>zv);if c then .tuple #[x,.bool r.isSome] else x) z.w:=by
 have ho:(getObj g).run P z.w= .ok (.map es clock) z.w:=by simp[getObj,Sem.run,hg]
 cases r with
 |none=>
  obtain⟨h1,h2⟩:=hi rfl;cases c<;>simp[Instr.lookup,run_underlying hu,ho,hck,hf,iLZ h1 h2]
 |some p=>cases c<;>simp[Instr.lookup,run_underlying hu,ho,hck,hf]
theorem j8Z{k:Ty}{x}{K}{r:β}:∀{l},uQ l x K=some r->
 ((∀(i:Nat) (e),l[i]? =some e->k.eqb x e.1=false)/\K none=some r)\/∃(i:Nat) (e:k.den×AV),l[i]? =some e/\k.eqb x e.1=true/\(∀(j) (e'),j<i->l[j]? =some e'->k.eqb x e'.1=false)/\K (some e.2)=some r
 |[],h=>.inl ⟨fun i e h=>by grind,h⟩
 |(a,b)::l,h=>by
  simp[uQ] at h;cases hq:k.eqb x a<;>rw[hq] at h<;>simp[bq_false] at h
  ·rcases j8Z h with⟨h1,h2⟩|⟨i,e,h1,h2,h3,h4⟩
   ·refine .inl ⟨fun i e he=> ?_,h2⟩
    match i with
    |0=>simp at he;subst he;exact hq
    |i+1=>exact h1 i e (by simpa using he)
   ·refine .inr ⟨i+1,e,by simpa using h1,h2,fun j e' hj he'=> ?_,h4⟩
    match j with
    |0=>simp at he';subst he';exact hq
    |j+1=>exact h3 j e' (by omega) (by simpa using he')
  ·exact .inr ⟨0,(a,b),rfl,hq,fun j e' hj=>by omega,h⟩
theorem vK.split{es}{k:Ty}{ks:List k.den}{x}{r}(hl:ks.length=es.length)(h:vK es (fun j=>match ks[j]? with|some a=>k.eqb x a|none=>false) 0 r):
 (r=none/\∀(i:Nat) (a),ks[i]? =some a->k.eqb x a=false)\/∃(i:Nat) (a:k.den) (e:MapEntry),r=some (i,e.val)/\ks[i]? =some a/\es[i]? =some e/\k.eqb x a=true/\∀(j) (a'),j<i->ks[j]? =some a'->k.eqb x a'=false:=by
 match r,h with
 |none,h=>
  refine .inl ⟨rfl,fun i a ha=> ?_⟩;have hi:i<es.length:=by
   have:=(ZAB.1 ha).1;omega
  have:=h i hi
  simp_all
 |some (p,v),⟨j,e,h1,h2,h3,h4,h5⟩=>
  grind
theorem lDZ{t}{m ix}{c}{K}{r:β}{vm vk}(h:mB P t m ix c H K=some r)(hH:aH z H)(hm:aF z m vm)(hk:aF z ix vk):
 OkP P (Instr.lookup t vm vk c) z K r:=by
 unfold mB at h;split at h
 ·rename_i id;cases hm with|mp _ g sz n hρ=>
  split at h
  ·rename_i fz k v M hg
   let⟨h1,h2⟩:=adZ.1 h
   let⟨x,h3,h4⟩:=bTZ h2 hk
   unfold wX at h1;split at h1
   ·rename_i kt et hu;simp only[ZAF,ZAt] at h1
    let⟨⟨h5,h6⟩,h7⟩:=h1
    let⟨i,zv,z1,z2,z3⟩:=cSZ h7
    let⟨_,_,_,es,a1,a2,a3,_⟩:=hH.real hg hρ
    have hck:=boZ (em:=es.isEmpty) z.w bW kt k (d5Z h5).2 10000 (by unfold bW;omega) x vk h3;obtain⟨q,f1,f2⟩:=cMZ h5 z.w h3 es.toList (M.1.map (·.1.1)) (by simp[a2]) (fun j a e e1 e2=>by
     rw[ZAY] at e1;obtain⟨y,e3,rfl⟩:=ZAI.1 e1;exact(a3 j y e e3 (by simpa using e2)).1)
    have hrun:=hNZ (c:=c) hu a1 hck f1 (fun _=>⟨z1,z2⟩);unfold wC at h4;rcases f2.split (by simp[a2]) with⟨rfl,f3⟩|⟨j,a,e,rfl,f3,f4,f5,f6⟩
    ·have hm:gX M x=none:=by
      unfold gX;cases hq:dF M.1 x with
      |none=>rfl
      |some y=>
       let⟨j,a,q1,q2,_⟩:=cFZ hq
       have:=f3 j a (by simp[q1]);rw[q2] at this;cases this
     rw[hm] at h4;exact .mk' hrun (e2Z (b7Z (z3 _ _ _))) h4
    ·rw[ZAY] at f3;obtain⟨y,f7,rfl⟩:=ZAI.1 f3;have hm:gX M x=some y.1.2:=by
      unfold gX;cases hq:dF M.1 x with
      |none=>
       have:=eSZ hq j y f7;rw[f5] at this;cases this
      |some y'=>
       let⟨j',a',q1,q2,q3⟩:=cFZ hq
       have hjj:j'=j:=by
        rcases Nat.lt_trichotomy j' j with hlt|heq|hgt
        ·have:=f6 j' a' hlt (by simp[q1]);rw[q2] at this;cases this
        ·exact heq
        ·have:=q3 j y hgt f7;rw[f5] at this;cases this
       subst hjj;rw[q1] at f7;injection f7 with f7;rw[<-f7]
       rfl
     rw[hm] at h4;refine .mk' hrun (e2Z (b7Z ?_)) h4;exact(a3 j y e f7 (by simpa using f4)).2.1
   ·cases h1
  ·rename_i fz k l hg
   let⟨h1,h2⟩:=adZ.1 h
   let⟨x,h3,h4⟩:=bTZ h2 hk
   unfold AE at h1;split at h1
   ·rename_i kt et hu;simp only[ZAF] at h1
    let⟨⟨h5,h6⟩,h7⟩:=h1
    let⟨_,_,_,es,clock,a1,a2,a3⟩:=hH.real hg hρ
    have hz:∃i,P.info? et=some i/\i.zero=some .nilFunc:=by
     split at h7
     ·rename_i i hi;split at h7
      ·rename_i hz;exact⟨i,hi,hz⟩
      ·cases h7
     ·cases h7
    let⟨i,z1,z2⟩:=hz
    have hck:=boZ (em:=es.isEmpty) z.w bW kt k (d5Z h5).2 10000 (by unfold bW;omega) x vk h3;obtain⟨q,f1,f2⟩:=cMZ h5 z.w h3 es.toList (l.map (·.1)) (by simp[a2]) (fun j a e e1 e2=>by
     rw[ZAY] at e1;obtain⟨y,e3,rfl⟩:=ZAI.1 e1;exact(a3 j y e e3 (by simpa using e2)).1)
    have hrun:=hNZ (c:=c) hu a1 hck f1 (fun _=>⟨z1,z2⟩);rcases j8Z h4 with⟨g1,g2⟩|⟨j',e',g1,g2,g3,g4⟩
    ·rcases f2.split (by simp[a2]) with⟨rfl,f3⟩|⟨j,a,e,rfl,f3,f4,f5,f6⟩
     ·exact .mk' hrun (e2Z (.p _ _ _ (bK.mkSc (t:=.opq) ⟨rfl,rfl⟩ rfl))) g2
     ·rw[ZAY] at f3;obtain⟨y,f7,rfl⟩:=ZAI.1 f3;have:=g1 j y f7;rw[f5] at this;cases this
    ·rcases f2.split (by simp[a2]) with⟨rfl,f3⟩|⟨j,a,e,rfl,f3,f4,f5,f6⟩
     ·have:=f3 j' e'.1 (by simp[g1]);rw[g2] at this;cases this
     ·rw[ZAY] at f3;obtain⟨y,f7,rfl⟩:=ZAI.1 f3;have hjj:j'=j:=by
       rcases Nat.lt_trichotomy j' j with hlt|heq|hgt
       ·have:=f6 j' e'.1 hlt (by simp[g1]);rw[g2] at this;cases this
       ·exact heq
       ·have:=g3 j y hgt f7;rw[f5] at this;cases this
      subst hjj;rw[g1] at f7;injection f7 with f7;subst f7;exact .mk' hrun (e2Z (a3 j' e' e g1 (by simpa using f4)).2) g4
   ·cases h1
  ·cases h
 ·split at h
  ·rename_i kt et hu
   let⟨k,h1,h2⟩:=agZ.1 h
   let⟨v,h3,h4⟩:=agZ.1 h2
   let⟨h5,h6⟩:=adZ.1 h4
   let⟨x,h7,h8⟩:=bTZ h6 hk
   unfold wX at h5;rw[hu] at h5;simp only[ZAF,ZAt] at h5
   let⟨⟨h9,h10⟩,h11⟩:=h5
   let⟨i,zv,z1,z2,z3⟩:=cSZ h11
   obtain⟨rfl,_⟩:=hm.v.opq;have hck:=boZ (em:=true) z.w bW kt k (d5Z h9).2 10000 (by unfold bW;omega) x vk h7;obtain⟨q,f1,f2⟩:=cMZ h9 z.w h7 [] [] rfl (fun j a e e1=>by simp at e1);have hq:q=none:=by
    rcases vK.split (ks:=[]) (x:=x) rfl f2 with⟨h,_⟩|⟨j,a,e,_,e1,_⟩
    ·exact h
    ·simp at e1
   subst hq;unfold wC at h8;refine .mk' ?_ (e2Z (b7Z (z3 _ _ _))) h8;cases c<;>simp[Instr.lookup,Sem.run_bind,run_underlying hu,hck,f1,iLZ z1 z2]
  ·cases h
 grind
end
section
variable {P : Program} {β : Type} {z : Z} {H : Hp}
theorem cUZ{ρ}{o}{s}{K}{res:β}(he:execOp ρ o=(do pure (.value (<-s))))(h:OkP P s z K res):
 ∃x v,(execOp ρ o).run P z.w= .ok (.value v) z.w/\aF z x v/\K x=some res:=by
 let⟨x,v,h1,h2,h3⟩:=h
 exact⟨x,v,by simp_all,h2,h3⟩
theorem eMZ{ρ}{o}{c}{b}{s}{K}{res:β}(ho:o.op= .call c)(hc:c.callee= .builtin b)
 (hb:∀consts,builtin b c.argTypes o.type consts (c.args.map ρ)=(do pure (.value (<-s))))(h:OkP P s z K res):
 ∃x v,(execOp ρ o).run P z.w= .ok (.value v) z.w/\aF z x v/\K x=some res:=by
 let⟨x,v,h1,h2,h3⟩:=h
 refine⟨x,v,?_,h2,h3⟩;unfold execOp;simp[ho,resolve,hc,invoke,hb,h1]
theorem aR.map{l:List Operand}{r}{ρ}(hr:∀x,aF z (r x) (ρ x)):aR z (l.map r) (l.map ρ):=by
 refine⟨by simp,fun i a v h1 h2=> ?_⟩
 grind
theorem AJ.map{a:Option Operand}{r}{ρ}(hr:∀x,aF z (r x) (ρ x)):AJ z (a.map r) (a.map ρ):=by
 cases a with
 |none=>exact .inl ⟨rfl,rfl⟩
 |some x=>exact .inr ⟨_,_,rfl,rfl,hr x⟩
theorem vCZ{o}{r}{ρ}{K}{res:β}(h:evR P o r H K=some res)(hH:aH z H)(hr:∀x,aF z (r x) (ρ x)):
 ∃x v,(execOp ρ o).run P z.w= .ok (.value v) z.w/\aF z x v/\K x=some res:=by
 unfold evR at h;split at h
 ·rename_i x ho;exact⟨_,ρ x,by simp[execOp,ho],hr x,h⟩
 ·rename_i x ho;exact⟨_,ρ x,by simp[execOp,ho],hr x,h⟩
 ·rename_i c a b ho;obtain⟨x,v,h1,h2,h3⟩:=rjZ h (hr c) (hr a) (hr b);refine⟨x,v,?_,h2,h3⟩;simp only[Sem.run_bind] at h1;simp only[execOp,ho,Sem.run_bind];generalize (asBool (ρ c)).run P z.w=q at h1⊢;cases q<;>simp[Result.andThen] at h1⊢;obtain⟨h4,h5⟩:=h1;exact⟨h4,h5⟩
 ·rename_i t ps ho;refine cUZ (s:=Instr.build t (ps.map fun(i,x)=>(i,ρ x))) (by simp[execOp,ho]) (opZ h ⟨by simp,fun i x y h1 h2=> ?_⟩);simp only[Array.toList_map] at h2;rw[ZAY] at h1 h2;obtain⟨q,h3,rfl⟩:=ZAI.1 h1;rw[h3] at h2;simp at h2;subst h2;exact⟨rfl,hr _⟩
 ·rename_i t a ho;exact cUZ (by simp[execOp,ho]) (koZ h hH (hr a))
 ·rename_i x ho;have hx:=hr x;split at h
  ·rename_i es id i j hq;rw[hq] at hx;cases hv:ρ x<;>rw[hv] at hx<;>first|(cases hx;done)|skip;rename_i p;cases hx with|own _ _ _ _ g sz n hρ=>exact⟨_,ρ x,by simp[execOp,ho,hv],by rw[hv];exact .own _ _ _ _ _ _ _ hρ,h⟩
  ·rename_i u l i j hq;rw[hq] at hx;cases hv:ρ x<;>rw[hv] at hx<;>first|(cases hx;done)|skip;cases hx with|pt _ _ _ _ b off hM hlt hrr=>exact⟨_,ρ x,by simp[execOp,ho,hv],by rw[hv];exact .pt _ _ _ _ _ _ hM hlt hrr,h⟩
  ·rename_i f a c hq;rw[hq] at hx;cases hv:ρ x<;>rw[hv] at hx<;>first|(cases hx;done)|skip;cases hx with|fn _ _ _ va vc h1 h2 h3 h4=>exact⟨_,ρ x,by simp[execOp,ho,hv],by rw[hv];exact .fn _ _ _ _ _ h1 h2 h3 h4,h⟩
  ·rename_i f es k i j hq;rw[hq] at hx;cases hv:ρ x<;>rw[hv] at hx<;>first|(cases hx;done)|skip;cases hx with|rp _ _ _ _ _ g sz n hρ=>exact⟨_,ρ x,by simp[execOp,ho,hv],by rw[hv];exact .rp _ _ _ _ _ _ _ _ hρ,h⟩
  ·rename_i t l hq;rw[hq] at hx;obtain⟨h1,h2⟩:=adZ.1 h;rcases hx.v.scal rfl rfl with⟨h3,_⟩|⟨_,b,off,h4,h5,h6,h7⟩
   ·obtain rfl:l=([]:List t.den):=ZCT.1 h3;cases h1
   ·have hv:=(List.cons.inj h4).1;have q:=aF.pt t l 0 0 b off h5 h6 h7;rw[ZBu] at q;exact⟨_,ρ x,by simp[execOp,ho,hv],by rw[hv];exact q,h2⟩
  ·cases h
 ·rename_i op t x y u ho;exact cUZ (by simp[execOp,ho]) (rYZ x y h hH (hr x) (hr y))
 ·rename_i t x ix c ho;exact cUZ (by simp[execOp,ho]) (lDZ h hH (hr x) (hr ix))
 ·rename_i op t x ho;exact cUZ (by simp[execOp,ho]) (tJZ h (hr x))
 ·rename_i s d x ho;exact cUZ (by simp[execOp,ho]) (fmZ h hH (hr x))
 ·rename_i f a c ho;refine⟨_,.func (.func f) (a.map ρ) (c.map ρ),by simp[execOp,ho,Instr.makeFunc],.fn _ _ _ _ _ (by simp) (by simp) (fun i x v h1 h2=> ?_) (fun i x v h1 h2=> ?_),h⟩
  ·exact(aR.map hr).2 i x v h1 (by simpa using h2)
  ·exact(aR.map hr).2 i x v h1 (by simpa using h2)
 ·rename_i t x lo hi ho;exact cUZ (by simp[execOp,ho]) (oDZ h hH (hr x) (.map hr) (.map hr))
 ·rename_i t x lo hi mx ho;exact cUZ (by simp[execOp,ho]) (llZ h (hr x) (.map hr) (hr hi) (hr mx))
 ·rename_i s x f ho;exact cUZ (by simp[execOp,ho]) (haZ h (hr x))
 ·rename_i s x f ho;exact cUZ (by simp[execOp,ho]) (ntZ h (hr x))
 ·rename_i t x ix ho;exact cUZ (by simp[execOp,ho]) (gRZ h hH (hr x) (hr ix))
 ·rename_i t x ix ho;exact cUZ (by simp[execOp,ho]) (o8Z h (hr x) (hr ix))
 ·rename_i x i ho;obtain⟨l,h1,h2⟩:=agZ.1 h;obtain⟨y,h3,h4⟩:=agZ.1 h2;obtain⟨vs,h5,h6,h7⟩:=ijZ h1 (hr x);have hlt:i<vs.size:=by
   have:=(ZAB.1 h3).1;omega
  have hv:=ZAy hlt;exact cUZ (s:=Instr.extract (ρ x) i) (by simp[execOp,ho]) ⟨y,vs[i],by simp[Instr.extract,h5,hv],h7 i y _ h3 hv,h4⟩
 ·rename_i c ho;split at h
  ·rename_i hc;split at h
   ·rename_i a t ha ht;obtain⟨n,h1,h2⟩:=ubZ o.type h hH (hr a);refine eMZ (s:=Builtin.len_ #[t] o.type #[ρ a]) ho hc (fun consts=> ?_) ⟨_,_,h1,.mkI _ _,h2⟩;have e1:c.args=#[a]:=by apply ZB4;rw[ha]
    have e2:c.argTypes=#[t]:=by apply ZB4;rw[ht]
    simp[builtin,e1,e2]
   ·cases h
  ·rename_i hc;split at h
   ·rename_i a t ha ht;have e1:c.args=#[a]:=by apply ZB4;rw[ha]
    have e2:c.argTypes=#[t]:=by apply ZB4;rw[ht]
    split at h
    ·rename_i e hu;have run:∀A n m,ρ a= .slice A n m->(Builtin.cap_ #[t] o.type #[ρ a]).run P z.w= .ok (.int .i64 (m:Int)) z.w:=fun A n m hv=>by
      simp[Builtin.cap_,Sem.run_bind,hv,run_underlying hu,goInt]
     have key:∀m,(∃A n,ρ a= .slice A n m)->K (.i .i64 (m:Int))=some res->∃x v,(execOp ρ o).run P z.w= .ok (.value v) z.w/\aF z x v/\K x=some res:=fun m ⟨A,n,hv⟩ hk=>
      eMZ (s:=Builtin.cap_ #[t] o.type #[ρ a]) ho hc (fun consts=>by simp[builtin,e1,e2]) ⟨_,_,run A n m hv,.mkI _ _,hk⟩
     split at h
     ·rename_i hq;have hx:=hr a;rw[hq] at hx;exact key 0 ⟨none,0,hx.v.opq.1⟩ h
     ·obtain⟨A,n,m,hv,h1,h2,_,h3⟩:=iPZ h hH (hr a);exact key m ⟨A,n,hv⟩ (uJZ h3 m h1 h2)
    ·cases h
   ·cases h
  ·rename_i hc;split at h
   ·rename_i k hu;obtain⟨l,h1,h2⟩:=agZ.1 h;have hv:=iUZ h1 (aR.map (l:=c.args.toList) hr);split at h2
    ·rename_i x l;refine eMZ (s:=Builtin.min_ c.argTypes o.type (c.args.map ρ)) ho hc (fun consts=>rfl) ⟨_,_,?_,.mkI _ _,h2⟩;unfold Builtin.min_;rw[Array.toList_map,hv];exact giZ z.w l x
    ·cases h2
   ·cases h
  ·rename_i hc;split at h
   ·rename_i k hu;obtain⟨l,h1,h2⟩:=agZ.1 h;have hv:=iUZ h1 (aR.map (l:=c.args.toList) hr);split at h2
    ·rename_i x l;refine eMZ (s:=Builtin.max_ c.argTypes o.type (c.args.map ρ)) ho hc (fun consts=>rfl) ⟨_,_,?_,.mkI _ _,h2⟩;unfold Builtin.max_;rw[Array.toList_map,hv];exact gNZ z.w l x
    ·cases h2
   ·cases h
  ·cases h
 grind
end
section
variable {P : Program} {β : Type} {z : Z} {H : Hp}
def bD(w:World)(M:Nat->Prop)(ρ:Rho)(u:Ty)(l:List u.den)(cs:List Value):Prop:=
 ∀(i) x,l[i]? =some x->∃us,Cl w M ρ u x us/\∀(j) v,us[j]? =some v->cs[i*u.cells+j]? =some v
theorem bD.kp{z'}(k:Kp z z'){u}{l}{cs}(h:bD z.w z.M z.ρ u l cs):bD z'.w z'.M z'.ρ u l cs:=fun i x hx=>by
 let⟨us,h1,h2⟩:=h i x hx
 exact⟨us,h1.kp k,h2⟩
theorem ibZ{c}:∀{css:List (List Value)},(∀u∈css,u.length=c)->∀{k} {us},css[k]? =some us->∀{q} {w},us[q]? =some w->css.flatten[k*c+q]? =some w
 |[],_,k,us,h,_,_,_=>by grind
 |u::css,hl,0,us,h,q,w,hq=>by
  grind
 |u::css,hl,k+1,us,h,q,w,hq=>by
  have hc:=hl u (by simp);rw[ZCS,ZAV (by rw[ZCB];omega)];have:=ibZ (fun u hu=>hl u (ZAb _ hu)) (by simpa using h) hq;rw[<-this];congr 1;rw[ZCB];omega
theorem cYZ{w}{M}{ρ}{u}{l:List u.den}{css:List (List Value)}(hl:css.length=l.length)(h:∀(i:Nat) e us,l[i]? =some e->css[i]? =some us->Cl w M ρ u e us):∀us∈css,us.length=u.cells:=fun us hu=>by
 let⟨k,hk⟩:=ZAP hu
 let⟨e,he⟩:=bfZ hl hk
 exact(h k e us he hk).len
theorem bD.css{w}{M}{ρ}{u}{l}{css:List (List Value)}(hl:css.length=l.length)(h:∀(i:Nat) e us,l[i]? =some e->css[i]? =some us->Cl w M ρ u e us)
 (rest):bD w M ρ u l (css.flatten++rest):=fun i x hx=>by
 have hi:i<css.length:=by rw[hl];exact(ZAB.1 hx).1
 refine⟨css[i],h i x _ hx (ZAC hi),fun j v hj=> ?_⟩;have:=ibZ (cYZ hl h) (ZAC hi) hj
 grind
theorem bD.arr{w}{M}{ρ}{u}{n}{l:List u.den}{cs}(h:Cl w M ρ (.arr n u) l cs):bD w M ρ u l cs:=by
 obtain⟨hn,css,h1,rfl,h2⟩:=h;have:=bD.css (by rw[h1];exact hn.symm) h2 []
 simp_all
theorem aKZ{id}{b}{K}{r:β}:gA H id b K=some r↔(aN H id=false/\id<aA)/\K (aS H id (some ⟨false,b⟩))=some r:=by
 unfold gA;cases hk:aN H id
 ·cases hb:Nat.ble aA id
  ·have:=ZBR.1 fun h=>by rw[ZAi h] at hb;cases hb
   simp_all
  ·have:=ZBL hb;simp;omega
 ·simp
theorem bgZ{id}{cs}{e}{fr}{w'}{u}{l}(hH:aH z H)(hk:aN H id=false/\id<aA)(hd:¬z.D id)(hw:w'.heap[z.w.heap.size]? =some (.cells cs e fr))(hf:okR u cs fr)
 (hos:w'.os=z.w.os)(htape:w'.tape=z.w.tape/\z.w.drawn<=w'.drawn)(hout:w'.output=z.w.output)(hold:∀k,k<z.w.heap.size->w'.heap[k]? =z.w.heap[k]?)(hl:l.length*u.cells<=cs.size)(h0:0<u.cells)(hr:bD z.w z.M z.ρ u l cs.toList):
 ∃z',z'.w=w'/\aH z' (aS H id (some ⟨false,.rows e u l⟩))/\Nx z z'/\z'.ρ id= .real z.w.heap.size cs.size l.length:=by
 have hlt:z.w.heap.size<w'.heap.size:=(ZBE.1 hw).1;refine hH.new hk hd (ZAL _) hlt hos htape hout (Nat.le_of_lt hlt) hold fun z' hz k=> ?_;subst hz;refine⟨cs,fr,hw,hf,rfl,rfl,hl,h0,fun i x hx=> ?_⟩;obtain⟨us,h1,h2⟩:=hr.kp k i x hx<;>grind
theorem iBZ{id}{cs}{e}{fr}{w'}{c}(hH:aH z H)(hk:aN H id=false/\id<aA)(hd:¬z.D id)(hw:w'.heap[z.w.heap.size]? =some (.cells cs e fr))(hf:okF cs fr)
 (hos:w'.os=z.w.os)(htape:w'.tape=z.w.tape/\z.w.drawn<=w'.drawn)(hout:w'.output=z.w.output)(hold:∀k,k<z.w.heap.size->w'.heap[k]? =z.w.heap[k]?)(hr:aR z c cs.toList)(h1:∀u∈cs,u.oneCell'=true):
 ∃z',z'.w=w'/\aH z' (aS H id (some ⟨false,.vars c⟩))/\Nx z z'/\z'.ρ id= .real z.w.heap.size cs.size cs.size:=by
 have hlt:=(ZBE.1 hw).1;refine hH.new hk hd (ZAL _) hlt hos htape hout (Nat.le_of_lt hlt) hold fun z' hz k=> ?_;subst hz;refine⟨cs,e,fr,hw,hf,rfl,⟨by have:=hr.1;omega,rfl⟩,fun i a v p q=>(hr.2 i a v p (by simp_all)).kp k,h1⟩
theorem okF0(cs):okF cs (0,0):=.inl rfl
theorem Ok.mk'{s}{K}{r:β}{x}{v}{H'}{z'}(h:s.run P z.w= .ok v z'.w)(hH:aH z' H')(ha:aF z' x v)(hn:Nx z z')(hK:K x H'=some r):Ok P s z K r:=⟨x,v,H',z',h,hH,ha,hn,hK⟩
theorem lpZ(w)(t)(v):(Instr.box t v).run P w= .ok (.pointer (some ⟨w.heap.size,0,none⟩)) (w.alloc (.cells v.cells t)):=rfl
theorem dcZ{t}{i}{v}(h1:P.info? t=some i)(h3:i.zero=some v)(w):(Instr.alloc t true (.tuple #[])).run P w= .ok (.pointer (some ⟨w.heap.size,0,none⟩)) (w.alloc (.cells v.cells t)):=by
 unfold Instr.alloc;rw[Sem.run_bind,iLZ h1 h3]
 rfl
theorem bD.one'{w}{M}{ρ}{u}{x}{vs}(h:Cl w M ρ u x vs):bD w M ρ u [x] vs:=fun i y hy=>by
 grind
theorem lLZ{t}{id}{K}{r:β}(h:sY P t id H K=some r)(hH:aH z H)(hd:¬z.D id):Ok P (Instr.alloc t true (.tuple #[])) z K r:=by
 let⟨u,h1,h2⟩:=agZ.1 h
 let⟨h3,h4⟩:=adZ.1 h2
 let⟨h5,h6⟩:=aKZ.1 h4
 let⟨t1,t2,_⟩:=dmZ h1
 let⟨i,v,q1,q2,q3⟩:=cSZ h3
 let⟨c1,c2⟩:=(q3 z.w z.M z.ρ).cells
 have hl:=by simpa using c1.len
 obtain⟨z',p1,p2,p3,p4⟩:=bgZ hH h5 hd (heap_alloc_new _ _) (okR0 _) rfl ⟨rfl,ZAL _⟩ rfl (fun k hk=>heap_alloc_old _ _ _ hk)
  (by rw[hl];simp) t2 (.one' c1)
 refine .mk' (by rw[p1];exact dcZ q1 q2 z.w) p2 ?_ p3 h6;have:=aF.own u.cells id 0 0 _ _ _ p4
 simp_all
theorem rdZ{t}{a}{v}{id}{K}{r:β}(h:zZ P t a id H K=some r)(hH:aH z H)(hd:¬z.D id)(ha:aF z a v):Ok P (Instr.box t v) z K r:=by
 let⟨u,h1,h2⟩:=agZ.1 h
 let⟨⟨a',H1⟩,h3,h4⟩:=agZ.1 h2
 let⟨z1,s1,s2,s3,s4,s5⟩:=bUZ hH h3 ha
 let⟨y,h5,h6⟩:=bTZ h4 s5
 let⟨h9,h10⟩:=aKZ.1 h6
 let⟨t1,t2,_⟩:=dmZ h1
 let⟨c1,c2⟩:=h5.cells
 have hl:=by simpa using c1.len
 obtain⟨z',p1,p2,p3,p4⟩:=bgZ s2 h9 (by rw[s3.dom];exact hd) (heap_alloc_new _ _) (okR0 _) rfl ⟨rfl,ZAL _⟩ rfl (fun k hk=>heap_alloc_old _ _ _ hk)
  (by rw[hl];simp) t2 (.one' c1)
 refine .mk' (by rw[p1,s1];exact lpZ z.w t v) p2 ?_ (s3.trans p3) h10;have:=aF.own u.cells id 0 0 _ _ _ p4
 simp_all
theorem osZ{t}{id}{K}{r:β}(h:pR P t id H K=some r)(hH:aH z H)(hd:¬z.D id):Ok P (Instr.alloc t true (.tuple #[])) z K r:=by
 unfold pR at h;split at h
 ·rename_i n e hu
  let⟨u,h1,h2⟩:=agZ.1 h
  let⟨h3,h4⟩:=adZ.1 h2
  let⟨h5,h6⟩:=aKZ.1 h4
  let⟨t1,t2,_⟩:=dmZ h1
  let⟨i,v,q1,q2,q3⟩:=cSZ h3
  let⟨c1,c2⟩:=(q3 z.w z.M z.ρ).cells
  have hl:=by simpa[Ty.cells] using c1.len
  obtain⟨z',p1,p2,p3,p4⟩:=bgZ (l:=List.replicate n u.zero) hH h5 hd (heap_alloc_new _ _) (okR0 _) rfl ⟨rfl,ZAL _⟩ rfl (fun k hk=>heap_alloc_old _ _ _ hk)
   (by rw[ZCD,hl];exact ZAL _) t2 (.arr c1)
  refine .mk' (by rw[p1];exact dcZ q1 q2 z.w) p2 ?_ p3 h6;have:=aF.own u.cells id 0 0 _ _ _ p4
  simp_all
 ·let⟨l,h1,h2⟩:=agZ.1 h
  let⟨h5,h6⟩:=aKZ.1 h2
  obtain⟨i,v,q1,q2,q3,q4⟩:=gyZ h1;obtain⟨z',p1,p2,p3,p4⟩:=iBZ hH h5 hd (heap_alloc_new _ _) (okF0 _) rfl ⟨rfl,ZAL _⟩ rfl (fun k hk=>heap_alloc_old _ _ _ hk) q3 q4;refine .mk' (by rw[p1];exact dcZ q1 q2 z.w) p2 ?_ p3 h6;have:=aF.own 0 id 0 0 _ _ _ p4;omega
theorem sIZ{t}{a}{v}{id}{K}{r:β}(h:zA P t a id H K=some r)(hH:aH z H)(hd:¬z.D id)(ha:aF z a v):Ok P (Instr.box t v) z K r:=by
 unfold zA at h;split at h
 ·let⟨u,h1,h2⟩:=agZ.1 h
  let⟨⟨a',H1⟩,h3,h4⟩:=agZ.1 h2
  let⟨z1,s1,s2,s3,s4,s5⟩:=bUZ hH h3 ha
  let⟨l,h5,h6⟩:=bTZ h4 s5
  let⟨h7,h8⟩:=adZ.1 h6
  let⟨h9,h10⟩:=aKZ.1 h8
  rw[afZ] at h7
  let⟨t1,t2,_⟩:=dmZ h1
  let⟨c1,c2⟩:=h5.cells
  have hl:=by simpa[Ty.cells] using c1.len
  obtain⟨z',p1,p2,p3,p4⟩:=bgZ s2 h9 (by rw[s3.dom];exact hd) (heap_alloc_new _ _) (okR0 _) rfl ⟨rfl,ZAL _⟩ rfl (fun k hk=>heap_alloc_old _ _ _ hk)
   (by rw[h7,hl];exact ZAL _) t2 (.arr c1)
  refine .mk' (by rw[p1,s1];exact lpZ z.w t v) p2 ?_ (s3.trans p3) h10;have:=aF.own u.cells id 0 0 _ _ _ p4
  simp_all
 ·let⟨l,h1,h2⟩:=agZ.1 h
  let⟨h5,h6⟩:=aKZ.1 h2
  let⟨q1,q2,_⟩:=cHZ h1 ha
  obtain⟨z',p1,p2,p3,p4⟩:=iBZ hH h5 hd (heap_alloc_new _ _) (okF0 _) rfl ⟨rfl,ZAL _⟩ rfl (fun k hk=>heap_alloc_old _ _ _ hk) q1 q2;refine .mk' (by rw[p1];exact lpZ z.w t v) p2 ?_ p3 h6;have:=aF.own 0 id 0 0 _ _ _ p4;omega
theorem njZ(zs)(n k)(hk:k<n)(h:0<zs.size):(madeCells zs n)[k]? =zs[k%zs.size]? :=by
 have hm:=ZCn k h;simp[madeCells,hk,hm]
theorem bD.made{w}{M}{ρ}{u}{zs}(hc:Cl w M ρ u u.zero zs.toList)(n m)(hnm:n<=m)(h0:0<u.cells):bD w M ρ u (List.replicate n u.zero) (madeCells zs (m*u.cells)).toList:=fun i x hx=>by
 have hi:=by
  have:=(ZAB.1 hx).1;simpa using this
 obtain rfl:u.zero=x:=by
  simpa[hi] using hx
 refine⟨_,hc,fun j v hj=> ?_⟩;have hl:=by simpa using hc.len
 have hjl:=by
  have:=(ZAB.1 hj).1;simpa[hl] using this
 have hlt:=mqZ (show i<m by omega) hjl
 simp_all[njZ,Nat.mod_eq_of_lt]
theorem riZ{t}{al ac}{vl vc}{id}{K}{r:β}(h:uP P t al ac id H K=some r)(hH:aH z H)(hd:¬z.D id)(hl:aF z al vl)(hc:aF z ac vc):
 Ok P (Instr.makeSlice t vl vc) z K r:=by
 unfold uP at h;split at h
 ·rename_i e hu
  let⟨n,h1,h2⟩:=agZ.1 h
  let⟨m,h3,h4⟩:=agZ.1 h2
  let⟨m',h5,h6⟩:=ZAH.1 h4
  let⟨n',h7,h8⟩:=ZAH.1 h6
  let⟨u,h9,h10⟩:=agZ.1 h8
  let⟨h11,h12⟩:=adZ.1 h10
  let⟨h13,h14⟩:=aKZ.1 h12
  simp[ZAm] at h11
  let⟨h15,h16⟩:=h11
  obtain⟨kl,rfl⟩:=bCZ h1 hl;obtain⟨kc,rfl⟩:=bCZ h3 hc;unfold bL at h5 h7;split at h5
  ·rename_i hm;split at h7
   ·rename_i hn;simp at h5 h7
    let⟨t1,t2,_⟩:=dmZ h9
    let⟨i,v,q1,q2,q3⟩:=cSZ h15
    let⟨c1,c2⟩:=(q3 z.w z.M z.ρ).cells
    have hb:P.bytesOf e=i.bytes:=by simp[Program.bytesOf,q1]
    have hsz:i.size=u.cells:=by
     rw[t1];simp[Program.cellsOf,q1]
    have hroom:bG=140737488355328:=rfl;have hbytes:(i.bytes:Int)*m<=281474976710656:=by
     rw[hb] at h16;have e1:m=(m':Int):=by omega
     have e2:((m'*i.bytes:Nat):Int)<=140737488355328:=by omega
     rw[e1,Int.mul_comm];rw[ZBr] at e2;omega
    have hrun:=run_make z.w t e i v hu q1 q2 kl kc n m hn.1 (by omega) hbytes (by rw[hroom] at hm;omega);rw[hsz] at hrun;have hnm:=by omega
    obtain⟨z',p1,p2,p3,p4⟩:=bgZ hH h13 hd (heap_alloc_new _ _) (okR0 _) rfl ⟨rfl,ZAL _⟩ rfl (fun k hk=>heap_alloc_old _ _ _ hk)
     (by rw[ZCD,size_madeCells];exact ZAf _ (by omega)) t2 (bD.made c1 n' m.toNat (by omega) t2)
    refine .mk' (by rw[p1];exact hrun) p2 ?_ p3 h14;rw[h7];refine .slf _ _ _ _ _ _ (by rw[p4,ZCD]) (by omega) (by rw[size_madeCells];exact ZAL _) ?_;rw[hroom] at hm;unfold maxLen;omega
   ·cases h7
  ·cases h5
 grind
end
section
variable {P : Program} {β : Type} {z : Z} {H : Hp}
theorem g2Z{pl}:∀{parts} {c c'},tE pl c parts=some c'->c'.length=c.length
 |[],c,c',h=>by simp_all[tE]
 |(i,a)::parts,c,c',h=>by
  let⟨⟨off,size⟩,h2,h3⟩:=agZ.1 h
  let⟨l,h4,h5⟩:=agZ.1 h3
  cases hb:(Nat.beq l.length size&&Nat.ble (off+l.length) c.length)<;>rw[hb] at h5<;>simp only[bq_false] at h5
  ·cases h5
  ·rw[g2Z h5,cZZ]
theorem aR.rep{l}{vs}(h:aR z l vs):∀n,aR z (List.replicate n l).flatten (List.replicate n vs).flatten
 |0=>.nil
 |n+1=>by
  exact h.append (aR.rep h n)
theorem q2Z{α:Type}(l:List α)(n):(List.replicate n l).flatten.length=n*l.length:=by simp
theorem gIZ(zs)(n):(madeCells zs (n*zs.size)).toList=(List.replicate n zs.toList).flatten:=by
 rcases ZBq zs.size with h0|h0
 ·have hz:=ZAX (by omega);rw[h0,hz];simp[madeCells]
 ·apply ZBW;intro k;by_cases hk:k<n*zs.size
  ·have hq:=Nat.div_lt_of_lt_mul (by rw[ZCw];exact hk);have hm:k%zs.size<zs.size:=ZCn _ h0;rw[ZAs,njZ _ _ _ hk h0];have:=ibZ (css:=List.replicate n zs.toList) (c:=zs.size) (fun u hu=>by rw[List.eq_of_mem_replicate hu];simp) (k:=k/zs.size) (us:=zs.toList) (by simp[hq]) (q:=k%zs.size) (w:=zs[k%zs.size]) (by simp)
   simp_all[ZCw,Nat.div_add_mod]
  ·rw[ZAw]
   ·simp_all
   ·rw[ZA8,size_madeCells];omega
theorem cxZ(w)(t e)(len)(parts)(cells)(ie)(z)
 (hu:P.underlying t=some (.slice e))(hie:P.info? e=some ie)(hz:ie.zero=some z)(hsmall:¬len*ie.size>2^24)
 (h:Instr.fill (fun i=>some (i*ie.size,ie.size)) (madeCells z.cells (len*ie.size)) parts.toList=some cells):
 (Instr.buildSlice t len parts).run P w= .ok (.slice (some ⟨w.heap.size,0,none⟩) len len) (w.alloc (.cells cells e)):=by
 by_cases hpos:len*ie.size=0
 ·have hm:madeCells z.cells (len*ie.size)=#[]:=by rw[hpos];simp[madeCells]
  rw[hm] at h;simp[Instr.buildSlice,run_underlying hu,sizeOf,typeInfo,hie,hpos,Array.range_zero',h,newRow]
 ·exact run_buildSlice w t e len parts cells ie z hu hie hz hsmall hpos h
theorem gqZ{t}{len}{parts}{vparts}{vs}{rb}{id}{K}{r:β}(h:fQ P t len parts vs rb id H K=some r)(hH:aH z H)(hd:¬z.D id)
 (hp:CW z parts vparts.toList):Ok P (Instr.buildSlice t len vparts) z K r:=by
 unfold fQ at h;simp only[e0Z] at h;split at h
 ·rename_i e hu
  let⟨zl,h1,h2⟩:=agZ.1 h
  let⟨u,h3,h4⟩:=agZ.1 h2
  let⟨h5,h6⟩:=adZ.1 h4
  let⟨c,h7,h8⟩:=agZ.1 h6
  simp only[ZAF,afZ,ZAm] at h5
  let⟨h11,h12⟩:=h5
  have h12':len*u.cells<=16777216:=by rw[<-h11];exact h12
  let⟨t1,t2,_⟩:=dmZ h3
  obtain⟨i,v0,q1,q2,q3,q4⟩:=gyZ h1;have hsz:i.size=u.cells:=by rw[t1];simp[Program.cellsOf,q1]
  have hv0:v0.cells.size=u.cells:=by have:=q3.1;simp at this;omega
  have hcell:P.cellsOf e=i.size:=by simp[Program.cellsOf,q1]
  have hzero:(madeCells v0.cells (len*i.size)).toList=(List.replicate len v0.cells.toList).flatten:=by
   rw[hsz,<-hv0];exact gIZ _ _
  rw[hcell] at h7;obtain⟨cs',p1,p2,p3⟩:=fDZ h7 (by rw[hzero];exact q3.rep len) (fun x hx=>by
   have:x∈(List.replicate len v0.cells.toList).flatten:=by rw[<-hzero];simpa using hx
   obtain⟨y,hy,hxy⟩:=List.mem_flatten.1 this;rw[List.eq_of_mem_replicate hy] at hxy;exact q4 x (by simpa using hxy)) hp.1 hp.2
  cases vs<;>simp only[bq_true,bq_false] at h8
  case true=>
   obtain⟨hu1,hb⟩:=adZ.1 h8;rw[afZ] at hu1;obtain⟨b1,b2⟩:=aKZ.1 hb;have hcl:c.length=len*u.cells:=by rw[g2Z h7,q2Z,h11]
   have hcs:cs'.size=len:=by have:=p2.1;simp at this;rw[hu1,Nat.mul_one] at hcl;omega
   obtain⟨z',d1,d2,d3,d4⟩:=iBZ hH b1 hd (heap_alloc_new _ _) (okF0 _) rfl ⟨rfl,ZAL _⟩ rfl (fun k hk=>heap_alloc_old _ _ _ hk) p2 (fun v hv=>p3 v (by simpa using hv));refine .mk' (by rw[d1];exact cxZ z.w t e len vparts cs' i v0 hu q1 q2 (by rw[hsz];omega) p1) d2 ?_ d3 b2;exact .slf _ _ _ _ _ _ (by rw[d4,hcs]) (ZAL _) (by rw[Nat.mul_one];omega) (by rw[hu1,Nat.mul_one] at h12';unfold maxLen;omega)
  obtain⟨⟨c',H1⟩,h9,h10⟩:=agZ.1 h8;obtain⟨z1,s1,s2,s3,s4,s5⟩:=iNZ hH h9 p2;have hcl:c.length=len*u.cells:=by rw[g2Z h7,q2Z,h11]
  have hc'l:c'.length=len*u.cells:=by
   have e1:=s5.1;have e2:=p2.1;omega
  have hwc:(zB H rb u).cells=u.cells:=by
   unfold zB
   repeat' split
   all_goals first|rfl|(rename_i hq;rw[<-hq];first|rfl|exact(a4Z _).symm)
  generalize zB H rb u=wt at h10 hwc;obtain⟨l,css,a1,a2,a3,a4,a5⟩:=liZ (asm wt) (fun h hr hl h1=>h9Z h hr (by rw[hwc];exact hl) h1) len h10 s5 hc'l (fun v hv=>p3 v (by simpa using hv));obtain⟨b1,b2⟩:=aKZ.1 a5;have hcs:cs'.size=len*u.cells:=by have:=p2.1;simp at this;omega
  obtain⟨z',d1,d2,d3,d4⟩:=bgZ s2 b1 (by rw[s3.dom];exact hd) (heap_alloc_new _ _) (okR0 _) rfl ⟨rfl,ZAL _⟩ rfl (fun k hk=>heap_alloc_old _ _ _ hk)
   (by rw[a1,hcs,hwc];exact ZAL _) (by rw[hwc];exact t2) (by have:=bD.css (by rw[a1,a2]) a4 [];rw[ZAo,<-a3] at this;exact this)
  refine .mk' (by rw[d1,s1];exact cxZ z.w t e len vparts cs' i v0 hu q1 q2 (by rw[hsz];omega) p1) d2 ?_ (s3.trans d3) b2;rw[<-s1];refine .slf _ _ _ _ _ _ (by rw[d4,a1]) (ZAL _) (by rw[hcs];exact ZAL _) ?_;have:len<=len*u.cells:=Nat.le_mul_of_pos_right _ t2;unfold maxLen;omega
 grind
theorem lFZ(w:World)(C)(e)(k):(w.alloc (.cells C e)).freeze ⟨w.heap.size,k,none⟩ 1=w.alloc (.cells C e (k,k+1)):=by
 have hm:∀(a:Array Obj) (x) (f),(a.push x).modify a.size f=a.push (f x):=by
  intro a x f;apply Array.ext
  ·simp
  ·grind
 unfold World.freeze;show({w.alloc (.cells C e) with heap:=(w.heap.push (.cells C e)).modify w.heap.size _}:World)=_;rw[hm]
 rfl
theorem o9Z(w:World)(C)(e):(w.alloc (.cells C e)).shape? w.heap.size=some (e,C.size):=by
 unfold World.shape?;rw[heap_alloc_new]
def eG(l:List UInt8)(c:Nat):Array Value:=(l.map fun b=>Value.int .u8 (b.toNat:Int)).toArray++Array.replicate (c-l.length) (.int .u8 0)
theorem eXZ(w)(l)(e):(Conv.stringToBytes e ⟨⟨l⟩⟩).run P w=
 .ok (.slice (some ⟨w.heap.size,0,none⟩) l.length (grownCap w l.length 0 e)) (w.drew.alloc (.cells (eG l (grownCap w l.length 0 e)) e ((eG l (grownCap w l.length 0 e)).size,(eG l (grownCap w l.length 0 e)).size+1))):=by
 have hs:(w.drew.alloc (.cells (eG l (grownCap w l.length 0 e)) e)).shape? w.heap.size=_:=o9Z w.drew (eG l (grownCap w l.length 0 e)) e;have hf:(w.drew.alloc (.cells (eG l (grownCap w l.length 0 e)) e)).freeze ⟨w.heap.size,_,none⟩ 1=_:=lFZ w.drew (eG l (grownCap w l.length 0 e)) e (eG l (grownCap w l.length 0 e)).size;have hq:(Question.appendCap (⟨⟨l⟩⟩:ByteArray).size 0 e).cut (w.tape w.drawn (.appendCap (⟨⟨l⟩⟩:ByteArray).size 0 e))=grownCap w l.length 0 e:=rfl;have e1:(List.map (fun b=>Value.int IntKind.u8 (b.toNat:Int)) l).toArray++Array.replicate (grownCap w l.length 0 e-(⟨⟨l⟩⟩:ByteArray).size) (Value.int IntKind.u8 0)=eG l (grownCap w l.length 0 e):=rfl;simp[Conv.stringToBytes,newRow,markStringish,hq];rw[e1,hs];simp[hf]
 rfl
theorem nvZ{w}{M}{ρ}(l:List UInt8)(c):bD w M ρ .byte l (eG l c).toList:=fun i x hx=>by
 refine⟨[.int .u8 (x.toNat:Int)],rfl,fun j v hj=> ?_⟩
 grind[ZAB,eG,ZCU,ZAT,Ty.cells]
theorem aH.cut{f}{e}{s}{ms ms2}(hH:aH z H)(hg:aG H (bB f)=some ⟨false,.fam e s ms⟩)(hlen:ms2.length=ms.length)
 (hm:∀(k:Nat) (m),ms2[k]? =some m->m.1≠0->ms[k]? =some m):aH z (aS H (bB f) (some ⟨false,.fam e s ms2⟩))/\
  (∀i x,aQ (aS H (bB f) (some ⟨false,.fam e s ms2⟩)) i=some x->aQ H i=some x/\∀k,i=enc f k->∃m,ms2[k]? =some m/\m.1≠0)/\
  ∀i,aN (aS H (bB f) (some ⟨false,.fam e s ms2⟩)) i=aN H i:=by
 have hX:∀i x,aQ (aS H (bB f) (some ⟨false,.fam e s ms2⟩)) i=some x->aQ H i=some x/\∀k,i=enc f k->∃m,ms2[k]? =some m/\m.1≠0:=fun i x h=>by
  by_cases hi:∃k,i=enc f k
  ·obtain⟨k,rfl⟩:=hi;rw[(bIZ H f _ 0).1 k] at h;simp only[ZAA,pick] at h;cases hk:ms2[k]? with
   |none=>rw[hk] at h;cases h
   |some m=>
    rw[hk] at h;obtain⟨st,l⟩:=m;simp only at h;by_cases h0:st=0
    ·rw[ZAN h0] at h;cases h
    ·refine⟨?_,fun k' hk'=> ?_⟩
     ·rw[cKZ,hg];simp only[ZAA,pick];rw[hm k _ hk h0];exact h
     ·obtain rfl:=(iHZ hk').2;exact⟨_,hk,h0⟩
  ·rw[(bIZ H f _ i).2 fun k h=>hi ⟨k,h⟩] at h;exact⟨h,fun k hk=>absurd ⟨k,hk⟩ hi⟩
 have hK:∀i,cQ (aS H (bB f) (some ⟨false,.fam e s ms2⟩)) i=false->cQ H i=false:=fun i hi=>by
  by_cases hi':∃k,i=enc f k
  ·obtain⟨k,rfl⟩:=hi';rw[(cbZ H f _ 0).1 k] at hi;rw[azZ (ckZ f k),dVZ,n1Z,hg];simpa[Ent.has,hlen] using hi
  ·rwa [(cbZ H f _ i).2 fun k h=>hi' ⟨k,h⟩] at hi
 have hk1:∀i,aN (aS H (bB f) (some ⟨false,.fam e s ms2⟩)) i=aN H i:=fun i=>by
  rw[atZ];by_cases hi:i=bB f
  ·rw[hi,ajZ hg];simp
  ·simp[hi]
 refine⟨⟨fun i x h=>hH.ent i x (hX i x h).1,fun i i' x x' g sz n g' sz' n' hii p1 p2 m1 m2 p3 p4=>hH.inj i i' x x' g sz n g' sz' n' hii (hX _ _ p1).1 (hX _ _ p2).1 m1 m2 p3 p4,fun i hi=>hH.fresh i (hK i hi),hH.sub,fun i x h=> ?_,fun i h=>hH.key i (by rw[<-hk1];exact h),fun i hd h=>hH.dyn i hd (by rw[<-hk1];exact h),hH.nos⟩,hX,hk1⟩;rw[apZ] at h;by_cases hi:i=bB f
 ·rw[ZAN hi] at h;injection h with h;subst h;rw[hi];have hf:=hH.fam _ _ hg;exact hf
 ·rw[ZAM hi] at h;exact hH.fam i x h
theorem aH.same{H'}(hH:aH z H)(h1:∀id,aG H' id=aG H id)(h2:∀id,aN H' id=aN H id):aH z H':=by
 have hX:∀id,aQ H' id=aQ H id:=fun id=>ctZ (h1 _);have hK:∀id,cQ H' id=cQ H id:=fun id=>dGZ (h1 _) (h2 _);exact⟨fun i e hi=>hH.ent i e (by simp_all),fun i i' e e' a sa na a' sa' na' hii q1 q2=>hH.inj i i' e e' a sa na a' sa' na' hii (by simp_all) (by simp_all),fun i hi=>hH.fresh i (by simp_all),hH.sub,
  fun i x h=>hH.fam i x (by simp_all),fun i h=>hH.key i (by simp_all),fun i hd h=>hH.dyn i hd (by simp_all),hH.nos⟩
theorem aH.unset{id}{e}(hg:aG H id=some e)(hH:aH z (aS H id (some e))):aH z H:=by
 refine hH.same (fun k=> ?_) fun k=> ?_
 ·rw[apZ];by_cases h:k=id
  ·subst h;rw[ZAN rfl,hg]
  ·rw[ZAM h]
 simp_all[atZ,ajZ]
theorem u7Z{w}{g}{cs}{e}{fr}(h:w.heap[g]? =some (.cells cs e fr))(hf:okF cs fr):
 ∃w' fr',(markStringish ⟨g,0,none⟩).run P w= .ok () w'/\w'.heap[g]? =some (.cells cs e fr')/\okF cs fr'/\w'.os=w.os/\(w'.tape=w.tape/\w.drawn<=w'.drawn)/\w'.output=w.output/\w'.heap.size=w.heap.size/\∀b,b≠g->w'.heap[b]? =w.heap[b]? :=by
 have hs:w.shape? g=some (e,cs.size):=by unfold World.shape?;rw[h]
 refine⟨w.freeze ⟨g,cs.size,none⟩ 1,(if fr.1==fr.2 then(cs.size,cs.size+1) else(min fr.1 cs.size,max fr.2 (cs.size+1))),by simp[markStringish,hs],?_,?_,rfl,⟨rfl,ZAL _⟩,rfl,?_,fun b hb=> ?_⟩
 ·simp[World.freeze,ZCE,h]
 ·grind[okF]
 ·simp[World.freeze]
 ·simp[World.freeze,ZCE,ZBf hb]
theorem iGZ{src dst}{a}{v}{id}{K}{r:β}(h:iO P src dst a id H K=some r)(hH:aH z H)(hD:P.underlying src=some .string->¬z.D id)(ha:aF z a v):Ok P (convert src dst v) z K r:=by
 unfold iO at h;split at h
 ·rename_i e hs hd;cases hb:isB P e<;>rw[hb] at h<;>simp only[bq_true,bq_false] at h
  ·cases h
  let⟨l,h1,h2⟩:=agZ.1 h
  let⟨h3,h4⟩:=adZ.1 h2
  let⟨h5,h6⟩:=aKZ.1 h4
  rw[ZAm] at h3;obtain rfl:=eoZ h1 ha;have he:=uDZ hb;have hroom:bG=140737488355328:=rfl;have hrun:(convert src dst (.string ⟨⟨l⟩⟩)).run P z.w=(Conv.stringToBytes e ⟨⟨l⟩⟩).run P z.w:=by
   simp[convert,run_underlying hs,run_underlying hd,run_underlying he]
  have hge:=grownCap_ge z.w l.length 0 e;have hbs:(eG l (grownCap z.w l.length 0 e)).size=grownCap z.w l.length 0 e:=by simp[eG];omega
  obtain⟨z',p1,p2,p3,p4⟩:=bgZ (u:=.byte) (w':=z.w.drew.alloc (.cells (eG l (grownCap z.w l.length 0 e)) e ((eG l (grownCap z.w l.length 0 e)).size,(eG l (grownCap z.w l.length 0 e)).size+1))) hH h5 (hD hs)
   (heap_alloc_new z.w.drew _) (.inr ⟨rfl,ZAL _⟩) rfl ⟨rfl,ZBd _⟩ rfl (fun k hk=>heap_alloc_old z.w.drew _ _ hk)
   (by rw[hbs];simp[Ty.cells];exact hge) (by decide) (nvZ _ _)
  refine .mk' (by rw[p1];exact hrun.trans (eXZ z.w l e)) p2 ?_ p3 h6;exact .slf _ _ _ _ _ _ p4 hge (by rw[hbs,Nat.mul_one];exact ZAL _) (grownCap_le_maxLen _ _ _ _ (by unfold maxLen;omega))
 ·rename_i e0 e hs hd;split at h
  ·rename_i es old;split at h
   ·rename_i e' l hg;cases hb:(Nat.beq src dst&&isB P e&&Nat.beq es 1)<;>rw[hb] at h<;>simp only[bq_true,bq_false] at h
    ·cases h
    simp[afZ] at hb;obtain⟨⟨rfl,hB⟩,rfl⟩:=hb;obtain rfl:e0=e:=by rw[hs] at hd;simpa using hd
    let⟨h1,h2⟩:=adZ.1 h
    have h1':=by simpa[ZBX] using h1
    have he:=uDZ hB;cases ha with
    |slfV _ _ A hρ=>
     obtain⟨rfl,_⟩:=hH.virt hg hρ;exact absurd h1' (ZA1 _)
    |slf _ _ g sz n c hρ hn hs' hm=>
     let⟨b1,b2,b3,b4⟩:=hH.real hg hρ
     let⟨cs,fr,a1,a2,a3,a4,a5,a6,a7⟩:=b4
     let⟨w',fr',m1,m2,m3,m4,m5,m6,m7,m8⟩:=u7Z (P:=P) a1 a2.f
     obtain⟨p1,p2⟩:=hH.write (b:=.rows e' .byte l) hg hρ m4 m5 m6 m7 m8 (fun k=>by
      refine⟨cs,fr',m2,m3.imp (fun h=>h) (fun h=>⟨rfl,h⟩),a3,a4,a5,a6,fun i x hx=> ?_⟩
      let⟨u,c1,c2⟩:=a7 i x hx
      exact⟨u,c1.kp k,c2⟩)
     refine .mk' ?_ (p1.unset hg) (.slf _ _ _ _ _ _ hρ hn hs' hm) p2 h2;simp only[convert,Sem.run_bind,run_underlying hd,Result.andThen_ok,run_underlying he,ZAd,m1]
     rfl
   ·cases h
  ·cases h
 grind
end
section
variable {P : Program} {β : Type} {z : Z} {H : Hp}
theorem aH.moveX{old id g sz n n'}{b0 b}{w'}{H1}(hH:aH z H)(hg:aQ H old=some ⟨false,b0⟩)(hρ:z.ρ old= .real g sz n)(h1H:aH z H1)(hX1:∀i e,aQ H1 i=some e->aQ H i=some e/\i≠old/\¬(Ro i/\Ro old))(hk:aN H1 id=false/\id<aA)(hd:¬z.D id)
 (hos:w'.os=z.w.os)(htape:w'.tape=z.w.tape/\z.w.drawn<=w'.drawn)(hout:w'.output=z.w.output)(hsz:w'.heap.size=z.w.heap.size)(hne:∀b,b≠g->w'.heap[b]? =z.w.heap[b]?)
 (hb:∀z',z'.w=w'->Kp z z'->fX z' g sz n' b):
 ∃z',z'.w=w'/\aH z' (aS H1 id (some ⟨false,b⟩))/\Nx z z'/\z'.ρ id= .real g sz n':=by
 obtain⟨hk,hid⟩:=hk;have hC:=(hH.realX hg hρ).2.1 rfl;have hno:=(h1H.fresh id (by simp_all[aDZ])).resolve_right hd
 let z':={z with w:=w',ρ:=fun i=>if i=id then .real g sz n' else z.ρ i}
 have e1:∀i,i≠id->z'.ρ i=z.ρ i:=fun i hi=>ZAM hi;have e2:z'.ρ id= .real g sz n':=ZAN rfl;have hn:Nx z z':=⟨hos,htape,hout,Nat.le_of_eq hsz.symm,fun b _ hb=>hne b (fun h=>hb (h▸hC)),fun _ h=>.inl h,fun _ h=>.inl h,fun _ _ h _=>h,fun i hi=>e1 i (by grind),rfl⟩;have hkp:=hn.kp hH.sub;have hold:∀i e,i≠id->aQ (aS H1 id (some ⟨false,b⟩)) i=some e->aQ H i=some e/\i≠old/\¬(Ro i/\Ro old):=fun i e hi h=>by
  rw[a9Z hid,ZAM hi] at h
  grind
 have s:=h1H.side (z':=z') (e:=some ⟨false,b⟩) hid (fun x hx=>by injection hx with hx;subst hx;exact(hb z' rfl hkp).famOk hid) rfl (fun i h1 _=>e1 i (by omega));refine⟨z',rfl,⟨fun i e hi=> ?_,fun i i' e e' a sa na a' sa' na' hii h1 h2 m1 m2 h3 h4=> ?_,fun i hi=> ?_,hH.sub,s.1,s.2.1,s.2.2.1,s.2.2.2⟩,hn,e2⟩
 ·by_cases h:i=id
  ·subst h;rw[a9Z hid,ZAN rfl] at hi;injection hi with hi;subst hi;unfold dX;rw[e2];exact⟨by show g<w'.heap.size;rw[hsz];exact(hH.realX hg hρ).1,fun _=>hC,(fun h=>by cases h),hb z' rfl hkp⟩
  ·obtain⟨hi,ho,hr⟩:=hold i e h hi;refine(hH.ent _ _ hi).kp hkp fun a sa na ha=>⟨hne a (fun hag=> ?_),fun h=>h⟩;subst hag;exact hH.ne ho hi hg rfl ha hρ hr rfl
 ·by_cases hi:i=id
  ·have hi':i'≠id:=fun h=>hii (hi.trans h.symm);obtain⟨h2,ho,hr⟩:=hold i' e' hi' h2;rw[hi,e2] at h3;rw[e1 _ hi'] at h4;injection h3 with h3;subst h3;exact fun _=>hH.inj old i' _ _ _ _ _ _ _ _ (ZBf ho) hg h2 rfl m2 hρ h4 fun h=>hr h.symm
  ·obtain⟨h1,ho,hr⟩:=hold i e hi h1;rw[e1 _ hi] at h3;by_cases hi':i'=id
   ·rw[hi',e2] at h4;injection h4 with h4;subst h4;exact fun _=>hH.inj i old _ _ _ _ _ _ _ _ ho h1 hg m1 rfl h3 hρ hr
   ·obtain⟨h2,ho',_⟩:=hold i' e' hi' h2;rw[e1 _ hi'] at h4;exact hH.inj i i' _ _ _ _ _ _ _ _ hii h1 h2 m1 m2 h3 h4
 ·rw[bxZ hid] at hi;simp at hi;rw[e1 _ hi.1];exact h1H.fresh i hi.2
theorem aH.move{old id g sz n n'}{b0 b}{w'}(hH:aH z H)(hg:aG H old=some ⟨false,b0⟩)(hρ:z.ρ old= .real g sz n)(hk:aN (aS H old none) id=false/\id<aA)(hd:¬z.D id)
 (hos:w'.os=z.w.os)(htape:w'.tape=z.w.tape/\z.w.drawn<=w'.drawn)(hout:w'.output=z.w.output)(hsz:w'.heap.size=z.w.heap.size)(hne:∀b,b≠g->w'.heap[b]? =z.w.heap[b]?)
 (hb:∀z',z'.w=w'->Kp z z'->fX z' g sz n' b):
 ∃z',z'.w=w'/\aH z' (aS (aS H old none) id (some ⟨false,b⟩))/\Nx z z'/\z'.ρ id= .real g sz n':=by
 have hlow:=hH.low hg (aVZ hρ);refine hH.moveX (hH.x hg (aVZ hρ)) hρ (hH.kill (ajZ hg)) (fun i e h=> ?_) hk hd hos htape hout hsz hne hb
 simp_all[a9Z,bSZ]
theorem bD.append{w}{M}{ρ}{u}{l m}{cs cs'}{css:List (List Value)}(h:bD w M ρ u l cs)(hl:css.length=m.length)
 (hm:∀(i:Nat) e us,m[i]? =some e->css[i]? =some us->Cl w M ρ u e us)(h1:∀q,q<l.length*u.cells->cs'[q]? =cs[q]?)(h2:∀q v,css.flatten[q]? =some v->cs'[l.length*u.cells+q]? =some v):
 bD w M ρ u (l++m) cs':=fun i x hx=>by
 by_cases hi:i<l.length
 ·rw[ZAT hi] at hx
  let⟨us,a1,a2⟩:=h i x hx
  refine⟨us,a1,fun j v hj=> ?_⟩;have hjl:=by
   have:=(ZAB.1 hj).1;rw[a1.len] at this;exact this
  rw[h1 _ (mqZ hi hjl)];exact a2 j v hj
 ·rw[ZAV (by omega)] at hx
  let⟨us,a1,a2⟩:=bD.css hl hm [] _ x hx
  refine⟨us,a1,fun j v hj=> ?_⟩;have:=a2 j v hj;rw[ZAo] at this;have:=h2 _ _ this;rw[<-this];congr 1;obtain⟨d,hd⟩:∃d,i=l.length+d:=⟨i-l.length,by omega⟩;subst hd;rw[ZA9,ZAr];omega
theorem bD.take{w}{M}{ρ}{u}{l}{cs}(h:bD w M ρ u l cs)(n):bD w M ρ u (l.take n) cs:=fun i x hx=>by
 rw[ZAq] at hx;split at hx
 ·exact h i x hx
 simp_all
theorem tZZ(b o j):(⟨b,o,none⟩:Addr).add j=⟨b,o+j,none⟩:=by unfold Addr.add;simp_all
theorem eF.src{u}{m}{v}{tx}(hk:(∃e',P.underlying tx=some (.slice e'))\/P.underlying tx=some .string)(h:eF z u m v):
 ∃css:List (List Value),Src P u.cells tx v m.length css.flatten z.w/\css.length=m.length/\∀(i:Nat) e us,m[i]? =some e->css[i]? =some us->Cl z.w z.M z.ρ u e us:=by
 rcases h with⟨hu,rfl⟩|⟨A,c,rfl,hc,hm,hA⟩
 ·subst hu;refine⟨m.map fun b=>[Value.int .u8 (b.toNat:Int)],?_,by simp,fun i e us h1 h2=> ?_⟩
  ·have e1:(List.map (fun b:UInt8=>[Value.int .u8 (b.toNat:Int)]) m).flatten=byteCells ⟨⟨m⟩⟩:=by
    show _=List.map _ m;generalize (m:List UInt8)=q;induction q with
    |nil=>rfl
    |cons b q ih=>grind
   rw[e1];exact⟨hk,fun _=>rfl,firstCells_string ⟨⟨m⟩⟩ z.w,firstCells_string ⟨⟨m⟩⟩ z.w.drew,by rw[byteCells_length];simp[Ty.cells];rfl,fun u hu=>by
    obtain⟨_,_,rfl⟩:=ZBM.1 hu
    rfl⟩
  ·rw[ZAY] at h2;obtain⟨b,h3,rfl⟩:=ZAI.1 h2;have:=h1.symm.trans h3;injection this with this;subst this
   rfl
 ·by_cases h0:m.length=0
  ·obtain rfl:m=[]:=ZAX h0;refine⟨[],⟨hk,fun _=>rfl,?_,?_,by simp,fun _ h=>by cases h⟩,rfl,fun i e us h=>by grind⟩
   ·cases A with
    |none=>exact run_firstCells_none z.w u.cells 0 0 c
    |some a=>exact run_firstCells_some z.w u.cells 0 a 0 c [] (by simp) (fun j v h=>by grind)
   ·cases A with
    |none=>exact run_firstCells_none z.w.drew u.cells 0 0 c
    |some a=>exact run_firstCells_some z.w.drew u.cells 0 a 0 c [] (by simp) (fun j v h=>by grind)
  ·obtain⟨b,off,rfl,_,hr⟩:=hA h0;obtain⟨css,q1,q2,q3⟩:=hr.cells;have hl:css.flatten.length=m.length*u.cells:=by rw[baZ (cYZ q1 q2),q1]
   have hcell:∀j v,css.flatten[j]? =some v->z.w.cell? ((⟨b,off,none⟩:Addr).add j)=some v:=fun j v hj=>by rw[tZZ];exact q3 j v hj
   refine⟨css,⟨hk,fun _=>rfl,run_firstCells_some z.w u.cells _ _ _ _ _ hl hcell,run_firstCells_some z.w.drew u.cells _ _ _ _ _ hl hcell,hl,fun v hv=> ?_⟩,q1,q2⟩;obtain⟨us,h1,h2⟩:=List.mem_flatten.1 hv;obtain⟨k,hk⟩:=ZAP h1;obtain⟨e,he⟩:=bfZ (l:=m) q1 hk;exact(q2 k e us he hk).one v h2
theorem eF.lift{t}{m}{v}(h:eF z t.unref m v):eF z t (m.map (bY t)) v:=by
 rcases h with⟨hb,rfl⟩|⟨A,c,rfl,h1,h2,h3⟩
 ·cases t<;>first|(cases hb;done)|skip;refine .inl ⟨rfl,?_⟩;have:(m.map (bY .byte))=m:=List.map_id m
  grind
 ·have hl:(m.map (bY t)).length=m.length:=ZAl _;refine .inr ⟨A,c,by rw[hl],by rw[hl];exact h1,h2,fun h0=> ?_⟩;rw[hl] at h0
  let⟨b,off,q1,q2,q3⟩:=h3 h0
  refine⟨b,off,q1,q2,fun i x hx=> ?_⟩;rw[ZAY] at hx;obtain⟨y,hy,rfl⟩:=ZAI.1 hx
  let⟨us,p1,p2⟩:=q3 i y hy
  rw[a4Z] at p2;exact⟨us,eDZ p1,p2⟩
theorem roZ{e}{n}(h:AB P e n=true):∃i v,P.info? e=some i/\i.zero=some v/\v.cells.size=n:=by
 grind[AB,afZ]
theorem k0Z{e}{n}{i}(h:mX P e n=true)(hi:P.info? e=some i):n*i.bytes<=140737488355328/\n<=140737488355328:=by
 unfold mX at h;simp[ZAm] at h;have hb:P.bytesOf e=i.bytes:=by simp[Program.bytesOf,hi]
 rw[hb] at h;exact h
theorem deZ{t tx ty e}{A}{u}{m}{x}{id}{K}{r:β}(hH:aH z H)(hk:aN H id=false/\id<aA)(hd:¬z.D id)(hu:P.underlying t=some (.slice e))
 (hc:u.cells=P.cellsOf e)(hc0:0<u.cells)(hz:AB P e u.cells=true)(hroom:mX P e m.length=true)
 (hkd:(∃e',P.underlying tx=some (.slice e'))\/P.underlying tx=some .string)(hx:eF z u m x)(h:K (.slf u.cells id) (aS H id (some ⟨false,.rows e u m⟩))=some r):
 Ok P (Builtin.append_ #[t,tx] ty #[.slice A 0 0,x]) z K r:=by
 obtain⟨i,v,q1,q2,q3⟩:=roZ hz;obtain⟨r1,r2⟩:=k0Z hroom q1;have hsz:i.size=u.cells:=by rw[hc];simp[Program.cellsOf,q1]
 obtain⟨css,s1,s2,s3⟩:=hx.src hkd;rcases ZBq m.length with h0|h0
 ·obtain rfl:m=[]:=ZAX h0;obtain rfl:css=[]:=ZAX s2;obtain⟨z',p1,p2,p3,p4⟩:=hH.newV (b:=.rows e u []) hk hd ⟨rfl,hc0⟩;exact .mk' (by rw[p1];exact run_append_nothing z.w t tx ty e i hu q1 A 0 0 (ZAL _) x (by simp_all)) p2 (.slfV _ _ A p4) p3 h
 ·have hge:=grownCap_ge z.w m.length 0 e;have hrun:=run_append_grow_src (P:=P) z.w t tx ty e i v hu q1 q2 A 0 0 [] (by cases A with
   |none=>exact run_firstCells_none z.w.drew i.size 0 0 0
   |some a=>exact run_firstCells_some z.w.drew i.size 0 a 0 0 [] (by simp) (fun j v h=>by grind)) x m.length css.flatten (by simp_all) (by omega) (by omega) (growslice_fits (by omega) (by simp_all))
  rw[ZA5,ZBh] at hrun;have hcs:(css.flatten.toArray++Builtin.zeroCells v.cells (grownCap z.w m.length 0 e-m.length)).size=grownCap z.w m.length 0 e*u.cells:=by
   rw[ZBY,size_zeroCells,q3,ZBK,baZ (n:=u.cells) (cYZ s2 s3),s2,<-Nat.add_mul];congr 1;omega
  obtain⟨z',p1,p2,p3,p4⟩:=bgZ (z:=z) (w':=z.w.drew.alloc (.cells (css.flatten.toArray++Builtin.zeroCells v.cells (grownCap z.w m.length 0 e-m.length)) e)) (e:=e) (l:=m) hH hk hd
   (heap_alloc_new z.w.drew _) (okR0 _) rfl ⟨rfl,ZBd _⟩ rfl (fun k hk=>heap_alloc_old z.w.drew _ _ hk) (by simp_all[ZAf]) hc0 (by
    grind[ZCU,bD.css])
  exact .mk' (by simp_all) p2 (.slf _ _ _ _ _ _ p4 hge (by omega) (grownCap_le_maxLen _ _ _ _ (by unfold maxLen;omega))) p3 h
theorem lsZ{t tx ty e e'}{u}{l m}{x}{id g c}{i:TypeInfo}{v:Value}{css:List (List Value)}{cs}{fr}{Hk}(hK:aH z Hk)(hk:aN Hk id=false/\id<aA)(hd:¬z.D id)
 (a1:z.w.heap[g]? =some (.cells cs e' fr))(hin:bD z.w z.M z.ρ u l cs.toList)(hls:l.length*u.cells<=cs.size)(hc0:0<u.cells)(hsz:i.size=u.cells)(q3:v.cells.size=u.cells)(hbig:l.length+m.length<=140737488355328)
 (s2:css.length=m.length)(s3:∀(i:Nat) e us,m[i]? =some e->css[i]? =some us->Cl z.w z.M z.ρ u e us)(hlt:c<l.length+m.length)
 (hgrow:∀olds,(Builtin.firstCells i.size l.length (.slice (some ⟨g,0,none⟩) l.length c)).run P z.w.drew= .ok olds.toArray z.w.drew->c<l.length+m.length->
  (Builtin.append_ #[t,tx] ty #[.slice (some ⟨g,0,none⟩) l.length c,x]).run P z.w= .ok (.slice (some ⟨z.w.heap.size,0,none⟩) (l.length+m.length) (grownCap z.w (l.length+m.length) c e))
   (z.w.drew.alloc (.cells ((olds++css.flatten).toArray++Builtin.zeroCells v.cells (grownCap z.w (l.length+m.length) c e-(l.length+m.length))) e))):
 ∃z' V,(Builtin.append_ #[t,tx] ty #[.slice (some ⟨g,0,none⟩) l.length c,x]).run P z.w= .ok V z'.w/\aH z' (aS Hk id (some ⟨false,.rows e u (l++m)⟩))/\Nx z z'/\aF z' (.slf u.cells id) V:=by
 have hfl:css.flatten.length=m.length*u.cells:=by rw[baZ (n:=u.cells) (cYZ s2 s3),s2]
 have hgc:=grownCap_ge z.w (l.length+m.length) c e;have holds:∀j v,(cs.toList.take (l.length*u.cells))[j]? =some v->z.w.cell? ((⟨g,0,none⟩:Addr).add j)=some v:=fun j v hj=>by
  rw[tZZ,bzZ a1,ZA5]
  grind
 have hol:(cs.toList.take (l.length*u.cells)).length=l.length*u.cells:=by rw[ZAS,ZA8 (xs:=cs)];omega
 have hrun:=hgrow (cs.toList.take (l.length*u.cells)) (by
  rw[hsz];exact run_firstCells_some z.w.drew _ _ _ _ _ _ hol holds) hlt
 have hcs':((cs.toList.take (l.length*u.cells)++css.flatten).toArray++Builtin.zeroCells v.cells (grownCap z.w (l.length+m.length) c e-(l.length+m.length))).size=grownCap z.w (l.length+m.length) c e*u.cells:=by
  rw[ZBY,size_zeroCells,q3,ZBK,ZAe,hol,hfl,<-Nat.add_mul,<-Nat.add_mul];congr 1;omega
 obtain⟨z',p1,p2,p3,p4⟩:=bgZ (z:=z) (w':=z.w.drew.alloc (.cells ((cs.toList.take (l.length*u.cells)++css.flatten).toArray++Builtin.zeroCells v.cells (grownCap z.w (l.length+m.length) c e-(l.length+m.length))) e)) (e:=e) (l:=l++m) hK hk hd
  (heap_alloc_new z.w.drew _) (okR0 _) rfl ⟨rfl,ZBd _⟩ rfl (fun k hk=>heap_alloc_old z.w.drew _ _ hk) (by simp_all[ZAe,ZAf]) hc0 (by
   refine hin.append s2 s3 (fun q hq=> ?_) fun q v hq=> ?_
   ·grind
   ·have hq':=(ZAB.1 hq).1
    simp_all[ZCU,ZAT,ZAe,ZAV,ZA9])
 exact⟨z',_,by rw[p1];exact hrun,p2,p3,.slf _ _ _ _ _ _ (by rw[p4,ZAe]) hgc (by omega) (grownCap_le_maxLen _ _ _ _ (by unfold maxLen;omega))⟩
theorem kUZ{t tx ty e}{u}{l m}{L}{x}{id old g sz n c}{K}{r:β}{i:TypeInfo}{v:Value}{css:List (List Value)}(hH:aH z H)(hg:aG H old=some ⟨false,.rows e u L⟩)(hρ:z.ρ old= .real g sz n)
 (hk:aN (aS H old none) id=false/\id<aA)(hd:¬z.D id)(hl:∃k,l=L.take k)(hlc:l.length<=c)(hcs:c*u.cells<=sz)(hcm:c<=maxLen)
 (hc0:0<u.cells)(hsz:i.size=u.cells)(q3:v.cells.size=u.cells)(hbig:l.length+m.length<=140737488355328)(s2:css.length=m.length)(s3:∀(i:Nat) e us,m[i]? =some e->css[i]? =some us->Cl z.w z.M z.ρ u e us)
 (hgrow:∀olds:List Value,(Builtin.firstCells i.size l.length (.slice (some ⟨g,0,none⟩) l.length c)).run P z.w.drew= .ok olds.toArray z.w.drew->c<l.length+m.length->
  (Builtin.append_ #[t,tx] ty #[.slice (some ⟨g,0,none⟩) l.length c,x]).run P z.w= .ok (.slice (some ⟨z.w.heap.size,0,none⟩) (l.length+m.length) (grownCap z.w (l.length+m.length) c e))
   (z.w.drew.alloc (.cells ((olds++css.flatten).toArray++Builtin.zeroCells v.cells (grownCap z.w (l.length+m.length) c e-(l.length+m.length))) e)))
 (hroomR:l.length+m.length<=c->(∀j,j<css.flatten.length->(z.w.cell? ⟨g,0+l.length*i.size+j,none⟩).isSome=true)->(∀j,j<css.flatten.length->z.w.frozen? ⟨g,0+l.length*i.size+j,none⟩=false)->
  (Builtin.append_ #[t,tx] ty #[.slice (some ⟨g,0,none⟩) l.length c,x]).run P z.w= .ok (.slice (some ⟨g,0,none⟩) (l.length+m.length) c) (z.w.setCells g (0+l.length*i.size) css.flatten))
 (h:K (.slf u.cells id) (aS (aS H old none) id (some ⟨false,.rows e u (l++m)⟩))=some r):
 Ok P (Builtin.append_ #[t,tx] ty #[.slice (some ⟨g,0,none⟩) l.length c,x]) z K r:=by
 have hfl:css.flatten.length=m.length*u.cells:=by rw[baZ (n:=u.cells) (cYZ s2 s3),s2]
 obtain⟨_,_,_,cs,fr,a1,a2,a3,a4,a5,a6,a7⟩:=hH.real hg hρ;obtain⟨k,hk'⟩:=hl;have hin:bD z.w z.M z.ρ u l cs.toList:=by
  rw[hk'];refine bD.take (fun i x hx=> ?_) k;obtain⟨us,b1,b2⟩:=a7 i x hx;exact⟨us,b1,fun j v hj=>by simp_all⟩
 have hlsz:l.length*u.cells<=c*u.cells:=ZAf _ hlc;rcases ZBy c (l.length+m.length) with hlt|hge
 ·obtain⟨z',V,p1,p2,p3,p4⟩:=lsZ (hH.kill (ajZ hg)) hk hd a1 hin (by omega) hc0 hsz q3 hbig s2 s3 hlt hgrow;exact .mk' p1 p2 p4 p3 h
 ·have hfit:l.length*u.cells+m.length*u.cells<=cs.size:=by
   have:(l.length+m.length)*u.cells<=c*u.cells:=ZAf _ hge;rw[ZAr] at this;omega
  have hth:=diZ (o:=0+l.length*i.size) (n:=css.flatten.length) a1 a2.f (by simp_all);have hrun:=hroomR hge (fun j hj=>(hth j hj).1) (fun j hj=>(hth j hj).2);obtain⟨w1,w2,w3,w4⟩:=arZ css.flatten z.w g (0+l.length*i.size);obtain⟨z',p1,p2,p3,p4⟩:=hH.move (n':=(l++m).length) (b:=.rows e u (l++m)) hg hρ hk hd w2 w3 w4 w1 (fun b hb=>amZ _ _ _ _ _ hb) (fun z' hz kk=>by
   refine⟨_,fr,(by rw[hz];exact anZ _ _ _ _ _ _ _ a1),eiZ a2 (alZ _ _ _),by rw[alZ];exact a3,rfl,?_,a6,?_⟩
   ·rw[ZAe,ZAr];omega
   ·have:=(hin.append (cs':=(dC cs (0+l.length*i.size) css.flatten).toList) s2 s3 (fun q hq=> ?_) fun q v hq=> ?_).kp kk
    ·intro i x hx;obtain⟨us,b1,b2⟩:=this i x hx;exact⟨us,b1,fun j v hj=>by simpa using b2 j v hj⟩
    ·rw[hsz,ZAs,auZ _ _ _ _ (by omega),ZAM (by omega)];simp
    ·have hq':=(ZAB.1 hq).1;rw[hsz,ZAs,auZ _ _ _ _ (by omega),ZAN (by omega),<-hq];congr 1;omega)
  have hv:aF z' (.slf u.cells id) (.slice (some ⟨g,0,none⟩) (l.length+m.length) c):=by
   have:=aF.slf (z:=z') u.cells id g sz (l++m).length c p4 (by rw[ZAe];exact hge) hcs hcm;rwa [ZAe] at this
  exact .mk' (by rw[p1];exact hrun) p2 hv p3 h
theorem hAZ{t tx ty e}{u}{l m}{L}{x}{id old g sz n c}{K}{r:β}(hH:aH z H)(hg:aG H old=some ⟨false,.rows e u L⟩)(hρ:z.ρ old= .real g sz n)
 (hk:aN (aS H old none) id=false/\id<aA)(hd:¬z.D id)(hu:P.underlying t=some (.slice e))(hl:∃k,l=L.take k)(hlc:l.length<=c)(hcs:c*u.cells<=sz)(hcm:c<=maxLen)
 (hc:u.cells=P.cellsOf e)(hc0:0<u.cells)(hz:AB P e u.cells=true)(hroom:mX P e (l.length+m.length)=true)
 (hkd:(∃e',P.underlying tx=some (.slice e'))\/P.underlying tx=some .string)(hx:eF z u m x)(h:K (.slf u.cells id) (aS (aS H old none) id (some ⟨false,.rows e u (l++m)⟩))=some r):
 Ok P (Builtin.append_ #[t,tx] ty #[.slice (some ⟨g,0,none⟩) l.length c,x]) z K r:=by
 obtain⟨i,v,q1,q2,q3⟩:=roZ hz;obtain⟨r1,r2⟩:=k0Z hroom q1;have hsz:i.size=u.cells:=by rw[hc];simp[Program.cellsOf,q1]
 obtain⟨css,s1,s2,s3⟩:=hx.src hkd;exact kUZ (i:=i) (v:=v) (css:=css) hH hg hρ hk hd hl hlc hcs hcm hc0 hsz q3 (by omega) s2 s3
  (fun olds ho hlt=>run_append_grow_src (P:=P) z.w t tx ty e i v hu q1 q2 (some ⟨g,0,none⟩) l.length c olds ho x m.length css.flatten (by rw[hsz];exact s1) hlt (by omega) (growslice_fits hlt r1))
  (fun hge h1 h2=>run_append_room_src (P:=P) z.w t tx ty e i hu q1 g 0 l.length c x m.length css.flatten (by rw[hsz];exact s1) hge h1 h2) h
theorem gkZ{t tx}(ty){a ax}{v vx}{id}{K}{r:β}(h:kI P t a ax id H K=some r)(hH:aH z H)(hd:¬z.D id)(ha:aF z a v)(hx:aF z ax vx)
 (hkd:(∃e',P.underlying tx=some (.slice e'))\/P.underlying tx=some .string):Ok P (Builtin.append_ #[t,tx] ty #[v,vx]) z K r:=by
 unfold kI at h;split at h
 ·rename_i e hu
  let⟨u,h1,h2⟩:=agZ.1 h
  let⟨t1,t2,_⟩:=dmZ h1
  let⟨m,hm,h3⟩:=g1Z h2 hH hx
  split at h3
  ·obtain rfl:=ha.v.opq.1
   let⟨h4,h5⟩:=adZ.1 h3
   let⟨h6,h7⟩:=aKZ.1 h5
   rw[ZAF] at h4;exact deZ hH h6 hd hu t1 t2 h4.1 h4.2 hkd hm h7
  ·rename_i es old;split at h3
   ·rename_i e' t' l hg;have key:∀(m'),eF z t' m' vx->t'.cells=P.cellsOf e->0<t'.cells->aP (AB P e t'.cells&&Nat.beq e e'&&Nat.beq es t'.cells&&mX P e (l.length+m'.length)) (gA (aS H old none) id (.rows e t' (l++m')) fun H'=>K (.slf es id) H')=some r->Ok P (Builtin.append_ #[t,tx] ty #[v,vx]) z K r:=fun m' hm t1 t2 h4=>by
     let⟨h5,h6⟩:=adZ.1 h4
     let⟨h7,h8⟩:=aKZ.1 h6
     simp[afZ] at h5;obtain⟨⟨⟨h9,rfl⟩,rfl⟩,h10⟩:=h5;cases ha with
     |slfV _ _ A hρ=>
      obtain⟨rfl,_⟩:=hH.virt hg hρ;exact deZ (hH.kill (ajZ hg)) h7 hd hu t1 t2 h9 (by simpa using h10) hkd hm h8
     |slf _ _ g sz n c hρ hn hs hm'=>
      have hl:l.length=n:=by let⟨_,_,_,cs,fr,a1,a2,a3,a4,_⟩:=hH.real hg hρ;exact a4
      subst hl;exact hAZ hH hg hρ h7 hd hu ⟨l.length,(ZAu).symm⟩ hn hs hm' t1 t2 h9 h10 hkd hm h8
    rcases aUZ h3 with⟨rfl,h4⟩|h4
    ·exact key m hm t1 t2 h4
    ·rcases aUZ h4 with⟨rfl,h5⟩|h5
     ·rw[a4Z] at t1 t2;refine key (m.map (bY t')) hm.lift t1 t2 ?_;rw[ZAl];simp[a4Z] at h5⊢;exact h5
     ·cases h5
   ·cases h3
  ·rename_i es old n;split at h3
   ·rename_i e' t' l hg;rcases aUZ h3 with⟨rfl,h4⟩|h4
    ·let⟨h5,h6⟩:=adZ.1 h4
     let⟨h7,h8⟩:=aKZ.1 h6
     simp only[ZAF,afZ,ZAm] at h5;obtain⟨⟨⟨⟨h9,rfl⟩,rfl⟩,h11⟩,h10⟩:=h5;have hz:∀{q},q=[]->(l.take 0++q)=q:=fun _=>by simp
     cases ha with
     |slV _ _ _ A hρ=>
      exact deZ (hH.kill (ajZ hg)) h7 hd hu t1 t2 h9 (by simpa using h10) hkd hm (by simpa using h8)
     |slE _ _ _ g sz m' o hρ=>
      exact deZ (hH.kill (ajZ hg)) h7 hd hu t1 t2 h9 (by simpa using h10) hkd hm (by simpa using h8)
     |sl _ _ _ _ g sz m' c hρ hn hs hm'=>
      have hl:(l.take n).length=n:=by rw[ZAS];omega
      rw[ZA5] at hs;rw[ZBu];have:=hAZ (ty:=ty) hH hg hρ h7 hd hu ⟨n,rfl⟩ (by rw[hl];exact hn) hs hm' t1 t2 h9 (by rw[hl];exact h10) hkd hm h8;rwa [hl] at this
    ·cases h4
   ·cases h3
  ·cases h3
 grind
end
section
variable {P : Program} {β : Type} {z : Z} {H : Hp}
theorem r0Z(z)(n):Builtin.zeroCells z n=madeCells z (n*z.size):=rfl
theorem oaZ(z):Builtin.zeroCells z 0=#[]:=by simp[Builtin.zeroCells]
theorem pfZ(w)(t tx ty e)(i)(zv)(k kx)(ht:P.underlying t=some (.slice e))(hk:P.underlying tx=some (.int k))(hi:P.info? e=some i)(hz:i.zero=some zv)
 (x)(n:Nat)(hx:x=(n:Int))(hn:n<=140737488355328)(hb:n*i.bytes<=140737488355328)(hs:i.size≠0)(b off sLen sCap:Nat)(hroom:sLen+n<=sCap)
 (hc:∀j,j<(Builtin.zeroCells zv.cells n).toList.length->(w.cell? ⟨b,off+sLen*i.size+j,none⟩).isSome=true)(hf:∀j,j<(Builtin.zeroCells zv.cells n).toList.length->w.frozen? ⟨b,off+sLen*i.size+j,none⟩=false)
 (h1:∀u∈(Builtin.zeroCells zv.cells n).toList,u.oneCell'=true):
 (Builtin.append_ #[t,tx] ty #[.slice (some ⟨b,off,none⟩) sLen sCap,.int kx x]).run P w= .ok (.slice (some ⟨b,off,none⟩) (sLen+n) sCap) (w.setCells b (off+sLen*i.size) (Builtin.zeroCells zv.cells n).toList):=by
 subst hx;have hst:=run_storeCells_cells (P:=P) b (off+sLen*i.size) (Builtin.zeroCells zv.cells n).toList 0 w (by omega) (by omega) h1;simp only[ZCb] at hst;have hw:IntKind.i64.wrap (n:Int)=(n:Int):=by rw[IntKind.wrap_i64];omega
 have n1:¬((n:Int)<0):=by omega
 have n2:¬(281474976710656<(n:Int)*(i.bytes:Int)):=by
  have:((n*i.bytes:Nat):Int)<=140737488355328:=by omega
  rw[ZBr] at this;omega
 by_cases h0:n=0
 ·subst h0;have hw0:IntKind.i64.wrap 0=0:=by rw[IntKind.wrap_i64];omega
  rw[oaZ] at hst⊢;simp only[Array.toList_empty] at hst;simp[Builtin.append_,run_underlying ht,run_underlying hk,sizeOf,typeInfo,zeroValue,hi,hz,asInt,asIntOf,hw0,Addr.add_lit,show sLen<=sCap by omega,hst]
 ·have hm:¬n*i.size=0:=Nat.mul_ne_zero h0 hs;simp[Builtin.append_,run_underlying ht,run_underlying hk,sizeOf,typeInfo,zeroValue,hi,hz,asInt,asIntOf,hw,n1,n2,hm,hroom,Addr.add_lit,hst]
theorem pgZ(w)(t tx ty e)(i)(zv)(k kx)(ht:P.underlying t=some (.slice e))(hk:P.underlying tx=some (.int k))(hi:P.info? e=some i)(hz:i.zero=some zv)
 (x)(n:Nat)(hx:x=(n:Int))(hn:n<=140737488355328)(hb:n*i.bytes<=140737488355328)(hs:i.size≠0)(base:Option Addr)(sLen sCap:Nat)(olds:List Value)
 (hold:(Builtin.firstCells i.size sLen (.slice base sLen sCap)).run P w.drew= .ok olds.toArray w.drew)(hle:sLen<=sCap)(hg:sCap<sLen+n)(h63:((sLen+n:Nat):Int)<=9223372036854775807)(hfit:Builtin.nextslicecap (sLen+n) sCap*i.bytes<=281474976710656):
 (Builtin.append_ #[t,tx] ty #[.slice base sLen sCap,.int kx x]).run P w=
  .ok (.slice (some ⟨w.heap.size,0,none⟩) (sLen+n) (grownCap w (sLen+n) sCap e))
    (w.drew.alloc (.cells ((olds++(Builtin.zeroCells zv.cells n).toList).toArray++Builtin.zeroCells zv.cells (grownCap w (sLen+n) sCap e-(sLen+n))) e)):=by
 subst hx;have hw:IntKind.i64.wrap (n:Int)=(n:Int):=by rw[IntKind.wrap_i64];omega
 have n1:¬((n:Int)<0):=by omega
 have n2:¬(281474976710656<(n:Int)*(i.bytes:Int)):=by
  have:((n*i.bytes:Nat):Int)<=140737488355328:=by omega
  rw[ZBr] at this;omega
 have hn':¬(sLen+n<=sCap):=by omega
 have h63':¬(9223372036854775807<((sLen:Int)+(n:Int))):=by omega
 have h48':¬(281474976710656<Builtin.nextslicecap (sLen+n) sCap*i.bytes):=by omega
 have hm:¬n*i.size=0:=Nat.mul_ne_zero (by omega) hs;have h0:n≠0:=by omega
 simp[Builtin.append_,run_underlying ht,run_underlying hk,sizeOf,typeInfo,zeroValue,hi,hz,asInt,asIntOf,hw,n1,n2,hm,hn',h63',h48',Question.forced,hold,newRow,grownCap];congr 2
 grind
theorem vAZ(zs)(n):(List.replicate n zs.toList).flatten=(Builtin.zeroCells zs n).toList:=by rw[r0Z,gIZ]
theorem rKZ(w)(t tx ty e)(i)(k kx)(ht:P.underlying t=some (.slice e))(hk:P.underlying tx=some (.int k))(hi:P.info? e=some i)(A):
 (Builtin.append_ #[t,tx] ty #[.slice A 0 0,.int kx 0]).run P w= .ok (.slice A 0 0) w:=by
 have hw:IntKind.i64.wrap 0=0:=by rw[IntKind.wrap_i64];omega
 cases A<;>simp[Builtin.append_,run_underlying ht,run_underlying hk,sizeOf,typeInfo,hi,asInt,asIntOf,hw,storeCells]
theorem eF.first{u}{m}{v}(h:eF z u m v)(k)(hk:k<=m.length):
 ∃css:List (List Value),(Builtin.firstCells u.cells k v).run P z.w= .ok css.flatten.toArray z.w/\css.length=k/\∀(i:Nat) e us,(m.take k)[i]? =some e->css[i]? =some us->Cl z.w z.M z.ρ u e us:=by
 rcases h with⟨hu,rfl⟩|⟨A,c,rfl,hc,hm,hA⟩
 ·subst hu;have hml:(m.take k).length=k:=by rw[ZAS];omega
  refine⟨(m.take k).map fun b=>[Value.int .u8 (b.toNat:Int)],?_,by simp_all,fun i e us h1 h2=> ?_⟩
  ·have e1:(List.map (fun b:UInt8=>[Value.int .u8 (b.toNat:Int)]) (m.take k)).flatten=byteCells ⟨⟨m.take k⟩⟩:=by
    show _=List.map _ (m.take k);generalize (m.take k:List UInt8)=q;induction q with
    |nil=>rfl
    |cons b q ih=>simp[ih]
   rw[e1];simp only[Builtin.firstCells,Sem.run_pure];congr 1;apply ZB4;simp[byteCells]
   simp_all[Ty.toL,ByteArray.copySlice]
  ·rw[ZAY] at h2;obtain⟨b,h3,rfl⟩:=ZAI.1 h2;have:=h1.symm.trans h3;cases this
   rfl
 ·by_cases h0:k=0
  ·subst h0;refine⟨[],?_,rfl,fun i e us h=>by grind⟩;cases A with
   |none=>exact run_firstCells_none z.w u.cells 0 _ c
   |some a=>exact run_firstCells_some z.w u.cells 0 a _ c [] (by simp) (fun j v h=>by grind)
  ·obtain⟨b,off,rfl,_,hr⟩:=hA (by omega);have hr':=hr.sub 0 k;rw[ZBu,ZCb,ZCK] at hr'
   let⟨css,q1,q2,q3⟩:=hr'.cells
   have hml:(m.take k).length=k:=by rw[ZAS];omega
   have hl:css.flatten.length=k*u.cells:=by rw[baZ (cYZ q1 q2),q1,hml]
   exact⟨css,run_firstCells_some z.w u.cells _ _ _ _ _ hl (fun j v hj=>by rw[tZZ];exact q3 j v hj),by rw[q1,hml],q2⟩
theorem otZ{α}{l m:List α}{at_}(h:at_+m.length<=l.length):(aW l at_ m).length=l.length:=by
 grind[aW]
theorem paZ{α}{l m:List α}{at_}(h:at_+m.length<=l.length)(i):(aW l at_ m)[i]? =if at_<=i/\i<at_+m.length then m[i-at_]? else l[i]? :=by
 unfold aW;have h1:(l.take at_).length=at_:=by rw[ZAS];omega
 grind
theorem aH.reset{id}{e}(hg:aG H id=some e)(hH:aH z H):aH z (aS H id (some e)):=by
 refine hH.same (fun k=> ?_) fun k=> ?_
 ·rw[apZ];by_cases h:k=id
  ·subst h;rw[ZAN rfl,hg]
  ·rw[ZAM h]
 simp_all[atZ,ajZ]
theorem fbZ{u}{m}{v}(h:eF z u m v)(w):(Builtin.lenOf v).run P w= .ok m.length w:=by
 rcases h with⟨hu,rfl⟩|⟨A,c,rfl,_⟩
 ·subst hu;rfl
 ·rfl
theorem mMZ{H'}{u}{l m}{e'}{id g sz n off}{css:List (List Value)}(hH:aH z H)(hg:aQ H id=some ⟨false,.rows e' u l⟩)(hρ:z.ρ id= .real g sz n)
 (hdl:off+m.length<=l.length)(f2:css.length=m.length)(f3:∀(i:Nat) e us,m[i]? =some e->css[i]? =some us->Cl z.w z.M z.ρ u e us)(hu:Upd H id (.rows e' u (aW l off m)) H')(hro:¬Ro id):
 (storeCells ⟨g,off*u.cells,none⟩ css.flatten).run P z.w= .ok () (z.w.setCells g (off*u.cells) css.flatten)/\
  aH {z with w:=z.w.setCells g (off*u.cells) css.flatten} H'/\Nx z {z with w:=z.w.setCells g (off*u.cells) css.flatten}:=by
 obtain⟨_,_,_,cs,fr,a1,a2,a3,a4,a5,a6,a7⟩:=hH.realX hg hρ;have hfl:css.flatten.length=m.length*u.cells:=by rw[baZ (cYZ f2 f3),f2]
 have hfit:off*u.cells+css.flatten.length<=cs.size:=by
  have:(off+m.length)*u.cells<=l.length*u.cells:=ZAf _ hdl;rw[ZAr] at this;omega
 have hth:=diZ (o:=off*u.cells) (n:=css.flatten.length) a1 a2.f hfit;have h1:∀v∈css.flatten,v.oneCell'=true:=fun v hv=>by
  obtain⟨us,h1,h2⟩:=List.mem_flatten.1 hv;obtain⟨k,hk⟩:=ZAP h1;obtain⟨e,he⟩:=bfZ (l:=m) f2 hk;exact(f3 k e us he hk).one v h2
 have hst:=run_storeCells_cells (P:=P) g (off*u.cells) css.flatten 0 z.w (fun j hj=>by simpa using(hth j hj).1) (fun j hj=>by simpa using(hth j hj).2) h1;simp only[ZCb] at hst;obtain⟨w1,w2,w3,w4⟩:=arZ css.flatten z.w g (off*u.cells);have hsl:(aW l off m).length=l.length:=otZ hdl;obtain⟨p1,p2⟩:=hH.writeX (w':=z.w.setCells g (off*u.cells) css.flatten) (b:=.rows e' u (aW l off m)) hg hρ w2 w3 w4 w1 (fun b hb=>amZ _ _ _ _ _ hb) (fun kk=>by
  refine⟨_,fr,anZ _ _ _ _ _ _ _ a1,eiZ a2 (alZ _ _ _),by rw[alZ];exact a3,by rw[hsl];exact a4,by rw[hsl];exact a5,a6,fun i x hx=> ?_⟩;rw[paZ hdl] at hx;by_cases hin:off<=i/\i<off+m.length
  ·rw[ZAN hin] at hx;obtain⟨us,b1,b2⟩:=bD.css f2 f3 [] _ _ hx;refine⟨us,b1.kp kk,fun j v hj=> ?_⟩;have hb:=b2 j v hj;rw[ZAo] at hb;have hbl:=(ZAB.1 hb).1;obtain⟨d,hd⟩:∃d,i=off+d:=⟨i-off,by omega⟩;subst hd;rw[ZA9] at hb hbl;rw[ZAr,auZ _ _ _ _ hfit,ZAN (by omega),<-hb];congr 1;omega
  ·rw[ZAM hin] at hx;obtain⟨us,b1,b2⟩:=a7 i x hx;refine⟨us,b1.kp kk,fun j v hj=> ?_⟩;have hjl:j<u.cells:=by
    have:=(ZAB.1 hj).1;rw[b1.len] at this;exact this
   rw[auZ _ _ _ _ hfit,ZAM,b2 j v hj];rw[hfl];rcases ZBy i off with hlt|hge
   ·have:=mqZ (es:=u.cells) hlt hjl;omega
   ·have:(off+m.length)*u.cells<=i*u.cells:=ZAf _ (by omega);rw[ZAr] at this;omega) hu hro
 simp_all
theorem ocZ{u}{l m}{e'}{id g sz n off}{css:List (List Value)}(hH:aH z H)(hg:aG H id=some ⟨false,.rows e' u l⟩)(hρ:z.ρ id= .real g sz n)
 (hdl:off+m.length<=l.length)(f2:css.length=m.length)(f3:∀(i:Nat) e us,m[i]? =some e->css[i]? =some us->Cl z.w z.M z.ρ u e us):
 (storeCells ⟨g,off*u.cells,none⟩ css.flatten).run P z.w= .ok () (z.w.setCells g (off*u.cells) css.flatten)/\
  aH {z with w:=z.w.setCells g (off*u.cells) css.flatten} (aS H id (some ⟨false,.rows e' u (aW l off m)⟩))/\Nx z {z with w:=z.w.setCells g (off*u.cells) css.flatten}:=
 mMZ hH (hH.x hg (aVZ hρ)) hρ hdl f2 f3 (.stat (hH.low hg (aVZ hρ)) hg (hH.low hg (aVZ hρ))) (bSZ (hH.low hg (aVZ hρ)))
theorem t1Z{H'}{t e ty sT}{u}{l m}{e'}{x}{id g sz n off dl c}{K}{r:β}(hH:aH z H)(hg:aQ H id=some ⟨false,.rows e' u l⟩)(hρ:z.ρ id= .real g sz n)
 (hu:P.underlying t=some (.slice e))(hc:u.cells=P.cellsOf e)(hx:eF z u m x)(hdl:off+dl<=l.length)
 (hup:Upd H id (.rows e' u (aW l off (m.take dl))) H')(hro:¬Ro id)(h:K (.i .i64 ((min m.length dl:Nat):Int)) H'=some r):
 Ok P (Builtin.copy_ #[t,sT] ty #[.slice (some ⟨g,off*u.cells,none⟩) dl c,x]) z K r:=by
 let⟨_,_,_,cs,fr,a1,a2,a3,a4,a5,a6,a7⟩:=hH.realX hg hρ
 have hi:∃i,P.info? e=some i/\i.size=u.cells:=by
  have:=b6Z hc.symm (by omega)
  let⟨i,h1,h2⟩:=ZAI.1 this
  exact⟨i,h1,h2⟩
 let⟨i,i1,i2⟩:=hi
 let⟨css,f1,f2,f3⟩:=hx.first (P:=P) (min m.length dl) (Nat.min_le_left _ _)
 have hmt:m.take (min m.length dl)=m.take dl:=by rw[List.take_eq_take_iff];omega
 have hmtl:(m.take dl).length=min m.length dl:=by rw[ZAS];omega
 rw[hmt] at f3
 let⟨hst,p1,p2⟩:=mMZ (P:=P) hH hg hρ (by omega) (by omega) f3 hup hro
 have hrun:(Builtin.copy_ #[t,sT] ty #[.slice (some ⟨g,off*u.cells,none⟩) dl c,x]).run P z.w= .ok (.int .i64 ((min m.length dl:Nat):Int)) (z.w.setCells g (off*u.cells) css.flatten):=by
  have hmin:Nat.min m.length dl=min m.length dl:=rfl;simp[Builtin.copy_,run_underlying hu,fbZ hx,sizeOf,typeInfo,i1,i2,f1,hst,goInt]
 exact .mk' hrun p1 (.mkI _ _) p2 h
theorem m2Z{t e ty sT}{u}{l m}{e'}{x}{id g sz n off dl c}{K}{r:β}(hH:aH z H)(hg:aG H id=some ⟨false,.rows e' u l⟩)(hρ:z.ρ id= .real g sz n)
 (hu:P.underlying t=some (.slice e))(hc:u.cells=P.cellsOf e)(hx:eF z u m x)(hdl:off+dl<=l.length)
 (h:K (.i .i64 ((min m.length dl:Nat):Int)) (aS H id (some ⟨false,.rows e' u (aW l off (m.take dl))⟩))=some r):
 Ok P (Builtin.copy_ #[t,sT] ty #[.slice (some ⟨g,off*u.cells,none⟩) dl c,x]) z K r:=
 t1Z hH (hH.x hg (aVZ hρ)) hρ hu hc hx hdl (.stat (hH.low hg (aVZ hρ)) hg (hH.low hg (aVZ hρ))) (bSZ (hH.low hg (aVZ hρ))) h
theorem fIZ{t e ty sT}{u}{m}{e'}{x}{id off}{A}{K}{r:β}{l}(hH:aH z H)(hg:aG H id=some ⟨false,.rows e' u l⟩)
 (hu:P.underlying t=some (.slice e))(hc:u.cells=P.cellsOf e)(hc0:0<u.cells)(hx:eF z u m x)
 (h:K (.i .i64 ((min m.length 0:Nat):Int)) (aS H id (some ⟨false,.rows e' u (aW l off (m.take 0))⟩))=some r):
 Ok P (Builtin.copy_ #[t,sT] ty #[.slice A 0 0,x]) z K r:=by
 have hi:∃i,P.info? e=some i/\i.size=u.cells:=by
  have:=b6Z hc.symm (by omega)
  let⟨i,h1,h2⟩:=ZAI.1 this
  exact⟨i,h1,h2⟩
 let⟨i,i1,i2⟩:=hi
 let⟨css,f1,f2,f3⟩:=hx.first (P:=P) 0 (ZBI _)
 obtain rfl:css=[]:=ZAX f2;have hs:aW l off (m.take 0)=l:=by simp[aW]
 rw[hs] at h;refine .mk' ?_ (hH.reset hg) (.mkI _ _) (Nx.refl z) h;have hmin:Nat.min m.length 0=0:=Nat.min_eq_right (ZBI _);cases A<;>simp[Builtin.copy_,run_underlying hu,fbZ hx,sizeOf,typeInfo,i1,i2,f1,goInt,storeCells]
theorem qVZ{t sT}(ty){a ax}{v vx}{K}{r:β}(h:uN P t a ax H K=some r)(hH:aH z H)(ha:aF z a v)(hx:aF z ax vx):
 Ok P (Builtin.copy_ #[t,sT] ty #[v,vx]) z K r:=by
 unfold uN at h;split at h
 ·rename_i e hu;obtain⟨u,h1,h2⟩:=agZ.1 h;obtain⟨t1,t2,_⟩:=dmZ h1;obtain⟨m,hm,h3⟩:=g1Z h2 hH hx;split at h3
  ·rename_i es id;split at h3
   ·rename_i e' t' l hg;rcases aUZ h3 with⟨rfl,h4⟩|h4
    ·obtain⟨h5,h6⟩:=adZ.1 h4;rw[afZ] at h5;subst h5;cases ha with
     |slfV _ _ A hρ=>
      obtain⟨rfl,_⟩:=hH.virt hg hρ;exact fIZ hH hg hu t1 t2 hm h6
     |slf _ _ g sz n c hρ hn hs hm'=>
      have hl:l.length=n:=by obtain⟨_,_,_,cs,fr,a1,a2,a3,a4,_⟩:=hH.real hg hρ;exact a4
      subst hl;have:=m2Z (sT:=sT) (ty:=ty) (c:=c) hH hg hρ hu t1 hm (by omega) h6;rwa [ZBu] at this
    ·cases h4
   ·cases h3
  ·rename_i es id off n;split at h3
   ·rename_i e' t' l hg;rcases aUZ h3 with⟨rfl,h4⟩|h4
    ·obtain⟨h5,h6⟩:=adZ.1 h4;simp only[ZAF,afZ,ZAm] at h5;obtain⟨rfl,h7⟩:=h5;cases ha with
     |slV _ _ _ A hρ=>exact fIZ hH hg hu t1 t2 hm h6
     |slE _ _ _ g sz m' o hρ=>exact fIZ hH hg hu t1 t2 hm h6
     |sl _ _ _ _ g sz m' c hρ hn hs hm'=>exact m2Z hH hg hρ hu t1 hm h7 h6
    ·cases h4
   ·cases h3
  ·rename_i f s x;obtain⟨hnr,h3⟩:=adZ.1 h3;split at h3
   ·rename_i e' s' ms hg;rcases aUZ h3 with⟨rfl,h4⟩|h4
    ·rcases aUZ h4 with⟨rfl,h5⟩|h5
     ·obtain⟨y,h6,h7⟩:=ZAH.1 h5;have h6:rR ms x m=some y:=h6;have hc0:=t2;have hx':=ha.v.scal rfl rfl;have none0:∀{A} {c},K (.i .i64 0) (aS H (bB f) (some ⟨false,.fam e' u ms⟩))=some r->Ok P (Builtin.copy_ #[t,sT] ty #[.slice A 0 c,vx]) z K r:=fun{A c} hk=>by
       have hi:∃i,P.info? e=some i/\i.size=u.cells:=by
        have:=b6Z t1.symm (by omega);obtain⟨i,h1,h2⟩:=ZAI.1 this;exact⟨i,h1,h2⟩
       obtain⟨i,i1,i2⟩:=hi;obtain⟨css,f1,f2,f3⟩:=hm.first (P:=P) 0 (ZBI _);obtain rfl:css=[]:=ZAX f2;refine .mk' ?_ (hH.reset hg) (.mkI _ _) (Nx.refl z) hk;have hmin:Nat.min m.length 0=0:=Nat.min_eq_right (ZBI _);cases A<;>simp[Builtin.copy_,run_underlying hu,fbZ hm,hmin,sizeOf,typeInfo,i1,i2,f1,goInt,storeCells]
      rcases x with l|(_|⟨k,off,n⟩)
      ·unfold rR at h6;obtain⟨h8,h9⟩:=adZ.1 h6;rw[afZ] at h8;cases h9;obtain⟨A,c,hv,_⟩:=hx';simp only[ZBU,ZBp] at hv;have:=h8;rw[this] at hv;subst hv;exact none0 h7
      ·cases h6;have hv:[v]=[.slice none 0 0]:=hx';simp only[ZBU,ZBp] at hv;subst hv;exact none0 h7
      ·obtain⟨p,g3,h8⟩:=ZAH.1 h6;obtain⟨h9,h10⟩:=adZ.1 h8;cases h10;simp only[ZAF,afZ,ZAm] at h9;obtain⟨g4,hle⟩:=h9;rcases hx' with⟨A,hρ,rfl,hv⟩|⟨g,sz,m',c,hρ,hnc,hs,hcm,hv⟩
       ·simp only[ZBU,ZBp] at hv;subst hv;have hs:aW p.2 off (m.take 0)=p.2:=by simp[aW]
        rw[hs] at h7;have hms:ms.set k (1,p.2)=ms:=by
         obtain⟨hk,hpe⟩:=ZAB.1 g3;have:((1,p.2):Nat×List u.den)=ms[k]:=by rw[hpe,<-g4]
         rw[this];exact ZCc hk
        rw[hms] at h7;exact none0 (by simpa using h7)
       ·simp only[ZBU,ZBp] at hv;subst hv;have hgX:=gtZ hg g3 (by rw[g4];omega);have hfz:((⟨false||Nat.ble 2 p.1,.rows e' u p.2⟩:Ent))=⟨false,.rows e' u p.2⟩:=by rw[g4];rfl
        rw[hfz] at hgX;exact t1Z hH hgX hρ hu t1 hm hle (.mem hg (hH.fam _ _ hg) g3 _) (lgZ hnr) h7
     ·cases h5
    ·cases h4
   ·cases h3
  ·cases h3
 grind
theorem c7Z{t e ty}{A}{c}(w)(hu:P.underlying t=some (.slice e)):(Builtin.clear_ #[t] ty #[.slice A 0 c]).run P w= .ok (.tuple #[]) w:=by
 cases A<;>simp[Builtin.clear_,run_underlying hu]
theorem hoZ{t e ty}{a}{n c}{i}{zv}{w w'}(hu:P.underlying t=some (.slice e))(hi:P.info? e=some i)(hz:i.zero=some zv)(hn:n≠0)
 (h:(storeCells a (Builtin.zeroCells zv.cells n).toList).run P w= .ok () w'):(Builtin.clear_ #[t] ty #[.slice (some a) n c]).run P w= .ok (.tuple #[]) w':=by
 simp[Builtin.clear_,run_underlying hu,zeroValue,typeInfo,hi,hz,h]
theorem hmZ(zs)(n):(Builtin.zeroCells zs n).toList=(List.replicate n zs.toList).flatten:=gIZ zs n
theorem jGZ{t e ty}{u}{l}{e'}{id g sz n off dl c}{K}{r:β}(hH:aH z H)(hg:aG H id=some ⟨false,.rows e' u l⟩)(hρ:z.ρ id= .real g sz n)
 (hu:P.underlying t=some (.slice e))(hz:mV P e u=true)(hdl:off+dl<=l.length)
 (h:K (.tup []) (aS H id (some ⟨false,.rows e' u (aW l off (List.replicate dl u.zero))⟩))=some r):
 Ok P (Builtin.clear_ #[t] ty #[.slice (some ⟨g,off*u.cells,none⟩) dl c]) z K r:=by
 obtain⟨i,zv,q1,q2,q3⟩:=cSZ hz;obtain⟨c1,c2⟩:=(q3 z.w z.M z.ρ).cells;rcases ZBq dl with h0|h0
 ·subst h0;have hs:aW l off (List.replicate 0 u.zero)=l:=by simp[aW]
  rw[hs] at h;exact .mk' (z':=z) (c7Z z.w hu) (hH.reset hg) (.tup _ _ rfl (fun i x v h=>by grind)) (Nx.refl z) h
 ·obtain⟨hst,p1,p2⟩:=ocZ (P:=P) hH hg hρ (m:=List.replicate dl u.zero) (off:=off) (css:=List.replicate dl zv.cells.toList) (by simp_all) (by simp) (fun i e us h1 h2=>by
   grind)
  rw[<-hmZ] at hst p1 p2;exact .mk' (z':={z with w:=z.w.setCells g (off*u.cells) (Builtin.zeroCells zv.cells dl).toList}) (hoZ hu q1 q2 (by omega) hst) p1 (.tup _ _ rfl (fun i x v h=>by grind)) p2 h
theorem oRZ{t}(ty){a}{v}{K}{r:β}(h:pU P t a H K=some r)(hH:aH z H)(ha:aF z a v):Ok P (Builtin.clear_ #[t] ty #[v]) z K r:=by
 unfold pU at h;split at h
 ·rename_i e hu
  let⟨u,h1,h2⟩:=agZ.1 h
  let⟨hz,h3⟩:=adZ.1 h2
  have tupK:∀{z'},aF z' (.tup []) (.tuple #[]):=.tup _ _ rfl (fun i x v h=>by simp at h);have none0:∀{A} {c} {u'} {l} {id} {e'} {off},aG H id=some ⟨false,.rows e' u' l⟩->K (.tup []) (aS H id (some ⟨false,.rows e' u' (aW l off (List.replicate 0 u'.zero))⟩))=some r->
   Ok P (Builtin.clear_ #[t] ty #[.slice A 0 c]) z K r:=fun{A c u' l id e' off} hg hk=>by
   have hs:aW l off (List.replicate 0 u'.zero)=l:=by simp[aW]
   rw[hs] at hk;exact .mk' (c7Z z.w hu) (hH.reset hg) tupK (Nx.refl z) hk
  split at h3
  ·obtain rfl:=ha.v.opq.1;exact .mk' (c7Z z.w hu) hH tupK (Nx.refl z) h3
  ·rename_i es id;split at h3
   ·rename_i e' t' l hg;rcases aUZ h3 with⟨rfl,h4⟩|h4
    ·let⟨h5,h6⟩:=adZ.1 h4
     rw[afZ] at h5;subst h5;cases ha with
     |slfV _ _ A hρ=>
      obtain⟨rfl,_⟩:=hH.virt hg hρ;exact none0 hg h6
     |slf _ _ g sz n c hρ hn hs hm'=>
      have hl:l.length=n:=by let⟨_,_,_,cs,fr,a1,a2,a3,a4,_⟩:=hH.real hg hρ;exact a4
      subst hl;have:=jGZ (ty:=ty) (c:=c) hH hg hρ hu hz (by omega) h6;rwa [ZBu] at this
    ·cases h4
   ·cases h3
  ·rename_i es id off n;split at h3
   ·rename_i e' t' l hg;rcases aUZ h3 with⟨rfl,h4⟩|h4
    ·let⟨h5,h6⟩:=adZ.1 h4
     simp[ZAm] at h5;obtain⟨rfl,h7⟩:=h5;cases ha with
     |slV _ _ _ A hρ=>exact none0 hg h6
     |slE _ _ _ g sz m' o hρ=>exact none0 hg h6
     |sl _ _ _ _ g sz m' c hρ hn hs hm'=>exact jGZ hH hg hρ hu hz h7 h6
    ·cases h4
   ·cases h3
  ·cases h3
 grind
end
section
variable {P : Program} {β : Type} {z : Z} {H : Hp}
theorem h5Z{α}{f}(hf:∀{a b},f a b=true->a=b):∀{l r:List α},jX f l r=true->l=r
 |[],[],_=>rfl
 |a::l,b::r,h=>by
  simp[jX] at h;rw[hf h.1,h5Z hf h.2]
 |[],_::_,h=>by grind[jX]
 |_::_,[],h=>by grind[jX]
theorem eHZ:(k:Ty)->k.keyed=true->{x a:k.den}->k.eqb x a=true->x=a
 |.int _,_,x,a,h=>by
  have:((x:Int)==(a:Int))=true:=h
  simp_all
 |.byte,_,x,a,h=>by
  have:((x:UInt8)==(a:UInt8))=true:=h
  simp_all
 |.bool,_,x,a,h=>by
  have:((x:Bool)==(a:Bool))=true:=h
  simp_all
 |.str,_,x,a,h=>by
  have:((x:List UInt8)==(a:List UInt8))=true:=h
  simp_all
 |.one t,hk,x,a,h=>eHZ t hk h
 |.pair s t,hk,x,a,h=>by
  simp[Ty.keyed] at hk;simp[Ty.eqb] at h;exact Prod.ext (eHZ s hk.1 h.1) (eHZ t hk.2 h.2)
 |.arr _ t,hk,x,a,h=>h5Z (fun h=>eHZ t hk h) h
theorem lxZ{kt}{k}(h:tD P kt k=true):k.keyed=true:=by
 simp_all[tD]
def II(w:World)(g:Nat)(o:Obj):World:={w with heap:=w.heap.setIfInBounds g o}
theorem jlZ{w}{g}{es}{c}(h:w.heap[g]? =some (.map es c))(o):(setObj g o).run P w= .ok () (II w g o):=by
 simp[setObj,Sem.run,h]
 rfl
theorem iXZ{w}{g}{es}{c}(h:w.heap[g]? =some (.map es c)):(getObj g).run P w= .ok (.map es c) w:=by
 simp[getObj,Sem.run,h]
theorem qpZ(w)(old new):∃v w',(Instr.keyThatStays old new).run P w= .ok v w'/\(v=old\/v=new)/\w'.heap=w.heap/\w'.os=w.os/\(w'.tape=w.tape/\w.drawn<=w'.drawn)/\w'.output=w.output:=by
 by_cases h:Instr.sameBits 10000 old new=true
 ·exact⟨new,w,by simp[Instr.keyThatStays,h],.inr rfl,rfl,rfl,⟨rfl,ZAL _⟩,rfl⟩
 ·by_cases h2:(Question.extern "map.whichKeyStays" 2).cut (w.tape w.drawn (.extern "map.whichKeyStays" 2))=0
  ·exact⟨new,w.drew,by simp[Instr.keyThatStays,h,Question.forced,h2],.inr rfl,rfl,rfl,⟨rfl,ZBd _⟩,rfl⟩
  ·exact⟨old,w.drew,by simp[Instr.keyThatStays,h,Question.forced,h2],.inl rfl,rfl,rfl,⟨rfl,ZBd _⟩,rfl⟩
theorem geZ{id g sz n}{b0 b}{w1}{o}(hH:aH z H)(hg:aG H id=some ⟨false,b0⟩)(hρ:z.ρ id= .real g sz n)(h1:w1.heap=z.w.heap)(h2:w1.os=z.w.os)(h3:w1.tape=z.w.tape/\z.w.drawn<=w1.drawn)(h4:w1.output=z.w.output)
 (hb:∀z',Kp z z'->z'.w.heap[g]? =some o->fX z' g sz n b):aH {z with w:=II w1 g o} (aS H id (some ⟨false,b⟩))/\Nx z {z with w:=II w1 g o}:=by
 have hlt:=(hH.real hg hρ).1;refine hH.write hg hρ h2 h3 h4 (by simp[II,h1]) (fun b hb=> ?_) fun k=>hb _ k ?_
 ·simp[II,h1,ZBf hb]
 simp_all[II]
section
variable {k v : Ty}
theorem pXZ:∀{l} {j} {a x} {b y:v.den} {n},l[j]? =some ((a,b),n)->k.eqb x a=true->(∀j' e,j'<j->l[j']? =some e->k.eqb x e.1.1=false)->sV l x y=l.set j ((x,y),n)
 |[],j,_,_,_,_,_,h,_,_=>by grind
 |((a',b'),n')::l,0,a,x,b,y,n,h,hq,hf=>by
  obtain⟨⟨rfl,rfl⟩,rfl⟩:=h;simp[sV,hq]
 |((a',b'),n')::l,j+1,a,x,b,y,n,h,hq,hf=>by
  have:=hf 0 _ (by omega) rfl;simp[sV,this,List.set_cons_succ];rw[pXZ (by simpa using h) hq fun j' e hj he=>hf (j'+1) e (by omega) (by simpa using he)]
theorem rMZ:∀{l} {j} {a x} {b:v.den} {n},l[j]? =some ((a,b),n)->k.eqb x a=true->(∀j' e,j'<j->l[j']? =some e->k.eqb x e.1.1=false)->wU l x=l.eraseIdx j
 |[],j,_,_,_,_,h,_,_=>by grind
 |((a',b'),n')::l,0,a,x,b,n,h,hq,hf=>by
  obtain⟨⟨rfl,rfl⟩,rfl⟩:=h;simp[wU,hq]
 |((a',b'),n')::l,j+1,a,x,b,n,h,hq,hf=>by
  have:=hf 0 _ (by omega) rfl;simp[wU,this,List.eraseIdx_cons_succ];rw[rMZ (by simpa using h) hq fun j' e hj he=>hf (j'+1) e (by omega) (by simpa using he)]
theorem oyZ:∀{l:List ((k.den×v.den)×Nat)} {x},dF l x=none->wU l x=l
 |[],_,_=>rfl
 |((a,b),n)::l,x,h=>by
  simp[dF] at h;cases hq:k.eqb x a<;>rw[hq] at h<;>simp only[ZAK,ZAD] at h
  ·simp[wU,hq];rw[oyZ h]
  ·cases h
theorem tkZ:∀{l l'} {i} {y},CM l i y=some l'->∃(j:Nat) (a:k.den) (b:v.den) (n:Nat),l[j]? =some ((a,b),n)/\(n:Int)=i/\l'=l.set j ((a,y),n)/\∀j' e,j'<j->l[j']? =some e->(e.2:Int)≠i
 |[],_,_,_,h=>by grind[CM]
 |((a,b),n)::l,l',i,y,h=>by
  simp[CM] at h;cases hq:((n:Int)==i)<;>rw[hq] at h<;>simp only[ZAK,ZAD] at h
  ·obtain⟨l1,h1,rfl⟩:=ZAI.1 h
   let⟨j,a',b',n',q1,q2,q3,q4⟩:=tkZ h1
   refine⟨j+1,a',b',n',by simpa using q1,q2,by rw[q3];rfl,fun j' e hj he=> ?_⟩
   grind
  ·simp at h;exact⟨0,a,b,n,rfl,by simp_all,h.symm,fun j' e hj=>by omega⟩
end
def rU(z:Z)(k v)(M:nZ k v)(es:Array MapEntry):Prop:=
 es.size=M.1.length/\(∀(i:Nat) x e,M.1[i]? =some x->es[i]? =some e->bK z.w z.M z.ρ k x.1.1 e.key/\bK z.w z.M z.ρ v x.1.2 e.val/\e.born=x.2)/\
  (∀(i j:Nat) x y,M.1[i]? =some x->M.1[j]? =some y->x.2=y.2->i=j)/\(∀(i:Nat) x,M.1[i]? =some x->x.2<M.2)
theorem rU.kp{z'}(kk:Kp z z'){k v}{M}{es}(h:rU z k v M es):rU z' k v M es:=
 ⟨h.1,fun i x e q1 q2=>⟨(h.2.1 i x e q1 q2).1.kp kk,(h.2.1 i x e q1 q2).2.1.kp kk,(h.2.1 i x e q1 q2).2.2⟩,h.2.2⟩
theorem rBZ{k v:Ty}{l:List ((k.den×v.den)×Nat)}{j n}{p q}(hj:l[j]? =some (p,n)){i:Nat}{x}(h:(l.set j (q,n))[i]? =some x):∃y,l[i]? =some y/\y.2=x.2:=by
 grind
theorem rU.set{k v}{M}{es es'}{j n}{p}{x}{y}{e'}(h:rU z k v M es)(hj:M.1[j]? =some (p,n))(hx:bK z.w z.M z.ρ k x e'.key)(hy:bK z.w z.M z.ρ v y e'.val)(hb:e'.born=n)
 (hs:es'.size=es.size)(h1:es'[j]? =some e')(h2:∀i,i≠j->es'[i]? =es[i]?):rU z k v (M.1.set j ((x,y),n),M.2) es':=by
 obtain⟨a1,a2,a3,a4⟩:=h;refine⟨by rw[hs,a1];simp,fun i a e q1 q2=> ?_,fun i i' a b q1 q2 q3=> ?_,fun i a q1=> ?_⟩
 ·by_cases hi:j=i
  ·subst hi;have:=(ZAB.1 hj).1;rw[ZAU this] at q1;rw[h1] at q2;simp only[ZAO] at q1 q2;subst q1;subst q2;exact⟨hx,hy,hb⟩
  ·rw[ZAa hi] at q1;rw[h2 i (ZBf hi)] at q2;exact a2 i a e q1 q2
 ·obtain⟨y1,r1,r2⟩:=rBZ hj q1;obtain⟨y2,r3,r4⟩:=rBZ hj q2;exact a3 i i' y1 y2 r1 r3 (by rw[r2,r4,q3])
 grind
theorem rU.push{k v}{M}{es}{x}{y}{e'}(h:rU z k v M es)(hx:bK z.w z.M z.ρ k x e'.key)(hy:bK z.w z.M z.ρ v y e'.val)(hb:e'.born=M.2):
 rU z k v (M.1++[((x,y),M.2)],M.2+1) (es.push e'):=by
 obtain⟨a1,a2,a3,a4⟩:=h;have key:∀(i) a,(M.1++[((x,y),M.2)])[i]? =some a->(i<M.1.length/\M.1[i]? =some a)\/(i=M.1.length/\a=((x,y),M.2)):=fun i a h=>by
  by_cases hi:i<M.1.length
  ·rw[ZAT hi] at h;exact .inl ⟨hi,h⟩
  ·rw[ZAV (by omega)] at h;have hi0:=by
    have:=(ZAB.1 h).1;simpa using this
   rw[hi0] at h;simp at h;exact .inr ⟨by omega,h.symm⟩
 refine⟨by simp[a1],fun i a e q1 q2=> ?_,fun i i' a b q1 q2 q3=> ?_,fun i a q1=> ?_⟩
 ·rcases key i a q1 with⟨hi,q1⟩|⟨rfl,rfl⟩
  ·rw[ZCl,ZAM (by omega)] at q2;exact a2 i a e q1 q2
  ·rw[ZCl,ZAN a1.symm] at q2;simp only[ZAO] at q2;subst q2;exact⟨hx,hy,hb⟩
 ·rcases key i a q1 with⟨hi,q1⟩|⟨rfl,rfl⟩<;>rcases key i' b q2 with⟨hi',q2⟩|⟨rfl,rfl⟩
  ·exact a3 i i' a b q1 q2 q3
  ·have:=a4 i a q1;simp only at q3;omega
  ·have:=a4 i' b q2;simp only at q3;omega
  ·rfl
 grind
theorem rU.find{k v}{M}{es}{kt}{x}{vk}(h:rU z k v M es)(hk:tD P kt k=true)(hx:bK z.w z.M z.ρ k x vk):
 ∃q,(Instr.findKey kt vk es.toList).run P z.w= .ok q z.w/\((q=none/\dF M.1 x=none)\/
  ∃(j:Nat) (b:v.den) (n:Nat) (e:MapEntry),q=some (j,e.val)/\M.1[j]? =some ((x,b),n)/\es[j]? =some e/\dF M.1 x=some (b,n)/\k.eqb x x=true/\∀(j') e',j'<j->M.1[j']? =some e'->k.eqb x e'.1.1=false):=by
 obtain⟨a2,a3,_⟩:=h;obtain⟨q,f1,f2⟩:=cMZ hk z.w hx es.toList (M.1.map (·.1.1)) (by grind) (fun j a e e1 e2=>by
  grind)
 refine⟨q,f1,?_⟩;rcases f2.split (by grind) with⟨rfl,f3⟩|⟨j,a,e,rfl,f3,f4,f5,f6⟩
 ·refine .inl ⟨rfl,?_⟩;cases hq:dF M.1 x with
  |none=>rfl
  |some y=>
   obtain⟨j,a,q1,q2,_⟩:=cFZ hq;have:=f3 j a (by simp[q1]);rw[q2] at this;cases this
 ·rw[ZAY] at f3;obtain⟨⟨⟨a',b⟩,n⟩,f7,rfl⟩:=ZAI.1 f3;simp only at f5;obtain rfl:=eHZ k (lxZ hk) f5;refine .inr ⟨j,b,n,e,rfl,f7,by simpa using f4,?_,f5,fun j' e' hj' he'=>f6 j' e'.1.1 hj' (by simp[he'])⟩;cases hq:dF M.1 x with
  |none=>
   have:=eSZ hq j _ f7;rw[f5] at this;cases this
  |some y'=>
   obtain⟨j',a',q1,q2,q3⟩:=cFZ hq;have hjj:j'=j:=by
    rcases Nat.lt_trichotomy j' j with hlt|heq|hgt
    ·have:=f6 j' a' hlt (by simp[q1]);rw[q2] at this;cases this
    ·exact heq
    ·have:=q3 j _ hgt f7;rw[f5] at this;cases this
   subst hjj;rw[q1] at f7;injection f7 with f7;injection f7 with f8 f9;injection f8 with f8 f10;rw[<-f9,<-f10]
def OkU(P:Program)(s:Sem Unit)(z:Z)(K:AV->Hp->Option β)(r:β):Prop:=
 ∃H' z',s.run P z.w= .ok () z'.w/\aH z' H'/\Nx z z'/\K .junk H'=some r
theorem fXZ{t kt et}{q}(hu:P.underlying t=some (.map kt et))(hq:∀v,q=some v->∃k n,v= .int k n)(w):(Instr.makeMap t q).run P w= .ok (.map (some w.heap.size)) (w.alloc (.map #[] 0)):=by
 cases q with
 |none=>rfl
 |some v=>
  obtain⟨k,n,rfl⟩:=hq v rfl;simp[Instr.makeMap,run_underlying hu,asInt,asIntOf]
theorem jRZ{t}{a}{v}{md}{id}{K}{r:β}(h:kF P t a md id H K=some r)(hH:aH z H)(hd:¬z.D id)(ha:AJ z a v):Ok P (Instr.makeMap t v) z K r:=by
 unfold kF at h;split at h
 ·rename_i kt et hu
  let⟨k,h1,h2⟩:=agZ.1 h
  let⟨h3,h4⟩:=adZ.1 h2
  have hq:∀x,v=some x->∃k n,x= .int k n:=fun x hx=>by
   rcases ha with⟨rfl,rfl⟩|⟨y,u,rfl,rfl,hy⟩
   ·cases hx
   ·simp at hx;subst hx;cases hn:y.any? with
    |none=>simp only[hn] at h3;cases h3
    |some n=>
     let⟨kk,e⟩:=bCZ hn hy
     exact⟨kk,n,e⟩
  have hrun:=fXZ hu hq z.w;have hnew:∀b,(aN H id=false/\id<aA)->(∀z',Kp z z'->z'.w.heap[z.w.heap.size]? =some (.map #[] 0)->fX z' z.w.heap.size 0 0 b)->K (.mp id) (aS H id (some ⟨false,b⟩))=some r->Ok P (Instr.makeMap t v) z K r:=fun b hk hb hK=>by
   have hlt:=(ZBE.1 (heap_alloc_new z.w (.map #[] 0))).1;obtain⟨z',p1,p2,p3,p4⟩:=hH.new hk hd (ZAL _) hlt rfl ⟨rfl,ZAL _⟩ rfl (Nat.le_of_lt hlt) (fun k hk=>heap_alloc_old _ _ _ hk) (fun z' hz kk=>hb z' kk (by rw[hz];exact heap_alloc_new _ _));exact .mk' (by rw[p1];exact hrun) p2 (.mp _ _ _ _ p4) p3 hK
  cases hf:AD P et<;>rw[hf] at h4<;>simp[bq_false] at h4
  ·let⟨u,h5,h6⟩:=agZ.1 h4
   let⟨h7,h8⟩:=aKZ.1 h6
   exact hnew (.map k (JP md u) ([],0)) h7 (fun z' kk hz=>⟨#[],hz,rfl,fun i x e h=>by simp at h,fun i j x y h=>by simp at h,fun i x h=>by simp at h⟩) h8
  ·let⟨h7,h8⟩:=aKZ.1 h4
   exact hnew (.fmap k []) h7 (fun z' kk hz=>⟨#[],0,hz,rfl,fun i x e h=>by simp at h⟩) h8
 grind
theorem skZ{t}{k v}(h:wX P t k v=true):∃kt et,P.underlying t=some (.map kt et)/\tD P kt k=true/\ty P et=some v.unref/\mV P et v=true:=by
 unfold wX at h
 grind
theorem sFZ{id}{a a'}{H'}{v}(hH:aH z H)(h:JQ H id a=some (a',H'))(ha:aF z a v):
 ∃z',z'.w=z.w/\aH z' H'/\Nx z z'/\aF z' a' v:=by
 unfold JQ at h;split at h
 ·rename_i fz k u M hg;cases hb:u.noRef<;>rw[hb] at h<;>simp[bq_false] at h
  ·let⟨⟨y,H1⟩,h1,h2⟩:=agZ.1 h
   let⟨z1,q1,q2,q3,q5⟩:=p9Z hH h1 ha
   let⟨z2,r1,r2,r3,_,r5⟩:=bUZ q2 h2 q5
   exact⟨z2,r1.trans q1,r2,q3.trans r3,r5⟩
  ·let⟨z2,r1,r2,r3,_,r5⟩:=bUZ hH h ha
   exact⟨z2,r1,r2,r3,r5⟩
 grind[bUZ]
theorem gKZ{t}{m ak ax}{vm vk vx}{K}{r:β}(h:mC P t m ak ax H K=some r)(hH:aH z H)(hm:aF z m vm)(hk:aF z ak vk)(hx:aF z ax vx):OkU P (Instr.mapUpdate t vm vk vx) z K r:=by
 unfold mC at h;split at h
 ·rename_i id;cases hm with|mp _ g sz n hρ=>
  split at h
  ·rename_i k l hg;obtain⟨h1,h2⟩:=adZ.1 h;obtain⟨x,h3,h4⟩:=bTZ h2 hk;obtain⟨h5,h6⟩:=adZ.1 h4;obtain⟨c,h7,h8⟩:=agZ.1 h6;obtain⟨h9,h10⟩:=adZ.1 h8;unfold AE at h1;split at h1
   ·rename_i kt et hu;simp only[ZAF] at h1;obtain⟨⟨hK,_⟩,_⟩:=h1;obtain⟨_,_,_,es,clock,a1,a2,a3⟩:=hH.real hg hρ;have hck:=boZ (em:=false) z.w bW kt k (d5Z hK).2 10000 (by unfold bW;omega) x vk h3;obtain⟨q,f1,f2⟩:=cMZ hK z.w h3 es.toList (l.map (·.1)) (by simp[a2]) (fun j a e e1 e2=>by
     rw[ZAY] at e1;obtain⟨y,e3,rfl⟩:=ZAI.1 e1;exact(a3 j y e e3 (by simpa using e2)).1)
    have hno:∀(l),GT l x=true->∀(i:Nat) e,l[i]? =some e->k.eqb x e.1=false:=by
     intro l;induction l with
     |nil=>intro _ i e he;simp at he
     |cons a l ih=>
      intro hn i e he;simp only[GT,ZAF,ZAj] at hn
      match i with
      |0=>simp at he;subst he;exact hn.1
      |i+1=>exact ih hn.2 i e (by simpa using he)
    rcases f2.split (by simp[a2]) with⟨rfl,f3⟩|⟨j,a,e,rfl,f3,f4,f5,f6⟩
    ·obtain⟨p1,p2⟩:=geZ (o:=.map (es.push {key:=vk,val:=vx,born:=clock}) (clock+1)) (b:=.fmap k (l++[(x,ax)])) hH hg hρ rfl rfl ⟨rfl,ZAL _⟩ rfl (fun z' kk hz=>by
      refine⟨_,_,hz,by simp[a2],fun i a e q1 q2=> ?_⟩;by_cases hi:i<l.length
      ·rw[ZAT hi] at q1;rw[ZCl,ZAM (by omega)] at q2;exact⟨(a3 i a e q1 q2).1.kp kk,(a3 i a e q1 q2).2.kp kk⟩
      ·rw[ZAV (by omega)] at q1;have hi0:=by
        have:=(ZAB.1 q1).1;simpa using this
       rw[hi0] at q1;rw[ZCl,ZAN (by omega)] at q2;simp at q1 q2;subst q1;subst q2;exact⟨h3.kp kk,hx.kp kk⟩)
     refine⟨_,_,?_,p1,p2,h10⟩;simp[Instr.mapUpdate,run_underlying hu,iXZ a1,hck,f1,jlZ a1]
    ·rw[ZAY] at f3;obtain⟨y,f7,rfl⟩:=ZAI.1 f3;have:=hno l h5 j y f7;rw[f5] at this;cases this
   ·cases h1
  ·obtain⟨⟨y,H1⟩,h1,h2⟩:=agZ.1 h;obtain⟨z1,s1,s2,s3,s5⟩:=sFZ hH h1 hx;split at h2
   ·rename_i k v M hg;obtain⟨h3,h4⟩:=adZ.1 h2;obtain⟨x,h5,h6⟩:=bTZ h4 (hk.kp (s3.kp hH.sub));obtain⟨w,h7,h8⟩:=bTZ h6 s5;obtain⟨kt,et,hu,hK,_,_⟩:=skZ h3;have hρ1:z1.ρ id= .real g sz n:=by rw[s3.ext id (by rw[hρ];intro h;cases h)];exact hρ
    obtain⟨_,_,_,es,a1,a2⟩:=s2.real hg hρ1;have a2':rU z1 k v M es:=a2;have hck:=boZ (em:=false) z1.w bW kt k (d5Z hK).2 10000 (by unfold bW;omega) x vk h5;obtain⟨q,f1,f2⟩:=a2'.find hK h5;rcases f2 with⟨rfl,f3⟩|⟨j,b,nb,e,rfl,f3,f4,f5,f6,f7⟩
    ·have hp:iM M x w=(M.1++[((x,w),M.2)],M.2+1):=by unfold iM;rw[f3]
     rw[hp] at h8;obtain⟨p1,p2⟩:=geZ (o:=.map (es.push {key:=vk,val:=vx,born:=M.2}) (M.2+1)) (b:=.map k v (M.1++[((x,w),M.2)],M.2+1)) s2 hg hρ1 rfl rfl ⟨rfl,ZAL _⟩ rfl (fun z' kk hz=>⟨_,hz,(a2'.push h5 h7 rfl).kp kk⟩);refine⟨_,_,?_,p1,s3.trans p2,h8⟩;rw[<-s1];simp[Instr.mapUpdate,run_underlying hu,iXZ a1,hck,f1,jlZ a1]
    ·have hp:iM M x w=(M.1.set j ((x,w),nb),M.2):=by unfold iM;rw[f5];simp only;rw[pXZ f3 f6 f7]
     rw[hp] at h8;obtain⟨key,w1,k1,k2,k3,k4,k5,k6⟩:=qpZ (P:=P) z1.w e.key vk;obtain⟨r1,r2,r3⟩:=a2'.2.1 j _ e f3 f4;have aN:bK z1.w z1.M z1.ρ k x key:=by rcases k2 with rfl|rfl<;>first|exact r1|exact h5
     have hj:=(ZBE.1 f4).1;obtain⟨p1,p2⟩:=geZ (o:=.map (es.modify j fun e=>{e with key,val:=vx}) M.2) (b:=.map k v (M.1.set j ((x,w),nb),M.2)) s2 hg hρ1 k3 k4 k5 k6 (fun z' kk hz=>by
      refine⟨_,hz,(a2'.set (e':={e with key,val:=vx}) f3 aN h7 r3 (by simp) (by simp[ZCE,f4]) (fun i hi=>by simp[ZCE,ZBf hi])).kp kk⟩)
     refine⟨_,_,?_,p1,s3.trans p2,h8⟩;rw[<-s1];have a1':w1.heap[g]? =some (.map es M.2):=by rw[k3];exact a1
     simp[Instr.mapUpdate,run_underlying hu,iXZ a1,hck,f1,f4,k1,jlZ a1']
   ·cases h2
 grind
theorem rU.erase{k v}{M}{es es'}{j}(h:rU z k v M es)(hs:es'.toList=es.toList.eraseIdx j):rU z k v (M.1.eraseIdx j,M.2) es':=by
 let⟨a1,a2,a3,a4⟩:=h
 have key:∀{α} (l:List α) (i),(l.eraseIdx j)[i]? =l[if i<j then i else i+1]? :=fun l i=>by
  rw[List.getElem?_eraseIdx];split<;>rfl
 have hl:es.toList.length=M.1.length:=by simp[a1]
 refine⟨?_,fun i a e q1 q2=> ?_,fun i i' a b q1 q2 q3=> ?_,fun i a q1=> ?_⟩
 ·rw[<-Array.length_toList,hs,List.length_eraseIdx,List.length_eraseIdx,hl]
 ·rw[key] at q1;rw[<-Array.getElem?_toList,hs,key] at q2;exact a2 _ a e q1 (by simpa using q2)
 ·rw[key] at q1 q2;have:=a3 _ _ a b q1 q2 q3;split at this<;>split at this<;>omega
 grind
end
section
variable {P : Program} {T : Tbl} {β : Type} {z : Z} {H : Hp}
def OkX(P:Program)(s:Sem Next)(z:Z)(K:AV->Hp->Option β)(r:β):Prop:=
 ∃x H' z' nx,s.run P z.w= .ok nx z'.w/\aH z' H'/\Nx z z'/\((∃v,nx= .value v/\aF z' x v)\/(nx= .skip/\x= .junk))/\K x H'=some r
theorem OkX.v{ρ}{o}{s}{K}{r:β}(he:execOp ρ o=(do pure (.value (<-s))))(h:Ok P s z K r):OkX P (execOp ρ o) z K r:=by
 let⟨x,v,H',z',h1,h2,h3,h4,h5⟩:=h
 exact⟨x,H',z',.value v,by simp_all,h2,h4,.inl ⟨v,rfl,h3⟩,h5⟩
theorem OkX.u{ρ}{o}{s}{K}{r:β}(he:execOp ρ o=(do s;pure .skip))(h:OkU P s z K r):OkX P (execOp ρ o) z K r:=by
 let⟨H',z',h1,h2,h3,h4⟩:=h
 exact⟨.junk,H',z',.skip,by simp_all,h2,h3,.inr ⟨rfl,rfl⟩,h4⟩
theorem OkX.call{ρ}{o}{c}{b}{s}{K}{r:β}(ho:o.op= .call c)(hc:c.callee= .builtin b)
 (hb:∀consts,builtin b c.argTypes o.type consts (c.args.map ρ)=(do pure (.value (<-s))))(h:Ok P s z K r):OkX P (execOp ρ o) z K r:=by
 let⟨x,v,H',z',h1,h2,h3,h4,h5⟩:=h
 refine⟨x,H',z',.value v,?_,h2,h4,.inl ⟨v,rfl,h3⟩,h5⟩;unfold execOp;simp[ho,resolve,hc,invoke,hb,h1]
def AK(o:Oper):Bool:=match o.op with|.call c=>(match c.callee with|.value _=>true|_=>false)|_=>false
theorem CW.map{ps:Array (Nat×Operand)}{r:Operand->AV}{ρ:Operand->Value}(hr:∀x,aF z (r x) (ρ x)):CW z (ps.toList.map fun x=>(x.1,r x.2)) (ps.map fun(i,x)=>(i,ρ x)).toList:=by
 refine⟨by simp,fun i x y h1 h2=> ?_⟩
 grind
theorem vfZ{o:Oper}{an:Ann}{r:Operand->AV}{ρ:Operand->Value}{K:AV->Hp->Option β}{res:β}(h:evW P T o an r H K=some res)(hH:aH z H)(hd:tH P o=true->¬z.D (an.ids.headD 0))(hr:∀x,aF z (r x) (ρ x))(hc:AK o=false):
 OkX P (execOp ρ o) z K res:=by
 unfold evW at h;split at h
 ·rename_i t ho;exact .v (s:=Instr.alloc t true (.tuple #[])) (by simp[execOp,ho]) (by cases hq:IE an.md<;>rw[hq] at h<;>first|exact lLZ h hH (hd (by simp[tH,ho]))|exact osZ h hH (hd (by simp[tH,ho])))
 ·rename_i t x ho;exact .v (s:=Instr.box t (ρ x)) (by simp[execOp,ho]) (by cases hq:IE an.md<;>rw[hq] at h<;>first|exact rdZ h hH (hd (by simp[tH,ho])) (hr x)|exact sIZ h hH (hd (by simp[tH,ho])) (hr x))
 ·rename_i t n ps ho;exact .v (s:=Instr.buildSlice t n (ps.map fun(i,x)=>(i,ρ x))) (by simp[execOp,ho]) (gqZ h hH (hd (by simp[tH,ho])) (CW.map hr))
 ·rename_i t a x ho;exact .u (s:=Instr.storeAt t (ρ a) (ρ x)) (by simp[execOp,ho]) (nSZ h hH (hr a) (hr x))
 ·rename_i s d x ho;split at h
  ·obtain⟨y,v,h1,h2,h3⟩:=fmZ h hH (hr x);exact .v (s:=convert s d (ρ x)) (by simp[execOp,ho]) ⟨y,v,H,z,h1,hH,h2,Nx.refl z,h3⟩
  ·exact .v (s:=convert s d (ρ x)) (by simp[execOp,ho]) (iGZ h hH (fun hs=>hd (by simp[tH,ho,hs])) (hr x))
 ·rename_i t l c ho;exact .v (s:=Instr.makeSlice t (ρ l) (ρ c)) (by simp[execOp,ho]) (riZ h hH (hd (by simp[tH,ho])) (hr l) (hr c))
 ·rename_i t q ho;exact .v (s:=Instr.makeMap t (q.map ρ)) (by simp[execOp,ho]) (jRZ h hH (hd (by simp[tH,ho])) (.map hr))
 ·rename_i t m k x ho;exact .u (s:=Instr.mapUpdate t (ρ m) (ρ k) (ρ x)) (by simp[execOp,ho]) (gKZ h hH (hr m) (hr k) (hr x))
 ·rename_i t m k x ho;exact .u (s:=Instr.mapUpdate t (ρ m) (ρ k) (ρ x)) (by simp[execOp,ho]) (gKZ h hH (hr m) (hr k) (hr x))
 ·rename_i c ho;have two:∀{α:Type} {l:Array α} {a b:α},l.toList=[a,b]->l=#[a,b]:=fun hl=>by apply ZB4;rw[hl]
  split at h
  ·rename_i hcb;split at h
   ·rename_i s x t u ha ht;have e1:=two ha;have e2:=two ht;have hb:∀consts,builtin .append c.argTypes o.type consts (c.args.map ρ)=(do pure (.value (<-Builtin.append_ #[t,u] o.type #[ρ s,ρ x]))):=fun consts=>by simp[builtin,e1,e2]
    split at h
    ·rename_i e' hu;exact .call ho hcb hb (gkZ o.type h hH (hd (by simp[tH,ho,hcb])) (hr s) (hr x) (.inl ⟨e',hu⟩))
    ·rename_i hu;exact .call ho hcb hb (gkZ o.type h hH (hd (by simp[tH,ho,hcb])) (hr s) (hr x) (.inr hu))
    ·cases h
   ·cases h
  ·rename_i hcb;split at h
   ·rename_i d x t ts ha ht;have e1:=two ha;refine .call (s:=Builtin.copy_ c.argTypes o.type #[ρ d,ρ x]) ho hcb (fun consts=>by simp[builtin,e1]) ?_;have e0:c.argTypes[0]? =some t:=by rw[<-Array.getElem?_toList,ht];rfl
    have e2:Builtin.copy_ c.argTypes o.type #[ρ d,ρ x]=Builtin.copy_ #[t,t] o.type #[ρ d,ρ x]:=by simp[Builtin.copy_,e0]
    rw[e2];exact qVZ o.type h hH (hr d) (hr x)
   ·cases h
  ·rename_i hcb;split at h
   ·rename_i d t ha ht;have e1:c.args=#[d]:=by apply ZB4;rw[ha]
    have e2:c.argTypes=#[t]:=by apply ZB4;rw[ht]
    exact .call (s:=Builtin.clear_ #[t] o.type #[ρ d]) ho hcb (fun consts=>by simp[builtin,e1,e2]) (oRZ o.type h hH (hr d))
   ·cases h
  ·rename_i f hcb;simp[AK,ho,hcb] at hc
  ·cases h
 ·cases h
end
theorem gvZ:(ts:List Ty)->(x:HL ts)->eY ts (CN ts x)=x
 |[],_=>rfl
 |[_],x=>rfl
 |_::u::r,x=>by
  show(x.1,eY (u::r) (CN (u::r) x.2))=x;rw[gvZ (u::r) x.2]
  rfl
section
variable {β : Type} {z : Z}
theorem uFZ{es id i j}{a:AV}(h:a.own? es id i j=true):a= .own es id i j:=by
 unfold AV.own? at h;split at h<;>simp_all
theorem tcZ{es id i j}{a:AV}(h:a.ownx? es id j=some i):a= .own es id i j:=by
 unfold AV.ownx? at h;split at h
 ·rename_i es' id' i' j';cases hb:(Nat.beq es es'&&Nat.beq id id'&&Nat.beq j j')<;>rw[hb] at h<;>simp at h;simp[afZ] at hb;obtain⟨⟨rfl,rfl⟩,rfl⟩:=hb;rw[h]
 grind
theorem v4Z{es id}{y}{a:AV}(h:a.sl? es id=some y):a= .sl es id y.1 y.2:=by
 unfold AV.sl? at h;split at h
 ·rename_i es' id' i n;cases hb:(Nat.beq es es'&&Nat.beq id id')<;>rw[hb] at h<;>simp at h;simp[afZ] at hb;obtain⟨rfl,rfl⟩:=hb;rw[<-h]
 grind
theorem uCZ{es id}{a:AV}(h:a.slf? es id=true):a= .slf es id:=by
 unfold AV.slf? at h;split at h<;>simp_all
theorem v7Z{id}{a:AV}(h:a.mp? id=true):a= .mp id:=by
 unfold AV.mp? at h
 grind[afZ]
theorem vEZ{u}{l}{a:AV}(h:a.pt? u=some l):a= .pt u l 0 0:=by
 unfold AV.pt? at h
 grind
theorem v6Z{f}{y}{a}{v}(h:a.fn? f=some y)(ha:aF z a v):aF z (.fn f y.1 y.2) v:=by
 unfold AV.fn? at h;split at h
 ·rename_i g a c;cases hb:Nat.beq f g<;>rw[hb] at h<;>simp at h;rw[afZ] at hb;subst hb;subst h;exact ha
 ·rename_i g a c;cases hb:(Nat.beq f g&&(Nat.beq a.size 0&&Nat.beq c.size 0))<;>rw[hb] at h<;>simp at h;simp only[ZAF,afZ] at hb;obtain⟨rfl,h1,h2⟩:=hb;subst h;obtain rfl:=ha.v.opq.1;exact .fn _ _ _ _ _ h1 h2 (fun i x v h=>by simp at h) (fun i x v h=>by simp at h)
 grind
theorem ssZ{v x}(h:JI v x=true):x=v:=by
 unfold JI at h
 grind
theorem tLZ{v}{a:AV}(h:a.nil? v=true):a= .p .opq v:=by
 unfold AV.nil? at h
 grind[ssZ]
theorem tPZ{a}{l}{v}(h:dR a=some l)(hg:IB a=true)(ha:aF z a v):∃cs,v= .agg cs:=by
 let⟨_,_,q3⟩:=cHZ h ha<;>grind
mutual
theorem co_ok:(k:Kd)->{r:List Ty}->{a:AV}->{x:HL r}->{K:HL (k.lv r)->Option β}->{res:β}->{v:Value}->co k r a x K=some res->aF z a v->
 ∃y,K y=some res/\aF z (emb k r y).1 v/\(emb k r y).2=x
 |.p t,r,a,x,K,res,v,h,ha=>by
  have h:asA t a (fun y=>K (y,x))=some res:=h;obtain⟨y,h1,h2⟩:=bTZ h ha;exact⟨(y,x),h2,.p _ _ _ h1,rfl⟩
 |.pt t,r,a,x,K,res,v,h,ha=>by
  obtain⟨l,h1,h2⟩:=agZ.1 h;rw[vEZ h1] at ha;exact⟨(l,x),h2,ha,rfl⟩
 |.own es id i j,r,a,x,K,res,v,h,ha=>by
  obtain⟨h1,h2⟩:=adZ.1 h;rw[uFZ h1] at ha;exact⟨x,h2,ha,rfl⟩
 |.ownx es id j,r,a,x,K,res,v,h,ha=>by
  obtain⟨i,h1,h2⟩:=agZ.1 h;rw[tcZ h1] at ha;exact⟨(i,x),h2,ha,rfl⟩
 |.sl es id,r,a,x,K,res,v,h,ha=>by
  obtain⟨y,h1,h2⟩:=agZ.1 h;rw[v4Z h1] at ha;exact⟨(y.1,y.2,x),h2,ha,rfl⟩
 |.slf es id,r,a,x,K,res,v,h,ha=>by
  obtain⟨h1,h2⟩:=adZ.1 h;rw[uCZ h1] at ha;exact⟨x,h2,ha,rfl⟩
 |.mp id,r,a,x,K,res,v,h,ha=>by
  obtain⟨h1,h2⟩:=adZ.1 h;rw[v7Z h1] at ha;exact⟨x,h2,ha,rfl⟩
 |.any,r,a,x,K,res,v,h,ha=>⟨x,h,.junk v,rfl⟩
 |.fn f ka kc,r,a,x,K,res,v,h,ha=>by
  obtain⟨y,h1,h2⟩:=agZ.1 h;obtain⟨h3,h4⟩:=adZ.1 h2;simp only[ZAF,afZ] at h3;have hf:=v6Z h1 ha;cases hf with|fn _ _ _ va vc e1 e2 e3 e4=>
  obtain⟨y1,q1,q2,q3⟩:=gLZ kc (vs:=vc.toList) h4 ⟨by simp[e2],fun i a v p1 p2=>e4 i a v p1 (by simpa using p2)⟩ h3.2;obtain⟨y2,q4,q5,q6⟩:=gLZ ka (vs:=va.toList) q1 ⟨by simp[e1],fun i a v p1 p2=>e3 i a v p1 (by simpa using p2)⟩ h3.1;refine⟨y2,q4,?_,by simp only[emb,q6,q3]⟩;simp only[emb,q6];refine .fn _ _ _ _ _ (by have:=q5.1;simpa using this.symm) (by have:=q2.1;simpa using this.symm) (fun i x v p1 p2=>q5.2 i x v p1 (by simpa using p2)) (fun i x v p1 p2=>q2.2 i x v p1 (by simpa using p2))
 |.agg l,r,a,x,K,res,v,h,ha=>by
  obtain⟨c,h1,h2⟩:=agZ.1 h;obtain⟨h3,h4⟩:=adZ.1 h2;simp only[ZAF,afZ] at h3;obtain⟨cs,rfl⟩:=tPZ h1 h3.1 ha;obtain⟨p1,p2,_⟩:=cHZ h1 ha;obtain⟨y,q1,q2,q3⟩:=gLZ l (vs:=cs.toList) h4 p1 h3.2;refine⟨y,q1,?_,by simp only[emb,q3]⟩;simp only[emb];exact .agg _ _ (by have:=q2.1;simpa using this.symm) (fun v hv=>p2 v hv) fun i x v e1 e2=>q2.2 i x v e1 (by simpa using e2)
 |.tup l,r,a,x,K,res,v,h,ha=>by
  obtain⟨c,h1,h2⟩:=agZ.1 h;obtain⟨h3,h4⟩:=adZ.1 h2;rw[afZ] at h3;obtain⟨vs,rfl,p1,p2⟩:=ijZ h1 ha;obtain⟨y,q1,q2,q3⟩:=gLZ l (vs:=vs.toList) h4 ⟨by simp[p1],fun i a v e1 e2=>p2 i a v e1 (by simpa using e2)⟩ h3;refine⟨y,q1,?_,by simp only[emb,q3]⟩;simp only[emb];exact .tup _ _ (by have:=q2.1;simpa using this.symm) fun i x v e1 e2=>q2.2 i x v e1 (by simpa using e2)
 |.nilp u,r,a,x,K,res,v,h,ha=>by
  obtain⟨h1,h2⟩:=adZ.1 h;rw[tLZ h1] at ha;exact⟨x,h2,ha,rfl⟩
theorem gLZ:(k:KdL)->{r:List Ty}->{c:List AV}->{x:HL r}->{K:HL (k.lv r)->Option β}->{res:β}->{vs:List Value}->coL k r c x K=some res->aR z c vs->c.length=k.length->
 ∃y,K y=some res/\aR z (embL k r y).1 vs/\(embL k r y).2=x
 |.nil,r,c,x,K,res,vs,h,hc,hl=>by
  obtain rfl:c=[]:=ZAX hl;exact⟨x,h,hc,rfl⟩
 |.cons k l,r,[],x,K,res,vs,h,hc,hl=>by simp[KdL.length] at hl
 |.cons k l,r,a::c,x,K,res,[],h,hc,hl=>by have:=hc.1;simp at this
 |.cons k l,r,a::c,x,K,res,v::vs,h,hc,hl=>by
  simp only[coL,List.tail_cons,List.headD_cons] at h;obtain⟨y1,q1,q2,q3⟩:=gLZ l h hc.tail (by simpa[KdL.length] using hl);obtain⟨y2,q4,q5,q6⟩:=co_ok k q1 hc.head;refine⟨y2,q4,?_,by simp only[embL,q6,q3]⟩;simp only[embL,q6];exact .cons q5 q2
end
def Blk.isFam:Blk->Bool
 |.fam _ _ _=>true
 |_=>false
def EX(z:Z)(id:Nat)(e:Ent):Prop:=e.b.isFam=false->dX z id e
theorem aH.ex{H}(hH:aH z H){id}{e}(h:aG H id=some e):EX z id e:=fun hf=>by
 have h1:=hH.fam id e h
 let⟨fz,b⟩:=e
 have h2:id<aA:=by cases b<;>first|exact h1|cases hf
 exact hH.ent id _ (by simp_all[aqZ])
theorem ueZ{k}{r}{b}{x}{K}{res:β}(h:coB k r b x K=some res):
 (b.isFam=true->∃y,K y=some res/\(lC k r y).1=b/\(lC k r y).2=x)/\∀y,(lC k r y).1.isFam=b.isFam:=by
 cases k with
 |vars l=>
  let⟨c,h1,h2⟩:=agZ.1 h
  unfold Blk.vars? at h1;split at h1
  ·exact⟨fun h=>(by cases h),fun _=>rfl⟩
  simp_all
 |rows e t=>
  let⟨l,h1,h2⟩:=agZ.1 h
  unfold Blk.rows? at h1;split at h1
  ·exact⟨fun h=>(by cases h),fun _=>rfl⟩
  simp_all
 |map kt vt=>
  let⟨m,h1,h2⟩:=agZ.1 h
  unfold Blk.map? at h1;split at h1
  ·exact⟨fun h=>(by cases h),fun _=>rfl⟩
  simp_all
 |fam e s=>
  let⟨m,h1,h2⟩:=agZ.1 h
  unfold Blk.fam? at h1;split at h1
  ·rename_i e' t' l';cases hb:Nat.beq e e'<;>rw[hb] at h1<;>simp at h1;rw[afZ] at hb;subst hb
   let⟨ht,h1⟩:=h1
   subst ht;subst h1;exact⟨fun _=>⟨(l',x),h2,rfl,rfl⟩,fun _=>rfl⟩
  simp_all
theorem tsZ{k}{r}{b}{x}{K}{res:β}(h:coB k r b x K=some res):
 (∀{g sz n},fX z g sz n b->∃y,K y=some res/\fX z g sz n (lC k r y).1/\(lC k r y).2=x)/\(oK b->∃y,K y=some res/\oK (lC k r y).1/\(lC k r y).2=x):=by
 cases k with
 |vars l=>
  let⟨c,h1,h2⟩:=agZ.1 h
  unfold Blk.vars? at h1;split at h1
  ·rename_i c';cases hb:Nat.beq c'.length l.length<;>rw[hb] at h1<;>simp at h1;subst h1;rw[afZ] at hb;refine⟨fun{g sz n} hB=> ?_,fun hB=>hB.elim⟩
   let⟨cs,e,fr,a1,a2,a3,⟨a4,an⟩,a5,a6⟩:=hB
   let⟨y,q1,q2,q3⟩:=gLZ l (vs:=cs.toList) h2 ⟨by simp[a4,a3],fun i a v p1 p2=>a5 i a v p1 (by simpa using p2)⟩ hb
   refine⟨y,q1,?_,by simp[lC,q3]⟩;simp[lC];exact⟨cs,e,fr,a1,a2,a3,⟨by have:=q2.1;simp[a3] at this;exact this,an⟩,fun i a v p1 p2=>q2.2 i a v p1 (by simpa using p2),a6⟩
  simp_all
 |rows e t=>
  let⟨l,h1,h2⟩:=agZ.1 h
  unfold Blk.rows? at h1;split at h1
  ·rename_i e' t' l';cases hb:Nat.beq e e'<;>rw[hb] at h1<;>simp at h1;rw[afZ] at hb;subst hb
   let⟨ht,h1⟩:=h1
   subst ht;subst h1;exact⟨fun hB=>⟨(l',x),h2,hB,rfl⟩,fun hB=>⟨(l',x),h2,hB,rfl⟩⟩
  simp_all
 |map kt vt=>
  let⟨m,h1,h2⟩:=agZ.1 h
  unfold Blk.map? at h1;split at h1
  ·rename_i k' v' m';split at h1
   ·rename_i hm;have e1:k'=kt/\v'=vt:=by
     unfold CL at hm;injection hm with e1 e2;injection e1 with e1;injection e1 with e1 e3;injection e1 with e1 e4;exact⟨e1,e4⟩
    obtain⟨rfl,rfl⟩:=e1;simp at h1;subst h1;exact⟨fun hB=>⟨(m',x),h2,hB,rfl⟩,fun hB=>hB.elim⟩
   ·cases h1
  simp_all
 |fam e s=>
  let⟨m,h1,h2⟩:=agZ.1 h
  unfold Blk.fam? at h1;split at h1
  ·exact⟨fun hB=>hB.elim,fun hB=>hB.elim⟩
  simp_all
theorem ugZ{k}{r}{id}{e}{x}{K}{res:β}(h:coB k r e.b x K=some res)(he:dX z id e):
 ∃y,K y=some res/\dX z id ⟨e.fz,(lC k r y).1⟩/\(lC k r y).2=x:=by
 unfold dX at*;cases hρ:z.ρ id with
 |no=>simp_all
 |virt=>
  rw[hρ] at he;exact(tsZ (z:=z) h).2 he
 |real g sz n=>
  rw[hρ] at he
  let⟨h1,h2,h3,h4⟩:=he
  let⟨y,q1,q2,q3⟩:=(tsZ h).1 h4<;>grind
theorem vlZ{k}{r}{id}{e}{x}{K}{res:β}(h:coB k r e.b x K=some res)(he:EX z id e):
 ∃y,K y=some res/\EX z id ⟨e.fz,(lC k r y).1⟩/\(lC k r y).2=x/\(lC k r y).1.isFam=e.b.isFam/\(e.b.isFam=true->(lC k r y).1=e.b):=by
 let⟨q1,q2⟩:=ueZ h
 cases hf:e.b.isFam
 ·let⟨y,p1,p2,p3⟩:=ugZ h (he hf)
  exact⟨y,p1,fun _=>p2,p3,(q2 y).trans hf,fun h=>by cases h⟩
 ·let⟨y,p1,p2,p3⟩:=q1 hf
  refine⟨y,p1,fun h=> ?_,p3,(q2 y).trans hf,fun _=>p2⟩
  simp_all
theorem teZ{fz}{H}{id}{b}(h:JJ fz H id=some b):aG H id=some ⟨fz,b⟩:=by
 unfold JJ at h;split at h
 ·rename_i e he;cases hb:(e.fz==fz)<;>rw[hb] at h<;>simp at h
  let⟨f,b'⟩:=e
  simp at hb h;rw[he,hb,h]
 grind
structure TQ (H:Hp) (id:Nat) (e:Ent):Prop where
 from_:∃e0,aG H id=some e0/\e0.fz=e.fz/\e.b.isFam=e0.b.isFam/\(e0.b.isFam=true->e=e0)
theorem trZ{H}(hH:∀id e,aG H id=some e->EX z id e):(hs:HK)->{r:List Ty}->{x:HL r}->{K:HL (eI hs r)->Option β}->{res:β}->coH hs r H x K=some res->
 ∃y,K y=some res/\(jY hs r y).2=x/\∀id e,aG (jY hs r y).1 id=some e->EX z id e/\TQ H id e
 |[],r,x,K,res,h=>⟨x,h,rfl,fun id e h=>by simp_all[jY,aG]⟩
 |(id,fz,k)::hs,r,x,K,res,h=>by
  let⟨b,h1,h2⟩:=agZ.1 h
  have hb:=teZ h1
  let⟨y1,q1,q2,q3⟩:=trZ hH hs h2
  let⟨y2,q4,q5,q6,q7,q8⟩:=vlZ q1 (hH _ _ hb)
  refine⟨y2,q4,by simp[jY,q6,q2],fun i e he=> ?_⟩;simp[jY,q6,aG] at he;cases hi:Nat.beq id i<;>rw[hi] at he<;>simp[ZAD] at he
  ·exact q3 i e he
  ·rw[afZ] at hi;subst hi;cases he;exact⟨q5,⟨_,hb,rfl,q7,fun h=>by rw[q8 h]⟩⟩
theorem Shp.co_ok{s:Shp}{vs}{H}{K}{res:β}{vals}(h:s.co vs H K=some res)(hH:∀id e,aG H id=some e->EX z id e)(hv:aR z vs vals):
 s.ok=true/\∃t,K t=some res/\aR z (s.emb t).1 vals/\∀id e,aG (s.emb t).2 id=some e->EX z id e/\TQ H id e:=by
 let⟨h1,h2⟩:=adZ.1 h
 simp[afZ] at h1
 let⟨y,q1,q2,q3⟩:=trZ hH s.hs h2
 let⟨y2,q4,q5,q6⟩:=gLZ s.ks q1 hv h1.2
 refine⟨h1.1,_,q4,?_⟩;have key:s.emb (CN s.tys y2)=((embL s.ks (eI s.hs []) y2).1,(jY s.hs [] y).1):=by
  show((embL s.ks (eI s.hs []) (eY s.tys (CN s.tys y2))).1,(jY s.hs [] (embL s.ks (eI s.hs []) (eY s.tys (CN s.tys y2))).2).1)=_;rw[show eY s.tys (CN s.tys y2)=y2 from gvZ _ _,q6]
 simp_all
end
theorem aiZ{n}:∀{l},bA n l=true↔n∈l
 |[]=>by simp[bA]
 |i::l=>by
  simp only[bA,ZAg];by_cases h:i=n
  ·subst h;simp
  ·rw[ahZ h,ZAD,aiZ];constructor
   ·exact .inr
   ·rintro(h'|h')
    ·exact absurd h'.symm h
    ·exact h'
theorem ccZ{l}:∀{r},lV r l=true↔∀i∈r,i∈l
 |[]=>by simp[lV]
 |i::r=>by simp[lV,aiZ,ccZ,forall_eq_or_imp]
theorem cIZ:∀{l},jF l=true↔l.Nodup
 |[]=>by simp[jF]
 |i::l=>by
  simp only[jF,ZAF,List.nodup_cons,cIZ];constructor
  ·rintro⟨h1,h2⟩;exact⟨fun h=>(by rw[aiZ.2 h] at h1;cases h1),h2⟩
  ·rintro⟨h1,h2⟩;refine⟨?_,h2⟩;cases hm:bA i l
   ·rfl
   ·exact absurd (aiZ.1 hm) h1
theorem dRZ{l}{a}{id}(h:a∈l)(hi:id∈AV.ids a):id∈AV.idsL l:=by
 induction l with
 |nil=>cases h
 |cons b l ih=>
  simp[AV.idsL]
  grind
theorem dkZ(f)(l)(i:Nat):(AV.renL f l)[i]? =(l[i]?).map (AV.ren f):=by
 induction l generalizing i<;>grind[AV.renL]
theorem czZ(f)(l):(AV.renL f l).length=l.length:=by
 induction l<;>grind[AV.renL]
section
variable {z z' : Z}
theorem aF.ren{a}{v}{f}(h:aF z a v)(hw:z'.w=z.w)(hM:z'.M=z.M)(hd:Agr z.ρ z'.ρ fun fs=>a.famInT fs)(hf:∀id k,id∈AV.ids a->f id=some k->z'.ρ k=z.ρ id):aF z' (AV.ren f a) v:=by
 let⟨w',M',C',ρ',D'⟩:=z'
 simp at hw hM hd hf;subst hw;subst hM;induction h with
 |p t x v h=>exact .p t x v (h.to hd)
 |pt t l i j b off h1 h2 h3=>exact .pt t l i j b off h1 h2 (h3.to hd)
 |own es id i j g sz n h=>
  simp[AV.ren];cases hk:f id with
  |none=>exact .junk _
  |some k=>exact .own es k i j g sz n (by show ρ' k=_;rw[hf id k (by simp[AV.ids]) hk,h])
 |rp g es k' i j g' sz n h=>
  refine .rp g es k' i j g' sz n ?_;show ρ' (enc g k')=_;rcases hd with hd|⟨fs,h1,h2⟩
  ·rw[hd _ (ckZ g k') (by simp_all),h]
  ·rw[h1 g k' h2 (by simp_all),h]
 |slV es id off A h=>
  simp[AV.ren];cases hk:f id with
  |none=>exact .junk _
  |some k=>exact .slV es k off A (by show ρ' k=_;rw[hf id k (by simp[AV.ids]) hk,h])
 |slE es id off g sz m o h=>
  simp[AV.ren];cases hk:f id with
  |none=>exact .junk _
  |some k=>exact .slE es k off g sz m o (by show ρ' k=_;rw[hf id k (by simp[AV.ids]) hk,h])
 |sl es id off n g sz m c h h1 h2 h3=>
  simp[AV.ren];cases hk:f id with
  |none=>exact .junk _
  |some k=>exact .sl es k off n g sz m c (by show ρ' k=_;rw[hf id k (by simp[AV.ids]) hk,h]) h1 h2 h3
 |slfV es id A h=>
  simp only[AV.ren];cases hk:f id with
  |none=>exact .junk _
  |some k=>exact .slfV es k A (by show ρ' k=_;rw[hf id k (by simp[AV.ids]) hk,h])
 |slf es id g sz n c h h1 h2 h3=>
  simp only[AV.ren];cases hk:f id with
  |none=>exact .junk _
  |some k=>exact .slf es k g sz n c (by show ρ' k=_;rw[hf id k (by simp[AV.ids]) hk,h]) h1 h2 h3
 |mp id g sz n h=>
  simp only[AV.ren];cases hk:f id with
  |none=>exact .junk _
  |some k=>exact .mp k g sz n (by show ρ' k=_;rw[hf id k (by simp[AV.ids]) hk,h])
 |fn g a c va vc ha hc h1 h2 ih1 ih2=>
  simp only[AV.ren];refine .fn g _ _ va vc (by simp_all[czZ]) (by simp_all[czZ]) (fun i x v p1 p2=> ?_) (fun i x v p1 p2=> ?_)
  ·rw[dkZ] at p1;obtain⟨y,p3,rfl⟩:=ZAI.1 p1;exact ih1 i y v p3 p2 (hd.mono fun fs h=>by simp only[AV.famInT,ZAF] at h;grind[bpZ,ZAG]) fun id k hi hk=>hf id k (by simp only[AV.ids,ZAc];exact .inl (dRZ (ZAG p3) hi)) hk
  ·rw[dkZ] at p1;obtain⟨y,p3,rfl⟩:=ZAI.1 p1;exact ih2 i y v p3 p2 (hd.mono fun fs h=>by simp only[AV.famInT,ZAF] at h;grind[bpZ,ZAG]) fun id k hi hk=>hf id k (by simp only[AV.ids,ZAc];exact .inr (dRZ (ZAG p3) hi)) hk
 |agg l cs hs h1 h ih=>
  simp only[AV.ren];refine .agg _ cs (by rw[czZ];exact hs) h1 fun i x v p1 p2=> ?_;rw[dkZ] at p1;obtain⟨y,p3,rfl⟩:=ZAI.1 p1;exact ih i y v p3 p2 (hd.mono fun fs h=>bpZ h (ZAG p3)) fun id k hi hk=>hf id k (by simp only[AV.ids];exact dRZ (ZAG p3) hi) hk
 |tup l vs hs h ih=>
  simp only[AV.ren];refine .tup _ vs (by rw[czZ];exact hs) fun i x v p1 p2=> ?_;rw[dkZ] at p1;obtain⟨y,p3,rfl⟩:=ZAI.1 p1;exact ih i y v p3 p2 (hd.mono fun fs h=>bpZ h (ZAG p3)) fun id k hi hk=>hf id k (by simp only[AV.ids];exact dRZ (ZAG p3) hi) hk
 |junk v=>exact .junk v
theorem aR.ren{l}{vs}{f}(h:aR z l vs)(hw:z'.w=z.w)(hM:z'.M=z.M)(hd:Agr z.ρ z'.ρ fun fs=>AV.famInTL fs l)(hf:∀id k,id∈AV.idsL l->f id=some k->z'.ρ k=z.ρ id):aR z' (AV.renL f l) vs:=by
 refine⟨by rw[czZ];exact h.1,fun i a v p1 p2=> ?_⟩;rw[dkZ] at p1;obtain⟨y,p3,rfl⟩:=ZAI.1 p1;exact(h.2 i y v p3 p2).ren hw hM (hd.mono fun fs h=>bpZ h (ZAG p3)) fun id k hi hk=>hf id k (dRZ (ZAG p3) hi) hk
mutual
theorem jeZ:(a:AV)->AV.ren some a=a
 |.p _ _|.pt _ _ _ _|.own _ _ _ _|.rp _ _ _ _ _|.sl _ _ _ _|.slf _ _|.mp _|.junk=>rfl
 |.fn g a c=>by simp only[AV.ren,chZ a,chZ c]
 |.agg l=>by simp only[AV.ren,chZ l]
 |.tup l=>by simp only[AV.ren,chZ l]
theorem chZ:(l:List AV)->AV.renL some l=l
 |[]=>rfl
 |a::l=>by simp only[AV.renL,jeZ a,chZ l]
end
theorem aF.rho{a}{v}(h:aF z a v)(hw:z'.w=z.w)(hM:z'.M=z.M)(hd:Agr z.ρ z'.ρ fun fs=>a.famInT fs)(hf:∀id∈AV.ids a,z'.ρ id=z.ρ id):aF z' a v:=by
 have:=h.ren (f:=some) hw hM hd fun id k hi hk=>by
  cases hk;exact hf id hi
 simp_all[jeZ]
theorem aR.rho{l}{vs}(h:aR z l vs)(hw:z'.w=z.w)(hM:z'.M=z.M)(hd:Agr z.ρ z'.ρ fun fs=>AV.famInTL fs l)(hf:∀id∈AV.idsL l,z'.ρ id=z.ρ id):aR z' l vs:=by
 have:=h.ren (f:=some) hw hM hd fun id k hi hk=>by
  cases hk;exact hf id hi
 simp_all[chZ]
theorem fX.ren{g sz n}{b}{f}{fz}(h:fX z g sz n b)(hw:z'.w=z.w)(hM:z'.M=z.M)(hd:Agr z.ρ z'.ρ fun fs=>b.famInT fs)(hf:∀id k,id∈Ent.ids ⟨fz,b⟩->f id=some k->z'.ρ k=z.ρ id):fX z' g sz n (b.ren f):=by
 cases b with
 |vars c=>
  let⟨cs,e,fr,a1,a2,a3,⟨a4,an⟩,a5,a6⟩:=h
  refine⟨cs,e,fr,by simp_all,a2,a3,⟨by simp_all[czZ],an⟩,fun i a v p1 p2=> ?_,a6⟩;rw[dkZ] at p1;obtain⟨y,p3,rfl⟩:=ZAI.1 p1;exact(a5 i y v p3 p2).ren hw hM (hd.mono fun fs h=>bpZ h (ZAG p3)) fun id k hi hk=>hf id k (by simp[Ent.ids];exact dRZ (ZAG p3) hi) hk
 |rows e t l=>
  let⟨cs,fr,a1,a2,a3,a4,a5,a6,a7⟩:=h
  refine⟨cs,fr,by simp_all,a2,a3,a4,a5,a6,fun i x hx=> ?_⟩
  let⟨u,b1,b2⟩:=a7 i x hx
  exact⟨u,by rw[hw,hM];exact b1.to hd,b2⟩
 |fam e s ms=>exact h.elim
 |map kt vt m=>
  let⟨es,a1,a2,a3,a4⟩:=h
  exact⟨es,by rw[hw];exact a1,a2,fun i x e q1 q2=>by rw[hw,hM];exact⟨(a3 i x e q1 q2).1.to (hd.mono fun fs h=>by simp[Blk.famInT,ZAF] at h;exact h.1),(a3 i x e q1 q2).2.1.to (hd.mono fun fs h=>by simp only[Blk.famInT,ZAF] at h;exact h.2),(a3 i x e q1 q2).2.2⟩,a4⟩
 |fmap kt l=>
  let⟨es,clock,a1,a2,a3⟩:=h
  refine⟨es,clock,by rw[hw];exact a1,by simp[a2],fun i x e q1 q2=> ?_⟩;rw[ZAY] at q1;obtain⟨y,q3,rfl⟩:=ZAI.1 q1
  let⟨b1,b2⟩:=a3 i y e q3 q2
  refine⟨by rw[hw,hM];exact b1.to (hd.mono fun fs h=>by simp only[Blk.famInT,ZAF] at h;exact h.1),b2.ren hw hM (hd.mono fun fs h=>by simp only[Blk.famInT,ZAF,ZCW] at h;exact h.2 y (ZAG q3)) fun id k hi hk=>hf id k ?_ hk⟩;simp only[Ent.ids,ZCj];exact⟨y,ZAG q3,hi⟩
end
theorem dMZ:∀{ps} {id k},eZ ps id=some k->(id,k)∈ps
 |(i,j)::ps,id,k,h=>by
  simp[eZ] at h;cases hb:Nat.beq i id<;>rw[hb] at h<;>simp[ZAD] at h
  ·exact ZAb _ (dMZ h)
  simp_all
def gB:List (Nat×Nat)->Nat->Option Nat
 |[],_=>none
 |(i,k)::r,n=>bif Nat.beq k n then some i else gB r n
theorem aLZ:∀{ps} {id k},gB ps k=some id->(id,k)∈ps
 |(i,j)::ps,id,k,h=>by
  simp[gB] at h;cases hb:Nat.beq j k<;>rw[hb] at h<;>simp[ZAD] at h
  ·exact ZAb _ (aLZ h)
  simp_all
theorem dOZ{ps}{id k}(h:(id,k)∈ps):k∈jG ps:=by
 induction ps with
 |nil=>cases h
 |cons x ps ih=>
  rcases ZAg.1 h with h|h
  ·cases h;exact ZAk
  ·exact ZAb _ (ih h)
theorem fAZ{ps}{id k}(h:(id,k)∈ps):id∈lB ps:=by
 induction ps with
 |nil=>cases h
 |cons x ps ih=>
  rcases ZAg.1 h with h|h
  ·cases h;exact ZAk
  ·exact ZAb _ (ih h)
theorem eUZ:∀{ps} {id k},(jG ps).Nodup->(id,k)∈ps->gB ps k=some id
 |(i,j)::ps,id,k,hn,h=>by
  simp[jG] at hn;simp[gB];rcases ZAg.1 h with h|h
  ·simp_all
  ·have:j≠k:=fun e=>hn.1 (e▸dOZ h);rw[ahZ this];exact eUZ hn.2 h
theorem lmZ:∀{ps} {id k},(lB ps).Nodup->(id,k)∈ps->eZ ps id=some k
 |(i,j)::ps,id,k,hn,h=>by
  simp[lB] at hn;simp[eZ];rcases ZAg.1 h with h|h
  ·simp_all
  ·have:i≠id:=fun e=>hn.1 (e▸fAZ h);rw[ahZ this];exact lmZ hn.2 h
theorem epZ{H}:∀{l},gZ H l=true->∀i∈l,∃e,aG H i=some e
 |[],_,i,h=>by cases h
 |j::l,h,i,hi=>by
  simp[gZ] at h;rcases ZAg.1 hi with rfl|hi
  ·cases hg:aG H i with
   |none=>rw[hg] at h;exact absurd h.1 (by simp)
   |some e=>exact⟨e,rfl⟩
  ·exact epZ h.2 i hi
theorem bEZ{H}{f}:∀{ps},gZ H (lB ps)=true->∀k,aG (gY H f ps) k=(gB ps k).bind (fun id=>(aG H id).map (Ent.ren f))/\aN (gY H f ps) k=(gB ps k).isSome
 |[],_,k=>⟨rfl,rfl⟩
 |(i,j)::ps,h,k=>by
  simp[lB,gZ] at h;cases hg:aG H i with
  |none=>rw[hg] at h;exact absurd h.1 (by simp)
  |some e=>
   obtain⟨q1,q2⟩:=bEZ h.2 k;simp[gY,hg,aG,aN,gB];cases hb:Nat.beq j k
   ·exact⟨q1,q2⟩
   ·simp[hg]
section
variable {z : Z} {H : Hp}
def Z.ren(z:Z)(H:Hp)(ps:List (Nat×Nat)):Z:=
 {z with ρ:=fun k=>match gB ps k with|some id=>z.ρ id|none=>if aC<=k then z.ρ k else .no,C:=fun g=>∃id e sz n,rt id∈lB ps/\aQ H id=some e/\e.fz=false/\z.ρ id= .real g sz n,D:=fun k=>aC<=k/\rt k∉jG ps}
theorem bMZ:∀{l} {k},sW l=true->k∈l->k<aC
 |[],k,_,h=>by cases h
 |i::l,k,hs,h=>by
  simp[sW] at hs;rcases ZAg.1 h with rfl|h
  ·simp_all
  ·exact bMZ hs.2 h
theorem buZ:∀{ps} {i k},uK ps=true->(i,k)∈ps->i=k\/(i<aA/\k<aA)
 |[],i,k,_,h=>by cases h
 |(a,b)::ps,i,k,hs,h=>by
  simp[uK,ZBX] at hs;rcases ZAg.1 h with h|h
  ·simp_all
  ·exact buZ hs.2 h
theorem Z.ren_dyn{ps}(hs:sW (jG ps)=true){k}(hk:aC<=k):(z.ren H ps).ρ k=z.ρ k:=by
 show(match gB ps k with|some id=>z.ρ id|none=>if aC<=k then z.ρ k else .no)=_;cases h:gB ps k with
 |none=>simp_all
 |some id=>
  have:=bMZ hs (dOZ (aLZ h));omega
theorem flZ(e)(f)(k):(e.ren f).has k=e.has k/\(aC<=aC->pick k (e.ren f)=pick k e):=by
 let⟨fz,b⟩:=e
 cases b<;>exact⟨rfl,fun _=>rfl⟩
theorem eBZ{e x}{k}(h:pick k e=some x)(f):x.ren f=x/\x.ids=[]:=by
 unfold pick at h;split at h
 ·split at h
  ·split at h
   ·cases h
   ·simp at h;subst h;exact⟨rfl,rfl⟩
  ·cases h
 grind
def OfX(ps:List (Nat×Nat))(id k:Nat):Prop:=((id,k)∈ps/\id<aA/\k<aA)\/(id=k/\aC<=k/\(rt k,rt k)∈ps)
theorem OfX.fst{ps}{id k}(h:OfX ps id k):rt id∈lB ps:=by
 have h0:=eAZ;rcases h with⟨h1,h2,_⟩|⟨rfl,_,h1⟩
 ·rw[aZZ (by omega)];exact fAZ h1
 grind[fAZ]
theorem OfX.inj{ps}{id k k'}(hn:(lB ps).Nodup)(h:OfX ps id k)(h':OfX ps id k'):k=k':=by
 have h0:=eAZ;rcases h with⟨h1,h2,_⟩|⟨rfl,h2,h1⟩<;>rcases h' with⟨h3,h4,_⟩|⟨rfl,h4,h3⟩
 ·have a1:=lmZ hn h1;have a2:=lmZ hn h3
  simp_all
 ·omega
 ·omega
 ·rfl
theorem OfX.ro{ps}{id k}(h:OfX ps id k)(hr:Ro id):Ro k:=by
 rcases h with⟨_,h,_⟩|⟨rfl,_⟩
 ·exact absurd hr (bSZ h)
 omega
theorem renX{H}{f}{ps}(h1:(lB ps).Nodup)(h2:(jG ps).Nodup)(h3:gZ H (lB ps)=true)(hf:uK ps=true){k}{e'}(h:aQ (gY H f ps) k=some e'):
 ∃id e,OfX ps id k/\aQ H id=some e/\e'=e.ren f:=by
 by_cases hd:aC<=k
 ·rw[a8Z hd,(bEZ h3 (rt k)).1] at h
  let⟨e0,q1,q2⟩:=ZAH.1 h
  let⟨id,q3,q4⟩:=ZAH.1 q1
  obtain⟨e1,q5,rfl⟩:=ZAI.1 q4;have hm:=aLZ q3;have:=(buZ hf hm).resolve_right fun h=>by have:=(bOZ hd).1;omega
  subst this;rw[(flZ e1 f _).2 (ZAL _)] at q2;refine⟨k,e',.inr ⟨rfl,hd,hm⟩,?_,(eBZ q2 f).1.symm⟩;rw[a8Z hd,q5];exact q2
 ·by_cases hk:aA<=k
  ·unfold aQ at h;rw[ZAM hd,ZAN hk] at h;cases h
  ·have hk':=ZBR.1 hk;rw[aqZ hk',(bEZ h3 k).1] at h
   let⟨id,q1,q2⟩:=ZAH.1 h
   let⟨e,q3,q4⟩:=ZAI.1 q2
   have hm:=aLZ q1;have hid:id<aA:=by
    rcases buZ hf hm with h|h
    ·omega
    ·exact h.1
   exact⟨id,e,.inl ⟨hm,hid,hk'⟩,by rw[aqZ hid];exact q3,q4.symm⟩
theorem viZ{ps}(hH:aH z H)(h1:jF (lB ps)=true)(h2:jF (jG ps)=true)(h3:gZ H (lB ps)=true)(hs:sW (jG ps)=true)(hf:uK ps=true):
 aH (z.ren H ps) (gY H (eZ ps) ps)/\(∀id k,(id,k)∈ps->(z.ren H ps).ρ k=z.ρ id)/\∀g,(z.ren H ps).C g->z.C g:=by
 have h0:=eAZ;rw[cIZ] at h1 h2;have hd:dZ z.ρ (z.ren H ps).ρ:=fun id hid _=>Z.ren_dyn hs hid;have hρ:∀id k,(id,k)∈ps->(z.ren H ps).ρ k=z.ρ id:=fun id k h=>by
  show(match gB ps k with|some id=>z.ρ id|none=>if aC<=k then z.ρ k else .no)=_;rw[eUZ h2 h]
 have hρX:∀id k,OfX ps id k->(z.ren H ps).ρ k=z.ρ id:=fun id k h=>by
  rcases h with⟨h,_⟩|⟨rfl,h,_⟩
  ·exact hρ id k h
  simp_all[Z.ren_dyn]
 have hC:∀g,(z.ren H ps).C g->z.C g:=fun g ⟨id,e,sz,n,q1,q2,q3,q4⟩=>(hH.realX q2 q4).2.1 q3;have hlive:∀k,k∈jG ps->∃id,(id,k)∈ps/\∃e,aG H id=some e:=fun k hk=>by
  have:∀{ps},k∈jG ps->∃id,(id,k)∈ps:=fun{ps}=>by
   induction ps with
   |nil=>intro h;cases h
   |cons x ps ih=>
    let⟨i,j⟩:=x
    intro h;rcases ZAg.1 h with rfl|h
    ·exact⟨i,ZAk⟩
    ·let⟨id,h⟩:=ih h;exact⟨id,ZAb _ h⟩
  let⟨id,h⟩:=this hk
  let⟨e,he⟩:=epZ h3 id (fAZ h)<;>grind
 refine⟨⟨fun k e' h=> ?_,fun k k' e e' g sz n g' sz' n' hkk p1 p2 m1 m2 p3 p4=> ?_,fun k h=> ?_,fun g h=>hH.sub g (hC g h),fun k x h=> ?_,fun k h=> ?_,fun k hdk h=> ?_,fun k hk1 hk2=> ?_⟩,hρ,hC⟩
 ·obtain⟨id,e,q1,q2,rfl⟩:=renX h1 h2 h3 hf h;have h0:=hH.ent _ _ q2;unfold dX at h0⊢;rw[hρX id k q1];cases hr:z.ρ id with
  |no=>simp_all
  |virt=>
   rw[hr] at h0
   let⟨fz,b⟩:=e
   cases b<;>first|exact h0.elim|exact h0
  |real g sz n=>
   rw[hr] at h0
   let⟨a1,a2,a3,a4⟩:=h0
   exact⟨a1,fun hf=>⟨id,e,sz,n,q1.fst,q2,hf,hr⟩,a3,a4.ren (fz:=e.fz) rfl rfl (.inl hd) fun id' k' _ hk'=>hρ id' k' (dMZ hk')⟩
 ·obtain⟨id,e1,q1,q2,rfl⟩:=renX h1 h2 h3 hf p1;obtain⟨id',e2,q3,q4,rfl⟩:=renX h1 h2 h3 hf p2;rw[hρX id k q1] at p3;rw[hρX id' k' q3] at p4;have hid:id≠id':=fun h=>by
   subst h;exact hkk (q1.inj h1 q3)
  exact fun p5=>hH.inj id id' e1 e2 g sz n g' sz' n' hid q2 q4 m1 m2 p3 p4 fun h=>p5 ⟨q1.ro h.1,q3.ro h.2⟩
 ·by_cases hd:aC<=k
  ·by_cases hk:rt k∈jG ps
   ·left
    let⟨id,hm,e,he⟩:=hlive _ hk
    have:=(buZ hf hm).resolve_right fun h=>by have:=(bOZ hd).1;omega
    subst this;rw[Z.ren_dyn hs hd];refine(hH.fresh k ?_).resolve_right (hH.dyn k hd (ajZ he));rw[azZ hd,(bEZ h3 (rt k)).1,eUZ h2 hm] at h;rw[azZ hd,he];simp only[ZAA,he,ZB5] at h;rw[(flZ e _ _).1] at h;exact h
   ·exact .inr ⟨hd,hk⟩
  ·left;by_cases hk:aA<=k
   ·show(match gB ps k with|some id=>z.ρ id|none=>if aC<=k then z.ρ k else .no)=_;cases hi:gB ps k with
    |none=>simp only[ZAM hd]
    |some id=>
     have:=(buZ hf (aLZ hi)).resolve_right fun h=>by omega
     subst this;exact hH.nos id hk (by omega)
   ·rw[aDZ (by omega),(bEZ h3 k).2] at h;show(match gB ps k with|some id=>z.ρ id|none=>if aC<=k then z.ρ k else .no)=_;cases hk:gB ps k with
    |none=>simp only[ZAM hd]
    |some id=>rw[hk] at h;cases h
 ·rw[(bEZ h3 k).1] at h
  let⟨id,q1,q2⟩:=ZAH.1 h
  obtain⟨e,q3,rfl⟩:=ZAI.1 q2;have hm:=aLZ q1;have hfo:=hH.fam id e q3
  let⟨fz,b⟩:=e
  cases b with
  |fam e s ms=>
   have:=(buZ hf hm).resolve_right fun h=>by have:=hfo.1;omega
   subst this;exact hfo
  |_=>
   have hid:id<aA:=hfo;show k<aA;rcases buZ hf hm with h|h
   ·omega
   ·exact h.2
 ·rw[(bEZ h3 k).2] at h
  let⟨id,hid⟩:=ZB0.1 h
  exact bMZ hs (dOZ (aLZ hid))
 ·rw[(bEZ h3 (rt k)).2] at h
  let⟨id,hid⟩:=ZB0.1 h
  exact fun hD=>hD.2 (dOZ (aLZ hid))
 ·show(match gB ps k with|some id=>z.ρ id|none=>if aC<=k then z.ρ k else .no)=_;cases hi:gB ps k with
  |none=>simp only[ZAM (show¬aC<=k by omega)]
  |some id=>
   have:=(buZ hf (aLZ hi)).resolve_right fun h=>by omega
   subst this;exact hH.nos id hk1 hk2
end
mutual
theorem uwZ:(k:Kd)->{r:List Ty}->(y:HL (k.lv r))->AV.ids (emb k r y).1=k.ids
 |.p _,r,y|.pt _,r,y|.own _ _ _ _,r,y|.ownx _ _ _,r,y|.sl _ _,r,y|.slf _ _,r,y|.mp _,r,y|.any,r,y|.nilp _,r,y=>rfl
 |.fn f a c,r,y=>congr (congrArg HAppend.hAppend (c4Z a (r:=c.lv r) y)) (c4Z c (r:=r) _)
 |.agg l,r,y=>c4Z l (r:=r) y
 |.tup l,r,y=>c4Z l (r:=r) y
theorem c4Z:(k:KdL)->{r:List Ty}->(y:HL (k.lv r))->AV.idsL (embL k r y).1=k.ids
 |.nil,r,y=>rfl
 |.cons k l,r,y=>congr (congrArg HAppend.hAppend (uwZ k (r:=l.lv r) y)) (c4Z l (r:=r) _)
end
theorem s6Z{k}{r}{fz}(y):Ent.ids ⟨fz,(lC k r y).1⟩=k.ids:=by
 cases k with
 |vars l=>exact c4Z l y
 |rows e t=>rfl
 |map kt vt=>rfl
 |fam e s=>rfl
theorem cwZ:(hs:HK)->{r:List Ty}->(y:HL (eI hs r))->∀id,aN (jY hs r y).1 id=bA id (aJ hs)/\(bA id (aJ hs)=true->∃e,aG (jY hs r y).1 id=some e)/\∀e,aG (jY hs r y).1 id=some e->∀i∈e.ids,i∈vG hs
 |[],r,y,id=>⟨rfl,fun h=>by simp_all[aJ,bA],fun e h=>by simp_all[jY,aG]⟩
 |(j,fz,k)::hs,r,y,id=>by
  let⟨q1,q2,q3⟩:=cwZ hs (lC k (eI hs r) y).2 id
  simp only[jY,aN,aG,aJ,bA];cases hb:Nat.beq j id
  ·simp_all[vG]
  ·simp only[ZAK]
   grind[s6Z,eI,vG,ZAc]
section
variable {z : Z} {H : Hp} {β : Type}
def Z.cut(z:Z)(ks:List Nat)(ρ0:Rho)(C':Nat->Prop):Z:={z with ρ:=fun k=>bif bA k ks then z.ρ k else if aC<=k then z.ρ k else ρ0 k,C:=C',D:=fun k=>bA (rt k) ks=false/\(aC<=k\/ρ0 k≠.no)}
theorem Z.cut_dyn(z:Z)(ks)(ρ0)(C'):dZ z.ρ (z.cut ks ρ0 C').ρ:=fun id hid _=>by
 show(bif bA id ks then z.ρ id else if aC<=id then z.ρ id else ρ0 id)=_
 simp_all
theorem dX.rho{z z'}{id}{e}(h:dX z id e)(hw:z'.w=z.w)(hM:z'.M=z.M)(hd:Agr z.ρ z'.ρ fun fs=>e.b.famInT fs)(hid:z'.ρ id=z.ρ id)(hf:∀i∈e.ids,z'.ρ i=z.ρ i)(hC:∀g sz n,z.ρ id= .real g sz n->e.fz=false->z.C g->z'.C g):dX z' id e:=by
 unfold dX at*;rw[hid];cases hr:z.ρ id with
 |no=>simp_all
 |virt=>simp_all
 |real g sz n=>
  rw[hr] at h
  let⟨h1,h2,h3,h4⟩:=h
  have:=h4.ren (f:=some) hw hM hd fun i k hi hk=>by
   cases hk;exact hf i hi
  have e1:e.b.ren some=e.b:=by
   cases e.b with
   |vars c=>simp[Blk.ren,chZ]
   |rows _ _ _=>rfl
   |map _ _ _=>rfl
   |fam _ _ _=>rfl
   |fmap k l=>
    simp[Blk.ren];congr 1
    conv=>rhs;rw[<-List.map_id l]
    apply ZCm;intro x _;simp[jeZ]
  simp_all
theorem Shp.rco_ok{s:Shp}{vs}{ps}{K}{res:β}{vals}(ρ0:Rho)(hρ0:∀k,aA<=k->k<aC->ρ0 k= .no)(h:s.rco vs H ps K=some res)(hH:aH z H)(hv:aR z vs vals):
 ∃t z',K t=some res/\z'.w=z.w/\z'.M=z.M/\aH z' (s.emb t).2/\aR z' (s.emb t).1 vals/\(∀k,bA k (aJ s.hs)=true->∃id,(id,k)∈ps/\z'.ρ k=z.ρ id)/\(∀k,bA k (aJ s.hs)=false->z'.ρ k=if aC<=k then z.ρ k else ρ0 k)/\
  (∀g,z'.C g->z.C g)/\(∀g,z'.C g->∃id e sz n,rt id∈lB ps/\aQ H id=some e/\e.fz=false/\z.ρ id= .real g sz n)/\z'.D=(fun k=>bA (rt k) (aJ s.hs)=false/\(aC<=k\/ρ0 k≠.no))/\(∀k,aN (s.emb t).2 k=bA k (aJ s.hs))/\dZ z.ρ z'.ρ/\(∀k,bA k (aJ s.hs)=true->k<aC)/\(∀i,i∈s.ks.ids\/i∈vG s.hs->i∈aJ s.hs):=by
 have h0:=eAZ;unfold Shp.rco at h;obtain⟨h1,h2⟩:=adZ.1 h;simp only[ZAF] at h1;obtain⟨⟨g1,g2,g3,g4⟩,g5⟩:=h1;obtain⟨r1,r2,r3⟩:=viZ hH g1 g2 g5 g3 g4;have hd1:dZ z.ρ (z.ren H ps).ρ:=fun id hid _=>Z.ren_dyn g3 hid;have hv':aR (z.ren H ps) (AV.renL (eZ ps) vs) vals:=hv.ren rfl rfl (.inl hd1) fun id k _ hk=>r2 id k (dMZ hk);obtain⟨k1,t,k2,k3,k4⟩:=Shp.co_ok h2 (fun id e he=>r1.ex he) hv';unfold Shp.ok at k1;simp only[ZAF,ccZ,ZAc] at k1;have hg:=fun id=>cwZ s.hs (embL s.ks (eI s.hs []) (eY s.tys t)).2 id;have hvi:AV.idsL (s.emb t).1=s.ks.ids:=c4Z s.ks _
 let z':=(z.ren H ps).cut (aJ s.hs) ρ0 (z.ren H ps).C
 have hd2:dZ (z.ren H ps).ρ z'.ρ:=Z.cut_dyn _ _ _ _;have hin:∀k,k∈aJ s.hs->z'.ρ k=(z.ren H ps).ρ k:=fun k hk=>by
  show(bif bA k (aJ s.hs) then(z.ren H ps).ρ k else if aC<=k then(z.ren H ps).ρ k else ρ0 k)=_;rw[aiZ.2 hk];rfl
 have hkm:∀k e,aG (s.emb t).2 k=some e->k∈aJ s.hs:=fun k e he=>by
  have:=ajZ he;rw[show aN (s.emb t).2 k=bA k (aJ s.hs) from(hg k).1] at this;exact aiZ.1 this
 have hkd:∀k,bA k (aJ s.hs)=true->k<aC:=fun k hk=>by
  obtain⟨e,he⟩:=(hg k).2.1 hk;obtain⟨_,⟨e0,q1,_⟩⟩:=k4 k e he;have:=ajZ q1;rw[(bEZ g5 k).2] at this;obtain⟨id,hid⟩:=ZB0.1 this;exact bMZ g3 (dOZ (aLZ hid))
 have hfam:∀k e,aG (s.emb t).2 k=some e->aA<=k->aG (gY H (eZ ps) ps) k=some e:=fun k e he hk=>by
  obtain⟨_,⟨e0,q1,q2,q3,q4⟩⟩:=k4 k e he;have hfo:=r1.fam k e0 q1;have hf0:e0.b.isFam=true:=by
   obtain⟨fz,b⟩:=e0;cases b<;>first|rfl|(have:k<aA:=hfo;omega)
  rw[q4 hf0];exact q1
 have hlowf:∀k e,aG (s.emb t).2 k=some e->k<aA->e.b.isFam=false:=fun k e he hk=>by
  obtain⟨_,⟨e0,q1,q2,q3,q4⟩⟩:=k4 k e he;have hfo:=r1.fam k e0 q1;rw[q3];obtain⟨fz,b⟩:=e0;cases b<;>first|rfl|(have:=hfo.1;omega)
 have hX:∀k e,aQ (s.emb t).2 k=some e->dX (z.ren H ps) k e/\(∃e1,aQ (gY H (eZ ps) ps) k=some e1/\e1.fz=e.fz)/\(k∈aJ s.hs\/aC<=k)/\∀i∈e.ids,i∈aJ s.hs:=fun k e he=>by
  by_cases hd:aC<=k
  ·rw[a8Z hd] at he;obtain⟨e0,p1,p2⟩:=ZAH.1 he;have p3:=hfam _ _ p1 (bOZ hd).1;have p4:aQ (gY H (eZ ps) ps) k=some e:=by rw[a8Z hd,p3];exact p2
   exact⟨r1.ent _ _ p4,⟨e,p4,rfl⟩,.inr hd,fun i hi=>by rw[(eBZ p2 some).2] at hi;cases hi⟩
  ·by_cases hk:aA<=k
   ·unfold aQ at he;rw[ZAM hd,ZAN hk] at he;cases he
   ·have hk':k<aA:=ZBR.1 hk;rw[aqZ hk'] at he;obtain⟨q0,⟨e0,q1,q2,_⟩⟩:=k4 k e he;have hids:=(hg k).2.2 e he;exact⟨q0 (hlowf k e he hk'),⟨e0,by rw[aqZ hk'];exact q1,q2⟩,.inl (hkm k e he),fun i hi=>k1.2 i (.inr (hids i hi))⟩
 have hρX:∀k,k∈aJ s.hs\/aC<=k->z'.ρ k=(z.ren H ps).ρ k:=fun k hk=>by
  rcases hk with hk|hk
  ·exact hin k hk
  ·show(bif bA k (aJ s.hs) then(z.ren H ps).ρ k else if aC<=k then(z.ren H ps).ρ k else ρ0 k)=_;rw[ZAN hk];cases bA k (aJ s.hs)<;>rfl
 refine⟨t,z',k2,rfl,rfl,⟨fun k e he=> ?_,fun i i' e e' g sz n g' sz' n' hii p1 p2 m1 m2 p3 p4=> ?_,fun k hk=> ?_,r1.sub,fun k x hx=> ?_,fun k hk=>hkd k (by rw[<-(hg k).1];exact hk),fun k hd hk=> ?_,fun k hk1 hk2=> ?_⟩,?_,fun k hk=> ?_,fun k hk=> ?_,r3,fun g hC=>hC,rfl,fun k=>(hg k).1,fun id hid hn=> ?_,hkd,k1.2⟩
 ·obtain⟨q1,_,q3,q4⟩:=hX k e he;exact q1.rho rfl rfl (.inl hd2) (hρX k q3) (fun i hi=>hin i (q4 i hi)) (fun g sz n _ _ h=>h)
 ·obtain⟨_,⟨e0,q1,q2⟩,q3,_⟩:=hX i e p1;obtain⟨_,⟨e0',q4,q5⟩,q6,_⟩:=hX i' e' p2;rw[hρX i q3] at p3;rw[hρX i' q6] at p4;exact r1.inj i i' e0 e0' g sz n g' sz' n' hii q1 q4 (by rw[q2];exact m1) (by rw[q5];exact m2) p3 p4
 ·by_cases hdk:aC<=k
  ·rw[azZ hdk] at hk;cases he:aG (s.emb t).2 (rt k) with
   |none=>
    rw[he] at hk;have hk:aN (s.emb t).2 (rt k)=false:=hk;rw[show aN (s.emb t).2 (rt k)=bA (rt k) (aJ s.hs) from(hg _).1] at hk;exact .inr ⟨hk,.inl hdk⟩
   |some e0=>
    rw[he] at hk;have p3:=hfam _ _ he (bOZ hdk).1;left;rw[hρX k (.inr hdk)];refine(r1.fresh k (by rw[azZ hdk,p3];exact hk)).resolve_right (r1.dyn k hdk (ajZ p3))
  ·by_cases hkf:aA<=k
   ·left;show(bif bA k (aJ s.hs) then(z.ren H ps).ρ k else if aC<=k then(z.ren H ps).ρ k else ρ0 k)=_;rw[ZAM hdk];cases bA k (aJ s.hs)
    ·exact hρ0 k hkf (by omega)
    ·exact r1.nos k hkf (by omega)
   ·rw[aDZ (by omega),show aN (s.emb t).2 k=bA k (aJ s.hs) from(hg k).1] at hk;have e1:z'.ρ k=ρ0 k:=by
     show(bif bA k (aJ s.hs) then(z.ren H ps).ρ k else if aC<=k then(z.ren H ps).ρ k else ρ0 k)=_;rw[hk,ZAM hdk];rfl
    by_cases h0:ρ0 k= .no
    ·left;rw[e1,h0]
    ·exact .inr ⟨by rw[aZZ (by omega)];exact hk,.inr h0⟩
 ·obtain⟨_,⟨e0,q1,q2,q3,q4⟩⟩:=k4 k x hx;have hfo:=r1.fam k e0 q1;by_cases hkf:aA<=k
  ·have:=hfam k x hx hkf;rw[this] at q1;injection q1 with q1;rw[q1];exact hfo
  ·have:=hlowf k x hx (by omega);obtain⟨fz,b⟩:=x;cases b<;>first|(show k<aA;omega)|cases this
 ·rw[show aN (s.emb t).2 (rt k)=bA (rt k) (aJ s.hs) from(hg _).1] at hk;exact fun hD=>by have:=hD.1;rw[hk] at this;cases this
 ·show(bif bA k (aJ s.hs) then(z.ren H ps).ρ k else if aC<=k then(z.ren H ps).ρ k else ρ0 k)=_;rw[ZAM (show¬aC<=k by omega)];cases bA k (aJ s.hs)
  ·exact hρ0 k hk1 hk2
  ·exact r1.nos k hk1 hk2
 ·exact k3.rho rfl rfl (.inl hd2) fun i hi=>hin i (k1.2 i (.inl (by rw[<-hvi];exact hi)))
 ·obtain⟨e,he⟩:=(hg k).2.1 hk;obtain⟨_,⟨e0,q1,_⟩⟩:=k4 k e he;have:=ajZ q1;rw[(bEZ g5 k).2] at this;obtain⟨id,hid⟩:=ZB0.1 this;exact⟨id,aLZ hid,by rw[hin k (aiZ.1 hk),r2 id k (aLZ hid)]⟩
 ·show(bif bA k (aJ s.hs) then(z.ren H ps).ρ k else if aC<=k then(z.ren H ps).ρ k else ρ0 k)=_;rw[hk];by_cases hdk:aC<=k
  ·rw[ZAN hdk,ZAN hdk];exact Z.ren_dyn g3 hdk
  ·rw[ZAM hdk,ZAM hdk];rfl
 ·rw[hd2 id hid (by rw[Z.ren_dyn g3 hid];exact hn),Z.ren_dyn g3 hid]
end
end Go.Ab
