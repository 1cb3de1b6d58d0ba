/- An evaluator of the model's code over plain values, and its soundness; of no program. -/
import Derived.Test.YtjngohmkdmdecaaGreatE1
import Derived.MapKept
import Derived.WideKeyRuns
import Derived.Deep.AppendSrc
import Derived.Laws.MakeOwn
import Derived.Great.BuildSlice
import Derived.Deep.Upon
set_option linter.all false
namespace Go.Ab
theorem ZAO:type_of% @Bool.not_true:=@Bool.not_true
theorem ZAV:type_of% @List.getElem?_map:=@List.getElem?_map
theorem ZAb:type_of% @beq_self_eq_true:=@beq_self_eq_true
theorem ZAc:type_of% @List.mem_cons_of_mem:=@List.mem_cons_of_mem
theorem ZAn:type_of% @List.getElem?_take:=@List.getElem?_take
theorem ZAp:type_of% @List.length_map:=@List.length_map
theorem ZAr:type_of% @List.mem_cons_self:=@List.mem_cons_self
theorem ZAu:type_of% @List.take_length:=@List.take_length
theorem ZA0:type_of% @Nat.lt_irrefl:=@Nat.lt_irrefl
theorem ZA8:type_of% @Nat.min_eq_left:=@Nat.min_eq_left
theorem ZA9:type_of% @List.ext_getElem?:=@List.ext_getElem?
theorem ZBB:type_of% @decide_eq_false_iff_not:=@decide_eq_false_iff_not
theorem ZBI:type_of% @Array.getElem?_eq_some_iff:=@Array.getElem?_eq_some_iff
theorem ZBJ:type_of% @Array.size_append:=@Array.size_append
theorem ZBK:type_of% @Bool.false_eq_true:=@Bool.false_eq_true
theorem ZBL:type_of% @List.length_replicate:=@List.length_replicate
theorem ZBM:type_of% @Option.map_some:=@Option.map_some
theorem ZBO:type_of% @List.size_toArray:=@List.size_toArray
theorem ZBT:type_of% @Bool.true_and:=@Bool.true_and
theorem ZBV:type_of% @List.cons.injEq:=@List.cons.injEq
theorem ZBW:type_of% @List.drop_eq_getElem_cons:=@List.drop_eq_getElem_cons
theorem ZBc:type_of% @Nat.le_succ:=@Nat.le_succ
theorem ZBd:type_of% @List.length_eq_zero_iff:=@List.length_eq_zero_iff
theorem ZBf:type_of% @List.mem_map:=@List.mem_map
theorem ZBg:type_of% @Nat.blt_eq:=@Nat.blt_eq
theorem ZBn:type_of% @Int.natCast_mul:=@Int.natCast_mul
theorem ZBu:type_of% @Option.isSome_iff_exists:=@Option.isSome_iff_exists
theorem ZB4:type_of% @Array.ext':=@Array.ext'
theorem ZB5:type_of% @Nat.div_add_mod:=@Nat.div_add_mod
theorem ZB6:type_of% @Array.toList_append:=@Array.toList_append
theorem ZCF:type_of% @Nat.mul_comm:=@Nat.mul_comm
theorem ZCG:type_of% @Array.getElem?_modify:=@Array.getElem?_modify
theorem ZCU:type_of% @List.all_eq_true:=@List.all_eq_true
theorem ZCb:type_of% @Nat.add_zero:=@Nat.add_zero
theorem ZCc:type_of% @List.set_getElem_self:=@List.set_getElem_self
theorem ZCf:type_of% @Nat.lt_trichotomy:=@Nat.lt_trichotomy
theorem ZCl:type_of% @if_false:=@if_false
theorem ZCm:type_of% @List.mem_flatMap:=@List.mem_flatMap
theorem ZCn:type_of% @Array.getElem?_push:=@Array.getElem?_push
theorem ZCo:type_of% @List.map_congr_left:=@List.map_congr_left
theorem ZCq:type_of% @if_true:=@if_true
section
variable {P : Program} {β : Type} {z : Z} {H : Hp}
theorem hvZ{t}{a X}{K}{r:β}{v Y}(h:jY P t a X H K=some r)(hH:bH z H)(L:bE z a v)(hi:bE z X Y):
 OkP P (Instr.indexAt t v Y) z K r:=by
 unfold jY at h
 let⟨x,h1,h2⟩:=agZ.1 h
 obtain⟨k,rfl⟩:=b1Z h1 hi;split at h2
 .rename_i n e G;have hh:=aeZ.1 h2;clear h2 h
  let⟨h0,h2⟩:=hh
  simp at h0;have d:P.cellsOf e≠0:=λh=>by rw[h] at h0;cases h0
  split at h2
  .rename_i es id i j;cases L with|own _ _ _ _ g N m p=>
   cases hb:(Nat.beq es (P.cellsOf e)&&Nat.beq i 0&&Nat.beq j 0)<;>rw[hb] at h2<;>simp[bq_false] at h2
   .let⟨q,E,h4⟩:=ZAG.1 h2
    let⟨B,C,D⟩:=bYZ E
    exact .mk' (by rw[byZ z.w G B C D rfl d,ZCE]) (.own _ _ _ _ _ _ _ p) h4
   .let⟨q,E,h4⟩:=ZAG.1 h2
    let⟨B,C,D⟩:=bYZ E
    simp[afZ] at hb;obtain⟨⟨rfl,rfl⟩,rfl⟩:=hb;exact .mk' (by rw[byZ z.w G B C D rfl d];simp) (.own _ _ _ _ _ _ _ p) h4
  .rename_i u l i j;cases L with|pt _ _ _ _ b off O I R=>
   cases hb:(Nat.beq u.cells (P.cellsOf e)&&Nat.beq i 0&&Nat.beq j 0)<;>rw[hb] at h2<;>simp[bq_false] at h2
   .let⟨q,E,h4⟩:=ZAG.1 h2
    let⟨B,C,D⟩:=bYZ E
    exact .mk' (by rw[byZ z.w G B C D rfl d,ZCE (off+i*u.cells)]) (.pt _ _ _ _ _ _ O I R) h4
   .let⟨q,E,h4⟩:=ZAG.1 h2
    let⟨B,C,D⟩:=bYZ E
    simp[afZ] at hb;obtain⟨⟨T,rfl⟩,rfl⟩:=hb;exact .mk' (by rw[byZ z.w G B C D rfl d,<-T];simp) (.pt _ _ q 0 _ _ O I R) h4
  .cases h2
 .rename_i e G;have hh:=aeZ.1 h2;clear h2 h
  let⟨h0,h2⟩:=hh
  simp at h0;have d:P.cellsOf e≠0:=λh=>by rw[h] at h0;cases h0
  split at h2
  .rename_i es id;cases hb:Nat.beq es (P.cellsOf e)<;>rw[hb] at h2<;>simp only[bq_true,bq_false] at h2
   .cases h2
   .rw[afZ] at hb;split at h2
    .rename_i n U
     let⟨q,h4,h5⟩:=ZAG.1 h2
     let⟨B,C,D⟩:=bYZ h4
     obtain⟨_,g,N,c,p,rfl,_⟩:=hKZ U hH L;refine .mk' (aVZ z.w G B C D hb.symm (by rw[hb];exact d)) ?_ h5;rw[ZAz];exact .own _ _ q 0 _ _ _ p
    let⟨fz,e',u,l,hg,he,E⟩:=dSZ h2
    let⟨q,h4,h5⟩:=ZAG.1 E
    let⟨B,C,D⟩:=bYZ h4
    obtain⟨A,c,rfl,hc,V,_⟩:=jmZ hH hg L;obtain⟨g,N,m,p,rfl,_⟩:=V (by omega);refine .mk' (aVZ z.w G B C D hb.symm (by rw[hb];exact d)) ?_ h5;rw[ZAz];exact .own _ _ q 0 _ _ _ p
  .rename_i es id off n;cases hb:Nat.beq es (P.cellsOf e)<;>rw[hb] at h2<;>simp only[bq_true,bq_false] at h2
   .cases h2
   .rw[afZ] at hb
    let⟨q,h4,h5⟩:=ZAG.1 h2
    let⟨B,C,D⟩:=bYZ h4
    cases L with
    |slV=>omega
    |slE=>omega
    |sl _ _ _ _ g N m c p hn hs hm=>
     refine .mk' (aVZ z.w G B C D hb.symm (by rw[hb];exact d)) ?_ h5;have:=bE.own es id (off+q) 0 g N m p;rw[ZAk] at this;exact this
  .rename_i u l;cases hb:Nat.beq u.cells (P.cellsOf e)<;>rw[hb] at h2<;>simp only[bq_true,bq_false] at h2
   .cases h2
   .rw[afZ] at hb
    let⟨q,h4,h5⟩:=ZAG.1 h2
    let⟨B,C,D⟩:=bYZ h4
    obtain⟨A,c,rfl,hc,hm,_,V⟩:=cU.sl L.v;obtain⟨b,off,rfl,O,I,R⟩:=V (by omega);refine .mk' (aVZ z.w G B C D hb.symm (by rw[hb];exact d)) ?_ h5;exact .pt u l q 0 b off O I R
  .rename_i f u rr;cases hb:Nat.beq u.cells (P.cellsOf e)<;>rw[hb] at h2<;>simp only[bq_true,bq_false] at h2
   .cases h2
   .rw[afZ] at hb
    let⟨⟨k,off,n⟩,E,W⟩:=ZAG.1 h2
    have:rr= .inr (some (k,off,n)):=by
     unfold wR at E;split at E
     .rw[E]
     .cases E
    subst this
    .let⟨q,h4,h5⟩:=ZAG.1 W
     simp at h4 h5
     let⟨B,C,D⟩:=bYZ h4
     rcases L.v.scal rfl rfl with⟨A,_,rfl,_⟩|⟨g,N,m,c,p,hn,hs,hm,hv⟩
     .omega
     .simp[ZBl] at hv;subst hv;refine .mk' (aVZ z.w G B C D hb.symm (by rw[hb];exact d)) ?_ h5;have:=bE.rp f u.cells k (off+q) 0 g N m p;rw[ZAk,ZCb] at this;exact this
  .cases h2
 simp_all
theorem fiZ{css:List (List Value)}{c}(d:∀u∈css,u.length=c):∀(q) u,css[q]? =some u->(css.flatten.drop (q*c)).take c=u:=by
 induction css with
 |nil=>simp_all
 |cons w css p=>
  intro q u h;have j:=d w (by simp)
  match q with
  |0=>
   simp_all
  |q+1=>
   rw[ZCQ,ZCD,Nat.add_comm,ZCk,j,ZBG (by omega),ZA6]
   simp_all
theorem Cl.nth{w}{M}{ρ}{n}{u}{l:List u.den}{cs}(h:Cl w M ρ (.arr n u) l cs){q}{y}(j:l[q]? =some y):Cl w M ρ u y ((cs.drop (q*u.cells)).take u.cells):=by
 obtain⟨B,css,C,rfl,h2⟩:=h;have p:q<css.length:=by
  have:=(ZAC.1 j).1;omega
 have D:∀d∈css,d.length=u.cells:=λd E=>by
  let⟨k,hk⟩:=ZAT E
  let⟨e,he⟩:=biZ (C.trans B.symm) hk
  exact(h2 k e d he hk).len
 rw[fiZ D q _ (ZAB p)];exact h2 q y _ j (ZAB p)
theorem pgZ{t}{a T}{K}{r:β}{v U}(h:tW P t a T K=some r)(V:bE z a v)(hi:bE z T U):
 OkP P (Instr.index t v U) z K r:=by
 unfold tW at h
 let⟨x,h1,h2⟩:=agZ.1 h
 obtain⟨k,rfl⟩:=b1Z h1 hi;split at h2
 .rename_i G
  let⟨l,I,h4⟩:=agZ.1 h2
  let⟨q,h5,L⟩:=ZAG.1 h4
  let⟨c,D,N⟩:=ZAG.1 L
  obtain rfl:=enZ I V
  let⟨O,W,R⟩:=bYZ h5
  have bF:(⟨⟨l⟩⟩:ByteArray)[x.toNat]? =some c:=by
   rw[R];have:=(ZAC.1 D).1;rw[getElem?_pos (⟨⟨l⟩⟩:ByteArray) q this];congr 1;exact ZAg ((ZAB this).symm.trans D)
  exact .mk' (by simp[Instr.index,asIntOf,run_underlying G,O,bF]) (.mkI _ _) N
 .rename_i n e G
  let⟨u,I,h4⟩:=agZ.1 h2
  let⟨X,t2,t3,t4⟩:=cTZ I
  let⟨l,h5,L⟩:=bRZ h4 V
  let⟨q,D,N⟩:=ZAG.1 L
  let⟨y,h9,C⟩:=ZAG.1 N
  let⟨O,W,R⟩:=bYZ D
  let⟨cs,c1,Y⟩:=h5
  simp[Ty.isAgg] at Y;subst Y;have E:=Cl.nth c1 h9;have hs:=a6Z z.w X.symm (by omega);have p:(Instr.index t (.agg cs.toArray) (.int k x)).run P z.w=(part e cs.toArray (q*u.cells)).run P z.w:=by
   simp[Instr.index,asIntOf,run_underlying G,O,W,hs,R]
  have B:=E.len;cases d:u.isAgg
  .have j:u.cells=1:=by cases u<;>first|rfl|(simp[Ty.isAgg] at d;done)
   match hvs:(cs.drop (q*u.cells)).take u.cells,B with
   |[],B=>rw[j] at B;simp at B
   |_::_::_,B=>rw[j] at B;simp at B
   |[v],_=>
    rw[hvs] at E;have hv:cs.toArray[q*u.cells]? =some v:=by
     have:((cs.drop (q*u.cells)).take u.cells)[0]? =some v:=by rw[hvs];rfl
     rw[ZBa (by omega),ZAy] at this;simpa using this
    exact .mk' (by rw[p];exact bhZ z.w (t4 d) hv) (ckZ (.mkSc E d)) C
  .refine .mk' (by rw[p];exact btZ z.w (t3 d) X.symm (by omega)) (ckZ ⟨_,E,?_⟩) C;rw[d];simp only[ZAM];congr 1;apply ZB4;rw[ZCO,ZCJ,ZA6]
 simp_all
def Bnd(a:Option AV)(v:Option Value)(d m k:Nat):Prop:=(a=none/\v=none/\k=d)\/∃h n,v=some (.int h n)/\0<=n/\n<=m/\n.toNat=k
def BJ(z:Z)(a:Option AV)(v:Option Value):Prop:=(a=none/\v=none)\/∃x u,a=some x/\v=some u/\bE z x u
theorem c4Z{a}{v}{d m}{K}{r:β}(h:tX a d m K=some r)(j:BJ z a v):∃k,Bnd a v d m k/\K k=some r:=by
 rcases j with⟨rfl,rfl⟩|⟨x,u,rfl,rfl,hx⟩
 .exact⟨d,.inl ⟨rfl,rfl,rfl⟩,h⟩
 .let⟨n,p,h2⟩:=agZ.1 h
  let⟨k,B,h4⟩:=ZAG.1 h2
  obtain⟨C,rfl⟩:=b1Z p hx
  let⟨D,E,G⟩:=czZ B
  exact⟨k,.inr ⟨C,n,rfl,D,E,G⟩,h4⟩
theorem Bnd.le{a}{v}{d m k}(h:Bnd a v d m k)(j:d<=m):k<=m:=by
 rcases h with⟨_,_,rfl⟩|⟨p,n,_,B,h2,C⟩<;>grind
theorem bpZ{isSlice}{j d h b}{lo hi}{C D}(w)(O:j<=d)(hh:Bnd hi D j j h)(hb:Bnd lo C 0 h b):
 (Instr.sliceBounds isSlice j d C D none).run P w= .ok (b,h,d) w:=by
 have G:∀(E) (n:Int) (y:Nat) (p),0<=n->n<=y->(Instr.sliceBound (.int E n) y p).run P w= .ok n.toNat w:=λE n y p h0 I=>by
  simp[Instr.sliceBound,asIntOf,h0,I]
 rcases hh with⟨_,rfl,rfl⟩|⟨E,n,rfl,I,h2,N⟩
 .rcases hb with⟨_,rfl,rfl⟩|⟨B,n',rfl,p1,K,L⟩
  .simp[Instr.sliceBounds]
  .simp[Instr.sliceBounds,G B n' _ _ p1 K,L]
 .rcases hb with⟨_,rfl,rfl⟩|⟨B,n',rfl,p1,K,L⟩
  .simp[Instr.sliceBounds,G E n d _ I (by omega),N]
  .simp[Instr.sliceBounds,G E n d _ I (by omega),N,G B n' _ _ p1 K,L]
theorem a1Z{t e}{A}{d j h b m}{lo hi}{p B}(w)(D:P.underlying t=some (.slice e))(hm:P.cellsOf e=m)(C:m≠0)
 (E:d<=j)(hh:Bnd hi B d d h)(hb:Bnd lo p 0 h b):
 (Instr.sliceAt t (.slice A d j) p B none).run P w= .ok (.slice (if j=b then A else A.map (·.add (b*m))) (h-b) (j-b)) w:=by
 have G:=a6Z w hm C;simp[Instr.sliceAt,Instr.slice,run_underlying D,bpZ w E hh hb,G]
theorem cfZ{t e}{g o n h b m}{lo hi}{d j}(w)(B:P.underlying t=some (.array n e))(hm:P.cellsOf e=m)(p:m≠0)
 (hh:Bnd hi j n n h)(hb:Bnd lo d 0 h b):
 (Instr.sliceAt t (.pointer (some ⟨g,o,none⟩)) d j none).run P w= .ok (.slice (some (if n=b then⟨g,o,none⟩ else⟨g,o+b*m,none⟩)) (h-b) (n-b)) w:=by
 have C:=a6Z w hm p;simp[Instr.sliceAt,run_underlying B,bpZ w (ZAN n) hh hb,C,Instr.sureAddr,Addr.add_mid]
theorem lKZ{es id off c g p m h b}(d:z.ρ id= .real g p m)(B:b<=h)(C:h<=c)(D:(off+c)*es<=p)(hm:c<=maxLen):
 bE z (.sl es id (off+b) (h-b)) (.slice (if c=b then some ⟨g,off*es,none⟩ else(some ⟨g,off*es,none⟩:Option Addr).map (·.add (b*es))) (h-b) (c-b)):=by
 by_cases j:c=b
 .rw[ZAL j];rw[show h-b=0 from by omega,show c-b=0 from by omega];exact .slE _ _ _ _ _ _ _ d
 .rw[ZAJ j];simp[Addr.add_mid];rw[<-Nat.add_mul];exact .sl _ _ _ _ _ _ _ _ d (by omega) (by grind) (by omega)
theorem lvZ{α}{l}{lo hi}{d j}{K:List α->Option β}{r}(h:FT l lo hi K=some r)(N:BJ z lo d)(p:BJ z hi j):
 ∃b B T,Bnd hi j l.length l.length B/\Bnd lo d 0 B b/\T=(l.take B).drop b/\B<=l.length/\b<=B/\K T=some r:=by
 rcases N with⟨rfl,rfl⟩|⟨x,u,rfl,rfl,hx⟩
 .rcases p with⟨rfl,rfl⟩|⟨y,w,rfl,rfl,O⟩
  .exact⟨0,l.length,l,.inl ⟨rfl,rfl,rfl⟩,.inl ⟨rfl,rfl,rfl⟩,by simp,ZAN _,ZBF _,h⟩
  .let⟨n,C,h2⟩:=agZ.1 h
   let⟨k,D,h4⟩:=ZAG.1 h2
   obtain⟨E,rfl⟩:=b1Z C O
   let⟨G,I,L⟩:=czZ D
   exact⟨0,k,_,.inr ⟨E,n,rfl,G,I,L⟩,.inl ⟨rfl,rfl,rfl⟩,by simp,by omega,ZBF _,h4⟩
 .rcases p with⟨rfl,rfl⟩|⟨y,w,rfl,rfl,O⟩
  .let⟨n,C,h2⟩:=agZ.1 h
   let⟨k,D,h4⟩:=ZAG.1 h2
   obtain⟨E,rfl⟩:=b1Z C hx
   let⟨G,I,L⟩:=czZ D
   exact⟨k,l.length,_,.inl ⟨rfl,rfl,rfl⟩,.inr ⟨E,n,rfl,G,I,L⟩,by simp,ZAN _,by omega,h4⟩
  .let⟨n,C,h2⟩:=agZ.1 h
   let⟨k,D,h4⟩:=ZAG.1 h2
   let⟨n',h5,U⟩:=agZ.1 h4
   let⟨k',V,W⟩:=ZAG.1 U
   obtain⟨E,rfl⟩:=b1Z C O
   let⟨G,I,L⟩:=czZ D
   obtain⟨R,rfl⟩:=b1Z h5 hx
   let⟨p1,X,Y⟩:=czZ V
   exact⟨k',k,_,.inr ⟨E,n,rfl,G,I,L⟩,.inr ⟨R,n',rfl,p1,X,Y⟩,rfl,by omega,by omega,W⟩
theorem n4Z{u}{l}{A}{c b h}(G:l.length<=c)(hm:c<=maxLen)(I:A=none->c=0)
 (j:l.length≠0->∃b off,A=some ⟨b,off,none⟩/\¬z.M b/\b<z.w.heap.size/\fX z.w z.M z.ρ b off u l)(hh:h<=l.length)(hb:b<=h):
 bE z (.p (.sl u) ((l.take h).drop b)) (.slice (if c=b then A else A.map (·.add (b*u.cells))) (h-b) (c-b)):=by
 have d:((l.take h).drop b).length=h-b:=by rw[ZAv,ZAQ];omega
 have:cU z.w z.M z.ρ (.sl u) ((l.take h).drop b) (.slice (if c=b then A else A.map (·.add (b*u.cells))) ((l.take h).drop b).length (c-b)):=by
  refine .mkSc ⟨_,_,rfl,by omega,by omega,λh0=> ?_,λh0=> ?_⟩ rfl
  .split at h0<;>simp_all
  .have B:=by rwa [d] at h0
   obtain⟨C,off,rfl,D,h2,E⟩:=j (by omega);refine⟨C,off+b*u.cells,?_,D,h2,?_⟩
   .rw[ZAJ (by omega)];simp[Addr.add_mid]
   .have:=E.sub b (h-b);rwa [<-List.drop_take] at this
 rw[d] at this;exact .p _ _ _ this
theorem nUZ{t}{a}{lo hi}{K}{r:β}{v}{X U}(h:qM P t a lo hi H K=some r)(hH:bH z H)(T:bE z a v)
 (I:BJ z lo X)(L:BJ z hi U):OkP P (Instr.sliceAt t v X U none) z K r:=by
 unfold qM at h;split at h
 .rename_i N;obtain⟨l,h1,h2⟩:=agZ.1 h;obtain rfl:=enZ h1 T;obtain⟨b,D,l',E,G,rfl,q3,q4,q5⟩:=lvZ h2 I L;refine .mk' ?_ (.mkS _) q5;have ae:(⟨⟨l⟩⟩:ByteArray).size=l.length:=rfl;simp only[Instr.sliceAt,Instr.slice,Sem.run_bind,run_underlying N,Result.andThen_ok];simp only[Option.isSome_none,ZBK,ZCl,ae];have:=bpZ (P:=P) (isSlice:=false) z.w (ZAN l.length) E G;simp only[Sem.run_bind,Sem.run_pure,Result.andThen_ok,this];congr 2;apply ByteArray.ext;rw[ByteArray.data_extract];apply ZB4;rw[ZCO,ZCJ,List.drop_take]
 .rename_i e N;split at h
  .rename_i es id;cases hb:(Nat.beq es (P.cellsOf e)&& !Nat.beq es 0)<;>rw[hb] at h<;>simp only[bq_true,bq_false] at h
   .cases h
   simp only[ZAF,ZAl,afZ] at hb;obtain⟨he,B⟩:=hb;have d:es≠0:=λh=>by rw[h] at B;cases B
   split at h
   .obtain⟨_,rfl⟩:(none:Option AV)=none/\X=none:=by rcases I with h|⟨_,_,h,_⟩<;>first|exact h|cases h
    obtain⟨_,rfl⟩:(none:Option AV)=none/\U=none:=by rcases L with h|⟨_,_,h,_⟩<;>first|exact h|cases h
    have ac:∃A n c,v= .slice A n c/\n<=c:=by
     cases T with
     |slfV _ _ A j=>exact⟨A,0,0,rfl,ZAN _⟩
     |slf _ _ g sz n c j Y hs hm=>exact⟨_,n,c,rfl,Y⟩
    obtain⟨A,n,c,rfl,aa⟩:=ac;have C:=a1Z (A:=A) z.w N he.symm d aa (.inl ⟨rfl,rfl,rfl⟩) (.inl ⟨rfl,rfl,rfl⟩);have e1:(if c=0 then A else A.map (·.add (0*es)))=A:=by
     split
     .rfl
     .cases A<;>simp[Addr.add]
    rw[e1] at C;exact .mk' C (by simpa using T) h
   .rename_i lo hi _;obtain⟨fz,e',u,l,hg,ab,h3⟩:=dSZ h;obtain⟨D,E,h4⟩:=c4Z h3 L;obtain⟨b,G,h5⟩:=c4Z h4 I;have V:=E.le (ZAN _);have l2:=G.le (ZBF _);obtain⟨A,c,rfl,hc,_,hA,_⟩:=jmZ hH hg T;refine .mk' (a1Z z.w N he.symm d hc E G) ?_ h5;rcases hA with j|⟨g,sz,n,j,rfl,hs,hm⟩
    .obtain⟨rfl,_⟩:=hH.virt hg j;have e0:=Nat.le_zero.1 V;have e1:b=0:=by omega
     subst e0;subst e1;cases T with
     |slfV _ _ _ _=>exact .slV _ _ _ _ j
     |slf _ _ _ _ _ _ D=>rw[j] at D;cases D
    .have:=lKZ j l2 (by omega:D<=c) (by rw[ZAz];exact hs) hm;simpa using this
  .rename_i es id off n;cases hb:(Nat.beq es (P.cellsOf e)&& !Nat.beq es 0)<;>rw[hb] at h<;>simp only[bq_true,bq_false] at h
   .cases h
   simp only[ZAF,ZAl,afZ] at hb;obtain⟨he,B⟩:=hb;have d:es≠0:=λh=>by rw[h] at B;cases B
   obtain⟨D,E,h4⟩:=c4Z h L;obtain⟨b,G,h5⟩:=c4Z h4 I;have V:=E.le (ZAN _);have l2:=G.le (ZBF _);cases T with
   |slV _ _ _ A j=>
    refine .mk' (a1Z z.w N he.symm d (ZAN 0) E G) ?_ h5;have e0:D=0:=by omega
    have e1:b=0:=by omega
    subst e0;subst e1;exact .slV _ _ _ _ j
   |slE _ _ _ g sz m o j=>
    refine .mk' (a1Z z.w N he.symm d (ZAN 0) E G) ?_ h5;have e0:D=0:=by omega
    have e1:b=0:=by omega
    subst e0;subst e1;exact .slE _ _ _ _ _ _ _ j
   |sl _ _ _ _ g sz m c j Y hs hm=>
    exact .mk' (a1Z z.w N he.symm d Y E G) (lKZ j l2 (by omega) hs hm) h5
  .rename_i u l;cases hb:(Nat.beq u.cells (P.cellsOf e)&& !Nat.beq u.cells 0)<;>rw[hb] at h<;>simp only[bq_true,bq_false] at h
   .cases h
   simp only[ZAF,ZAl,afZ] at hb;obtain⟨he,B⟩:=hb;have d:u.cells≠0:=λh=>by rw[h] at B;cases B
   obtain⟨b,D,l',E,G,rfl,q3,q4,q5⟩:=lvZ h I L;obtain⟨A,c,rfl,hc,hm,Y,hA⟩:=cU.sl (t:=u) T.v;exact .mk' (a1Z z.w N he.symm d hc E G) (n4Z hc hm Y hA q3 q4) q5
  .obtain⟨hm,h3⟩:=aeZ.1 h;simp only[ZAl] at hm;have d:P.cellsOf e≠0:=λh=>by rw[h] at hm;cases hm
   obtain⟨D,E,h4⟩:=c4Z h3 L;obtain⟨b,G,h5⟩:=c4Z h4 I;have V:=E.le (ZAN _);have l2:=G.le (ZBF _);have e0:D=0:=by omega
   have e1:b=0:=by omega
   subst e0;subst e1;obtain⟨rfl,_⟩:=T.v.opq;have C:=a1Z (P:=P) (A:=none) z.w N rfl d (ZAN 0) E G;exact .mk' (x:=.p .opq (.slice none 0 0)) (v:=.slice none 0 0) (by simpa using C) T h5
  .rename_i f u x;cases hb:(Nat.beq u.cells (P.cellsOf e)&& !Nat.beq u.cells 0)<;>rw[hb] at h<;>simp only[bq_true,bq_false] at h
   .cases h
   simp only[ZAF,ZAl,afZ] at hb;obtain⟨he,B⟩:=hb;have d:u.cells≠0:=λh=>by rw[h] at B;cases B
   obtain⟨D,E,h4⟩:=c4Z h L;obtain⟨b,G,h5⟩:=c4Z h4 I;have V:=E.le (ZAN _);have l2:=G.le (ZBF _);have hx:=T.v.scal rfl rfl;have W:∀A c,c<=maxLen->(A=none->c=0)->bE z (.p (.ref f u) (.inl [])) (.slice A 0 c):=λA c h1 h2=>
    .p _ _ _ (.mkSc ⟨A,c,rfl,ZBF _,h1,h2,λh=>absurd rfl h⟩ rfl)
   rcases x with l|(_|⟨k,off,n⟩)
   .have hv:cU z.w z.M z.ρ (.sl u) l v:=.mkSc hx rfl;obtain⟨A,c,rfl,hc,hm,Y,hA⟩:=cU.sl (t:=u) hv;refine .mk' (a1Z z.w N he.symm d hc E G) ?_ h5;have ad:=(n4Z (z:=z) hc hm Y hA V l2).v.scal rfl rfl;rw[show lI (α:=u.den) (.inl l) b (D-b)= .inl ((l.take D).drop b) from by unfold lI;rw[show b+(D-b)=D from by omega]];exact .p _ _ _ (.mkSc ad rfl)
   .have hx:[v]=[.slice none 0 0]:=hx;simp only[ZBV,ZBl] at hx;subst hx;have V:D<=0:=V;obtain rfl:D=0:=by omega
    obtain rfl:b=0:=by omega
    have C:=a1Z (P:=P) (A:=none) z.w N he.symm d (ZAN 0) E G;refine .mk' (v:=.slice none 0 0) (by simpa using C) ?_ h5;exact .p _ _ _ (.mkSc rfl rfl)
   .have V:D<=n:=V;have E:Bnd hi U n n D:=E;rcases hx with⟨A,j,rfl,hx⟩|⟨g,sz,m,c,j,aa,hs,hm,hx⟩
    .simp only[ZBV,ZBl] at hx;subst hx;obtain rfl:D=0:=by omega
     obtain rfl:b=0:=by omega
     have C:=a1Z (P:=P) (A:=A) z.w N he.symm d (ZAN 0) E G;refine .mk' C ?_ h5;exact W _ _ (ZBF _) λ_=>rfl
    .simp only[ZBV,ZBl] at hx;subst hx;refine .mk' (a1Z z.w N he.symm d aa E G) ?_ h5;by_cases h0:D-b=0
     .rw[show lI (α:=u.den) (.inr (some (k,off,n))) b (D-b)= .inl [] from by unfold lI;rw[h0];rfl,h0];refine W _ _ (by omega) λhA=> ?_;split at hA
      .cases hA
      .cases hA
     .rw[show lI (α:=u.den) (.inr (some (k,off,n))) b (D-b)= .inr (some (k,off+b,D-b)) from by
       unfold lI;have:Nat.beq (D-b) 0=false:=by
        cases hh:Nat.beq (D-b) 0 with
        |false=>rfl
        |true=>rw[afZ] at hh;exact absurd hh h0
       rw[this];rfl,ZAJ (by omega)]
      refine .p _ _ _ (.mkSc (.inr ⟨g,sz,m,c-b,j,by omega,?_,by omega,?_⟩) rfl)
      .have:off+b+(c-b)=off+c:=by omega
       rw[this];exact hs
      .simp[Addr.add_mid,ZAk]
  .cases h
 .rename_i n e N;split at h
  .rename_i es id;cases hb:(Nat.beq es (P.cellsOf e)&& !Nat.beq es 0)<;>rw[hb] at h<;>simp only[bq_true,bq_false] at h
   .cases h
   simp only[ZAF,ZAl,afZ] at hb;obtain⟨he,B⟩:=hb;have d:es≠0:=λh=>by rw[h] at B;cases B
   obtain⟨fz,e',u,l,hg,ab,h3⟩:=dSZ h;obtain⟨h4,h5⟩:=aeZ.1 h3;simp only[ZAF,afZ,ZAm] at h4;obtain⟨O,h4⟩:=h4;cases T with|own _ _ _ _ g sz m j=>
   obtain⟨_,_,_,cs,fr,a1,a2,a3,a4,a5,a6,a7⟩:=hH.real hg j;have af:n<=maxLen:=by unfold cL at O;unfold maxLen;omega
   split at h5
   .obtain⟨_,rfl⟩:(none:Option AV)=none/\X=none:=by rcases I with h|⟨_,_,h,_⟩<;>first|exact h|cases h
    obtain⟨_,rfl⟩:(none:Option AV)=none/\U=none:=by rcases L with h|⟨_,_,h,_⟩<;>first|exact h|cases h
    have C:=cfZ (P:=P) (g:=g) (o:=0*es+0) (lo:=none) (hi:=none) z.w N he.symm d (.inl ⟨rfl,rfl,rfl⟩) (.inl ⟨rfl,rfl,rfl⟩);refine .mk' C ?_ h5;have:(if n=0 then(⟨g,0*es+0,none⟩:Addr) else⟨g,0*es+0+0*es,none⟩)=⟨g,0,none⟩:=by split<;>simp
    rw[this];have ag:n=m:=h4.trans a4;subst ag;exact .slf _ _ _ _ _ _ j (by omega) (by rw[ab,Nat.sub_zero,h4];exact a5) (by omega)
   .obtain⟨D,E,h6⟩:=c4Z h5 L;obtain⟨b,G,h7⟩:=c4Z h6 I;have V:=E.le (ZAN _);have l2:=G.le (ZBF _);refine .mk' (cfZ z.w N he.symm d E G) ?_ h7;have:=lKZ (z:=z) (es:=es) (off:=0) (c:=n) j l2 V (by rw[ZAz,ab,h4];exact a5) af;simp only[ZBq,ZAz,ZCb] at this⊢;split at this
    .rename_i R;rw[ZAL R];exact this
    .rename_i R;rw[ZAJ R];simpa[Addr.add_mid] using this
  .rename_i u l;cases hb:(Nat.beq u.cells (P.cellsOf e)&& !Nat.beq u.cells 0&&Nat.ble n cL&&Nat.beq n l.length)<;>rw[hb] at h<;>simp only[bq_true,bq_false] at h
   .cases h
   simp only[ZAF,ZAl,afZ,ZAm] at hb;obtain⟨⟨⟨he,B⟩,O⟩,Y⟩:=hb;have d:u.cells≠0:=λh=>by rw[h] at B;cases B
   cases T with|pt _ _ _ _ b0 off hM ah hr=>
   obtain⟨b,D,l',E,G,rfl,q3,q4,q5⟩:=lvZ h I L;rw[<-Y] at E;refine .mk' (cfZ z.w N he.symm d E G) ?_ q5;have:=n4Z (z:=z) (u:=u) (l:=l) (A:=some ⟨b0,off,none⟩) (c:=n) (by omega) (by unfold cL at O;unfold maxLen;omega) (λh=>by cases h) (λ_=>⟨b0,off,rfl,hM,ah,hr⟩) q3 q4;simp only[ZBq,ZCb] at this⊢;split at this
   .rename_i R;rw[ZAL R];exact this
   .rename_i R;rw[ZAJ R];simpa[Addr.add_mid] using this
  .cases h
 grind
theorem d2Z{t e}{A}{D d h b m y:Nat}{lo}{p E G}{R T}{B C:Int}(w)(hu:P.underlying t=some (.slice e))(hm:P.cellsOf e=m)(U:m≠0)
 (V:G=some (.int T C))(I:0<=C)(K:C<=d)(hy:C.toNat=y)(W:E=some (.int R B))(L:0<=B)(N:B<=y)(hx:B.toNat=h)(hb:Bnd lo p 0 h b):
 (Instr.sliceAt t (.slice A D d) p E G).run P w= .ok (.slice (if y=b then A else A.map (·.add (b*m))) (h-b) (y-b)) w:=by
 have O:∀(kk) (n:Int) (y:Nat) (j),0<=n->n<=y->(Instr.sliceBound (.int kk n) y j).run P w= .ok n.toNat w:=λkk n y j h0 h1=>by
  simp[Instr.sliceBound,Sem.run_bind,asIntOf,h0,h1]
 have hs:=a6Z w hm U;subst V W;have X:(Instr.sliceBounds true D d p (some (.int R B)) (some (.int T C))).run P w= .ok (b,h,y) w:=by
  rcases hb with⟨_,rfl,rfl⟩|⟨Y,n',rfl,p1,p2,p3⟩
  .simp[Instr.sliceBounds,Sem.run_bind,O T C d _ I K,hy,O R B y _ L N,hx]
  .simp[Instr.sliceBounds,Sem.run_bind,O T C d _ I K,hy,O R B y _ L N,hx,O Y n' _ _ p1 p2,p3]
 simp[Instr.sliceAt,Instr.slice,Sem.run_bind,run_underlying hu,X,hs]
theorem lMZ{t}{a hi Y}{lo}{K}{r:β}{v C D}{E}(h:nI P t a lo hi Y K=some r)(ha:bE z a v)
 (R:BJ z lo E)(T:bE z hi C)(U:bE z Y D):OkP P (Instr.sliceAt t v E (some C) (some D)) z K r:=by
 unfold nI at h;split at h
 .rename_i e hu;split at h
  .rename_i u l;cases hb:(Nat.beq u.cells (P.cellsOf e)&& !Nat.beq u.cells 0)<;>rw[hb] at h<;>simp only[bq_true,bq_false] at h
   .cases h
   simp[afZ] at hb
   let⟨he,G⟩:=hb
   have I:u.cells≠0:=λh=>by rw[h] at G;cases G
   let⟨y,h1,h2⟩:=agZ.1 h
   let⟨m,h3,h4⟩:=ZAG.1 h2
   obtain⟨ky,rfl⟩:=b1Z h1 U
   let⟨q1,q2,q3⟩:=czZ h3
   let⟨x,h5,h6⟩:=agZ.1 h4
   let⟨B,h7,V⟩:=ZAG.1 h6
   obtain⟨kx,rfl⟩:=b1Z h5 T
   let⟨p1,p2,p3⟩:=czZ h7
   obtain⟨A,c,rfl,hc,hm,hn,hA⟩:=cU.sl ha.v;have aa:m<=List.length l:=by omega
   have L:B<=m:=by omega
   have j:(List.take m l).length=m:=by rw[ZAQ];omega
   have N:∀b,b<=B->bE z (.p (.sl u) (((List.take m l).take B).drop b)) (.slice (if m=b then A else A.map (·.add (b*u.cells))) (B-b) (m-b)):=λb W=>by
    have:=n4Z (by rw[j];exact ZAN _) (by omega) (λh0=>by have:=hn h0;omega) (λh0=>by
     rw[j] at h0
     let⟨b0,off,e1,e2,e3,e4⟩:=hA (by omega)
     exact⟨b0,off,e1,e2,e3,λi e d=>e4 i e (by rw[ZAn] at d;split at d<;>first|exact d|cases d)⟩) (by rw[j];exact L) W
    exact this
   have O:((List.take m l).take B)=List.take B l:=by rw[List.take_take,ZA8 L]
   rcases R with⟨rfl,rfl⟩|⟨xl,vl,rfl,rfl,X⟩
   .refine .mk' (d2Z z.w hu he.symm I rfl q1 (by omega) q3 rfl p1 (by omega) p3 (.inl ⟨rfl,rfl,rfl⟩)) ?_ V;have:=N 0 (ZBF _);rw[O,ZB2] at this;exact this
   .simp only at V
    let⟨n,g1,g2⟩:=agZ.1 V
    let⟨b,g3,g4⟩:=ZAG.1 g2
    obtain⟨kl,rfl⟩:=b1Z g1 X
    let⟨r1,r2,r3⟩:=czZ g3
    refine .mk' (d2Z (lo:=some xl) z.w hu he.symm I rfl q1 (by omega) q3 rfl p1 (by omega) p3 (.inr ⟨kl,n,rfl,r1,r2,r3⟩)) ?_ g4;have:=N b (by omega);rw[O] at this;exact this
  .cases h
 grind
end
section
variable {P : Program} {β : Type} {z : Z} {H : Hp}
def fN(z:Z)(u:Ty)(m:List u.den)(v:Value):Prop:=
 (∃h:u= .byte,v= .string ⟨⟨Ty.toL h m⟩⟩)\/
 ∃A c,v= .slice A m.length c/\m.length<=c/\c<=maxLen/\(m.length≠0->∃b off,A=some ⟨b,off,none⟩/\b<z.w.heap.size/\fX z.w z.M z.ρ b off u m)
theorem gGZ{u}{a}{K}{r:β}{v}(h:pE H u a K=some r)(j:bH z H)(p:bE z a v):∃m,fN z u m v/\K m=some r:=by
 unfold pE at h;split at h
 .rename_i t x;rcases aRZ h with⟨ht,h⟩|h
  .subst ht;obtain⟨A,c,rfl,B,hm,E,C⟩:=cU.sl p.v;exact⟨x,.inr ⟨A,c,rfl,B,hm,λh0=>by let⟨b,off,e,_,h2,G⟩:=C h0;exact⟨b,off,e,h2,G⟩⟩,h⟩
  .rcases aRZ h with⟨ht,h⟩|h
   .rcases aRZ h with⟨I,h⟩|h
    .subst ht;obtain rfl:u= .byte:=by injection I with I;exact I.symm
     obtain rfl:=p.v.str;exact⟨x,.inl ⟨rfl,rfl⟩,h⟩
    .cases h
   .let⟨l,O,h2⟩:=agZ.1 h
    obtain⟨A,c,rfl,B,hm,E,C⟩:=cU.sl (nsZ O p.v);exact⟨l,.inr ⟨A,c,rfl,B,hm,λh0=>by let⟨b,off,e,_,h2,G⟩:=C h0;exact⟨b,off,e,h2,G⟩⟩,h2⟩
 .rename_i es id;split at h
  .rename_i fz e t l hg;rcases aRZ h with⟨ht,h⟩|h
   .subst ht;cases hb:Nat.beq es t.cells<;>rw[hb] at h<;>simp only[bq_true,bq_false] at h
    .cases h
    .obtain⟨A,c,rfl,B,_,C,L⟩:=jmZ j hg p;refine⟨l,.inr ⟨A,c,rfl,B,L,λh0=> ?_⟩,h⟩
     .rcases C with d|⟨g,N,n,d,rfl,R,hm⟩
      .obtain⟨rfl,_⟩:=j.virt hg d;exact absurd rfl h0
      .exact⟨g,0,rfl,(j.real hg d).1,(j.real hg d).2.2.2.rowAt⟩
   .cases h
  .cases h
 .rename_i es id off n;split at h
  .rename_i fz e t l hg;rcases aRZ h with⟨ht,h5⟩|h
   .subst ht;clear h;cases hb:(Nat.beq es t.cells&&Nat.ble (off+n) l.length)<;>rw[hb] at h5<;>simp only[bq_true,bq_false] at h5
    .cases h5
    .simp[ZAm] at hb;obtain⟨rfl,hb⟩:=hb;have D:((l.drop off).take n).length=n:=by rw[ZAQ,ZAv];omega
     have key:fN z t ((l.drop off).take n) v:=by
      refine .inr ?_;rw[D];cases p with
      |slV _ _ _ A d=>exact⟨A,0,rfl,ZAN _,by unfold maxLen;omega,λh=>absurd rfl h⟩
      |slE _ _ _ g N m o d=>exact⟨_,0,rfl,ZAN _,by unfold maxLen;omega,λh=>absurd rfl h⟩
      |sl _ _ _ _ g N m c d E R hm=>
       refine⟨_,c,rfl,E,hm,λ_=>⟨g,off*t.cells,rfl,(j.real hg d).1,?_⟩⟩;have:=(j.real hg d).2.2.2.rowAt.sub off n;rwa [ZAz] at this
     exact⟨_,key,h5⟩
   .cases h
  .cases h
 grind
theorem oEZ(l):∀(s:ByteArray),((l.map λc=>(c.toNat:Int)).foldl (λr n=>r.push (UInt8.ofNat n.toNat)) s).data.toList=s.data.toList++l:=by
 induction l<;>simp_all
theorem fX.bytes{w}{M}{ρ}{b off}{l:List UInt8}(h:fX w M ρ b off .byte l):w.rangeAt b off (l.map λc=>Value.int .u8 (c.toNat:Int)):=λj v d=>by
 rw[ZAV] at d;obtain⟨c,p,rfl⟩:=ZAH.1 d
 let⟨u,h2,B⟩:=h j c p
 subst h2;have:=B 0 _ rfl
 simp_all[Ty.cells]
theorem lfZ{A}{l:List UInt8}{c}(p:l.length≠0->∃b off,A=some ⟨b,off,none⟩/\b<z.w.heap.size/\fX z.w z.M z.ρ b off .byte l):
 (Conv.bytesToString (.slice A l.length c)).run P z.w= .ok (.string ⟨⟨l⟩⟩) z.w:=by
 cases A with
 |none=>
  have:l=[]:=by
   rcases ZBm l.length with h|h
   .simp_all
   .simp_all
  subst this
  rfl
 |some a=>
  have B:(loadCells a l.length).run P z.w= .ok ((l.map λc=>(c.toNat:Int)).map (Value.int .u8)).toArray z.w:=by
   have:=run_loadCells_list (P:=P) z.w a (l.map λc=>Value.int .u8 (c.toNat:Int)) (λj v d=>by
    have C:=by
     have:=(ZAC.1 d).1;simpa using this
    let⟨b,off,D,_,E⟩:=p (by omega)
    cases D;rw[Addr.add_mid];exact E.bytes j v d)
   simpa[Function.comp_def] using this
  rw[run_bytesToString z.w a l.length c _ B];congr 2;apply ByteArray.ext;apply ZB4
  simp_all[oEZ]
theorem uPZ{e}(h:isB P e=true):P.underlying e=some (.int .u8):=by
 grind[isB]
theorem f0Z{p B}{a}{K}{r:β}{v}(h:jO P p B a H K=some r)(E:bH z H)(D:bE z a v):OkP P (convert p B v) z K r:=by
 unfold jO at h;split at h
 .rename_i ks k d j
  let⟨n,C,h2⟩:=agZ.1 h
  obtain rfl:=eqZ C D;exact .mk' (by simp[convert,run_underlying d,run_underlying j,Conv.intToInt]) (.mkI _ _) h2
 .rename_i d j
  let⟨l,C,h2⟩:=agZ.1 h
  obtain rfl:=enZ C D;exact .mk' (by simp[convert,run_underlying d,run_underlying j]) (.mkS _) h2
 .rename_i e d j;cases hb:isB P e<;>rw[hb] at h<;>simp only[bq_true,bq_false] at h
  .cases h
  .let⟨m,C,h2⟩:=gGZ h E D
   rcases C with⟨hh,rfl⟩|⟨A,c,rfl,I,L,G⟩
   .have:Ty.toL hh m=m:=rfl;rw[this];exact .mk' (by simp[convert,run_underlying d,run_underlying j]) (.mkS _) h2
   .refine .mk' ?_ (.mkS _) h2;have:=lfZ (P:=P) (c:=c) G;cases A<;>simp[convert,run_underlying d,run_underlying j,run_underlying (uPZ hb),this]
 .cases h
 grind
theorem s2Z{j}{k k'}{x y}{t}{K}{r:β}(h:AE j k x y K=some r)(hk:KU j k k'=true):
 OkP P (binOp j t (.int k x) (.int k' y)) z K r:=by
 cases j<;>simp[AE] at h<;>simp[KU] at hk
 case quo=>
  let⟨d,h2⟩:=aeZ.1 h
  simp[ZBB] at d;subst hk;exact .mk' (by simp[binOp,Op.intDiv,d]) (.mkI _ _) h2
 case rem=>
  let⟨d,h2⟩:=aeZ.1 h
  simp[ZBB] at d;subst hk;exact .mk' (by simp[binOp,Op.intDiv,d]) (.mkI _ _) h2
 case shl=>
  let⟨d,h2⟩:=aeZ.1 h
  simp at d;exact .mk' (by simp[binOp,Op.shift,show¬y<0 from by omega]) (.mkI _ _) h2
 case shr=>
  let⟨d,h2⟩:=aeZ.1 h
  simp at d;exact .mk' (by simp[binOp,Op.shift,show¬y<0 from by omega]) (.mkI _ _) h2
 case add=>subst hk;exact .mk' (by simp[binOp,Op.intArith]) (.mkI _ _) h
 case sub=>subst hk;exact .mk' (by simp[binOp,Op.intArith]) (.mkI _ _) h
 case mul=>subst hk;exact .mk' (by simp[binOp,Op.intArith]) (.mkI _ _) h
 case and=>subst hk;exact .mk' (by simp[binOp,Op.intBits,xV]) (.mkI _ _) h
 case or=>subst hk;exact .mk' (by simp[binOp,Op.intBits,xV]) (.mkI _ _) h
 case xor=>subst hk;exact .mk' (by simp[binOp,Op.intBits,xV]) (.mkI _ _) h
 case andNot=>subst hk;exact .mk' (by simp[binOp,Op.intBits,xV]) (.mkI _ _) h
 case eql=>subst hk;exact .mk' (by simp[binOp,Op.intCmp]) (.mkB _) h
 case neq=>subst hk;exact .mk' (by simp[binOp,Op.intCmp,bne]) (.mkB _) h
 case lss=>subst hk;exact .mk' (by simp[binOp,Op.intCmp]) (.mkB _) h
 case leq=>subst hk;exact .mk' (by simp[binOp,Op.intCmp]) (.mkB _) h
 case gtr=>subst hk;exact .mk' (by simp[binOp,Op.intCmp]) (.mkB _) h
 case geq=>subst hk;exact .mk' (by simp[binOp,Op.intCmp]) (.mkB _) h
theorem cqZ(l):(⟨⟨l⟩⟩:ByteArray).toList=l:=by simp_all
theorem jWZ(l m):(⟨⟨l⟩⟩:ByteArray)++(⟨⟨m⟩⟩:ByteArray)=⟨⟨l++m⟩⟩:=by
 apply ByteArray.ext
 simp_all
theorem sZZ{d}{x y}{t}{K}{r:β}(h:AF d x y K=some r):OkP P (binOp d t (.string ⟨⟨x⟩⟩) (.string ⟨⟨y⟩⟩)) z K r:=by
 cases d<;>simp only[AF] at h<;>first|(cases h)|skip
 case add=>
  let⟨j,h2⟩:=aeZ.1 h
  rw[ZAm] at j;refine .mk' ?_ (.mkS _) h2;have:¬(((⟨⟨x⟩⟩:ByteArray).size+(⟨⟨y⟩⟩:ByteArray).size:Nat):Int)>IntKind.i64.max:=by
   show¬((x.length+y.length:Nat):Int)>_;have:IntKind.i64.max=9223372036854775807:=by decide
   unfold cL at j;omega
  simp[binOp,Op.stringOp]
  simp_all[jWZ]
 all_goals exact .mk' (by simp only[binOp,Op.stringOp,cqZ];rfl) (.mkB _) h
theorem viZ{f}{d}(w){M}{ρ}
 (hf:∀t u,f t u=true->∀(x y) (vx vy),cU w M ρ u x vx->cU w M ρ u y vy->(Op.equalIn d t vx vy).run P w= .ok (u.eqb x y) w)
 (I:∀t u,f t u=true->0<u.cells/\(u.isAgg=true->gI P t=true)/\(u.isAgg=false->fW P t=true)):
 ∀(fs) (o) (u),rJ P f fs o u=true->∀(x y) (xs G),Cl w M ρ u x ((xs.toList.drop o).take u.cells)->Cl w M ρ u y ((G.toList.drop o).take u.cells)->
  (Op.eqFields d xs G fs).run P w= .ok (u.eqb x y) w:=by
 have j:∀(x:Field) (o) (u),(x.name != "_" &&Nat.beq x.offset o&&Nat.beq (P.cellsOf x.type) u.cells&&f x.type u)=true->∀(a) (xs),Cl w M ρ u a ((xs.toList.drop o).take u.cells)->
  x.name≠ "_" /\∃v,(part x.type xs x.offset).run P w= .ok v w/\cU w M ρ u a v:=by
  intro x o u h a xs N;simp only[ZAF,bne_iff_ne,ne_eq,afZ] at h;obtain⟨⟨⟨K,rfl⟩,h3⟩,h4⟩:=h;obtain⟨g1,g2,g3⟩:=I _ _ h4;refine⟨K,?_⟩;have O:=N.len;cases hg:u.isAgg
  .have B:u.cells=1:=by cases u<;>first|rfl|simp_all[Ty.isAgg]
   match hvs:(xs.toList.drop x.offset).take u.cells,O with
   |[],O=>simp_all
   |_::_::_,O=>simp_all
   |[v],_=>
    rw[hvs] at N;have hv:xs[x.offset]? =some v:=by
     have:((xs.toList.drop x.offset).take u.cells)[0]? =some v:=by rw[hvs];rfl
     rw[B] at this;simpa using this
    exact⟨v,bhZ w (g3 hg) hv,.mkSc N hg⟩
  .refine⟨_,btZ w (g2 hg) h3 (by omega),⟨_,N,?_⟩⟩;rw[hg];simp only[ZAM];congr 1
   grind
 intro fs;induction fs with
 |nil=>simp_all[rJ]
 |cons x fs ih=>
  intro o u h a b xs G ha hb
  match fs,u,h with
  |[],u,h=>
   have p:(x.name != "_" &&Nat.beq x.offset o&&Nat.beq (P.cellsOf x.type) u.cells&&f x.type u)=true:=by
    cases u<;>simpa only[rJ] using h
   obtain⟨K,C,R,T⟩:=j x o u p a xs ha;obtain⟨_,D,p1,U⟩:=j x o u p b G hb;have E:f x.type u=true:=by
    simp only[ZAF] at p;exact p.2
   have:=hf _ _ E a b C D T U;simp only[Op.eqFields,K,ne_eq,not_false_eq_true,ZCq,Sem.run_bind,R,p1,this,Result.andThen_ok];cases u.eqb a b<;>simp
  |y::fs,.pair s t,h=>
   simp only[rJ] at h;have p:(x.name != "_" &&Nat.beq x.offset o&&Nat.beq (P.cellsOf x.type) s.cells&&f x.type s)=true/\rJ P f (y::fs) (o+s.cells) t=true:=by
    simp only[ZAF] at h⊢;exact h
   obtain⟨p,V⟩:=p;obtain⟨u1,u2,e1,c1,c2⟩:=ha;obtain⟨w1,w2,e2,d1,d2⟩:=hb;have L:∀(l C D:List Value),(l.drop o).take (Ty.pair s t).cells=C++D->C.length=s.cells->D.length=t.cells->(l.drop o).take s.cells=C/\(l.drop (o+s.cells)).take t.cells=D:=by
    intro l C D e l1 l2;simp only[Ty.cells] at e;constructor
    .rw[show(l.drop o).take s.cells=((l.drop o).take (s.cells+t.cells)).take s.cells from by rw[List.take_take,ZA8 (by omega)],e,ZBU (by omega),ZAw (by omega)]
    .rw[show(l.drop (o+s.cells)).take t.cells=((l.drop o).take (s.cells+t.cells)).drop s.cells from by rw[List.drop_take,List.drop_drop,ZA6],e,ZBw (by omega),ZBG (by omega),ZBb]
   obtain⟨W,X⟩:=L _ _ _ e1 c1.len c2.len;obtain⟨Y,aa⟩:=L _ _ _ e2 d1.len d2.len;obtain⟨K,C,R,T⟩:=j x o s p a.1 xs (by rw[W];exact c1);obtain⟨_,D,p1,U⟩:=j x o s p b.1 G (by rw[Y];exact d1);have E:f x.type s=true:=by
    simp only[ZAF] at p;exact p.2
   have:=hf _ _ E a.1 b.1 C D T U;have hr:=ih (o+s.cells) t V a.2 b.2 xs G (by rw[X];exact c2) (by rw[aa];exact d2);rw[Op.eqFields];simp only[K,ne_eq,not_false_eq_true,ZCq,Sem.run_bind,R,p1,this,Result.andThen_ok];simp only[Ty.eqb];cases s.eqb a.1 b.1
   .simp
   simp_all
  |_::_,.one _,h|_::_,.int _,h|_::_,.byte,h|_::_,.bool,h|_::_,.str,h|_::_,.opq,h|_::_,.nat,h|_::_,.ptr _,h|_::_,.sl _,h|_::_,.ref _ _,h|_::_,.arr _ _,h=>grind[rJ]
end
section
variable {P : Program} {β : Type} {z : Z} {H : Hp}
theorem eDZ{t}{u}(h:oD P t u=true):0<u.cells/\(u.isAgg=true->gI P t=true)/\(u.isAgg=false->fW P t=true):=by
 unfold oD at h;simp[ZAl] at h
 let⟨d,h2⟩:=h
 refine⟨?_,λh=>by rw[h] at h2;exact h2,λh=>by rw[h] at h2;exact h2⟩;rcases ZBm u.cells with h|h<;>simp_all
theorem eUZ{w}{M}{ρ}{u}{x}{cs}(h:Cl w M ρ u x cs):Cl w M ρ u x ((cs.drop 0).take u.cells):=by
 rw[ZB2,ZAw (by rw[h.len];omega)];exact h
theorem e5Z{α:Type}{l:List α}{i}{x}(h:l[i]? =some x):l.drop i=x::l.drop (i+1):=by
 grind[ZAC,ZBW]
theorem nrZ(w){M}{ρ}:∀(n) (t) (u),eqT P n t u=true->∀(d),n<=d->∀(x y) (U V),cU w M ρ u x U->cU w M ρ u y V->
 (Op.equalIn d t U V).run P w= .ok (u.eqb x y) w
 |0,_,_,h,_,_,_,_,_,_,_,_=>by simp[eqT] at h
 |n+1,t,u,h,d,hd,x,y,U,V,hx,G=>by
  obtain⟨d,rfl⟩:∃d',d=d'+1:=⟨d-1,by omega⟩;have W:n<=d:=by omega
  have B:∀(fs) (v) (x y) (D E),P.underlying t=some (.struct fs)->(!P.stoodInHeld t&&rJ P (λt u=>oD P t u&&eqT P n t u) fs.toList 0 v)=true->Cl w M ρ v x D->Cl w M ρ v y E->
   (Op.equalIn (d+1) t (.agg D.toArray) (.agg E.toArray)).run P w= .ok (v.eqb x y) w:=by
   intro fs v x y D E p L K h2;simp[ZAl] at L;have X:P.fieldsOf t=fs:=by simp[Program.fieldsOf,p]
   rw[run_equalIn_struct w d t _ _ (by rw[X];exact p) L.1,X];refine viZ w (M:=M) (ρ:=ρ) (λt u N x y U V hx G=> ?_) (λt u N=> ?_) _ 0 v L.2 x y _ _ ?_ ?_
   .simp at N;exact nrZ w n t u N.2 d W x y U V hx G
   .simp at N;exact eDZ N.1
   .exact eUZ K
   .exact eUZ h2
  simp[eqT] at h;split at h
  .rename_i k k' p;simp at h;obtain rfl:=hx.int;obtain rfl:=G.int;exact run_equalIn_int w d t k' k x y p
  .rename_i k p;simp at h;have e1:=hx.scal rfl rfl;have e2:=G.scal rfl rfl;simp[Cl,ZBl] at e1 e2;subst e1;subst e2;rw[run_equalIn_int w d t .u8 k _ _ p];congr 1;show(((x:UInt8).toNat:Int)==((y:UInt8).toNat:Int))=((x:UInt8)==y);rw[Bool.eq_iff_iff];simp[ZBp];constructor
   .intro h;exact UInt8.toNat_inj.1 (by omega)
   .intro h;rw[h]
  .rename_i p;obtain rfl:=hx.bool;obtain rfl:=G.bool;exact run_equalIn_bool w d t x y p
  .rename_i p;obtain rfl:=hx.str;obtain rfl:=G.str;rw[run_equalIn_string w d t _ _ p,cqZ,cqZ]
   rfl
  .rename_i fs v p;obtain⟨D,K,rfl⟩:=hx;obtain⟨E,h2,rfl⟩:=G;exact B fs v x y D E p h K h2
  .rename_i fs a b p;obtain⟨D,K,rfl⟩:=hx;obtain⟨E,h2,rfl⟩:=G;exact B fs (.pair a b) x y D E p h K h2
  .rename_i m e m' v p;simp only[ZAF,afZ] at h;obtain⟨⟨⟨rfl,L⟩,N⟩,he⟩:=h;obtain⟨D,K,rfl⟩:=hx;obtain⟨E,h2,rfl⟩:=G
   let⟨f1,f2,f3⟩:=eDZ N
   have hi:=b7Z L (by omega);cases hq:P.info? e with
   |none=>simp[hq] at hi
   |some i=>
    rw[show(bif (Ty.arr m v).isAgg then Value.agg D.toArray else D.headD undef)= .agg D.toArray from rfl,show(bif (Ty.arr m v).isAgg then Value.agg E.toArray else E.headD undef)= .agg E.toArray from rfl,
     run_equalIn_array w d _ _ p hq,L]
    have Y:=K.1;have aa:=h2.1;have pt:∀(cs) (l) (q) (a),Cl w M ρ (.arr m v) l cs->l[q]? =some a->∃va,(part e cs.toArray (q*v.cells)).run P w= .ok va w/\cU w M ρ v a va:=by
     intro cs l q a ab ha;have I:=Cl.nth ab ha;have O:=I.len;cases j:v.isAgg
     .have C:v.cells=1:=by cases v<;>first|rfl|(simp[Ty.isAgg] at j;done)
      match hvs:(cs.drop (q*v.cells)).take v.cells,O with
      |[],O=>rw[C] at O;simp at O
      |_::_::_,O=>rw[C] at O;simp at O
      |[u],_=>
       rw[hvs] at I;have hv:cs.toArray[q*v.cells]? =some u:=by
        have:((cs.drop (q*v.cells)).take v.cells)[0]? =some u:=by rw[hvs];rfl
        rw[ZBa (by omega),ZAy] at this;simpa using this
       exact⟨u,bhZ w (f3 j) hv,.mkSc I j⟩
     .refine⟨_,btZ w (f2 j) L (by omega),⟨_,I,?_⟩⟩;rw[j];simp only[ZAM];congr 1;apply ZB4;rw[ZCO,ZCJ,ZA6]
    have key:∀(k i),i+k=m->(Op.eqItems d e v.cells D.toArray E.toArray (List.range' i k)).run P w= .ok (kW v.eqb (List.drop i x) (List.drop i y)) w:=by
     intro k;induction k with
     |zero=>
      intro i hi;rw[ZBG (by omega),ZBG (by omega)];simp[Op.eqItems,kW]
     |succ k ih=>
      intro i hi;have R:((x))[i]? =some (((x))[i]'(by rw[Y];omega)):=ZAB _;have T:((y))[i]? =some (((y))[i]'(by rw[aa];omega)):=ZAB _;generalize ((x))[i]'(by rw[Y];omega)=xi at R;generalize ((y))[i]'(by rw[aa];omega)=yi at T
      let⟨va,q1,q2⟩:=pt D x i xi K R
      let⟨vb,p1,p2⟩:=pt E y i yi h2 T
      have ac:=nrZ w n e v he d W xi yi va vb q2 p2;rw[e5Z R,e5Z T,List.range'_succ];simp only[Op.eqItems,Sem.run_bind,q1,p1,ac,Result.andThen_ok,kW];cases v.eqb xi yi
      .simp
      .simp only[ZAO,ZBK,ZCl,ZBT];exact ih (i+1) (by omega)
    have:=key m 0 (by omega);rw[<-List.range_eq_range'] at this;exact this
  grind
theorem jUZ{op}{t}{x y}{a b}(w)(h1:a≠.nilIface)(h2:(∃xs,a= .agg xs)->P.eqGuardType P.depth t=false):
 (eqGuard op t x y a b).run P w= .ok () w:=by
 cases a with
 |nilIface=>simp_all
 |agg xs=>
  cases b with
  |agg ys=>exact run_eqGuard_agg w op t x y xs ys (h2 ⟨xs,rfl⟩)
  |_=>cases op<;>rfl
 |_=>cases op<;>rfl
theorem iMZ{a}{K}{r:β}{v}(h:BB H a K=some r)(I:bH z H)(p:bE z a v):∃A n c,v= .slice A n c/\n<=c/\c<=maxLen/\(A=none->n=0)/\K n=some r:=by
 unfold BB at h;split at h
 .cases p with
  |slV _ _ _ A B=>exact⟨A,0,0,rfl,ZAN _,by omega,λ_=>rfl,h⟩
  |slE=>exact⟨_,0,0,rfl,ZAN _,by omega,λ_=>rfl,h⟩
  |sl _ _ _ _ g D m c B E N hm=>exact⟨_,_,c,rfl,E,hm,(λh=>by cases h),h⟩
 .split at h
  .rename_i n G;obtain⟨_,g,D,c,B,rfl,j,h2⟩:=hKZ G I p;exact⟨_,_,c,rfl,j,h2,(λh=>by cases h),h⟩
  let⟨fz,e,u,l,hg,he,C⟩:=dSZ h
  obtain⟨A,c,rfl,d,L,_,hm⟩:=jmZ I hg p;refine⟨A,_,c,rfl,d,hm,λh0=> ?_,C⟩;rcases ZBm l.length with h|h
  .exact h
  .let⟨g,D,n,_,j,_⟩:=L (by omega)
   rw[h0] at j;cases j
 .rename_i u l;obtain⟨A,c,rfl,d,hm,E,L⟩:=cU.sl p.v;exact⟨A,_,c,rfl,d,hm,λh0=>by have:=E h0;omega,h⟩
 .obtain⟨rfl,_⟩:=p.v.opq;exact⟨none,0,0,rfl,ZAN _,by unfold maxLen;omega,λ_=>rfl,h⟩
 .rename_i f u x;have d:=p.v.scal rfl rfl
  match x,h,d with
  |.inl l,h,d=>
   let⟨A,c,j,h2,C,h4,_⟩:=d
   simp[ZBl] at j;subst j;exact⟨A,_,c,rfl,h2,C,λh0=>by have:=h4 h0;omega,h⟩
  |.inr none,h,d=>
   have d:[v]=[Value.slice none 0 0]:=d;simp[ZBl] at d;subst d;exact⟨none,0,0,rfl,ZAN _,by unfold maxLen;omega,λ_=>rfl,h⟩
  |.inr (some (k,off,n)),h,d=>
   rcases d with⟨A,_,rfl,j⟩|⟨g,D,m,c,_,h2,_,C,j⟩
   .simp[ZBl] at j;subst j;exact⟨A,0,0,rfl,ZAN _,by unfold maxLen;omega,λ_=>rfl,h⟩
   .simp[ZBl] at j;subst j;exact⟨_,n,c,rfl,h2,C,(λh=>by cases h),h⟩
 grind
theorem pVZ{a b}{q}{C D}(h:FU a b=some q)(d:bE z a C)(hb:bE z b D):
 ∃p j,C= .pointer p/\D= .pointer j/\(p=none\/j=none)/\q=(p.isNone&&j.isNone):=by
 unfold FU at h;split at h<;>first|(done)|skip
 all_goals simp at h
 all_goals subst h
 .obtain⟨rfl,_⟩:=d.v.opq;obtain⟨rfl,_⟩:=hb.v.opq<;>grind
 .obtain⟨rfl,_⟩:=hb.v.opq;cases d<;>grind
 .obtain⟨rfl,_⟩:=d.v.opq;cases hb<;>grind
 .obtain⟨rfl,_⟩:=hb.v.opq;cases d<;>grind
 .obtain⟨rfl,_⟩:=d.v.opq;cases hb<;>grind
 .rename_i t l;obtain⟨rfl,_⟩:=hb.v.opq;rcases d.v.scal rfl rfl with⟨B,h2⟩|⟨B,b,off,h2,_⟩
  .obtain rfl:=List.cons.inj h2|>.1;refine⟨none,none,rfl,rfl,.inl rfl,?_⟩;rw[ZBd.1 B];rfl
  .obtain rfl:=List.cons.inj h2|>.1;refine⟨_,none,rfl,rfl,.inr rfl,?_⟩;revert B;cases((l)) with
   |nil=>simp_all
   |cons x r=>intro _;rfl
theorem qNZ{a b}{q}{B C}(h:FV a b=some q)(d:bE z a B)(hb:bE z b C):
 ∃p j,B= .map p/\C= .map j/\(p=none\/j=none)/\q=(p.isNone&&j.isNone):=by
 unfold FV at h;split at h<;>first|(done)|skip
 all_goals simp at h
 .obtain⟨rfl,_⟩:=hb.v.opq;cases d<;>grind
 .obtain⟨rfl,_⟩:=d.v.opq;cases hb<;>grind
 .obtain⟨rfl,_⟩:=d.v.opq;obtain⟨rfl,_⟩:=hb.v.opq<;>grind
theorem pIZ{a b}{q}{d j}(h:FW a b=some q)(p:bE z a d)(hb:bE z b j):
 (d= .nilFunc/\j= .nilFunc/\q=true)\/(∃f x y,d= .func f x y/\j= .nilFunc/\q=false)\/(∃f x y,d= .nilFunc/\j= .func f x y/\q=false):=by
 unfold FW at h;split at h<;>first|(cases h;done)|skip
 all_goals simp at h
 all_goals subst h
 .obtain⟨rfl,_⟩:=p.v.opq;obtain⟨rfl,_⟩:=hb.v.opq<;>grind
 .obtain⟨rfl,_⟩:=hb.v.opq;cases p<;>grind
 .obtain⟨rfl,_⟩:=p.v.opq;cases hb<;>grind
theorem p7Z{n}{K}{r:β}{A:Option Addr}(h:rK n K=some r)(d:A=none->n=0):K A.isNone=some r:=by
 unfold rK at h;split at h
 .rename_i j;cases A with
  |none=>rw[<-j (d rfl)] at h;exact h
  |some a=>exact h
 grind
def OT(P:Program)(t:TypeId)(d h:Value):Prop:=
 d≠.nilIface/\((∃xs,d= .agg xs)->P.eqGuardType P.depth t=false)/\binOp .eql t d h=(do pure (.bool (<-Op.equal t d h)))/\binOp .neq t d h=(do pure (.bool (!(<-Op.equal t d h))))
theorem dVZ{t}{x y}{w}{q}(h:∀d,(Op.equalIn (d+1) t x y).run P w= .ok q w):(Op.equal t x y).run P w= .ok q w:=h 9999
theorem qKZ{t}{a b}{K}{r:β}{B C}(h:FX P t a b H K=some r)(T:bH z H)(D:bE z a B)(hb:bE z b C)
 (X:∀k,P.underlying t≠some (.int k))(Y:P.underlying t≠some .string):
 ∃q,(Op.equal t B C).run P z.w= .ok q z.w/\K q=some r/\OT P t B C:=by
 unfold FX at h;split at h
 .rename_i e j;obtain⟨q,E,h2⟩:=agZ.1 h;obtain⟨p,N,rfl,rfl,O,rfl⟩:=pVZ E D hb;refine⟨_,dVZ λd=> ?_,h2,by simp,by simp,rfl,rfl⟩;rcases O with rfl|rfl
  .cases N<;>simp[Op.equalIn,Sem.run_bind,run_underlying j]
  .cases p<;>simp[Op.equalIn,Sem.run_bind,run_underlying j]
 .rename_i k e j;obtain⟨q,E,h2⟩:=agZ.1 h;obtain⟨p,N,rfl,rfl,O,rfl⟩:=qNZ E D hb;refine⟨_,dVZ λd=> ?_,h2,by simp,by simp,rfl,rfl⟩;rcases O with rfl|rfl
  .cases N<;>simp[Op.equalIn,Sem.run_bind,run_underlying j]
  .cases p<;>simp[Op.equalIn,Sem.run_bind,run_underlying j]
 .rename_i p1 p2 p3 j;obtain⟨q,E,h2⟩:=agZ.1 h;rcases pIZ E D hb with⟨rfl,rfl,rfl⟩|⟨f,x,y,rfl,rfl,rfl⟩|⟨f,x,y,rfl,rfl,rfl⟩
  all_goals exact⟨_,dVZ λd=>by simp[Op.equalIn,Sem.run_bind,run_underlying j],h2,by simp,by simp,rfl,rfl⟩
 .rename_i e j;split at h
  .obtain⟨rfl,_⟩:=D.v.opq;obtain⟨rfl,_⟩:=hb.v.opq;exact⟨_,dVZ λd=>by simp[Op.equalIn,Sem.run_bind,run_underlying j],h,by simp,by simp,rfl,rfl⟩
  .obtain⟨rfl,_⟩:=hb.v.opq;obtain⟨A,n,c,rfl,_,_,R,h2⟩:=iMZ h T D;exact⟨_,dVZ λd=>run_equalIn_slice_nil z.w d t e A n c j,p7Z h2 R,by simp,by simp,rfl,rfl⟩
  .obtain⟨rfl,_⟩:=D.v.opq;obtain⟨A,n,c,rfl,_,_,R,h2⟩:=iMZ h T hb;exact⟨_,dVZ λd=>by simp[Op.equalIn,Sem.run_bind,run_underlying j],p7Z h2 R,by simp,by simp,rfl,rfl⟩
  grind
 .obtain⟨u,E,h2⟩:=agZ.1 h;obtain⟨L,h4⟩:=aeZ.1 h2;simp only[ZAF,ZAl] at L;obtain⟨x,h5,h6⟩:=bRZ h4 D;obtain⟨y,G,h8⟩:=bRZ h6 hb;have hq:(Op.equal t B C).run P z.w= .ok (u.eqb x y) z.w:=nrZ z.w dB t u L.1 10000 (by simp_all[dB]) x y B C h5 G;have I:(∃xs U,B= .agg xs/\C= .agg U)\/(∃p q,B= .bool p/\C= .bool q):=by
   have he:=L.1;unfold dB at he;simp only[eqT] at he;split at he
   .simp_all
   .simp_all
   .exact .inr ⟨x,y,h5.bool,G.bool⟩
   .simp_all
   .obtain⟨V,_,rfl⟩:=h5;obtain⟨W,_,rfl⟩:=G;exact .inl ⟨_,_,rfl,rfl⟩
   .obtain⟨V,_,rfl⟩:=h5;obtain⟨W,_,rfl⟩:=G;exact .inl ⟨_,_,rfl,rfl⟩
   .obtain⟨V,_,rfl⟩:=h5;obtain⟨W,_,rfl⟩:=G;exact .inl ⟨_,_,rfl,rfl⟩
   .grind
  refine⟨_,hq,h8,?_⟩;rcases I with⟨xs,U,rfl,rfl⟩|⟨p,q,rfl,rfl⟩
  .exact⟨by simp,λ_=>L.2,rfl,rfl⟩
  .exact⟨by simp,by simp,rfl,rfl⟩
theorem sLZ{E}{t u}{a b}{K}{r:β}{B G}(x y)(h:AG P E t u a b H K=some r)(N:bH z H)(I:bE z a B)(hb:bE z b G):
 OkP P (do eqGuard E t x y B G;binOp E t B G) z K r:=by
 have d:∀{s},B≠.nilIface->((∃xs,B= .agg xs)->P.eqGuardType P.depth t=false)->OkP P s z K r->OkP P (do eqGuard E t x y B G;s) z K r:=λ{s} j h2 ⟨q,v,T,O,R⟩=>
  ⟨q,v,by simp_all[jUZ],O,R⟩
 unfold AG at h;split at h
 .split at h
  .let⟨m,j,h2⟩:=agZ.1 h
   let⟨n,p,h4⟩:=agZ.1 h2
   let⟨h5,L⟩:=aeZ.1 h4
   obtain rfl:=eqZ j I;obtain rfl:=eqZ p hb;exact d (by simp) (by simp) (s2Z L h5)
  grind
 .let⟨m,j,h2⟩:=agZ.1 h
  let⟨n,p,h4⟩:=agZ.1 h2
  obtain rfl:=enZ j I;obtain rfl:=enZ p hb;exact d (by simp) (by simp) (sZZ h4)
 .rename_i C D;split at h
  .let⟨q,j,h2,p,h4,h5,L⟩:=qKZ h N I hb (λk e=>C k e) (λe=>D e)
   refine d p h4 ⟨_,_,?_,.mkB q,h2⟩;rw[h5];simp[j]
  .let⟨q,j,h2,p,h4,h5,L⟩:=qKZ h N I hb (λk e=>C k e) (λe=>D e)
   refine d p h4 ⟨_,_,?_,.mkB (!q),h2⟩;rw[L];simp[j]
  .cases h
theorem udZ{p}{t}{a}{K}{r:β}{B}(h:JG P p t a K=some r)(j:bE z a B):OkP P (Op.unary p B) z K r:=by
 unfold JG at h;split at h
 .let⟨x,d,h2⟩:=agZ.1 h
  obtain rfl:=bSZ d j;exact .mk' (by simp[Op.unary]) (.mkB _) h2
 .let⟨x,d,h2⟩:=agZ.1 h
  obtain rfl:=eqZ d j;exact .mk' (by simp[Op.unary,Op.intArith]) (.mkI _ _) h2
 .let⟨x,d,h2⟩:=agZ.1 h
  obtain rfl:=eqZ d j;exact .mk' (by simp[Op.unary,Op.intBits,xV]) (.mkI _ _) h2
 grind
theorem pBZ{t}{c a b}{K}{r:β}{E j p}(h:xW P t c a b K=some r)(G:bE z c E)(C:bE z a j)(hb:bE z b p):
 OkP P (do pure (if<-asBool E then j else p)) z K r:=by
 let⟨q,I,h2⟩:=agZ.1 h
 obtain rfl:=bSZ I G;have d:(do pure (if<-asBool (.bool q) then j else p):Sem Value).run P z.w= .ok (if q then j else p) z.w:=by simp[asBool]
 split at h2
 .split at h2
  .rename_i x y hx D;obtain rfl:=bSZ hx C;obtain rfl:=bSZ D hb;refine .mk' d ?_ h2;cases q
   .exact .mkB _
   .exact .mkB _
  .rename_i x hx L;obtain rfl:=bSZ hx C
   let⟨B,h4⟩:=aeZ.1 h2
   subst B;exact .mk' d (.mkB _) h4
  .rename_i y hx D;obtain rfl:=bSZ D hb
   let⟨B,h4⟩:=aeZ.1 h2
   simp at B;subst B;exact .mk' d (.mkB _) h4
  simp_all
 .cases q
  .exact .mk' d hb h2
  .exact .mk' d C h2
end
section
variable {P : Program} {β : Type} {z : Z} {H : Hp}
theorem tUZ(v)(h:v.oneCell'=true\/∃cs,v= .tuple cs):bE z (AV.lit v) v:=by
 unfold AV.lit;split
 .exact .mkI _ _
 .exact .mkB _
 .rename_i s;exact .mkS _
 .exact .junk _
 .exact .junk _
 .refine .p _ _ _ (.mkSc ⟨rfl,?_⟩ rfl)
  simp_all
theorem uqZ(l)(h:∀v∈l,v.oneCell'=true):bQ z (l.map AV.lit) l:=by
 refine⟨by simp,λi a v d h2=> ?_⟩
 grind[ZAV,tUZ,ZAI]
theorem fZZ{t}{l}(h:AX P t=some l):∃i v,P.info? t=some i/\i.zero=some v/\bQ z l v.cells.toList/\∀u∈v.cells,u.oneCell'=true:=by
 let⟨i,d,h2⟩:=agZ.1 h
 let⟨v,j,h4⟩:=agZ.1 h2
 grind[bq_true,bq_false,ZAW,ZCU,uqZ]
theorem i6Z{t}{i}{v}(d:P.info? t=some i)(h:i.zero=some v)(w):(zeroValue t).run P w= .ok v w:=by
 simp[zeroValue,typeInfo,d,h]
theorem bQ.setFrom{c l}{vs us}(h:bQ z c vs)(p:bQ z l us)(j)(C:j+l.length<=c.length):bQ z (setFrom c j l) (setFrom vs j us):=by
 refine⟨by rw[cVZ,cVZ];exact h.1,λi a v d h2=> ?_⟩;rw[dbZ _ _ _ _ C] at d;rw[dbZ _ _ _ _ (by rw[<-p.1,<-h.1];omega),<-p.1] at h2;split at d
 .rename_i B;rw[ZAL B] at h2;exact p.2 _ a v d h2
 .rename_i B;rw[ZAJ B] at h2;exact h.2 _ a v d h2
theorem qAZ(cs):∀(a) (off k),((cs.zipIdx k).foldl (λ(cs:Array Value) x=>cs.setIfInBounds (off+x.2) x.1) a).toList=Go.Ab.setFrom a.toList (off+k) cs:=by
 induction cs<;>simp_all[Go.Ab.setFrom,ZCE]
theorem f9Z{L}:∀{j} {d} {c E} {cs},tZ L c j=some E->bQ z c cs.toList->(∀u∈cs,u.oneCell'=true)->
 j.length=d.length->(∀(i:Nat) x y,j[i]? =some x->d[i]? =some y->x.1=y.1/\bE z x.2 y.2)->
 ∃cs',Instr.fill L cs d=some cs'/\bQ z E cs'.toList/\∀u∈cs',u.oneCell'=true
 |[],[],c,E,cs,h,G,I,_,_=>by
  simp[tZ] at h;subst h;exact⟨cs,rfl,G,I⟩
 |(i,a)::j,(i',v)::d,c,E,cs,h,G,I,B,hp=>by
  obtain⟨rfl,O⟩:=hp 0 _ _ rfl rfl;simp[tZ] at h
  let⟨⟨off,C⟩,h2,R⟩:=agZ.1 h
  let⟨l,h4,h5⟩:=agZ.1 R
  cases hb:(Nat.beq l.length C&&Nat.ble (off+l.length) c.length)<;>rw[hb] at h5<;>simp only[bq_false] at h5
  .grind
  .simp[afZ,ZAm] at hb
   let⟨hs,D⟩:=hb
   let⟨N,T,q3⟩:=cNZ h4 O
   have U:=by have:=N.1;simpa using this.symm
   have V:=by have:=G.1;simpa using this.symm
   have bR:=G.setFrom N off D;have p:(v.cells.zipIdx.foldl (λcs x=>cs.setIfInBounds (off+x.2) x.1) cs).toList=setFrom cs.toList off v.cells.toList:=by
    rw[<-Array.foldl_toList,Array.toList_zipIdx];exact qAZ _ _ _ _
   obtain⟨cs',p1,W,X⟩:=f9Z h5 (by rw[p];exact bR) (λu Y=>by
    have K:u∈setFrom cs.toList off v.cells.toList:=by rw[<-p];simpa using Y
    let⟨k,hk⟩:=ZAT K
    rw[dbZ _ _ _ _ (by simp;omega)] at hk;split at hk
    .exact T u (by have:=ZAI hk;simpa using this)
    .exact I u (by have:=ZAI hk;simpa using this)) (by simpa using B) (λi x y e1 e2=>hp (i+1) x y (by simpa using e1) (by simpa using e2))
   refine⟨cs',?_,W,X⟩;simp only[Instr.fill,h2];rw[ZAJ (by simp only[ZA2,ZAq,bne_iff_ne,ne_eq,not_or];omega)];exact p1
 |[],_::_,_,_,_,_,_,_,B,_=>by simp at B
 |_::_,[],_,_,_,_,_,_,B,_=>by simp at B
def DV(z:Z)(h:List (Nat×AV))(d:List (Nat×Value)):Prop:=
 h.length=d.length/\∀(i:Nat) x y,h[i]? =some x->d[i]? =some y->x.1=y.1/\bE z x.2 y.2
theorem nHZ{t}{j}{d}{K}{r:β}(h:uA P t j K=some r)(hp:DV z j d.toList):
 OkP P (Instr.build t d) z K r:=by
 let⟨l,U,h2⟩:=agZ.1 h
 obtain⟨i,V,N,O,R,T⟩:=fZZ U;split at h2
 .rename_i fs C
  let⟨B,D,h4⟩:=agZ.1 h2
  let⟨c,h5,E⟩:=agZ.1 h4
  let⟨cs',p1,p,G⟩:=f9Z h5 R T hp.1 hp.2
  refine .mk' (run_build z.w t d cs' ?_) (.agg _ _ ?_ G λi x v I L=>p.2 i x v I (by simpa using L)) E
  .unfold Program.built;simp only[N,C,O,D];exact p1
  .have:=p.1;simpa using this.symm
 .rename_i m e C
  let⟨W,D,h4⟩:=agZ.1 h2
  let⟨c,h5,E⟩:=agZ.1 h4
  let⟨cs',p1,p,G⟩:=f9Z h5 R T hp.1 hp.2
  refine .mk' (run_build z.w t d cs' ?_) (.agg _ _ ?_ G λi x v I L=>p.2 i x v I (by simpa using L)) E
  .unfold Program.built;simp[N,C,O,D];exact p1
  .have:=p.1;simpa using this.symm
 simp_all
theorem vyZ{t}{a}{K}{r:β}{v}(ty)(h:JE P t H a K=some r)(B:bH z H)(j:bE z a v):
 ∃n:Nat,(Builtin.len_ #[t] ty #[v]).run P z.w= .ok (.int .i64 (n:Int)) z.w/\K n=some r:=by
 unfold JE at h;split at h
 .rename_i d
  let⟨l,C,h2⟩:=agZ.1 h
  obtain rfl:=enZ C j;exact⟨l.length,by simp[Builtin.len_,run_underlying d];rfl,h2⟩
 .rename_i e d;obtain⟨A,n,c,rfl,_,_,_,h2⟩:=iMZ h B j;exact⟨n,by simp[Builtin.len_,run_underlying d,goInt],h2⟩
 .rename_i k e d;unfold KQ at h;split at h
  .obtain⟨rfl,_⟩:=j.v.opq;exact⟨0,by simp[Builtin.len_,run_underlying d,goInt],h⟩
  .rename_i id;split at h
   .rename_i fz G I m hg;cases j with|mp _ g L n p=>
    let⟨_,_,_,es,D,E,_⟩:=B.real hg p
    refine⟨m.1.length,?_,h⟩;simp[Builtin.len_,run_underlying d,goInt,getObj,Sem.run,D,E]
   .cases h
  .cases h
 .rename_i n e d;exact⟨n,by simp[Builtin.len_,run_underlying d,goInt],h⟩
 grind
theorem iTZ{k}:∀{l} {j} {vs},DT k l=some j->bQ z l vs->vs=j.map (Value.int k)
 |[],j,vs,h,d=>by
  simp[DT] at h;subst h;exact ZAY d.1.symm
 |a::l,j,vs,h,d=>by
  let⟨n,p,h2⟩:=agZ.1 h
  obtain⟨r,B,rfl⟩:=ZAH.1 h2
  match vs,d with
  |[],d=>have:=d.1;simp at this
  |v::vs,d=>
   rw[eqZ p d.head,iTZ B d.tail]
   rfl
theorem gxZ{k}(w):∀(l:List Int) (x),((l.map (Value.int k)).foldlM Builtin.min2 (.int k x)).run P w= .ok (.int k (OP l x)) w
 |[],x=>by simp[OP]
 |y::l,x=>by
  simp[Sem.run_bind];exact gxZ w l _
theorem gLZ{k}(w):∀(l:List Int) (x),((l.map (Value.int k)).foldlM Builtin.max2 (.int k x)).run P w= .ok (.int k (OQ l x)) w
 |[],x=>by simp[OQ]
 |y::l,x=>by
  simp[Sem.run_bind];exact gLZ w l _
theorem uyZ{n}{K}{r:β}(h:TN n K=some r)(c)(d:n<=c)(h2:c<=maxLen):K (c:Int)=some r:=by
 unfold TN at h;split at h
 .rename_i j;rw[<-h];exact j.choose_spec c d (by unfold maxLen at h2;omega)
 grind
end
section
variable {P : Program} {β : Type} {z : Z} {H : Hp}
theorem e4Z{w}{M}{ρ}{u}{a}{t}{xs}{o}(B:0<u.cells/\(u.isAgg=true->gI P t=true)/\(u.isAgg=false->fW P t=true))(j:P.cellsOf t=u.cells)
 (h:Cl w M ρ u a ((xs.toList.drop o).take u.cells))(w'):∃v,(part t xs o).run P w'= .ok v w'/\cU w M ρ u a v:=by
 let⟨E,C,D⟩:=B
 have p:=h.len;cases hg:u.isAgg
 .have d:u.cells=1:=by cases u<;>first|rfl|simp_all[Ty.isAgg]
  match hvs:(xs.toList.drop o).take u.cells,p with
  |[],p=>simp_all
  |_::_::_,p=>simp_all
  |[v],_=>
   rw[hvs] at h;have hv:=by
    have:((xs.toList.drop o).take u.cells)[0]? =some v:=by rw[hvs];rfl
    rw[d] at this;simpa using this
   exact⟨v,bhZ w' (D hg) hv,.mkSc h hg⟩
 .refine⟨_,btZ w' (C hg) j (by omega),⟨_,h,?_⟩⟩;rw[hg];simp;congr 1
  grind
theorem tpZ{s t}{o}{l d h:List Value}(e:(l.drop o).take (Ty.pair s t).cells=d++h)(j:d.length=s.cells)(p:h.length=t.cells):
 (l.drop o).take s.cells=d/\(l.drop (o+s.cells)).take t.cells=h:=by
 simp only[Ty.cells] at e;constructor
 .rw[show(l.drop o).take s.cells=((l.drop o).take (s.cells+t.cells)).take s.cells from by grind,e,ZBU (by omega),ZAw (by omega)]
 .rw[show(l.drop (o+s.cells)).take t.cells=((l.drop o).take (s.cells+t.cells)).drop s.cells from by rw[List.drop_take,List.drop_drop,ZA6],e,ZBw (by omega),ZBG (by omega),ZBb]
theorem voZ{f}{d}{em}(w){M}{ρ}
 (R:∀t u,f t u=true->∀(x) (K),cU w M ρ u x K->(Instr.checkKey em d t K).run P w= .ok () w)
 (j:∀t u,f t u=true->0<u.cells/\(u.isAgg=true->gI P t=true)/\(u.isAgg=false->fW P t=true)):
 ∀(fs) (o) (u),rJ P f fs o u=true->∀(x) (xs),Cl w M ρ u x ((xs.toList.drop o).take u.cells)->
  (forIn (m:=Sem) fs PUnit.unit λf _=>do
   if f.name≠ "_" then do
    Instr.checkKey em d f.type (<-part f.type xs f.offset)
    pure (ForInStep.yield PUnit.unit)
   else pure (ForInStep.yield PUnit.unit)).run P w= .ok PUnit.unit w:=by
 have one:∀(x:Field) (o) (u),(x.name != "_" &&Nat.beq x.offset o&&Nat.beq (P.cellsOf x.type) u.cells&&f x.type u)=true->∀(a) (xs),Cl w M ρ u a ((xs.toList.drop o).take u.cells)->
  x.name≠ "_" /\∃v,(part x.type xs x.offset).run P w= .ok v w/\(Instr.checkKey em d x.type v).run P w= .ok () w:=by
  intro x o u h a xs T;simp only[ZAF,bne_iff_ne,ne_eq,afZ] at h;obtain⟨⟨⟨B,rfl⟩,U⟩,h4⟩:=h;obtain⟨v,C,D⟩:=e4Z (j _ _ h4) U T w;exact⟨B,v,C,R _ _ h4 a v D⟩
 intro fs;induction fs with
 |nil=>simp_all
 |cons x fs V=>
  intro o u h a xs L
  match fs,u,h with
  |[],u,h=>
   have p:(x.name != "_" &&Nat.beq x.offset o&&Nat.beq (P.cellsOf x.type) u.cells&&f x.type u)=true:=by
    cases u<;>simpa only[rJ] using h
   obtain⟨B,W,C,D⟩:=one x o u p a xs L<;>simp_all
  |y::fs,.pair s t,h=>
   simp only[rJ] at h;have p:(x.name != "_" &&Nat.beq x.offset o&&Nat.beq (P.cellsOf x.type) s.cells&&f x.type s)=true/\rJ P f (y::fs) (o+s.cells) t=true:=by
    simp only[ZAF] at h⊢;exact h
   obtain⟨p,E⟩:=p;obtain⟨u1,u2,X,N,O⟩:=L;obtain⟨G,I⟩:=tpZ X N.len O.len;obtain⟨B,W,C,D⟩:=one x o s p a.1 xs (by rw[G];exact N);have Y:=V (o+s.cells) t E a.2 xs (by rw[I];exact O);rw[List.forIn_cons];simp only[B,ne_eq,not_false_eq_true,ZCq,Sem.run_bind,C,D,Result.andThen_ok,Sem.run_pure];exact Y
  |_::_,.one _,h|_::_,.int _,h|_::_,.byte,h|_::_,.bool,h|_::_,.str,h|_::_,.opq,h|_::_,.nat,h|_::_,.ptr _,h|_::_,.sl _,h|_::_,.ref _ _,h|_::_,.arr _ _,h=>simp[rJ] at h
theorem bqZ(w){M}{ρ}{em}:∀(n) (t) (u),eqT P n t u=true->∀(d),n<=d->∀(x) (G),cU w M ρ u x G->
 (Instr.checkKey em d t G).run P w= .ok () w
 |0,_,_,h,_,_,_,_,_=>by simp[eqT] at h
 |n+1,t,u,h,d,hd,x,G,hx=>by
  obtain⟨d,rfl⟩:∃U,d=U+1:=⟨d-1,by omega⟩;have I:n<=d:=by omega
  have B:∀(fs) (v) (x) (C),P.underlying t=some (.struct fs)->(!P.stoodInHeld t&&rJ P (λt u=>oD P t u&&eqT P n t u) fs.toList 0 v)=true->Cl w M ρ v x C->
   (Instr.checkKey em (d+1) t (.agg C.toArray)).run P w= .ok () w:=by
   intro fs v x C p K D;simp[ZAF,ZAl] at K;rw[Instr.checkKey];simp only[Sem.run_bind,run_underlying p,Result.andThen_ok];rw[<-Array.forIn_toList];have:=voZ (em:=em) w (λt u E x G hx=>by
    simp only[ZAF] at E;exact bqZ w n t u E.2 d I x G hx) (λt u E=>by
    simp only[ZAF] at E;exact eDZ E.1) fs.toList 0 v K.2 x C.toArray (eUZ D)
   simp at this⊢;rw[this]
   rfl
  simp only[eqT] at h;split at h
  .rename_i k k' p;obtain rfl:=hx.int;simp[Instr.checkKey,Sem.run_bind,run_underlying p]
  .rename_i k p;simp[Instr.checkKey,Sem.run_bind,run_underlying p]
  .rename_i p;simp[Instr.checkKey,Sem.run_bind,run_underlying p]
  .rename_i p;simp[Instr.checkKey,Sem.run_bind,run_underlying p]
  .rename_i fs v p;obtain⟨C,D,rfl⟩:=hx;exact B fs v x C p h D
  .rename_i fs a b p;obtain⟨C,D,rfl⟩:=hx;exact B fs (.pair a b) x C p h D
  .rename_i m e m' v p;simp only[ZAF,afZ] at h;obtain⟨⟨⟨rfl,K⟩,E⟩,he⟩:=h;obtain⟨C,D,rfl⟩:=hx;have N:=eDZ E;have V:=λw=>a6Z w K (by omega);rw[show(bif (Ty.arr m v).isAgg then Value.agg C.toArray else C.headD undef)= .agg C.toArray from rfl,Instr.checkKey];simp only[Sem.run_bind,run_underlying p,Result.andThen_ok];simp only[Std.Legacy.Range.forIn_eq_forIn_range',Std.Legacy.Range.size,Nat.sub_zero,Nat.add_one_sub_one,Nat.div_one];have O:=D.1;have key:∀(k i),i+k=m->∀(f),(∀j,j<m->(f j PUnit.unit).run P w= .ok (.yield PUnit.unit) w)->(forIn (m:=Sem) (List.range' i k) PUnit.unit f).run P w= .ok PUnit.unit w:=by
    intro k;induction k with
    |zero=>intro i _ f _;simp
    |succ k W=>
     intro i hi f L;rw[List.range'_succ,List.forIn_cons];simp only[Sem.run_bind,L i (by omega),Result.andThen_ok];exact W (i+1) (by omega) f L
   refine(congrArg (λr=>Result.andThen r _) (key m 0 (by omega) _ λj hj=> ?_)).trans (by simp);have R:((x))[j]? =some (((x))[j]'(by rw[O];omega)):=ZAB _;have T:=Cl.nth D R
   let⟨X,Y,q2⟩:=e4Z N K T w
   have:=bqZ (em:=em) w n e v he d I _ X q2;simp[Sem.run_bind,V,Y,this]
  grind
theorem fgZ{k v:Ty}:∀{l:List ((k.den×v.den)×Nat)} {x},eN l x=none->∀(i:Nat) e,l[i]? =some e->k.eqb x e.1.1=false
 |((a,b),n)::l,x,h,i,e,he=>by
  simp[eN] at h;cases d:k.eqb x a<;>rw[d] at h<;>simp only[ZAM,ZAD] at h
  .match i with
   |0=>simp at he;subst he;exact d
   |i+1=>exact fgZ h i e (by simpa using he)
  grind
theorem cPZ{k v:Ty}:∀{l} {x} {y:v.den×Nat},eN l x=some y->
 ∃(i:Nat) (a:k.den),l[i]? =some ((a,y.1),y.2)/\k.eqb x a=true/\∀j e,j<i->l[j]? =some e->k.eqb x e.1.1=false
 |((a,b),n)::l,x,y,h=>by
  simp[eN] at h;cases d:k.eqb x a<;>rw[d] at h<;>simp only[ZAM,ZAD] at h
  .let⟨i,p,B,h2,D⟩:=cPZ h
   refine⟨i+1,p,by simpa using B,h2,λj e C he=> ?_⟩
   grind
  .simp at h;subst h;exact⟨0,a,rfl,d,λj e C=>by omega⟩
def wG(es:List MapEntry)(d:Nat->Bool):Nat->Option (Nat×Value)->Prop
 |i,none=>∀j,j<es.length->d (i+j)=false
 |i,some (p,v)=>∃j e,p=i+j/\es[j]? =some e/\e.val=v/\d (i+j)=true/\∀h,h<j->d (i+h)=false
theorem ieZ{d}{x}{B}:∀(es) (i),(∀(j) e,es[j]? =some e->Instr.sameNow d x e.key=some (B (i+j)))->∃r,Instr.findNow d x es i=some r/\wG es B i r
 |[],i,_=>⟨none,rfl,λj G=>by grind⟩
 |e::es,i,h=>by
  have h0:=h 0 e rfl;cases C:B i
  .obtain⟨r,I,h2⟩:=ieZ es (i+1) (λj e' K=>by have:=h (j+1) e' (by simp_all);rwa [show i+(j+1)=i+1+j from by omega] at this);refine⟨r,by simp[Instr.findNow,h0,C,I],?_⟩
   match r,h2 with
   |none,h2=>
    intro j G
    match j with
    |0=>omega
    |j+1=>rw[show i+(j+1)=i+1+j from by omega];exact h2 j (by simp_all)
   |some (p,v),⟨j,e',N,O,L,R,T⟩=>
    refine⟨j+1,e',by omega,by simp_all,L,by grind,λD E=> ?_⟩
    match D with
    |0=>omega
    |D+1=>grind
  .exact⟨some (i,e.val),by simp[Instr.findNow,h0,C],0,e,rfl,rfl,rfl,C,λD E=>by omega⟩
theorem eMZ{E}{x}{d}(w):∀(es) (i),(∀(j) e,es[j]? =some e->(Op.equal E x e.key).run P w= .ok (d (i+j)) w)->
 ∃r,(Instr.findAsking E x es i).run P w= .ok r w/\wG es d i r
 |[],i,_=>⟨none,by simp[Instr.findAsking],λj G=>by grind⟩
 |e::es,i,h=>by
  have h0:=h 0 e rfl;cases B:d i
  .obtain⟨r,I,h2⟩:=eMZ w es (i+1) (λj e' K=>by have:=h (j+1) e' (by simp_all);rwa [show i+(j+1)=i+1+j from by omega] at this);refine⟨r,by simp[Instr.findAsking,h0,B,I],?_⟩
   match r,h2 with
   |none,h2=>
    intro j G
    match j with
    |0=>omega
    |j+1=>rw[show i+(j+1)=i+1+j from by omega];exact h2 j (by simp_all)
   |some (p,v),⟨j,e',N,O,L,R,T⟩=>
    refine⟨j+1,e',by omega,by simp_all,L,by grind,λC D=> ?_⟩
    match C with
    |0=>omega
    |C+1=>grind
  .exact⟨some (i,e.val),by simp[Instr.findAsking,h0,B],0,e,rfl,rfl,rfl,B,λC D=>by omega⟩
theorem dMZ{d}{k}(h:tY P d k=true):ty P d=some k/\eqT P dB d k=true:=by
 simp_all[tY,ZAq]
theorem cFZ{B}{k}(hk:tY P B k=true)(w){M}{ρ}{x}{C}(hx:cU w M ρ k x C)(es)(ks:List k.den)(O:ks.length=es.length)
 (R:∀(j:Nat) a e,ks[j]? =some a->es[j]? =some e->cU w M ρ k a e.key):
 ∃r,(Instr.findKey B C es).run P w= .ok r w/\wG es (λj=>match ks[j]? with|some a=>k.eqb x a|none=>false) 0 r:=by
 have he:=(dMZ hk).2;have bF:∀(j:Nat) e,es[j]? =some e->∃a,ks[j]? =some a/\cU w M ρ k a e.key:=λj e D=>by
  let⟨a,G⟩:=biZ O.symm D<;>grind
 cases E:P.underlying B with
 |none=>simp_all[dB,eqT]
 |some d=>
  have I:(∀j e,es[j]? =some e->(Op.equal B C e.key).run P w= .ok (match ks[0+j]? with|some a=>k.eqb x a|none=>false) w):=λj e D=>by
   let⟨a,G,hv⟩:=bF j e D
   rw[ZAz,G];exact nrZ w dB B k he 10000 (by simp_all[dB]) x a C e.key hx hv
  by_cases p:(match P.underlying B with|some (.array _ _)|some (.struct _)=>true|_=>false)=true
  .rw[run_findKey_eq w p];exact eMZ w es 0 I
  .have K:∃r,Instr.findNow d C es 0=some r/\wG es (λj=>match ks[j]? with|some a=>k.eqb x a|none=>false) 0 r:=by
    refine ieZ es 0 λj e D=> ?_
    let⟨a,G,hv⟩:=bF j e D
    simp only[ZAz,G];unfold dB at he;simp only[eqT] at he;split at he
    .rename_i q U h;rw[E] at h;cases h;rw[hx.int,hv.int];simp[Instr.sameNow]
     rfl
    .rename_i q h;rw[E] at h;cases h;have L:=hx.scal rfl rfl;have N:=hv.scal rfl rfl;simp only[Cl,ZBV,ZBl] at L N;rw[L,N];simp only[Instr.sameNow,ZCq,ZAW];show(((x:UInt8).toNat:Int)==((a:UInt8).toNat:Int))=((x:UInt8)==a);rw[Bool.eq_iff_iff];simp only[ZBp]
     grind[UInt8.toNat_inj]
    .rename_i h;rw[E] at h;cases h;rw[hx.bool,hv.bool]
     rfl
    .rename_i h;rw[E] at h;cases h;rw[hx.str,hv.str];simp only[Instr.sameNow,ZAW,beq_toListBytes,cqZ]
     rfl
    .rename_i h;rw[h] at p;simp_all
    .rename_i h;rw[h] at p;simp_all
    .rename_i h;rw[h] at p;simp_all
    .grind
   let⟨r,T,h2⟩:=K
   exact⟨r,by simp[Instr.findKey,Sem.run_bind,run_underlying E,T],h2⟩
theorem hOZ:∀{l r},qI l r=true->l.length=r.length/\∀(i:Nat) a b,l[i]? =some a->r[i]? =some b->wZ a b=true
 |[],[],_=>⟨rfl,λi a b h=>by grind⟩
 |x::l,y::r,h=>by
  simp[qI] at h
  let⟨j,h2⟩:=hOZ h.2
  refine⟨by simp[j],λi a b d hb=> ?_⟩
  match i with
  |0=>simp at d hb;subst d;subst hb;exact h.1
  |i+1=>exact h2 i a b (by simpa using d) (by simpa using hb)
 |[],_::_,h|_::_,[],h=>by grind[qI]
theorem oIZ{a b}(h:wZ a b=true):a=b:=by
 unfold wZ at h;split at h
 .simp[ZBp] at h;rw[h.1,h.2]
 .simp at h;rw[h]
 .rename_i x y
  let⟨⟨j⟩⟩:=y
  simp at h
  let⟨d,h2⟩:=h
  rw[h2] at d;obtain rfl:=ZAY d.symm;subst h2
  rfl
 .rfl
 .rfl
 grind
theorem tmZ{l r}(h:qI l r=true):l=r:=by
 let⟨d,h2⟩:=hOZ h
 apply ZA9 λi=> ?_
 grind[ZAB,oIZ,ZAd]
theorem Cl.zero{w}{M}{ρ}:{u:Ty}->u.plain=true->Cl w M ρ u u.zero u.zeros
 |.int _,_|.bool,_=>rfl
 |.byte,_=>rfl
 |.str,_=>rfl
 |.sl t,_=>⟨none,0,rfl,ZAN _,by omega,λ_=>rfl,λh=>absurd rfl h⟩
 |.ref f t,_=>rfl
 |.ptr t,_=>.inl ⟨rfl,rfl⟩
 |.one t,h=>Cl.zero (u:=t) h
 |.pair a b,h=>by
  simp[Ty.plain] at h;exact⟨_,_,rfl,Cl.zero h.1,Cl.zero h.2⟩
 |.arr n t,h=>by
  refine⟨by simp[Ty.zero],List.replicate n t.zeros,by simp,rfl,λi e u j h2=> ?_⟩;have hi:=by
   have:=(ZAC.1 h2).1;simpa using this
  have d:(List.replicate n t.zero)[i]? =some e:=j;simp[hi] at d h2;subst d;subst h2;exact Cl.zero h
theorem ccZ{t}{u}(h:mR P t u=true):∃i v,P.info? t=some i/\i.zero=some v/\∀w M ρ,cU w M ρ u u.zero v:=by
 unfold mR at h;simp at h
 let⟨hp,h⟩:=h
 split at h
 .rename_i i hi;split at h
  .rename_i v hv;simp at h;have p:=tmZ h.1;refine⟨i,v,hi,hv,λw M ρ=>⟨u.zeros,Cl.zero hp,?_⟩⟩;have h2:=h.2;split at h2
   .rename_i cs;rw[h2];simp;have d:cs.toList=u.zeros:=p;rw[<-d]
   .rename_i j;simp at h2;rw[h2];rw[<-p];cases v<;>first|rfl|exact absurd rfl (j _)
  .cases h
 grind
theorem eyZ{c}{a}{v}{q}(h:bE z a v):bE z (IA c a q) (if c then .tuple #[v,.bool q] else v):=by
 cases c
 .exact h
 .refine .tup _ _ rfl λi x u d h2=> ?_
  match i with
  |0=>simp_all
  |1=>simp at d h2;subst d;subst h2;exact .mkB q
  |i+2=>grind
theorem hMZ{t j C}{g}{es:Array MapEntry}{d}{B}{c}{r}{i}{D}(E:P.underlying t=some (.map j C))
 (hg:z.w.heap[g]? =some (.map es d))(h:(Instr.checkKey es.isEmpty 10000 j B).run P z.w= .ok () z.w)(G:(Instr.findKey j B es.toList).run P z.w= .ok r z.w)(hi:r=none->P.info? C=some i/\i.zero=some D):
 (Instr.lookup t (.map (some g)) B c).run P z.w= .ok (let x:=(match r with|some (_,v)=>v|none=>D);if c then .tuple #[x,.bool r.isSome] else x) z.w:=by
 have I:(getObj g).run P z.w= .ok (.map es d) z.w:=by simp[getObj,Sem.run,hg]
 cases r with
 |none=>
  obtain⟨K,h2⟩:=hi rfl;cases c<;>simp[Instr.lookup,run_underlying E,I,h,G,i6Z K h2]
 |some p=>cases c<;>simp[Instr.lookup,run_underlying E,I,h,G]
theorem jZZ{k:Ty}{x}{K}{r:β}:∀{l},vL l x K=some r->
 ((∀(i:Nat) (e),l[i]? =some e->k.eqb x e.1=false)/\K none=some r)\/∃(i:Nat) (e:k.den×AV),l[i]? =some e/\k.eqb x e.1=true/\(∀(j) (e'),j<i->l[j]? =some e'->k.eqb x e'.1=false)/\K (some e.2)=some r
 |[],h=>.inl ⟨λi e h=>by grind,h⟩
 |(a,b)::l,h=>by
  simp[vL] at h;cases p:k.eqb x a<;>rw[p] at h<;>simp[bq_false] at h
  .rcases jZZ h with⟨B,h2⟩|⟨i,e,B,h2,C,h4⟩
   .refine .inl ⟨λi e he=> ?_,h2⟩
    match i with
    |0=>simp at he;subst he;exact p
    |i+1=>exact B i e (by simpa using he)
   .refine .inr ⟨i+1,e,by simpa using B,h2,λj e' D d=> ?_,h4⟩
    match j with
    |0=>simp at d;subst d;exact p
    |j+1=>exact C j e' (by omega) (by simpa using d)
  .exact .inr ⟨0,(a,b),rfl,p,λj e' D=>by omega,h⟩
theorem wG.split{es}{k:Ty}{ks:List k.den}{x}{r}(C:ks.length=es.length)(h:wG es (λj=>match ks[j]? with|some a=>k.eqb x a|none=>false) 0 r):
 (r=none/\∀(i:Nat) (a),ks[i]? =some a->k.eqb x a=false)\/∃(i:Nat) (a:k.den) (e:MapEntry),r=some (i,e.val)/\ks[i]? =some a/\es[i]? =some e/\k.eqb x a=true/\∀(j) (d),j<i->ks[j]? =some d->k.eqb x d=false:=by
 match r,h with
 |none,h=>
  refine .inl ⟨rfl,λi a B=> ?_⟩;have hi:i<es.length:=by
   have:=(ZAC.1 B).1;omega
  have:=h i hi
  simp_all
 |some (p,v),⟨j,e,D,h2,E,h4,h5⟩=>
  grind
theorem m7Z{t}{m ix}{c}{K}{r:β}{vm vk}(h:nJ P t m ix c H K=some r)(hH:bH z H)(hm:bE z m vm)(hk:bE z ix vk):
 OkP P (Instr.lookup t vm vk c) z K r:=by
 unfold nJ at h;split at h
 .rename_i id;cases hm with|mp _ g sz n aa=>
  split at h
  .rename_i fz k v M hg
   let⟨D,h2⟩:=aeZ.1 h
   let⟨x,T,h4⟩:=bRZ h2 hk
   unfold xU at D;split at D
   .rename_i kt et U;simp only[ZAF,ZAq] at D
    let⟨⟨h5,h6⟩,G⟩:=D
    let⟨i,zv,z1,z2,z3⟩:=ccZ G
    let⟨_,_,_,es,a1,V,a3,_⟩:=hH.real hg aa
    have E:=bqZ (em:=es.isEmpty) z.w dB kt k (dMZ h5).2 10000 (by unfold dB;omega) x vk T;obtain⟨q,f1,W⟩:=cFZ h5 z.w T es.toList (M.1.map (·.1.1)) (by simp[V]) (λj a e I e2=>by
     rw[ZAV] at I;obtain⟨y,e3,rfl⟩:=ZAH.1 I;exact(a3 j y e e3 (by simpa using e2)).1)
    have d:=hMZ (c:=c) U a1 E f1 (λ_=>⟨z1,z2⟩);unfold xB at h4;rcases W.split (by simp[V]) with⟨rfl,C⟩|⟨j,a,e,rfl,C,f4,X,f6⟩
    .have hm:kX M x=none:=by
      unfold kX;cases Y:eN M.1 x with
      |none=>rfl
      |some y=>
       let⟨j,a,q1,q2,_⟩:=cPZ Y
       have:=C j a (by simp[q1]);rw[q2] at this;cases this
     rw[hm] at h4;exact .mk' d (eyZ (ckZ (z3 _ _ _))) h4
    .rw[ZAV] at C;obtain⟨y,B,rfl⟩:=ZAH.1 C;have hm:kX M x=some y.1.2:=by
      unfold kX;cases Y:eN M.1 x with
      |none=>
       have:=fgZ Y j y B;rw[X] at this;cases this
      |some y'=>
       let⟨L,a',q1,q2,q3⟩:=cPZ Y
       have N:L=j:=by
        rcases ZCf L j with O|R|hgt
        .have:=f6 L a' O (by simp[q1]);rw[q2] at this;cases this
        .exact R
        .have:=q3 j y hgt B;rw[X] at this;cases this
       subst N;rw[q1] at B;injection B with B;rw[<-B]
       rfl
     rw[hm] at h4;refine .mk' d (eyZ (ckZ ?_)) h4;exact(a3 j y e B (by simpa using f4)).2.1
   .cases D
  .rename_i fz k l hg
   let⟨D,h2⟩:=aeZ.1 h
   let⟨x,T,h4⟩:=bRZ h2 hk
   unfold BE at D;split at D
   .rename_i kt et U;simp only[ZAF] at D
    let⟨⟨h5,h6⟩,G⟩:=D
    let⟨_,_,_,es,ab,a1,V,a3⟩:=hH.real hg aa
    have hz:∃i,P.info? et=some i/\i.zero=some .nilFunc:=by
     split at G
     .rename_i i hi;split at G
      .rename_i hz;exact⟨i,hi,hz⟩
      .cases G
     .cases G
    let⟨i,z1,z2⟩:=hz
    have E:=bqZ (em:=es.isEmpty) z.w dB kt k (dMZ h5).2 10000 (by unfold dB;omega) x vk T;obtain⟨q,f1,W⟩:=cFZ h5 z.w T es.toList (l.map (·.1)) (by simp[V]) (λj a e I e2=>by
     rw[ZAV] at I;obtain⟨y,e3,rfl⟩:=ZAH.1 I;exact(a3 j y e e3 (by simpa using e2)).1)
    have d:=hMZ (c:=c) U a1 E f1 (λ_=>⟨z1,z2⟩);rcases jZZ h4 with⟨g1,g2⟩|⟨L,e',g1,g2,g3,g4⟩
    .rcases W.split (by simp[V]) with⟨rfl,C⟩|⟨j,a,e,rfl,C,f4,X,f6⟩
     .exact .mk' d (eyZ (.p _ _ _ (cU.mkSc (t:=.opq) ⟨rfl,rfl⟩ rfl))) g2
     .rw[ZAV] at C;obtain⟨y,B,rfl⟩:=ZAH.1 C;have:=g1 j y B;rw[X] at this;cases this
    .rcases W.split (by simp[V]) with⟨rfl,C⟩|⟨j,a,e,rfl,C,f4,X,f6⟩
     .have:=C L e'.1 (by simp[g1]);rw[g2] at this;cases this
     .rw[ZAV] at C;obtain⟨y,B,rfl⟩:=ZAH.1 C;have N:L=j:=by
       rcases ZCf L j with O|R|hgt
       .have:=f6 L e'.1 O (by simp[g1]);rw[g2] at this;cases this
       .exact R
       .have:=g3 j y hgt B;rw[X] at this;cases this
      subst N;rw[g1] at B;injection B with B;subst B;exact .mk' d (eyZ (a3 L e' e g1 (by simpa using f4)).2) g4
   .cases D
  .cases h
 .split at h
  .rename_i kt et U
   let⟨k,D,h2⟩:=agZ.1 h
   let⟨v,T,h4⟩:=agZ.1 h2
   let⟨h5,h6⟩:=aeZ.1 h4
   let⟨x,G,h8⟩:=bRZ h6 hk
   unfold xU at h5;rw[U] at h5;simp only[ZAF,ZAq] at h5
   let⟨⟨h9,ad⟩,ac⟩:=h5
   let⟨i,zv,z1,z2,z3⟩:=ccZ ac
   obtain⟨rfl,_⟩:=hm.v.opq;have E:=bqZ (em:=true) z.w dB kt k (dMZ h9).2 10000 (by unfold dB;omega) x vk G;obtain⟨q,f1,W⟩:=cFZ h9 z.w G [] [] rfl (λj a e I=>by simp at I);have Y:q=none:=by
    rcases wG.split (ks:=[]) (x:=x) rfl W with⟨h,_⟩|⟨j,a,e,_,I,_⟩
    .exact h
    .simp at I
   subst Y;unfold xB at h8;refine .mk' ?_ (eyZ (ckZ (z3 _ _ _))) h8;cases c<;>simp[Instr.lookup,Sem.run_bind,run_underlying U,E,f1,i6Z z1 z2]
  .cases h
 grind
end
section
variable {P : Program} {β : Type} {z : Z} {H : Hp}
theorem cHZ{ρ}{o}{s}{K}{d:β}(he:execOp ρ o=(do pure (.value (<-s))))(h:OkP P s z K d):
 ∃x v,(execOp ρ o).run P z.w= .ok (.value v) z.w/\bE z x v/\K x=some d:=by
 let⟨x,v,p,h2,j⟩:=h
 exact⟨x,v,by simp_all,h2,j⟩
theorem e6Z{ρ}{o}{c}{b}{s}{K}{j:β}(p:o.op= .call c)(B:c.callee= .builtin b)
 (hb:∀d,builtin b c.argTypes o.type d (c.args.map ρ)=(do pure (.value (<-s))))(h:OkP P s z K j):
 ∃x v,(execOp ρ o).run P z.w= .ok (.value v) z.w/\bE z x v/\K x=some j:=by
 let⟨x,v,C,h2,D⟩:=h
 refine⟨x,v,?_,h2,D⟩;unfold execOp;simp[p,resolve,B,invoke,hb,C]
theorem bQ.map{l:List Operand}{r}{ρ}(d:∀x,bE z (r x) (ρ x)):bQ z (l.map r) (l.map ρ):=by
 refine⟨by simp,λi a v h h2=> ?_⟩
 grind
theorem BJ.map{a:Option Operand}{r}{ρ}(d:∀x,bE z (r x) (ρ x)):BJ z (a.map r) (a.map ρ):=by
 cases a with
 |none=>exact .inl ⟨rfl,rfl⟩
 |some x=>exact .inr ⟨_,_,rfl,rfl,d x⟩
theorem vMZ{o}{r}{ρ}{K}{res:β}(h:evR P o r H K=some res)(hH:bH z H)(hr:∀x,bE z (r x) (ρ x)):
 ∃x v,(execOp ρ o).run P z.w= .ok (.value v) z.w/\bE z x v/\K x=some res:=by
 unfold evR at h;split at h
 ·rename_i x ho;exact⟨_,ρ x,by simp[execOp,ho],hr x,h⟩
 ·rename_i x ho;exact⟨_,ρ x,by simp[execOp,ho],hr x,h⟩
 ·rename_i c a b ho;obtain⟨x,v,h1,h2,h3⟩:=pBZ h (hr c) (hr a) (hr b);refine⟨x,v,?_,h2,h3⟩;simp only[Sem.run_bind] at h1;simp only[execOp,ho,Sem.run_bind];generalize (asBool (ρ c)).run P z.w=q at h1⊢;cases q<;>simp[Result.andThen] at h1⊢;obtain⟨h4,h5⟩:=h1;exact⟨h4,h5⟩
 ·rename_i t ps ho;refine cHZ (s:=Instr.build t (ps.map fun(i,x)=>(i,ρ x))) (by simp[execOp,ho]) (nHZ h ⟨by simp,fun i x y h1 h2=> ?_⟩);simp only[Array.toList_map] at h2;rw[ZAV] at h1 h2;obtain⟨q,h3,rfl⟩:=ZAH.1 h1;rw[h3] at h2;simp at h2;subst h2;exact⟨rfl,hr _⟩
 ·rename_i t a ho;exact cHZ (by simp[execOp,ho]) (k9Z h hH (hr a))
 ·rename_i x ho;have hx:=hr x;split at h
  ·rename_i es id i j hq;rw[hq] at hx;cases hv:ρ x<;>rw[hv] at hx<;>first|(cases hx;done)|skip;rename_i p;cases hx with|own _ _ _ _ g sz n hρ=>exact⟨_,ρ x,by simp[execOp,ho,hv],by rw[hv];exact .own _ _ _ _ _ _ _ hρ,h⟩
  ·rename_i u l i j hq;rw[hq] at hx;cases hv:ρ x<;>rw[hv] at hx<;>first|(cases hx;done)|skip;cases hx with|pt _ _ _ _ b off hM hlt hrr=>exact⟨_,ρ x,by simp[execOp,ho,hv],by rw[hv];exact .pt _ _ _ _ _ _ hM hlt hrr,h⟩
  ·rename_i f a c hq;rw[hq] at hx;cases hv:ρ x<;>rw[hv] at hx<;>first|(cases hx;done)|skip;cases hx with|fn _ _ _ va vc h1 h2 h3 h4=>exact⟨_,ρ x,by simp[execOp,ho,hv],by rw[hv];exact .fn _ _ _ _ _ h1 h2 h3 h4,h⟩
  ·rename_i f es k i j hq;rw[hq] at hx;cases hv:ρ x<;>rw[hv] at hx<;>first|(cases hx;done)|skip;cases hx with|rp _ _ _ _ _ g sz n hρ=>exact⟨_,ρ x,by simp[execOp,ho,hv],by rw[hv];exact .rp _ _ _ _ _ _ _ _ hρ,h⟩
  ·rename_i t l hq;rw[hq] at hx;obtain⟨h1,h2⟩:=aeZ.1 h;rcases hx.v.scal rfl rfl with⟨h3,_⟩|⟨_,b,off,h4,h5,h6,h7⟩
   ·obtain rfl:l=([]:List t.den):=ZBd.1 h3;cases h1
   ·have hv:=(List.cons.inj h4).1;have q:=bE.pt t l 0 0 b off h5 h6 h7;rw[ZBq] at q;exact⟨_,ρ x,by simp[execOp,ho,hv],by rw[hv];exact q,h2⟩
  ·cases h
 ·rename_i op t x y u ho;exact cHZ (by simp[execOp,ho]) (sLZ x y h hH (hr x) (hr y))
 ·rename_i t x ix c ho;exact cHZ (by simp[execOp,ho]) (m7Z h hH (hr x) (hr ix))
 ·rename_i op t x ho;exact cHZ (by simp[execOp,ho]) (udZ h (hr x))
 ·rename_i s d x ho;exact cHZ (by simp[execOp,ho]) (f0Z h hH (hr x))
 ·rename_i f a c ho;refine⟨_,.func (.func f) (a.map ρ) (c.map ρ),by simp[execOp,ho,Instr.makeFunc],.fn _ _ _ _ _ (by simp) (by simp) (fun i x v h1 h2=> ?_) (fun i x v h1 h2=> ?_),h⟩
  ·exact(bQ.map hr).2 i x v h1 (by simpa using h2)
  ·exact(bQ.map hr).2 i x v h1 (by simpa using h2)
 ·rename_i t x lo hi ho;exact cHZ (by simp[execOp,ho]) (nUZ h hH (hr x) (.map hr) (.map hr))
 ·rename_i t x lo hi mx ho;exact cHZ (by simp[execOp,ho]) (lMZ h (hr x) (.map hr) (hr hi) (hr mx))
 ·rename_i s x f ho;exact cHZ (by simp[execOp,ho]) (huZ h (hr x))
 ·rename_i s x f ho;exact cHZ (by simp[execOp,ho]) (oXZ h (hr x))
 ·rename_i t x ix ho;exact cHZ (by simp[execOp,ho]) (hvZ h hH (hr x) (hr ix))
 ·rename_i t x ix ho;exact cHZ (by simp[execOp,ho]) (pgZ h (hr x) (hr ix))
 ·rename_i x i ho;obtain⟨l,h1,h2⟩:=agZ.1 h;obtain⟨y,h3,h4⟩:=agZ.1 h2;obtain⟨vs,h5,h6,h7⟩:=iYZ h1 (hr x);have hlt:i<vs.size:=by
   have:=(ZAC.1 h3).1;omega
  have hv:=ZBE hlt;exact cHZ (s:=Instr.extract (ρ x) i) (by simp[execOp,ho]) ⟨y,vs[i],by simp[Instr.extract,h5,hv],h7 i y _ h3 hv,h4⟩
 ·rename_i c ho;split at h
  ·rename_i hc;split at h
   ·rename_i a t ha ht;obtain⟨n,h1,h2⟩:=vyZ o.type h hH (hr a);refine e6Z (s:=Builtin.len_ #[t] o.type #[ρ a]) ho hc (fun consts=> ?_) ⟨_,_,h1,.mkI _ _,h2⟩;have e1:c.args=#[a]:=by apply ZB4;rw[ha]
    have e2:c.argTypes=#[t]:=by apply ZB4;rw[ht]
    simp[builtin,e1,e2]
   ·cases h
  ·rename_i hc;split at h
   ·rename_i a t ha ht;have e1:c.args=#[a]:=by apply ZB4;rw[ha]
    have e2:c.argTypes=#[t]:=by apply ZB4;rw[ht]
    split at h
    ·rename_i e hu;have run:∀A n m,ρ a= .slice A n m->(Builtin.cap_ #[t] o.type #[ρ a]).run P z.w= .ok (.int .i64 (m:Int)) z.w:=fun A n m hv=>by
      simp[Builtin.cap_,Sem.run_bind,hv,run_underlying hu,goInt]
     have key:∀m,(∃A n,ρ a= .slice A n m)->K (.i .i64 (m:Int))=some res->∃x v,(execOp ρ o).run P z.w= .ok (.value v) z.w/\bE z x v/\K x=some res:=fun m ⟨A,n,hv⟩ hk=>
      e6Z (s:=Builtin.cap_ #[t] o.type #[ρ a]) ho hc (fun consts=>by simp[builtin,e1,e2]) ⟨_,_,run A n m hv,.mkI _ _,hk⟩
     split at h
     ·rename_i hq;have hx:=hr a;rw[hq] at hx;exact key 0 ⟨none,0,hx.v.opq.1⟩ h
     ·obtain⟨A,n,m,hv,h1,h2,_,h3⟩:=iMZ h hH (hr a);exact key m ⟨A,n,hv⟩ (uyZ h3 m h1 h2)
    ·cases h
   ·cases h
  ·rename_i hc;split at h
   ·rename_i k hu;obtain⟨l,h1,h2⟩:=agZ.1 h;have hv:=iTZ h1 (bQ.map (l:=c.args.toList) hr);split at h2
    ·rename_i x l;refine e6Z (s:=Builtin.min_ c.argTypes o.type (c.args.map ρ)) ho hc (fun consts=>rfl) ⟨_,_,?_,.mkI _ _,h2⟩;unfold Builtin.min_;rw[Array.toList_map,hv];exact gxZ z.w l x
    ·cases h2
   ·cases h
  ·rename_i hc;split at h
   ·rename_i k hu;obtain⟨l,h1,h2⟩:=agZ.1 h;have hv:=iTZ h1 (bQ.map (l:=c.args.toList) hr);split at h2
    ·rename_i x l;refine e6Z (s:=Builtin.max_ c.argTypes o.type (c.args.map ρ)) ho hc (fun consts=>rfl) ⟨_,_,?_,.mkI _ _,h2⟩;unfold Builtin.max_;rw[Array.toList_map,hv];exact gLZ z.w l x
    ·cases h2
   ·cases h
  ·cases h
 grind
end
section
variable {P : Program} {β : Type} {z : Z} {H : Hp}
def cI(w:World)(M:Nat->Prop)(ρ:Rho)(u:Ty)(l:List u.den)(cs:List Value):Prop:=
 ∀(i) x,l[i]? =some x->∃us,Cl w M ρ u x us/\∀(j) v,us[j]? =some v->cs[i*u.cells+j]? =some v
theorem cI.kp{z'}(k:Kp z z'){u}{l}{cs}(h:cI z.w z.M z.ρ u l cs):cI z'.w z'.M z'.ρ u l cs:=λi x hx=>by
 let⟨us,d,h2⟩:=h i x hx
 exact⟨us,d.kp k,h2⟩
theorem jwZ{c}:∀{css:List (List Value)},(∀u∈css,u.length=c)->∀{k} {us},css[k]? =some us->∀{q} {w},us[q]? =some w->css.flatten[k*c+q]? =some w
 |[],_,k,us,h,_,_,_=>by grind
 |u::css,d,0,us,h,q,w,j=>by
  grind
 |u::css,d,k+1,us,h,q,w,j=>by
  have B:=d u (by simp);rw[ZCQ,ZAU (by rw[ZCD];omega)];have:=jwZ (λu p=>d u (ZAc _ p)) (by simpa using h) j;rw[<-this];congr 1;rw[ZCD];omega
theorem dgZ{w}{M}{ρ}{u}{l:List u.den}{css:List (List Value)}(d:css.length=l.length)(h:∀(i:Nat) e us,l[i]? =some e->css[i]? =some us->Cl w M ρ u e us):∀us∈css,us.length=u.cells:=λus j=>by
 let⟨k,hk⟩:=ZAT j
 let⟨e,he⟩:=biZ d hk
 exact(h k e us he hk).len
theorem cI.css{w}{M}{ρ}{u}{l}{css:List (List Value)}(d:css.length=l.length)(h:∀(i:Nat) e us,l[i]? =some e->css[i]? =some us->Cl w M ρ u e us)
 (rest):cI w M ρ u l (css.flatten++rest):=λi x hx=>by
 have hi:i<css.length:=by rw[d];exact(ZAC.1 hx).1
 refine⟨css[i],h i x _ hx (ZAB hi),λj v p=> ?_⟩;have:=jwZ (dgZ d h) (ZAB hi) p
 grind
theorem cI.arr{w}{M}{ρ}{u}{n}{l:List u.den}{cs}(h:Cl w M ρ (.arr n u) l cs):cI w M ρ u l cs:=by
 obtain⟨d,css,j,rfl,h2⟩:=h;have:=cI.css (by rw[j];exact d.symm) h2 []
 simp_all
theorem aFZ{id}{b}{K}{r:β}:gJ H id b K=some r↔(bM H id=false/\id<bA)/\K (bR H id (some ⟨false,b⟩))=some r:=by
 unfold gJ;cases hk:bM H id
 .cases hb:Nat.ble bA id
  .have:=ZBR.1 λh=>by rw[ZAi h] at hb;cases hb
   simp_all
  .have:=ZBQ hb;simp;omega
 .simp
theorem bbZ{id}{cs}{e}{B}{w'}{u}{l}(G:bH z H)(hk:bM H id=false/\id<bA)(I:¬z.D id)(E:w'.heap[z.w.heap.size]? =some (.cells cs e B))(K:okR u cs B)
 (C:w'.os=z.w.os)(d:w'.tape=z.w.tape/\z.w.drawn<=w'.drawn)(h:w'.output=z.w.output)(j:∀k,k<z.w.heap.size->w'.heap[k]? =z.w.heap[k]?)(L:l.length*u.cells<=cs.size)(h0:0<u.cells)(N:cI z.w z.M z.ρ u l cs.toList):
 ∃z',z'.w=w'/\bH z' (bR H id (some ⟨false,.rows e u l⟩))/\Nx z z'/\z'.ρ id= .real z.w.heap.size cs.size l.length:=by
 have p:z.w.heap.size<w'.heap.size:=(ZBI.1 E).1;refine G.new hk I (ZAN _) p C d h (Nat.le_of_lt p) j λz' O k=> ?_;subst O;refine⟨cs,B,E,K,rfl,rfl,L,h0,λi x hx=> ?_⟩;obtain⟨us,R,h2⟩:=N.kp k i x hx<;>grind
theorem j1Z{id}{cs}{e}{C}{w'}{c}(K:bH z H)(hk:bM H id=false/\id<bA)(L:¬z.D id)(G:w'.heap[z.w.heap.size]? =some (.cells cs e C))(N:okF cs C)
 (E:w'.os=z.w.os)(d:w'.tape=z.w.tape/\z.w.drawn<=w'.drawn)(h:w'.output=z.w.output)(j:∀k,k<z.w.heap.size->w'.heap[k]? =z.w.heap[k]?)(I:bQ z c cs.toList)(O:∀u∈cs,u.oneCell'=true):
 ∃z',z'.w=w'/\bH z' (bR H id (some ⟨false,.vars c⟩))/\Nx z z'/\z'.ρ id= .real z.w.heap.size cs.size cs.size:=by
 have B:=(ZBI.1 G).1;refine K.new hk L (ZAN _) B E d h (Nat.le_of_lt B) j λz' R k=> ?_;subst R;refine⟨cs,e,C,G,N,rfl,⟨by have:=I.1;omega,rfl⟩,λi a v p q=>(I.2 i a v p (by simp_all)).kp k,O⟩
theorem okF0(cs):okF cs (0,0):=.inl rfl
theorem Ok.mk'{s}{K}{r:β}{x}{v}{H'}{z'}(h:s.run P z.w= .ok v z'.w)(d:bH z' H')(j:bE z' x v)(p:Nx z z')(B:K x H'=some r):Ok P s z K r:=⟨x,v,H',z',h,d,j,p,B⟩
theorem miZ(w)(t)(v):(Instr.box t v).run P w= .ok (.pointer (some ⟨w.heap.size,0,none⟩)) (w.alloc (.cells v.cells t)):=rfl
theorem daZ{t}{i}{v}(d:P.info? t=some i)(h:i.zero=some v)(w):(Instr.alloc t true (.tuple #[])).run P w= .ok (.pointer (some ⟨w.heap.size,0,none⟩)) (w.alloc (.cells v.cells t)):=by
 unfold Instr.alloc;rw[Sem.run_bind,i6Z d h]
 rfl
theorem cI.one'{w}{M}{ρ}{u}{x}{vs}(h:Cl w M ρ u x vs):cI w M ρ u [x] vs:=λi y d=>by
 grind
theorem lNZ{t}{id}{K}{r:β}(h:tV P t id H K=some r)(j:bH z H)(p:¬z.D id):Ok P (Instr.alloc t true (.tuple #[])) z K r:=by
 let⟨u,B,h2⟩:=agZ.1 h
 let⟨C,h4⟩:=aeZ.1 h2
 let⟨h5,E⟩:=aFZ.1 h4
 let⟨V,G,_⟩:=cTZ B
 let⟨i,v,I,L,N⟩:=ccZ C
 let⟨d,W⟩:=(N z.w z.M z.ρ).cells
 have O:=by simpa using d.len
 obtain⟨z',p1,R,T,U⟩:=bbZ j h5 p (heap_alloc_new _ _) (okR0 _) rfl ⟨rfl,ZAN _⟩ rfl (λk hk=>heap_alloc_old _ _ _ hk)
  (by rw[O];simp) G (.one' d)
 refine .mk' (by rw[p1];exact daZ I L z.w) R ?_ T E;have:=bE.own u.cells id 0 0 _ _ _ U
 simp_all
theorem rxZ{t}{a}{v}{id}{K}{r:β}(h:BA P t a id H K=some r)(B:bH z H)(C:¬z.D id)(E:bE z a v):Ok P (Instr.box t v) z K r:=by
 let⟨u,G,h2⟩:=agZ.1 h
 let⟨⟨Y,H1⟩,I,h4⟩:=agZ.1 h2
 let⟨z1,L,N,j,s4,O⟩:=bUZ B I E
 let⟨y,h5,R⟩:=bRZ h4 O
 let⟨h9,d⟩:=aFZ.1 R
 let⟨t1,T,_⟩:=cTZ G
 let⟨p,c2⟩:=h5.cells
 have U:=by simpa using p.len
 obtain⟨z',p1,V,W,X⟩:=bbZ N h9 (by rw[j.dom];exact C) (heap_alloc_new _ _) (okR0 _) rfl ⟨rfl,ZAN _⟩ rfl (λk hk=>heap_alloc_old _ _ _ hk)
  (by rw[U];simp) T (.one' p)
 refine .mk' (by rw[p1,L];exact miZ z.w t v) V ?_ (j.trans W) d;have:=bE.own u.cells id 0 0 _ _ _ X
 simp_all
theorem ofZ{t}{id}{K}{r:β}(h:qK P t id H K=some r)(L:bH z H)(N:¬z.D id):Ok P (Instr.alloc t true (.tuple #[])) z K r:=by
 unfold qK at h;split at h
 .rename_i n e W
  let⟨u,d,h2⟩:=agZ.1 h
  let⟨R,h4⟩:=aeZ.1 h2
  let⟨h5,j⟩:=aFZ.1 h4
  let⟨X,T,_⟩:=cTZ d
  let⟨i,v,p,B,C⟩:=ccZ R
  let⟨O,Y⟩:=(C z.w z.M z.ρ).cells
  have U:=by simpa[Ty.cells] using O.len
  obtain⟨z',p1,E,G,I⟩:=bbZ (l:=List.replicate n u.zero) L h5 N (heap_alloc_new _ _) (okR0 _) rfl ⟨rfl,ZAN _⟩ rfl (λk hk=>heap_alloc_old _ _ _ hk)
   (by rw[ZBL,U];exact ZAN _) T (.arr O)
  refine .mk' (by rw[p1];exact daZ p B z.w) E ?_ G j;have:=bE.own u.cells id 0 0 _ _ _ I
  simp_all
 .let⟨l,d,h2⟩:=agZ.1 h
  let⟨h5,j⟩:=aFZ.1 h2
  obtain⟨i,v,p,B,C,V⟩:=fZZ d;obtain⟨z',p1,E,G,I⟩:=j1Z L h5 N (heap_alloc_new _ _) (okF0 _) rfl ⟨rfl,ZAN _⟩ rfl (λk hk=>heap_alloc_old _ _ _ hk) C V;refine .mk' (by rw[p1];exact daZ p B z.w) E ?_ G j;have:=bE.own 0 id 0 0 _ _ _ I;omega
theorem sMZ{t}{a}{v}{id}{K}{r:β}(h:AB P t a id H K=some r)(G:bH z H)(I:¬z.D id)(L:bE z a v):Ok P (Instr.box t v) z K r:=by
 unfold AB at h;split at h
 .let⟨u,d,h2⟩:=agZ.1 h
  let⟨⟨a',H1⟩,T,h4⟩:=agZ.1 h2
  let⟨z1,U,V,N,s4,W⟩:=bUZ G T L
  let⟨l,h5,j⟩:=bRZ h4 W
  let⟨O,X⟩:=aeZ.1 j
  let⟨h9,p⟩:=aFZ.1 X
  rw[afZ] at O
  let⟨t1,Y,_⟩:=cTZ d
  let⟨R,c2⟩:=h5.cells
  have hl:=by simpa[Ty.cells] using R.len
  obtain⟨z',p1,B,C,E⟩:=bbZ V h9 (by rw[N.dom];exact I) (heap_alloc_new _ _) (okR0 _) rfl ⟨rfl,ZAN _⟩ rfl (λk hk=>heap_alloc_old _ _ _ hk)
   (by rw[O,hl];exact ZAN _) Y (.arr R)
  refine .mk' (by rw[p1,U];exact miZ z.w t v) B ?_ (N.trans C) p;have:=bE.own u.cells id 0 0 _ _ _ E
  simp_all
 .let⟨l,d,h2⟩:=agZ.1 h
  let⟨h5,j⟩:=aFZ.1 h2
  let⟨q1,q2,_⟩:=cNZ d L
  obtain⟨z',p1,B,C,E⟩:=j1Z G h5 I (heap_alloc_new _ _) (okF0 _) rfl ⟨rfl,ZAN _⟩ rfl (λk hk=>heap_alloc_old _ _ _ hk) q1 q2;refine .mk' (by rw[p1];exact miZ z.w t v) B ?_ C j;have:=bE.own 0 id 0 0 _ _ _ E;omega
theorem nlZ(zs)(n k)(hk:k<n)(h:0<zs.size):(madeCells zs n)[k]? =zs[k%zs.size]? :=by
 have hm:=ZCV k h;simp[madeCells,hk,hm]
theorem cI.made{w}{M}{ρ}{u}{h}(p:Cl w M ρ u u.zero h.toList)(n m)(B:n<=m)(h0:0<u.cells):cI w M ρ u (List.replicate n u.zero) (madeCells h (m*u.cells)).toList:=λi x hx=>by
 have hi:=by
  have:=(ZAC.1 hx).1;simpa using this
 obtain rfl:u.zero=x:=by
  simpa[hi] using hx
 refine⟨_,p,λj v C=> ?_⟩;have D:=by simpa using p.len
 have d:=by
  have:=(ZAC.1 C).1;simpa[D] using this
 have E:=mPZ (show i<m by omega) d
 simp_all[nlZ,Nat.mod_eq_of_lt]
theorem qMZ{t}{U V}{W X}{id}{K}{r:β}(h:vK P t U V id H K=some r)(hH:bH z H)(hd:¬z.D id)(hl:bE z U W)(hc:bE z V X):
 Ok P (Instr.makeSlice t W X) z K r:=by
 unfold vK at h;split at h
 .rename_i e hu
  let⟨n,h1,h2⟩:=agZ.1 h
  let⟨m,h3,h4⟩:=agZ.1 h2
  let⟨Y,h5,h6⟩:=ZAG.1 h4
  let⟨n',B,h8⟩:=ZAG.1 h6
  let⟨u,h9,E⟩:=agZ.1 h8
  let⟨C,G⟩:=aeZ.1 E
  let⟨I,L⟩:=aFZ.1 G
  simp[ZAm] at C
  let⟨N,O⟩:=C
  obtain⟨kl,rfl⟩:=b1Z h1 hl;obtain⟨kc,rfl⟩:=b1Z h3 hc;unfold cO at h5 B;split at h5
  .rename_i hm;split at B
   .rename_i hn;simp at h5 B
    let⟨t1,t2,_⟩:=cTZ h9
    let⟨i,v,R,q2,q3⟩:=ccZ N
    let⟨c1,c2⟩:=(q3 z.w z.M z.ρ).cells
    have hb:P.bytesOf e=i.bytes:=by simp[Program.bytesOf,R]
    have T:i.size=u.cells:=by
     rw[t1];simp[Program.cellsOf,R]
    have d:cL=140737488355328:=rfl;have j:(i.bytes:Int)*m<=281474976710656:=by
     rw[hb] at O;have e1:m=(Y:Int):=by omega
     have e2:((Y*i.bytes:Nat):Int)<=140737488355328:=by omega
     rw[e1,Int.mul_comm];rw[ZBn] at e2;omega
    have p:=run_make z.w t e i v hu R q2 kl kc n m hn.1 (by omega) j (by rw[d] at hm;omega);rw[T] at p;have aa:=by omega
    obtain⟨z',p1,p2,p3,p4⟩:=bbZ hH I hd (heap_alloc_new _ _) (okR0 _) rfl ⟨rfl,ZAN _⟩ rfl (λk hk=>heap_alloc_old _ _ _ hk)
     (by rw[ZBL,size_madeCells];exact ZAe _ (by omega)) t2 (cI.made c1 n' m.toNat (by omega) t2)
    refine .mk' (by rw[p1];exact p) p2 ?_ p3 L;rw[B];refine .slf _ _ _ _ _ _ (by rw[p4,ZBL]) (by omega) (by rw[size_madeCells];exact ZAN _) ?_;rw[d] at hm;unfold maxLen;omega
   .cases B
  .cases h5
 grind
end
section
variable {P : Program} {β : Type} {z : Z} {H : Hp}
theorem g0Z{B}:∀{d} {c p},tZ B c d=some p->p.length=c.length
 |[],c,p,h=>by simp_all[tZ]
 |(i,a)::d,c,p,h=>by
  let⟨⟨off,j⟩,h2,C⟩:=agZ.1 h
  let⟨l,h4,h5⟩:=agZ.1 C
  cases hb:(Nat.beq l.length j&&Nat.ble (off+l.length) c.length)<;>rw[hb] at h5<;>simp only[bq_false] at h5
  .cases h5
  .rw[g0Z h5,cVZ]
theorem bQ.rep{l}{vs}(h:bQ z l vs):∀n,bQ z (List.replicate n l).flatten (List.replicate n vs).flatten
 |0=>.nil
 |n+1=>by
  exact h.append (bQ.rep h n)
theorem rYZ{α:Type}(l:List α)(n):(List.replicate n l).flatten.length=n*l.length:=by simp
theorem g8Z(zs)(n):(madeCells zs (n*zs.size)).toList=(List.replicate n zs.toList).flatten:=by
 rcases ZBm zs.size with h0|h0
 .have d:=ZAY (by omega);rw[h0,d];simp[madeCells]
 .apply ZA9;intro k;by_cases hk:k<n*zs.size
  .have h:=Nat.div_lt_of_lt_mul (by rw[ZCF];exact hk);have hm:k%zs.size<zs.size:=ZCV _ h0;rw[ZA7,nlZ _ _ _ hk h0];have:=jwZ (css:=List.replicate n zs.toList) (c:=zs.size) (λu j=>by rw[List.eq_of_mem_replicate j];simp) (k:=k/zs.size) (us:=zs.toList) (by simp[h]) (q:=k%zs.size) (w:=zs[k%zs.size]) (by simp)
   simp_all[ZCF,ZB5]
  .rw[ZAd]
   .simp_all
   .rw[ZA5,size_madeCells];omega
theorem csZ(w)(t e)(len)(parts)(cells)(ie)(z)
 (B:P.underlying t=some (.slice e))(p:P.info? e=some ie)(C:ie.zero=some z)(j:¬len*ie.size>2^24)
 (h:Instr.fill (λi=>some (i*ie.size,ie.size)) (madeCells z.cells (len*ie.size)) parts.toList=some cells):
 (Instr.buildSlice t len parts).run P w= .ok (.slice (some ⟨w.heap.size,0,none⟩) len len) (w.alloc (.cells cells e)):=by
 by_cases d:len*ie.size=0
 .have hm:madeCells z.cells (len*ie.size)=#[]:=by rw[d];simp[madeCells]
  rw[hm] at h;simp[Instr.buildSlice,run_underlying B,sizeOf,typeInfo,p,d,Array.range_zero',h,newRow]
 .exact run_buildSlice w t e len parts cells ie z B p C j d h
theorem ghZ{t}{d}{p}{j}{vs}{rb}{id}{K}{r:β}(h:gP P t d p vs rb id H K=some r)(hH:bH z H)(hd:¬z.D id)
 (hp:DV z p j.toList):Ok P (Instr.buildSlice t d j) z K r:=by
 unfold gP at h;simp only[eBZ] at h;split at h
 .rename_i e hu
  let⟨zl,h1,h2⟩:=agZ.1 h
  let⟨u,h3,h4⟩:=agZ.1 h2
  let⟨h5,h6⟩:=aeZ.1 h4
  let⟨c,Y,h8⟩:=agZ.1 h6
  simp only[ZAF,afZ,ZAm] at h5
  let⟨G,aa⟩:=h5
  have R:d*u.cells<=16777216:=by rw[<-G];exact aa
  let⟨t1,t2,_⟩:=cTZ h3
  obtain⟨i,O,q1,q2,q3,q4⟩:=fZZ h1;have I:i.size=u.cells:=by rw[t1];simp[Program.cellsOf,q1]
  have ab:O.cells.size=u.cells:=by have:=q3.1;simp at this;omega
  have L:P.cellsOf e=i.size:=by simp[Program.cellsOf,q1]
  have B:(madeCells O.cells (d*i.size)).toList=(List.replicate d O.cells.toList).flatten:=by
   rw[I,<-ab];exact g8Z _ _
  rw[L] at Y;obtain⟨cs',p1,T,p3⟩:=f9Z Y (by rw[B];exact q3.rep d) (λx hx=>by
   have:x∈(List.replicate d O.cells.toList).flatten:=by rw[<-B];simpa using hx
   obtain⟨y,hy,U⟩:=ZCj.1 this;rw[List.eq_of_mem_replicate hy] at U;exact q4 x (by simpa using U)) hp.1 hp.2
  cases vs<;>simp only[bq_true,bq_false] at h8
  case true=>
   obtain⟨N,hb⟩:=aeZ.1 h8;rw[afZ] at N;obtain⟨b1,b2⟩:=aFZ.1 hb;have V:c.length=d*u.cells:=by rw[g0Z Y,rYZ,G]
   have C:cs'.size=d:=by have:=T.1;simp at this;rw[N,Nat.mul_one] at V;omega
   obtain⟨z',d1,d2,d3,d4⟩:=j1Z hH b1 hd (heap_alloc_new _ _) (okF0 _) rfl ⟨rfl,ZAN _⟩ rfl (λk hk=>heap_alloc_old _ _ _ hk) T (λv hv=>p3 v (by simpa using hv));refine .mk' (by rw[d1];exact csZ z.w t e d j cs' i O hu q1 q2 (by rw[I];omega) p1) d2 ?_ d3 b2;exact .slf _ _ _ _ _ _ (by rw[d4,C]) (ZAN _) (by rw[Nat.mul_one];omega) (by rw[N,Nat.mul_one] at R;unfold maxLen;omega)
  obtain⟨⟨c',H1⟩,h9,W⟩:=agZ.1 h8;obtain⟨z1,s1,s2,s3,s4,s5⟩:=i1Z hH h9 T;have V:c.length=d*u.cells:=by rw[g0Z Y,rYZ,G]
  have X:c'.length=d*u.cells:=by
   have e1:=s5.1;have e2:=T.1;omega
  have E:(AD H rb u).cells=u.cells:=by
   unfold AD
   repeat' split
   all_goals first|rfl|(rename_i hq;rw[<-hq];first|rfl|exact(a5Z _).symm)
  generalize AD H rb u=wt at W E;obtain⟨l,css,a1,a2,a3,a4,a5⟩:=mnZ (asm wt) (λh hr hl h1=>h9Z h hr (by rw[E];exact hl) h1) d W s5 X (λv hv=>p3 v (by simpa using hv));obtain⟨b1,b2⟩:=aFZ.1 a5;have C:cs'.size=d*u.cells:=by have:=T.1;simp at this;omega
  obtain⟨z',d1,d2,d3,d4⟩:=bbZ s2 b1 (by rw[s3.dom];exact hd) (heap_alloc_new _ _) (okR0 _) rfl ⟨rfl,ZAN _⟩ rfl (λk hk=>heap_alloc_old _ _ _ hk)
   (by rw[a1,C,E];exact ZAN _) (by rw[E];exact t2) (by have:=cI.css (by rw[a1,a2]) a4 [];rw[ZAs,<-a3] at this;exact this)
  refine .mk' (by rw[d1,s1];exact csZ z.w t e d j cs' i O hu q1 q2 (by rw[I];omega) p1) d2 ?_ (s3.trans d3) b2;rw[<-s1];refine .slf _ _ _ _ _ _ (by rw[d4,a1]) (ZAN _) (by rw[C];exact ZAN _) ?_;have:d<=d*u.cells:=Nat.le_mul_of_pos_right _ t2;unfold maxLen;omega
 grind
theorem mpZ(w:World)(C)(e)(k):(w.alloc (.cells C e)).freeze ⟨w.heap.size,k,none⟩ 1=w.alloc (.cells C e (k,k+1)):=by
 have hm:∀(a:Array Obj) (x) (f),(a.push x).modify a.size f=a.push (f x):=by
  intro a x f;apply Array.ext
  ·simp
  ·grind
 unfold World.freeze;show({w.alloc (.cells C e) with heap:=(w.heap.push (.cells C e)).modify w.heap.size _}:World)=_;rw[hm]
 rfl
theorem o7Z(w:World)(C)(e):(w.alloc (.cells C e)).shape? w.heap.size=some (e,C.size):=by
 unfold World.shape?;rw[heap_alloc_new]
def fO(l:List UInt8)(c:Nat):Array Value:=(l.map λb=>Value.int .u8 (b.toNat:Int)).toArray++Array.replicate (c-l.length) (.int .u8 0)
theorem fqZ(w)(l)(e):(Conv.stringToBytes e ⟨⟨l⟩⟩).run P w=
 .ok (.slice (some ⟨w.heap.size,0,none⟩) l.length (grownCap w l.length 0 e)) (w.drew.alloc (.cells (fO l (grownCap w l.length 0 e)) e ((fO l (grownCap w l.length 0 e)).size,(fO l (grownCap w l.length 0 e)).size+1))):=by
 have d:(w.drew.alloc (.cells (fO l (grownCap w l.length 0 e)) e)).shape? w.heap.size=_:=o7Z w.drew (fO l (grownCap w l.length 0 e)) e;have h:(w.drew.alloc (.cells (fO l (grownCap w l.length 0 e)) e)).freeze ⟨w.heap.size,_,none⟩ 1=_:=mpZ w.drew (fO l (grownCap w l.length 0 e)) e (fO l (grownCap w l.length 0 e)).size;have j:(Question.appendCap (⟨⟨l⟩⟩:ByteArray).size 0 e).cut (w.tape w.drawn (.appendCap (⟨⟨l⟩⟩:ByteArray).size 0 e))=grownCap w l.length 0 e:=rfl;have p:(List.map (λb=>Value.int IntKind.u8 (b.toNat:Int)) l).toArray++Array.replicate (grownCap w l.length 0 e-(⟨⟨l⟩⟩:ByteArray).size) (Value.int IntKind.u8 0)=fO l (grownCap w l.length 0 e):=rfl;simp[Conv.stringToBytes,newRow,markStringish,j];rw[p,d];simp[h]
 rfl
theorem ovZ{w}{M}{ρ}(l:List UInt8)(c):cI w M ρ .byte l (fO l c).toList:=λi x hx=>by
 refine⟨[.int .u8 (x.toNat:Int)],rfl,λj v d=> ?_⟩
 grind[ZAC,fO,ZB6,ZAS,Ty.cells]
theorem bH.cut{f}{e}{s}{E d}(j:bH z H)(hg:bF H (bZ f)=some ⟨false,.fam e s E⟩)(B:d.length=E.length)
 (hm:∀(k:Nat) (m),d[k]? =some m->m.1≠0->E[k]? =some m):bH z (bR H (bZ f) (some ⟨false,.fam e s d⟩))/\
  (∀i x,bP (bR H (bZ f) (some ⟨false,.fam e s d⟩)) i=some x->bP H i=some x/\∀k,i=enc f k->∃m,d[k]? =some m/\m.1≠0)/\
  ∀i,bM (bR H (bZ f) (some ⟨false,.fam e s d⟩)) i=bM H i:=by
 have D:∀i x,bP (bR H (bZ f) (some ⟨false,.fam e s d⟩)) i=some x->bP H i=some x/\∀k,i=enc f k->∃m,d[k]? =some m/\m.1≠0:=λi x h=>by
  by_cases hi:∃k,i=enc f k
  .obtain⟨k,rfl⟩:=hi;rw[(bMZ H f _ 0).1 k] at h;simp only[ZAA,pick] at h;cases hk:d[k]? with
   |none=>rw[hk] at h;cases h
   |some m=>
    rw[hk] at h;obtain⟨st,l⟩:=m;simp only at h;by_cases h0:st=0
    .rw[ZAL h0] at h;cases h
    .refine⟨?_,λk' G=> ?_⟩
     .rw[cLZ,hg];simp only[ZAA,pick];rw[hm k _ hk h0];exact h
     .obtain rfl:=(jiZ G).2;exact⟨_,hk,h0⟩
  .rw[(bMZ H f _ i).2 λk h=>hi ⟨k,h⟩] at h;exact⟨h,λk hk=>absurd ⟨k,hk⟩ hi⟩
 have L:∀i,dX (bR H (bZ f) (some ⟨false,.fam e s d⟩)) i=false->dX H i=false:=λi hi=>by
  by_cases C:∃k,i=enc f k
  .obtain⟨k,rfl⟩:=C;rw[(ciZ H f _ 0).1 k] at hi;rw[azZ (cjZ f k),dXZ,o2Z,hg];simpa[Ent.has,B] using hi
  .rwa [(ciZ H f _ i).2 λk h=>C ⟨k,h⟩] at hi
 have p:∀i,bM (bR H (bZ f) (some ⟨false,.fam e s d⟩)) i=bM H i:=λi=>by
  rw[atZ];by_cases hi:i=bZ f
  .rw[hi,aiZ hg];simp
  .simp[hi]
 refine⟨⟨λi x h=>j.ent i x (D i x h).1,λi N x O g R n T I n' K p1 U V W X Y=>j.inj i N x O g R n T I n' K (D _ _ p1).1 (D _ _ U).1 V W X Y,λi hi=>j.fresh i (L i hi),j.sub,λi x h=> ?_,λi h=>j.key i (by rw[<-p];exact h),λi hd h=>j.dyn i hd (by rw[<-p];exact h),j.nos⟩,D,p⟩;rw[apZ] at h;by_cases hi:i=bZ f
 .rw[ZAL hi] at h;injection h with h;subst h;rw[hi];have hf:=j.fam _ _ hg;exact hf
 .rw[ZAJ hi] at h;exact j.fam i x h
theorem bH.same{H'}(d:bH z H)(C:∀id,bF H' id=bF H id)(h2:∀id,bM H' id=bM H id):bH z H':=by
 have L:∀id,bP H' id=bP H id:=λid=>cuZ (C _);have N:∀id,dX H' id=dX H id:=λid=>d8Z (C _) (h2 _);exact⟨λi e hi=>d.ent i e (by simp_all),λi D e e' a E G I j p B O R=>d.inj i D e e' a E G I j p B (by simp_all) (by simp_all),λi hi=>d.fresh i (by simp_all),d.sub,
  λi x h=>d.fam i x (by simp_all),λi h=>d.key i (by simp_all),λi K h=>d.dyn i K (by simp_all),d.nos⟩
theorem bH.unset{id}{e}(hg:bF H id=some e)(d:bH z (bR H id (some e))):bH z H:=by
 refine d.same (λk=> ?_) λk=> ?_
 .rw[apZ];by_cases h:k=id
  .subst h;rw[ZAL rfl,hg]
  .rw[ZAJ h]
 simp_all[atZ,aiZ]
theorem uXZ{w}{g}{cs}{e}{d}(h:w.heap[g]? =some (.cells cs e d))(B:okF cs d):
 ∃w' j,(markStringish ⟨g,0,none⟩).run P w= .ok () w'/\w'.heap[g]? =some (.cells cs e j)/\okF cs j/\w'.os=w.os/\(w'.tape=w.tape/\w.drawn<=w'.drawn)/\w'.output=w.output/\w'.heap.size=w.heap.size/\∀b,b≠g->w'.heap[b]? =w.heap[b]? :=by
 have p:w.shape? g=some (e,cs.size):=by unfold World.shape?;rw[h]
 refine⟨w.freeze ⟨g,cs.size,none⟩ 1,(if d.1==d.2 then(cs.size,cs.size+1) else(min d.1 cs.size,max d.2 (cs.size+1))),by simp[markStringish,p],?_,?_,rfl,⟨rfl,ZAN _⟩,rfl,?_,λb hb=> ?_⟩
 .simp[World.freeze,ZCG,h]
 .grind[okF]
 .simp[World.freeze]
 .simp[World.freeze,ZCG,ZBk hb]
theorem iCZ{d p}{a}{v}{id}{K}{r:β}(h:jP P d p a id H K=some r)(G:bH z H)(W:P.underlying d=some .string->¬z.D id)(V:bE z a v):Ok P (convert d p v) z K r:=by
 unfold jP at h;split at h
 .rename_i e I B;cases hb:isB P e<;>rw[hb] at h<;>simp only[bq_true,bq_false] at h
  .cases h
  let⟨l,L,h2⟩:=agZ.1 h
  let⟨X,h4⟩:=aeZ.1 h2
  let⟨h5,Y⟩:=aFZ.1 h4
  rw[ZAm] at X;obtain rfl:=enZ L V;have he:=uPZ hb;have N:cL=140737488355328:=rfl;have C:(convert d p (.string ⟨⟨l⟩⟩)).run P z.w=(Conv.stringToBytes e ⟨⟨l⟩⟩).run P z.w:=by
   simp[convert,run_underlying I,run_underlying B,run_underlying he]
  have hge:=grownCap_ge z.w l.length 0 e;have E:(fO l (grownCap z.w l.length 0 e)).size=grownCap z.w l.length 0 e:=by simp[fO];omega
  obtain⟨z',p1,O,p3,p4⟩:=bbZ (u:=.byte) (w':=z.w.drew.alloc (.cells (fO l (grownCap z.w l.length 0 e)) e ((fO l (grownCap z.w l.length 0 e)).size,(fO l (grownCap z.w l.length 0 e)).size+1))) G h5 (W I)
   (heap_alloc_new z.w.drew _) (.inr ⟨rfl,ZAN _⟩) rfl ⟨rfl,ZBc _⟩ rfl (λk hk=>heap_alloc_old z.w.drew _ _ hk)
   (by rw[E];simp[Ty.cells];exact hge) (by decide) (ovZ _ _)
  refine .mk' (by rw[p1];exact C.trans (fqZ z.w l e)) O ?_ p3 Y;exact .slf _ _ _ _ _ _ p4 hge (by rw[E,Nat.mul_one];exact ZAN _) (grownCap_le_maxLen _ _ _ _ (by unfold maxLen;omega))
 .rename_i e0 e I B;split at h
  .rename_i es aa;split at h
   .rename_i e' l hg;cases hb:(Nat.beq d p&&isB P e&&Nat.beq es 1)<;>rw[hb] at h<;>simp only[bq_true,bq_false] at h
    .cases h
    simp[afZ] at hb;obtain⟨⟨rfl,hB⟩,rfl⟩:=hb;obtain rfl:e0=e:=by rw[I] at B;simpa using B
    let⟨L,h2⟩:=aeZ.1 h
    have R:=by simpa[ZBg] using L
    have he:=uPZ hB;cases V with
    |slfV _ _ A j=>
     obtain⟨rfl,_⟩:=G.virt hg j;exact absurd R (ZA0 _)
    |slf _ _ g sz n c j hn T hm=>
     let⟨b1,b2,b3,b4⟩:=G.real hg j
     let⟨cs,fr,a1,a2,a3,a4,a5,a6,a7⟩:=b4
     let⟨w',U,m1,m2,m3,m4,m5,m6,m7,m8⟩:=uXZ (P:=P) a1 a2.f
     obtain⟨p1,O⟩:=G.write (b:=.rows e' .byte l) hg j m4 m5 m6 m7 m8 (λk=>by
      refine⟨cs,U,m2,m3.imp (λh=>h) (λh=>⟨rfl,h⟩),a3,a4,a5,a6,λi x hx=> ?_⟩
      let⟨u,c1,c2⟩:=a7 i x hx
      exact⟨u,c1.kp k,c2⟩)
     refine .mk' ?_ (p1.unset hg) (.slf _ _ _ _ _ _ j hn T hm) O h2;simp only[convert,Sem.run_bind,run_underlying B,Result.andThen_ok,run_underlying he,ZAb,m1]
     rfl
   .cases h
  .cases h
 grind
end
section
variable {P : Program} {β : Type} {z : Z} {H : Hp}
theorem bH.moveX{d id g R n n'}{b0 b}{w'}{H1}(E:bH z H)(hg:bP H d=some ⟨false,b0⟩)(B:z.ρ d= .real g R n)(G:bH z H1)(ac:∀i e,bP H1 i=some e->bP H i=some e/\i≠d/\¬(Ro i/\Ro d))(hk:bM H1 id=false/\id<bA)(hd:¬z.D id)
 (aa:w'.os=z.w.os)(I:w'.tape=z.w.tape/\z.w.drawn<=w'.drawn)(T:w'.output=z.w.output)(U:w'.heap.size=z.w.heap.size)(V:∀b,b≠g->w'.heap[b]? =z.w.heap[b]?)
 (hb:∀z',z'.w=w'->Kp z z'->gV z' g R n' b):
 ∃z',z'.w=w'/\bH z' (bR H1 id (some ⟨false,b⟩))/\Nx z z'/\z'.ρ id= .real g R n':=by
 obtain⟨hk,C⟩:=hk;have hC:=(E.realX hg B).2.1 rfl;have ad:=(G.fresh id (by simp_all[aEZ])).resolve_right hd
 let z':={z with w:=w',ρ:=λi=>if i=id then .real g R n' else z.ρ i}
 have N:∀i,i≠id->z'.ρ i=z.ρ i:=λi hi=>ZAJ hi;have e2:z'.ρ id= .real g R n':=ZAL rfl;have hn:Nx z z':=⟨aa,I,T,Nat.le_of_eq U.symm,λb _ hb=>V b (λh=>hb (h▸hC)),λ_ h=>.inl h,λ_ h=>.inl h,λ_ _ h _=>h,λi hi=>N i (by grind),rfl⟩;have K:=hn.kp E.sub;have j:∀i e,i≠id->bP (bR H1 id (some ⟨false,b⟩)) i=some e->bP H i=some e/\i≠d/\¬(Ro i/\Ro d):=λi e hi h=>by
  rw[a8Z C,ZAJ hi] at h
  grind
 have s:=G.side (z':=z') (e:=some ⟨false,b⟩) C (λx hx=>by injection hx with hx;subst hx;exact(hb z' rfl K).famOk C) rfl (λi W _=>N i (by omega));refine⟨z',rfl,⟨λi e hi=> ?_,λi O e e' a sa na a' ae af X W h2 m1 m2 L h4=> ?_,λi hi=> ?_,E.sub,s.1,s.2.1,s.2.2.1,s.2.2.2⟩,hn,e2⟩
 .by_cases h:i=id
  .subst h;rw[a8Z C,ZAL rfl] at hi;injection hi with hi;subst hi;unfold fC;rw[e2];exact⟨by show g<w'.heap.size;rw[U];exact(E.realX hg B).1,λ_=>hC,(λh=>by cases h),hb z' rfl K⟩
  .obtain⟨hi,Y,hr⟩:=j i e h hi;refine(E.ent _ _ hi).kp K λa sa na ha=>⟨V a (λab=> ?_),λh=>h⟩;subst ab;exact E.ne Y hi hg rfl ha B hr rfl
 .by_cases hi:i=id
  .have p:O≠id:=λh=>X (hi.trans h.symm);obtain⟨h2,Y,hr⟩:=j O e' p h2;rw[hi,e2] at L;rw[N _ p] at h4;injection L with L;subst L;exact λ_=>E.inj d O _ _ _ _ _ _ _ _ (ZBk Y) hg h2 rfl m2 B h4 λh=>hr h.symm
  .obtain⟨W,Y,hr⟩:=j i e hi W;rw[N _ hi] at L;by_cases p:O=id
   .rw[p,e2] at h4;injection h4 with h4;subst h4;exact λ_=>E.inj i d _ _ _ _ _ _ _ _ Y W hg m1 rfl L B hr
   .obtain⟨h2,ag,_⟩:=j O e' p h2;rw[N _ p] at h4;exact E.inj i O _ _ _ _ _ _ _ _ X W h2 m1 m2 L h4
 .rw[bwZ C] at hi;simp at hi;rw[N _ hi.1];exact G.fresh i hi.2
theorem bH.move{d id g E n n'}{N b}{w'}(C:bH z H)(hg:bF H d=some ⟨false,N⟩)(j:z.ρ d= .real g E n)(hk:bM (bR H d none) id=false/\id<bA)(O:¬z.D id)
 (G:w'.os=z.w.os)(p:w'.tape=z.w.tape/\z.w.drawn<=w'.drawn)(B:w'.output=z.w.output)(I:w'.heap.size=z.w.heap.size)(K:∀b,b≠g->w'.heap[b]? =z.w.heap[b]?)
 (hb:∀z',z'.w=w'->Kp z z'->gV z' g E n' b):
 ∃z',z'.w=w'/\bH z' (bR (bR H d none) id (some ⟨false,b⟩))/\Nx z z'/\z'.ρ id= .real g E n':=by
 have L:=C.low hg (aSZ j);refine C.moveX (C.x hg (aSZ j)) j (C.kill (aiZ hg)) (λi e h=> ?_) hk O G p B I K hb
 simp_all[a8Z,bPZ]
theorem cI.append{w}{M}{ρ}{u}{l m}{cs cs'}{css:List (List Value)}(h:cI w M ρ u l cs)(E:css.length=m.length)
 (hm:∀(i:Nat) e us,m[i]? =some e->css[i]? =some us->Cl w M ρ u e us)(G:∀q,q<l.length*u.cells->cs'[q]? =cs[q]?)(h2:∀q v,css.flatten[q]? =some v->cs'[l.length*u.cells+q]? =some v):
 cI w M ρ u (l++m) cs':=λi x hx=>by
 by_cases hi:i<l.length
 .rw[ZAS hi] at hx
  let⟨us,p,C⟩:=h i x hx
  refine⟨us,p,λj v B=> ?_⟩;have D:=by
   have:=(ZAC.1 B).1;rw[p.len] at this;exact this
  rw[G _ (mPZ hi D)];exact C j v B
 .rw[ZAU (by omega)] at hx
  let⟨us,p,C⟩:=cI.css E hm [] _ x hx
  refine⟨us,p,λj v B=> ?_⟩;have:=C j v B;rw[ZAs] at this;have:=h2 _ _ this;rw[<-this];congr 1;obtain⟨d,I⟩:∃d,i=l.length+d:=⟨i-l.length,by omega⟩;subst I;rw[ZA6,ZAk];omega
theorem cI.take{w}{M}{ρ}{u}{l}{cs}(h:cI w M ρ u l cs)(n):cI w M ρ u (l.take n) cs:=λi x hx=>by
 rw[ZAn] at hx;split at hx
 .exact h i x hx
 simp_all
theorem vaZ(b o j):(⟨b,o,none⟩:Addr).add j=⟨b,o+j,none⟩:=by unfold Addr.add;simp_all
theorem fN.src{u}{m}{v}{B}(hk:(∃e',P.underlying B=some (.slice e'))\/P.underlying B=some .string)(h:fN z u m v):
 ∃css:List (List Value),Src P u.cells B v m.length css.flatten z.w/\css.length=m.length/\∀(i:Nat) e us,m[i]? =some e->css[i]? =some us->Cl z.w z.M z.ρ u e us:=by
 rcases h with⟨C,rfl⟩|⟨A,c,rfl,T,hm,I⟩
 .subst C;refine⟨m.map λb=>[Value.int .u8 (b.toNat:Int)],?_,by simp,λi e us D h2=> ?_⟩
  .have K:(List.map (λb:UInt8=>[Value.int .u8 (b.toNat:Int)]) m).flatten=byteCells ⟨⟨m⟩⟩:=by
    show _=List.map _ m;generalize (m:List UInt8)=q;induction q with
    |nil=>rfl
    |cons b q U=>grind
   rw[K];exact⟨hk,λ_=>rfl,firstCells_string ⟨⟨m⟩⟩ z.w,firstCells_string ⟨⟨m⟩⟩ z.w.drew,by rw[byteCells_length];simp[Ty.cells];rfl,λu C=>by
    obtain⟨_,_,rfl⟩:=ZBf.1 C
    rfl⟩
  .rw[ZAV] at h2;obtain⟨b,L,rfl⟩:=ZAH.1 h2;have:=D.symm.trans L;injection this with this;subst this
   rfl
 .by_cases h0:m.length=0
  .obtain rfl:m=[]:=ZAY h0;refine⟨[],⟨hk,λ_=>rfl,?_,?_,by simp,λ_ h=>by cases h⟩,rfl,λi e us h=>by grind⟩
   .cases A with
    |none=>exact run_firstCells_none z.w u.cells 0 0 c
    |some a=>exact run_firstCells_some z.w u.cells 0 a 0 c [] (by simp) (λj v h=>by grind)
   .cases A with
    |none=>exact run_firstCells_none z.w.drew u.cells 0 0 c
    |some a=>exact run_firstCells_some z.w.drew u.cells 0 a 0 c [] (by simp) (λj v h=>by grind)
  .obtain⟨b,off,rfl,_,N⟩:=I h0;obtain⟨css,p,E,O⟩:=N.cells;have G:css.flatten.length=m.length*u.cells:=by rw[bfZ (dgZ p E),p]
   have d:∀j v,css.flatten[j]? =some v->z.w.cell? ((⟨b,off,none⟩:Addr).add j)=some v:=λj v R=>by rw[vaZ];exact O j v R
   refine⟨css,⟨hk,λ_=>rfl,run_firstCells_some z.w u.cells _ _ _ _ _ G d,run_firstCells_some z.w.drew u.cells _ _ _ _ _ G d,G,λv hv=> ?_⟩,p,E⟩;obtain⟨us,D,h2⟩:=ZCj.1 hv;obtain⟨k,hk⟩:=ZAT D;obtain⟨e,he⟩:=biZ (l:=m) p hk;exact(E k e us he hk).one v h2
theorem fN.lift{t}{m}{v}(h:fN z t.unref m v):fN z t (m.map (dE t)) v:=by
 rcases h with⟨hb,rfl⟩|⟨A,c,rfl,p,h2,B⟩
 .cases t<;>first|(cases hb;done)|skip;refine .inl ⟨rfl,?_⟩;have:(m.map (dE .byte))=m:=List.map_id m
  grind
 .have d:(m.map (dE t)).length=m.length:=ZAp _;refine .inr ⟨A,c,by rw[d],by rw[d];exact p,h2,λh0=> ?_⟩;rw[d] at h0
  let⟨b,off,C,D,E⟩:=B h0
  refine⟨b,off,C,D,λi x hx=> ?_⟩;rw[ZAV] at hx;obtain⟨y,G,rfl⟩:=ZAH.1 hx
  let⟨us,p1,j⟩:=E i y G
  rw[a5Z] at j;exact⟨us,eIZ p1,j⟩
theorem rmZ{e}{n}(h:BC P e n=true):∃i v,P.info? e=some i/\i.zero=some v/\v.cells.size=n:=by
 grind[BC,afZ]
theorem eTZ{e}{n}{i}(h:lJ P e n=true)(hi:P.info? e=some i):n*i.bytes<=140737488355328/\n<=140737488355328:=by
 unfold lJ at h;simp[ZAm] at h;have hb:P.bytesOf e=i.bytes:=by simp[Program.bytesOf,hi]
 rw[hb] at h;exact h
theorem cSZ{t p ty e}{A}{u}{m}{x}{id}{K}{r:β}(R:bH z H)(hk:bM H id=false/\id<bA)(T:¬z.D id)(U:P.underlying t=some (.slice e))
 (V:u.cells=P.cellsOf e)(B:0<u.cells)(W:BC P e u.cells=true)(d:lJ P e m.length=true)
 (G:(∃e',P.underlying p=some (.slice e'))\/P.underlying p=some .string)(hx:fN z u m x)(h:K (.slf u.cells id) (bR H id (some ⟨false,.rows e u m⟩))=some r):
 Ok P (Builtin.append_ #[t,p] ty #[.slice A 0 0,x]) z K r:=by
 obtain⟨i,v,E,X,Y⟩:=rmZ W;obtain⟨r1,r2⟩:=eTZ d E;have aa:i.size=u.cells:=by rw[V];simp[Program.cellsOf,E]
 obtain⟨css,s1,I,s3⟩:=hx.src G;rcases ZBm m.length with h0|h0
 .obtain rfl:m=[]:=ZAY h0;obtain rfl:css=[]:=ZAY I;obtain⟨z',p1,L,N,O⟩:=R.newV (b:=.rows e u []) hk T ⟨rfl,B⟩;exact .mk' (by rw[p1];exact run_append_nothing z.w t p ty e i U E A 0 0 (ZAN _) x (by simp_all)) L (.slfV _ _ A O) N h
 .have hge:=grownCap_ge z.w m.length 0 e;have C:=run_append_grow_src (P:=P) z.w t p ty e i v U E X A 0 0 [] (by cases A with
   |none=>exact run_firstCells_none z.w.drew i.size 0 0 0
   |some a=>exact run_firstCells_some z.w.drew i.size 0 a 0 0 [] (by simp) (λj v h=>by grind)) x m.length css.flatten (by simp_all) (by omega) (by omega) (growslice_fits (by omega) (by simp_all))
  rw[ZAz,ZBb] at C;have ab:(css.flatten.toArray++Builtin.zeroCells v.cells (grownCap z.w m.length 0 e-m.length)).size=grownCap z.w m.length 0 e*u.cells:=by
   rw[ZBJ,size_zeroCells,Y,ZBO,bfZ (n:=u.cells) (dgZ I s3),I,<-Nat.add_mul];congr 1;omega
  obtain⟨z',p1,L,N,O⟩:=bbZ (z:=z) (w':=z.w.drew.alloc (.cells (css.flatten.toArray++Builtin.zeroCells v.cells (grownCap z.w m.length 0 e-m.length)) e)) (e:=e) (l:=m) R hk T
   (heap_alloc_new z.w.drew _) (okR0 _) rfl ⟨rfl,ZBc _⟩ rfl (λk hk=>heap_alloc_old z.w.drew _ _ hk) (by simp_all[ZAe]) B (by
    grind[ZB6,cI.css])
  exact .mk' (by simp_all) L (.slf _ _ _ _ _ _ O hge (by omega) (grownCap_le_maxLen _ _ _ _ (by unfold maxLen;omega))) N h
theorem m5Z{t R ty e e'}{u}{l m}{x}{id g c}{i:TypeInfo}{v:Value}{css:List (List Value)}{cs}{Y}{Hk}(hK:bH z Hk)(hk:bM Hk id=false/\id<bA)(hd:¬z.D id)
 (a1:z.w.heap[g]? =some (.cells cs e' Y))(E:cI z.w z.M z.ρ u l cs.toList)(aa:l.length*u.cells<=cs.size)(G:0<u.cells)(I:i.size=u.cells)(q3:v.cells.size=u.cells)(T:l.length+m.length<=140737488355328)
 (K:css.length=m.length)(U:∀(i:Nat) e us,m[i]? =some e->css[i]? =some us->Cl z.w z.M z.ρ u e us)(L:c<l.length+m.length)
 (h:∀d,(Builtin.firstCells i.size l.length (.slice (some ⟨g,0,none⟩) l.length c)).run P z.w.drew= .ok d.toArray z.w.drew->c<l.length+m.length->
  (Builtin.append_ #[t,R] ty #[.slice (some ⟨g,0,none⟩) l.length c,x]).run P z.w= .ok (.slice (some ⟨z.w.heap.size,0,none⟩) (l.length+m.length) (grownCap z.w (l.length+m.length) c e))
   (z.w.drew.alloc (.cells ((d++css.flatten).toArray++Builtin.zeroCells v.cells (grownCap z.w (l.length+m.length) c e-(l.length+m.length))) e))):
 ∃z' V,(Builtin.append_ #[t,R] ty #[.slice (some ⟨g,0,none⟩) l.length c,x]).run P z.w= .ok V z'.w/\bH z' (bR Hk id (some ⟨false,.rows e u (l++m)⟩))/\Nx z z'/\bE z' (.slf u.cells id) V:=by
 have N:css.flatten.length=m.length*u.cells:=by rw[bfZ (n:=u.cells) (dgZ K U),K]
 have O:=grownCap_ge z.w (l.length+m.length) c e;have p:∀j v,(cs.toList.take (l.length*u.cells))[j]? =some v->z.w.cell? ((⟨g,0,none⟩:Addr).add j)=some v:=λj v hj=>by
  rw[vaZ,bzZ a1,ZAz]
  grind
 have B:(cs.toList.take (l.length*u.cells)).length=l.length*u.cells:=by rw[ZAQ,ZA5 (xs:=cs)];omega
 have C:=h (cs.toList.take (l.length*u.cells)) (by
  rw[I];exact run_firstCells_some z.w.drew _ _ _ _ _ _ B p) L
 have W:((cs.toList.take (l.length*u.cells)++css.flatten).toArray++Builtin.zeroCells v.cells (grownCap z.w (l.length+m.length) c e-(l.length+m.length))).size=grownCap z.w (l.length+m.length) c e*u.cells:=by
  rw[ZBJ,size_zeroCells,q3,ZBO,ZAf,B,N,<-Nat.add_mul,<-Nat.add_mul];congr 1;omega
 obtain⟨z',p1,p2,p3,p4⟩:=bbZ (z:=z) (w':=z.w.drew.alloc (.cells ((cs.toList.take (l.length*u.cells)++css.flatten).toArray++Builtin.zeroCells v.cells (grownCap z.w (l.length+m.length) c e-(l.length+m.length))) e)) (e:=e) (l:=l++m) hK hk hd
  (heap_alloc_new z.w.drew _) (okR0 _) rfl ⟨rfl,ZBc _⟩ rfl (λk hk=>heap_alloc_old z.w.drew _ _ hk) (by simp_all[ZAf,ZAe]) G (by
   refine E.append K U (λq X=> ?_) λq v X=> ?_
   .grind
   .have ab:=(ZAC.1 X).1
    simp_all[ZB6,ZAS,ZAf,ZAU,ZA6])
 exact⟨z',_,by rw[p1];exact C,p2,p3,.slf _ _ _ _ _ _ (by rw[p4,ZAf]) O (by omega) (grownCap_le_maxLen _ _ _ _ (by unfold maxLen;omega))⟩
theorem gfZ{t W ty e}{u}{l m}{L}{x}{id d g X n c}{K}{r:β}{i:TypeInfo}{v:Value}{css:List (List Value)}(Y:bH z H)(hg:bF H d=some ⟨false,.rows e u L⟩)(I:z.ρ d= .real g X n)
 (hk:bM (bR H d none) id=false/\id<bA)(hd:¬z.D id)(hl:∃k,l=L.take k)(aa:l.length<=c)(ab:c*u.cells<=X)(ac:c<=maxLen)
 (ad:0<u.cells)(C:i.size=u.cells)(q3:v.cells.size=u.cells)(N:l.length+m.length<=140737488355328)(U:css.length=m.length)(s3:∀(i:Nat) e us,m[i]? =some e->css[i]? =some us->Cl z.w z.M z.ρ u e us)
 (E:∀B:List Value,(Builtin.firstCells i.size l.length (.slice (some ⟨g,0,none⟩) l.length c)).run P z.w.drew= .ok B.toArray z.w.drew->c<l.length+m.length->
  (Builtin.append_ #[t,W] ty #[.slice (some ⟨g,0,none⟩) l.length c,x]).run P z.w= .ok (.slice (some ⟨z.w.heap.size,0,none⟩) (l.length+m.length) (grownCap z.w (l.length+m.length) c e))
   (z.w.drew.alloc (.cells ((B++css.flatten).toArray++Builtin.zeroCells v.cells (grownCap z.w (l.length+m.length) c e-(l.length+m.length))) e)))
 (p:l.length+m.length<=c->(∀j,j<css.flatten.length->(z.w.cell? ⟨g,0+l.length*i.size+j,none⟩).isSome=true)->(∀j,j<css.flatten.length->z.w.frozen? ⟨g,0+l.length*i.size+j,none⟩=false)->
  (Builtin.append_ #[t,W] ty #[.slice (some ⟨g,0,none⟩) l.length c,x]).run P z.w= .ok (.slice (some ⟨g,0,none⟩) (l.length+m.length) c) (z.w.setCells g (0+l.length*i.size) css.flatten))
 (h:K (.slf u.cells id) (bR (bR H d none) id (some ⟨false,.rows e u (l++m)⟩))=some r):
 Ok P (Builtin.append_ #[t,W] ty #[.slice (some ⟨g,0,none⟩) l.length c,x]) z K r:=by
 have ai:css.flatten.length=m.length*u.cells:=by rw[bfZ (n:=u.cells) (dgZ U s3),U]
 obtain⟨_,_,_,cs,fr,a1,a2,a3,a4,a5,a6,a7⟩:=Y.real hg I;obtain⟨k,ae⟩:=hl;have O:cI z.w z.M z.ρ u l cs.toList:=by
  rw[ae];refine cI.take (λi x hx=> ?_) k;obtain⟨us,b1,b2⟩:=a7 i x hx;exact⟨us,b1,λj v G=>by simp_all⟩
 have ag:l.length*u.cells<=c*u.cells:=ZAe _ aa;rcases ZB1 c (l.length+m.length) with af|hge
 .obtain⟨z',V,p1,p2,p3,p4⟩:=m5Z (Y.kill (aiZ hg)) hk hd a1 O (by omega) ad C q3 N U s3 af E;exact .mk' p1 p2 p4 p3 h
 .have ah:l.length*u.cells+m.length*u.cells<=cs.size:=by
   have:(l.length+m.length)*u.cells<=c*u.cells:=ZAe _ hge;rw[ZAk] at this;omega
  have R:=cUZ (o:=0+l.length*i.size) (n:=css.flatten.length) a1 a2.f (by simp_all);have T:=p hge (λj G=>(R j G).1) (λj G=>(R j G).2);obtain⟨w1,w2,w3,w4⟩:=asZ css.flatten z.w g (0+l.length*i.size);obtain⟨z',p1,p2,p3,p4⟩:=Y.move (n':=(l++m).length) (b:=.rows e u (l++m)) hg I hk hd w2 w3 w4 w1 (λb hb=>aoZ _ _ _ _ _ hb) (λz' hz kk=>by
   refine⟨_,fr,(by rw[hz];exact anZ _ _ _ _ _ _ _ a1),efZ a2 (amZ _ _ _),by rw[amZ];exact a3,rfl,?_,a6,?_⟩
   .rw[ZAf,ZAk];omega
   .have:=(O.append (cs':=(eJ cs (0+l.length*i.size) css.flatten).toList) U s3 (λq hq=> ?_) λq v hq=> ?_).kp kk
    .intro i x hx;obtain⟨us,b1,b2⟩:=this i x hx;exact⟨us,b1,λj v G=>by simpa using b2 j v G⟩
    .rw[C,ZA7,avZ _ _ _ _ (by omega),ZAJ (by omega)];simp
    .have aj:=(ZAC.1 hq).1;rw[C,ZA7,avZ _ _ _ _ (by omega),ZAL (by omega),<-hq];congr 1;omega)
  have hv:bE z' (.slf u.cells id) (.slice (some ⟨g,0,none⟩) (l.length+m.length) c):=by
   have:=bE.slf (z:=z') u.cells id g X (l++m).length c p4 (by rw[ZAf];exact hge) ab ac;rwa [ZAf] at this
  exact .mk' (by rw[p1];exact T) p2 hv p3 h
theorem hSZ{t B ty e}{u}{l m}{L}{x}{id d g V n c}{K}{r:β}(Y:bH z H)(hg:bF H d=some ⟨false,.rows e u L⟩)(I:z.ρ d= .real g V n)
 (hk:bM (bR H d none) id=false/\id<bA)(hd:¬z.D id)(W:P.underlying t=some (.slice e))(hl:∃k,l=L.take k)(N:l.length<=c)(O:c*u.cells<=V)(R:c<=maxLen)
 (hc:u.cells=P.cellsOf e)(T:0<u.cells)(hz:BC P e u.cells=true)(j:lJ P e (l.length+m.length)=true)
 (U:(∃e',P.underlying B=some (.slice e'))\/P.underlying B=some .string)(hx:fN z u m x)(h:K (.slf u.cells id) (bR (bR H d none) id (some ⟨false,.rows e u (l++m)⟩))=some r):
 Ok P (Builtin.append_ #[t,B] ty #[.slice (some ⟨g,0,none⟩) l.length c,x]) z K r:=by
 obtain⟨i,v,G,q2,q3⟩:=rmZ hz;obtain⟨r1,r2⟩:=eTZ j G;have p:i.size=u.cells:=by rw[hc];simp[Program.cellsOf,G]
 obtain⟨css,X,s2,s3⟩:=hx.src U;exact gfZ (i:=i) (v:=v) (css:=css) Y hg I hk hd hl N O R T p q3 (by omega) s2 s3
  (λC ho E=>run_append_grow_src (P:=P) z.w t B ty e i v W G q2 (some ⟨g,0,none⟩) l.length c C ho x m.length css.flatten (by rw[p];exact X) E (by omega) (growslice_fits E r1))
  (λhge h1 h2=>run_append_room_src (P:=P) z.w t B ty e i W G g 0 l.length c x m.length css.flatten (by rw[p];exact X) hge h1 h2) h
theorem fXZ{t Y}(ty){a ax}{v vx}{id}{K}{r:β}(h:lK P t a ax id H K=some r)(E:bH z H)(O:¬z.D id)(ha:bE z a v)(hx:bE z ax vx)
 (j:(∃e',P.underlying Y=some (.slice e'))\/P.underlying Y=some .string):Ok P (Builtin.append_ #[t,Y] ty #[v,vx]) z K r:=by
 unfold lK at h;split at h
 .rename_i e R
  let⟨u,h1,h2⟩:=agZ.1 h
  let⟨B,C,_⟩:=cTZ h1
  let⟨m,hm,G⟩:=gGZ h2 E hx
  split at G
  .obtain rfl:=ha.v.opq.1
   let⟨h4,h5⟩:=aeZ.1 G
   let⟨V,I⟩:=aFZ.1 h5
   rw[ZAF] at h4;exact cSZ E V O R B C h4.1 h4.2 j hm I
  .rename_i es W;split at G
   .rename_i e' L l hg;have key:∀(T),fN z L T vx->L.cells=P.cellsOf e->0<L.cells->bO (BC P e L.cells&&Nat.beq e e'&&Nat.beq es L.cells&&lJ P e (l.length+T.length)) (gJ (bR H W none) id (.rows e L (l++T)) λH'=>K (.slf es id) H')=some r->Ok P (Builtin.append_ #[t,Y] ty #[v,vx]) z K r:=λT hm B C h4=>by
     let⟨h5,V⟩:=aeZ.1 h4
     let⟨I,U⟩:=aFZ.1 V
     simp[afZ] at h5;obtain⟨⟨⟨h9,rfl⟩,rfl⟩,p⟩:=h5;cases ha with
     |slfV _ _ A d=>
      obtain⟨rfl,_⟩:=E.virt hg d;exact cSZ (E.kill (aiZ hg)) I O R B C h9 (by simpa using p) j hm U
     |slf _ _ g sz n c d hn hs N=>
      have X:l.length=n:=by let⟨_,_,_,cs,fr,a1,a2,a3,a4,_⟩:=E.real hg d;exact a4
      subst X;exact hSZ E hg d I O R ⟨l.length,(ZAu).symm⟩ hn hs N B C h9 p j hm U
    rcases aRZ G with⟨rfl,h4⟩|h4
    .exact key m hm B C h4
    .rcases aRZ h4 with⟨rfl,h5⟩|h5
     .rw[a5Z] at B C;refine key (m.map (dE L)) hm.lift B C ?_;rw[ZAp];simp[a5Z] at h5⊢;exact h5
     .cases h5
   .cases G
  .rename_i es W n;split at G
   .rename_i e' L l hg;rcases aRZ G with⟨rfl,h4⟩|h4
    .let⟨h5,V⟩:=aeZ.1 h4
     let⟨I,U⟩:=aFZ.1 V
     simp only[ZAF,afZ,ZAm] at h5;obtain⟨⟨⟨⟨h9,rfl⟩,rfl⟩,aa⟩,p⟩:=h5;have hz:∀{q},q=[]->(l.take 0++q)=q:=λ_=>by simp
     cases ha with
     |slV _ _ _ A d=>
      exact cSZ (E.kill (aiZ hg)) I O R B C h9 (by simpa using p) j hm (by simpa using U)
     |slE _ _ _ g sz T o d=>
      exact cSZ (E.kill (aiZ hg)) I O R B C h9 (by simpa using p) j hm (by simpa using U)
     |sl _ _ _ _ g sz T c d hn hs N=>
      have X:(l.take n).length=n:=by rw[ZAQ];omega
      rw[ZAz] at hs;rw[ZBq];have:=hSZ (ty:=ty) E hg d I O R ⟨n,rfl⟩ (by rw[X];exact hn) hs N B C h9 (by rw[X];exact p) j hm U;rwa [X] at this
    .cases h4
   .cases G
  .cases G
 grind
end
section
variable {P : Program} {β : Type} {z : Z} {H : Hp}
theorem jXZ(z)(n):Builtin.zeroCells z n=madeCells z (n*z.size):=rfl
theorem nMZ(z):Builtin.zeroCells z 0=#[]:=by simp[Builtin.zeroCells]
theorem f3Z(w)(t tx ty e)(i)(zv)(k kx)(ht:P.underlying t=some (.slice e))(hk:P.underlying tx=some (.int k))(hi:P.info? e=some i)(D:i.zero=some zv)
 (x)(n:Nat)(hx:x=(n:Int))(N:n<=140737488355328)(hb:n*i.bytes<=140737488355328)(E:i.size≠0)(b off d h:Nat)(B:d+n<=h)
 (O:∀j,j<(Builtin.zeroCells zv.cells n).toList.length->(w.cell? ⟨b,off+d*i.size+j,none⟩).isSome=true)(R:∀j,j<(Builtin.zeroCells zv.cells n).toList.length->w.frozen? ⟨b,off+d*i.size+j,none⟩=false)
 (G:∀u∈(Builtin.zeroCells zv.cells n).toList,u.oneCell'=true):
 (Builtin.append_ #[t,tx] ty #[.slice (some ⟨b,off,none⟩) d h,.int kx x]).run P w= .ok (.slice (some ⟨b,off,none⟩) (d+n) h) (w.setCells b (off+d*i.size) (Builtin.zeroCells zv.cells n).toList):=by
 subst hx;have p:=run_storeCells_cells (P:=P) b (off+d*i.size) (Builtin.zeroCells zv.cells n).toList 0 w (by omega) (by omega) G;simp only[ZCb] at p;have I:IntKind.i64.wrap (n:Int)=(n:Int):=by rw[IntKind.wrap_i64];omega
 have K:¬((n:Int)<0):=by omega
 have L:¬(281474976710656<(n:Int)*(i.bytes:Int)):=by
  have:((n*i.bytes:Nat):Int)<=140737488355328:=by omega
  rw[ZBn] at this;omega
 by_cases h0:n=0
 .subst h0;have C:IntKind.i64.wrap 0=0:=by rw[IntKind.wrap_i64];omega
  rw[nMZ] at p⊢;simp only[Array.toList_empty] at p;simp[Builtin.append_,run_underlying ht,run_underlying hk,sizeOf,typeInfo,zeroValue,hi,D,asInt,asIntOf,C,Addr.add_lit,show d<=h by omega,p]
 .have hm:¬n*i.size=0:=Nat.mul_ne_zero h0 E;simp[Builtin.append_,run_underlying ht,run_underlying hk,sizeOf,typeInfo,zeroValue,hi,D,asInt,asIntOf,I,K,L,hm,B,Addr.add_lit,p]
theorem dkZ(w)(t tx ty e)(i)(zv)(k kx)(ht:P.underlying t=some (.slice e))(hk:P.underlying tx=some (.int k))(hi:P.info? e=some i)(I:i.zero=some zv)
 (x)(n:Nat)(hx:x=(n:Int))(U:n<=140737488355328)(hb:n*i.bytes<=140737488355328)(K:i.size≠0)(j:Option Addr)(d h:Nat)(p:List Value)
 (B:(Builtin.firstCells i.size d (.slice j d h)).run P w.drew= .ok p.toArray w.drew)(L:d<=h)(hg:h<d+n)(N:((d+n:Nat):Int)<=9223372036854775807)(G:Builtin.nextslicecap (d+n) h*i.bytes<=281474976710656):
 (Builtin.append_ #[t,tx] ty #[.slice j d h,.int kx x]).run P w=
  .ok (.slice (some ⟨w.heap.size,0,none⟩) (d+n) (grownCap w (d+n) h e))
    (w.drew.alloc (.cells ((p++(Builtin.zeroCells zv.cells n).toList).toArray++Builtin.zeroCells zv.cells (grownCap w (d+n) h e-(d+n))) e)):=by
 subst hx;have O:IntKind.i64.wrap (n:Int)=(n:Int):=by rw[IntKind.wrap_i64];omega
 have R:¬((n:Int)<0):=by omega
 have T:¬(281474976710656<(n:Int)*(i.bytes:Int)):=by
  have:((n*i.bytes:Nat):Int)<=140737488355328:=by omega
  rw[ZBn] at this;omega
 have E:¬(d+n<=h):=by omega
 have C:¬(9223372036854775807<((d:Int)+(n:Int))):=by omega
 have D:¬(281474976710656<Builtin.nextslicecap (d+n) h*i.bytes):=by omega
 have hm:¬n*i.size=0:=Nat.mul_ne_zero (by omega) K;have h0:n≠0:=by omega
 simp[Builtin.append_,run_underlying ht,run_underlying hk,sizeOf,typeInfo,zeroValue,hi,I,asInt,asIntOf,O,R,T,hm,E,C,D,Question.forced,B,newRow,grownCap];congr 2
 grind
theorem g5Z(zs)(n):(List.replicate n zs.toList).flatten=(Builtin.zeroCells zs n).toList:=by rw[jXZ,g8Z]
theorem lAZ{t I ty e}{u}{l}{L}{id d g sz n c m:Nat}{k N}{i}{p}{x}{K}{r:β}(hH:bH z H)(hg:bF H d=some ⟨false,.rows e u L⟩)(O:z.ρ d= .real g sz n)
 (hk:bM (bR H d none) id=false/\id<bA)(hd:¬z.D id)(hu:P.underlying t=some (.slice e))(C:P.underlying I=some (.int k))(hl:∃k,l=L.take k)(E:l.length<=c)(R:c*u.cells<=sz)(T:c<=maxLen)
 (hi:P.info? e=some i)(hz:i.zero=some p)(U:0<u.cells)(V:i.size=u.cells)(c1:Cl z.w z.M z.ρ u u.zero p.cells.toList)(c2:∀v∈p.cells,v.oneCell'=true)(hx:x=(m:Int))(r1:(l.length+m)*i.bytes<=140737488355328)(r2:l.length+m<=140737488355328)
 (h:K (.slf u.cells id) (bR (bR H d none) id (some ⟨false,.rows e u (l++List.replicate m u.zero)⟩))=some r):
 Ok P (Builtin.append_ #[t,I] ty #[.slice (some ⟨g,0,none⟩) l.length c,.int N x]) z K r:=by
 have W:p.cells.size=u.cells:=by simpa using c1.len
 have hb:m*i.bytes<=140737488355328:=ZBC (ZAe _ (by omega)) r1;have X:∀v∈(Builtin.zeroCells p.cells m).toList,v.oneCell'=true:=λv hv=>by
  rw[<-g5Z] at hv
  grind[ZCj,ZBH]
 refine gfZ (m:=List.replicate m u.zero) (i:=i) (v:=p) (css:=List.replicate m p.cells.toList) hH hg O hk hd hl E R T U V W (by simp_all) (by simp) (λj e us Y h2=> ?_) (λG ho B=> ?_) (λhge Y h2=> ?_) h
 .grind
 .rw[ZBL] at B⊢;rw[g5Z];exact dkZ z.w t I ty e i p k N hu C hi hz x m hx (by omega) hb (by omega) _ _ _ G ho E B (by omega) (growslice_fits B r1)
 .rw[g5Z] at Y h2⊢;rw[ZBL] at hge⊢;exact f3Z z.w t I ty e i p k N hu C hi hz x m hx (by omega) hb (by omega) g 0 l.length c hge Y h2 X
theorem i7Z(w)(t tx ty e)(i)(k kx)(ht:P.underlying t=some (.slice e))(hk:P.underlying tx=some (.int k))(hi:P.info? e=some i)(A):
 (Builtin.append_ #[t,tx] ty #[.slice A 0 0,.int kx 0]).run P w= .ok (.slice A 0 0) w:=by
 have d:IntKind.i64.wrap 0=0:=by rw[IntKind.wrap_i64];omega
 cases A<;>simp[Builtin.append_,run_underlying ht,run_underlying hk,sizeOf,typeInfo,hi,asInt,asIntOf,d,storeCells]
theorem fvZ{t E ty e}{u}{A}{id m:Nat}{k O}{i}{C}{x}{K}{r:β}(R:bH z H)(hk:bM H id=false/\id<bA)(T:¬z.D id)(W:P.underlying t=some (.slice e))(G:P.underlying E=some (.int k))
 (hi:P.info? e=some i)(X:i.zero=some C)(B:0<u.cells)(Y:i.size=u.cells)(U:Cl z.w z.M z.ρ u u.zero C.cells.toList)(hx:x=(m:Int))(V:m*i.bytes<=140737488355328)(r2:m<=140737488355328)
 (h:K (.slf u.cells id) (bR H id (some ⟨false,.rows e u (List.replicate m u.zero)⟩))=some r):
 Ok P (Builtin.append_ #[t,E] ty #[.slice A 0 0,.int O x]) z K r:=by
 have d:C.cells.size=u.cells:=by simpa using U.len
 rcases ZBm m with h0|h0
 .subst h0;obtain rfl:x=0:=by omega
  obtain⟨z',p1,I,L,N⟩:=R.newV (b:=.rows e u []) hk T ⟨rfl,B⟩;exact .mk' (by simp_all[i7Z]) I (.slfV _ _ A N) L h
 .have hge:=grownCap_ge z.w m 0 e;have p:=dkZ (P:=P) z.w t E ty e i C k O W G hi X x m hx (by omega) V (by omega) A 0 0 [] (by cases A with
   |none=>exact run_firstCells_none z.w.drew i.size 0 0 0
   |some a=>exact run_firstCells_some z.w.drew i.size 0 a 0 0 [] (by simp) (λj v h=>by simp at h)) (ZAN _) (by omega) (by omega) (growslice_fits (by omega) (by rw[ZAz];exact V))
  rw[ZAz,ZBb] at p;obtain⟨z',p1,I,L,N⟩:=bbZ (z:=z) (w':=z.w.drew.alloc (.cells ((Builtin.zeroCells C.cells m).toList.toArray++Builtin.zeroCells C.cells (grownCap z.w m 0 e-m)) e)) (e:=e) (l:=List.replicate m u.zero) R hk T
   (heap_alloc_new z.w.drew _) (okR0 _) rfl ⟨rfl,ZBc _⟩ rfl (λk hk=>heap_alloc_old z.w.drew _ _ hk) (by
    rw[ZBL,Array.toArray_toList,ZBJ,size_zeroCells,d];exact ZCT _ _) B (λi x hx=>by
    obtain⟨us,b1,b2⟩:=cI.made U m m (ZAN _) B i x hx;refine⟨us,b1,λj v hj=> ?_⟩;have:=b2 j v hj;rw[Array.toArray_toList,ZB6,ZAS (by
     have:=(ZAC.1 this).1;simp only[ZA5,size_madeCells] at this;rw[ZA5,size_zeroCells,d];exact this),jXZ,d]
    exact this)
  refine .mk' (by rw[p1];exact p) I (.slf _ _ _ _ _ _ (by rw[N,ZBL]) hge ?_ (grownCap_le_maxLen _ _ _ _ (by unfold maxLen;omega))) L h;rw[Array.toArray_toList,ZBJ,size_zeroCells,size_zeroCells,d,<-Nat.add_mul]
  simp_all
theorem kKZ{t tx}(ty){a ax}{v vx}{id}{k}{K}{r:β}(h:lF P t a ax id H K=some r)(L:bH z H)(U:¬z.D id)(ha:bE z a v)(hx:bE z ax vx)
 (hk:P.underlying tx=some (.int k)):Ok P (Builtin.append_ #[t,tx] ty #[v,vx]) z K r:=by
 unfold lF at h;split at h
 .rename_i e V
  let⟨u,h1,h2⟩:=agZ.1 h
  let⟨h3,h4⟩:=aeZ.1 h2
  let⟨n,h5,h6⟩:=agZ.1 h4
  let⟨m,O,G⟩:=ZAG.1 h6
  let⟨t1,W,_⟩:=cTZ h1
  let⟨i,zv,I,X,q3⟩:=ccZ h3
  let⟨Y,c2⟩:=(q3 z.w z.M z.ρ).cells
  have B:i.size=u.cells:=by rw[t1];simp[Program.cellsOf,I]
  obtain⟨kx,rfl⟩:=b1Z h5 hx;have C:n=(m:Int):=by
   unfold cO at O;split at O
   .simp at O;omega
   .cases O
  split at G
  .let⟨h9,d⟩:=aeZ.1 G
   let⟨E,j⟩:=aFZ.1 d
   obtain rfl:=ha.v.opq.1
   let⟨R,T⟩:=eTZ h9 I
   exact fvZ L E U V hk I X W B Y C R T j
  .rename_i es ac;split at G
   .rename_i e' t' l hg;rcases aRZ G with⟨rfl,h9⟩|h9
    .let⟨d,E⟩:=aeZ.1 h9
     let⟨j,N⟩:=aFZ.1 E
     simp[afZ] at d;obtain⟨⟨rfl,rfl⟩,aa⟩:=d
     let⟨R,T⟩:=eTZ aa I
     cases ha with
     |slfV _ _ A p=>
      obtain⟨rfl,_⟩:=L.virt hg p;exact fvZ (L.kill (aiZ hg)) j U V hk I X W B Y C (by simpa using R) (by simpa using T) N
     |slf _ _ g sz n' c p hn hs ab=>
      have hl:l.length=n':=by let⟨_,_,_,cs,fr,a1,a2,a3,a4,_⟩:=L.real hg p;exact a4
      subst hl;exact lAZ L hg p j U V hk ⟨l.length,(ZAu).symm⟩ hn hs ab I X W B Y c2 C R T N
    .cases h9
   .cases G
  .cases G
 grind
theorem fN.first{u}{m}{v}(h:fN z u m v)(k)(hk:k<=m.length):
 ∃css:List (List Value),(Builtin.firstCells u.cells k v).run P z.w= .ok css.flatten.toArray z.w/\css.length=k/\∀(i:Nat) e us,(m.take k)[i]? =some e->css[i]? =some us->Cl z.w z.M z.ρ u e us:=by
 rcases h with⟨D,rfl⟩|⟨A,c,rfl,U,hm,E⟩
 .subst D;have d:(m.take k).length=k:=by rw[ZAQ];omega
  refine⟨(m.take k).map λb=>[Value.int .u8 (b.toNat:Int)],?_,by simp_all,λi e us G h2=> ?_⟩
  .have I:(List.map (λb:UInt8=>[Value.int .u8 (b.toNat:Int)]) (m.take k)).flatten=byteCells ⟨⟨m.take k⟩⟩:=by
    show _=List.map _ (m.take k);generalize (m.take k:List UInt8)=q;induction q with
    |nil=>rfl
    |cons b q K=>simp[K]
   rw[I];simp only[Builtin.firstCells,Sem.run_pure];congr 1;apply ZB4;simp[byteCells]
   simp_all[Ty.toL,ByteArray.copySlice]
  .rw[ZAV] at h2;obtain⟨b,L,rfl⟩:=ZAH.1 h2;have:=G.symm.trans L;cases this
   rfl
 .by_cases h0:k=0
  .subst h0;refine⟨[],?_,rfl,λi e us h=>by grind⟩;cases A with
   |none=>exact run_firstCells_none z.w u.cells 0 _ c
   |some a=>exact run_firstCells_some z.w u.cells 0 a _ c [] (by simp) (λj v h=>by grind)
  .obtain⟨b,off,rfl,_,N⟩:=E (by omega);have p:=N.sub 0 k;rw[ZBq,ZCb,ZB2] at p
   let⟨css,B,C,O⟩:=p.cells
   have d:(m.take k).length=k:=by rw[ZAQ];omega
   have R:css.flatten.length=k*u.cells:=by rw[bfZ (dgZ B C),B,d]
   exact⟨css,run_firstCells_some z.w u.cells _ _ _ _ _ R (λj v T=>by rw[vaZ];exact O j v T),by rw[B,d],C⟩
theorem nPZ{α}{l m:List α}{d}(h:d+m.length<=l.length):(bY l d m).length=l.length:=by
 grind[bY]
theorem ifZ{α}{l m:List α}{d}(h:d+m.length<=l.length)(i):(bY l d m)[i]? =if d<=i/\i<d+m.length then m[i-d]? else l[i]? :=by
 unfold bY;have j:(l.take d).length=d:=by rw[ZAQ];omega
 grind
theorem bH.reset{id}{e}(hg:bF H id=some e)(d:bH z H):bH z (bR H id (some e)):=by
 refine d.same (λk=> ?_) λk=> ?_
 .rw[apZ];by_cases h:k=id
  .subst h;rw[ZAL rfl,hg]
  .rw[ZAJ h]
 simp_all[atZ,aiZ]
theorem eVZ{u}{m}{v}(h:fN z u m v)(w):(Builtin.lenOf v).run P w= .ok m.length w:=by
 rcases h with⟨d,rfl⟩|⟨A,c,rfl,_⟩
 .subst d;rfl
 .rfl
theorem nzZ{H'}{u}{l m}{e'}{id g sz n off}{css:List (List Value)}(Y:bH z H)(hg:bP H id=some ⟨false,.rows e' u l⟩)(C:z.ρ id= .real g sz n)
 (B:off+m.length<=l.length)(I:css.length=m.length)(L:∀(i:Nat) e us,m[i]? =some e->css[i]? =some us->Cl z.w z.M z.ρ u e us)(hu:Upd H id (.rows e' u (bY l off m)) H')(N:¬Ro id):
 (storeCells ⟨g,off*u.cells,none⟩ css.flatten).run P z.w= .ok () (z.w.setCells g (off*u.cells) css.flatten)/\
  bH {z with w:=z.w.setCells g (off*u.cells) css.flatten} H'/\Nx z {z with w:=z.w.setCells g (off*u.cells) css.flatten}:=by
 obtain⟨_,_,_,cs,fr,a1,a2,a3,a4,a5,a6,a7⟩:=Y.realX hg C;have O:css.flatten.length=m.length*u.cells:=by rw[bfZ (dgZ I L),I]
 have h:off*u.cells+css.flatten.length<=cs.size:=by
  have:(off+m.length)*u.cells<=l.length*u.cells:=ZAe _ B;rw[ZAk] at this;omega
 have D:=cUZ (o:=off*u.cells) (n:=css.flatten.length) a1 a2.f h;have R:∀v∈css.flatten,v.oneCell'=true:=λv hv=>by
  obtain⟨us,R,h2⟩:=ZCj.1 hv;obtain⟨k,hk⟩:=ZAT R;obtain⟨e,he⟩:=biZ (l:=m) I hk;exact(L k e us he hk).one v h2
 have T:=run_storeCells_cells (P:=P) g (off*u.cells) css.flatten 0 z.w (λj p=>by simpa using(D j p).1) (λj p=>by simpa using(D j p).2) R;simp only[ZCb] at T;obtain⟨w1,w2,w3,w4⟩:=asZ css.flatten z.w g (off*u.cells);have E:(bY l off m).length=l.length:=nPZ B;obtain⟨p1,p2⟩:=Y.writeX (w':=z.w.setCells g (off*u.cells) css.flatten) (b:=.rows e' u (bY l off m)) hg C w2 w3 w4 w1 (λb hb=>aoZ _ _ _ _ _ hb) (λkk=>by
  refine⟨_,fr,anZ _ _ _ _ _ _ _ a1,efZ a2 (amZ _ _ _),by rw[amZ];exact a3,by rw[E];exact a4,by rw[E];exact a5,a6,λi x hx=> ?_⟩;rw[ifZ B] at hx;by_cases G:off<=i/\i<off+m.length
  .rw[ZAL G] at hx;obtain⟨us,K,U⟩:=cI.css I L [] _ _ hx;refine⟨us,K.kp kk,λj v p=> ?_⟩;have hb:=U j v p;rw[ZAs] at hb;have V:=(ZAC.1 hb).1;obtain⟨d,hd⟩:∃d,i=off+d:=⟨i-off,by omega⟩;subst hd;rw[ZA6] at hb V;rw[ZAk,avZ _ _ _ _ h,ZAL (by omega),<-hb];congr 1;omega
  .rw[ZAJ G] at hx;obtain⟨us,K,U⟩:=a7 i x hx;refine⟨us,K.kp kk,λj v p=> ?_⟩;have W:j<u.cells:=by
    have:=(ZAC.1 p).1;rw[K.len] at this;exact this
   rw[avZ _ _ _ _ h,ZAJ,U j v p];rw[O];rcases ZB1 i off with X|hge
   .have:=mPZ (es:=u.cells) X W;omega
   .have:(off+m.length)*u.cells<=i*u.cells:=ZAe _ (by omega);rw[ZAk] at this;omega) hu N
 simp_all
theorem nKZ{u}{l m}{e'}{id g p n off}{css:List (List Value)}(h:bH z H)(hg:bF H id=some ⟨false,.rows e' u l⟩)(d:z.ρ id= .real g p n)
 (j:off+m.length<=l.length)(B:css.length=m.length)(C:∀(i:Nat) e us,m[i]? =some e->css[i]? =some us->Cl z.w z.M z.ρ u e us):
 (storeCells ⟨g,off*u.cells,none⟩ css.flatten).run P z.w= .ok () (z.w.setCells g (off*u.cells) css.flatten)/\
  bH {z with w:=z.w.setCells g (off*u.cells) css.flatten} (bR H id (some ⟨false,.rows e' u (bY l off m)⟩))/\Nx z {z with w:=z.w.setCells g (off*u.cells) css.flatten}:=
 nzZ h (h.x hg (aSZ d)) d j B C (.stat (h.low hg (aSZ d)) hg (h.low hg (aSZ d))) (bPZ (h.low hg (aSZ d)))
theorem tRZ{H'}{t e ty sT}{u}{l m}{e'}{x}{id g O n off d c}{K}{r:β}(G:bH z H)(hg:bP H id=some ⟨false,.rows e' u l⟩)(j:z.ρ id= .real g O n)
 (R:P.underlying t=some (.slice e))(T:u.cells=P.cellsOf e)(hx:fN z u m x)(U:off+d<=l.length)
 (B:Upd H id (.rows e' u (bY l off (m.take d))) H')(C:¬Ro id)(h:K (.i .i64 ((min m.length d:Nat):Int)) H'=some r):
 Ok P (Builtin.copy_ #[t,sT] ty #[.slice (some ⟨g,off*u.cells,none⟩) d c,x]) z K r:=by
 let⟨_,_,_,cs,fr,a1,a2,a3,a4,a5,a6,a7⟩:=G.realX hg j
 have hi:∃i,P.info? e=some i/\i.size=u.cells:=by
  have:=b7Z T.symm (by omega)
  let⟨i,V,h2⟩:=ZAH.1 this
  exact⟨i,V,h2⟩
 let⟨i,W,X⟩:=hi
 let⟨css,Y,f2,I⟩:=hx.first (P:=P) (min m.length d) (Nat.min_le_left _ _)
 have D:m.take (min m.length d)=m.take d:=by rw[List.take_eq_take_iff];omega
 have L:(m.take d).length=min m.length d:=by rw[ZAQ];omega
 rw[D] at I
 let⟨E,p1,p2⟩:=nzZ (P:=P) G hg j (by omega) (by omega) I B C
 have p:(Builtin.copy_ #[t,sT] ty #[.slice (some ⟨g,off*u.cells,none⟩) d c,x]).run P z.w= .ok (.int .i64 ((min m.length d:Nat):Int)) (z.w.setCells g (off*u.cells) css.flatten):=by
  have N:Nat.min m.length d=min m.length d:=rfl;simp[Builtin.copy_,run_underlying R,eVZ hx,sizeOf,typeInfo,W,X,Y,E,goInt]
 exact .mk' p p1 (.mkI _ _) p2 h
theorem npZ{t e ty sT}{u}{l m}{e'}{x}{id g C n off p c}{K}{r:β}(j:bH z H)(hg:bF H id=some ⟨false,.rows e' u l⟩)(d:z.ρ id= .real g C n)
 (D:P.underlying t=some (.slice e))(E:u.cells=P.cellsOf e)(hx:fN z u m x)(B:off+p<=l.length)
 (h:K (.i .i64 ((min m.length p:Nat):Int)) (bR H id (some ⟨false,.rows e' u (bY l off (m.take p))⟩))=some r):
 Ok P (Builtin.copy_ #[t,sT] ty #[.slice (some ⟨g,off*u.cells,none⟩) p c,x]) z K r:=
 tRZ j (j.x hg (aSZ d)) d D E hx B (.stat (j.low hg (aSZ d)) hg (j.low hg (aSZ d))) (bPZ (j.low hg (aSZ d))) h
theorem gFZ{t e ty sT}{u}{m}{e'}{x}{id off}{A}{K}{r:β}{l}(j:bH z H)(hg:bF H id=some ⟨false,.rows e' u l⟩)
 (p:P.underlying t=some (.slice e))(B:u.cells=P.cellsOf e)(C:0<u.cells)(hx:fN z u m x)
 (h:K (.i .i64 ((min m.length 0:Nat):Int)) (bR H id (some ⟨false,.rows e' u (bY l off (m.take 0))⟩))=some r):
 Ok P (Builtin.copy_ #[t,sT] ty #[.slice A 0 0,x]) z K r:=by
 have hi:∃i,P.info? e=some i/\i.size=u.cells:=by
  have:=b7Z B.symm (by omega)
  let⟨i,D,h2⟩:=ZAH.1 this
  exact⟨i,D,h2⟩
 let⟨i,E,G⟩:=hi
 let⟨css,I,L,O⟩:=hx.first (P:=P) 0 (ZBF _)
 obtain rfl:css=[]:=ZAY L;have N:bY l off (m.take 0)=l:=by simp[bY]
 rw[N] at h;refine .mk' ?_ (j.reset hg) (.mkI _ _) (Nx.refl z) h;have d:Nat.min m.length 0=0:=Nat.min_eq_right (ZBF _);cases A<;>simp[Builtin.copy_,run_underlying p,eVZ hx,sizeOf,typeInfo,E,G,I,goInt,storeCells]
theorem p3Z{t sT}(ty){a ax}{v W}{K}{r:β}(h:vJ P t a ax H K=some r)(D:bH z H)(X:bE z a v)(hx:bE z ax W):
 Ok P (Builtin.copy_ #[t,sT] ty #[v,W]) z K r:=by
 unfold vJ at h;split at h
 .rename_i e G;obtain⟨u,Y,h2⟩:=agZ.1 h;obtain⟨I,T,_⟩:=cTZ Y;obtain⟨m,hm,B⟩:=gGZ h2 D hx;split at B
  .rename_i es id;split at B
   .rename_i e' t' l hg;rcases aRZ B with⟨rfl,h4⟩|h4
    .obtain⟨h5,C⟩:=aeZ.1 h4;rw[afZ] at h5;subst h5;cases X with
     |slfV _ _ A d=>
      obtain⟨rfl,_⟩:=D.virt hg d;exact gFZ D hg G I T hm C
     |slf _ _ g sz n c d hn U aa=>
      have hl:l.length=n:=by obtain⟨_,_,_,cs,fr,a1,a2,a3,a4,_⟩:=D.real hg d;exact a4
      subst hl;have:=npZ (sT:=sT) (ty:=ty) (c:=c) D hg d G I hm (by omega) C;rwa [ZBq] at this
    .cases h4
   .cases B
  .rename_i es id off n;split at B
   .rename_i e' t' l hg;rcases aRZ B with⟨rfl,h4⟩|h4
    .obtain⟨h5,C⟩:=aeZ.1 h4;simp only[ZAF,afZ,ZAm] at h5;obtain⟨rfl,E⟩:=h5;cases X with
     |slV _ _ _ A d=>exact gFZ D hg G I T hm C
     |slE _ _ _ g sz m' o d=>exact gFZ D hg G I T hm C
     |sl _ _ _ _ g sz m' c d hn U aa=>exact npZ D hg d G I hm E C
    .cases h4
   .cases B
  .rename_i f s x;obtain⟨ab,B⟩:=aeZ.1 B;split at B
   .rename_i e' s' N hg;rcases aRZ B with⟨rfl,h4⟩|h4
    .rcases aRZ h4 with⟨rfl,h5⟩|h5
     .obtain⟨y,C,E⟩:=ZAG.1 h5;have C:sO N x m=some y:=C;have ah:=T;have L:=X.v.scal rfl rfl;have j:∀{A} {c},K (.i .i64 0) (bR H (bZ f) (some ⟨false,.fam e' u N⟩))=some r->Ok P (Builtin.copy_ #[t,sT] ty #[.slice A 0 c,W]) z K r:=λ{A c} hk=>by
       have hi:∃i,P.info? e=some i/\i.size=u.cells:=by
        have:=b7Z I.symm (by omega);obtain⟨i,Y,h2⟩:=ZAH.1 this;exact⟨i,Y,h2⟩
       obtain⟨i,i1,i2⟩:=hi;obtain⟨css,f1,f2,f3⟩:=hm.first (P:=P) 0 (ZBF _);obtain rfl:css=[]:=ZAY f2;refine .mk' ?_ (D.reset hg) (.mkI _ _) (Nx.refl z) hk;have O:Nat.min m.length 0=0:=Nat.min_eq_right (ZBF _);cases A<;>simp[Builtin.copy_,run_underlying G,eVZ hm,O,sizeOf,typeInfo,i1,i2,f1,goInt,storeCells]
      rcases x with l|(_|⟨k,off,n⟩)
      .unfold sO at C;obtain⟨V,h9⟩:=aeZ.1 C;rw[afZ] at V;cases h9;obtain⟨A,c,hv,_⟩:=L;simp only[ZBV,ZBl] at hv;have:=V;rw[this] at hv;subst hv;exact j E
      .cases C;have hv:[v]=[.slice none 0 0]:=L;simp only[ZBV,ZBl] at hv;subst hv;exact j E
      .obtain⟨p,g3,V⟩:=ZAG.1 C;obtain⟨h9,ac⟩:=aeZ.1 V;cases ac;simp only[ZAF,afZ,ZAm] at h9;obtain⟨g4,ad⟩:=h9;rcases L with⟨A,d,rfl,hv⟩|⟨g,sz,m',c,d,ai,U,aj,hv⟩
       .simp only[ZBV,ZBl] at hv;subst hv;have U:bY p.2 off (m.take 0)=p.2:=by simp[bY]
        rw[U] at E;have ae:N.set k (1,p.2)=N:=by
         obtain⟨hk,af⟩:=ZAC.1 g3;have:((1,p.2):Nat×List u.den)=N[k]:=by rw[af,<-g4]
         rw[this];exact ZCc hk
        rw[ae] at E;exact j (by simpa using E)
       .simp only[ZBV,ZBl] at hv;subst hv;have R:=hbZ hg g3 (by rw[g4];omega);have ag:((⟨false||Nat.ble 2 p.1,.rows e' u p.2⟩:Ent))=⟨false,.rows e' u p.2⟩:=by rw[g4];rfl
        rw[ag] at R;exact tRZ D R d G I hm ad (.mem hg (D.fam _ _ hg) g3 _) (mjZ ab) E
     .cases h5
    .cases h4
   .cases B
  .cases B
 grind
theorem c6Z{t e ty}{A}{c}(w)(d:P.underlying t=some (.slice e)):(Builtin.clear_ #[t] ty #[.slice A 0 c]).run P w= .ok (.tuple #[]) w:=by
 cases A<;>simp[Builtin.clear_,run_underlying d]
theorem htZ{t e ty}{a}{n c}{i}{d}{w w'}(j:P.underlying t=some (.slice e))(hi:P.info? e=some i)(p:i.zero=some d)(B:n≠0)
 (h:(storeCells a (Builtin.zeroCells d.cells n).toList).run P w= .ok () w'):(Builtin.clear_ #[t] ty #[.slice (some a) n c]).run P w= .ok (.tuple #[]) w':=by
 simp[Builtin.clear_,run_underlying j,zeroValue,typeInfo,hi,p,h]
theorem hnZ(zs)(n):(Builtin.zeroCells zs n).toList=(List.replicate n zs.toList).flatten:=g8Z zs n
theorem kyZ{t e ty}{u}{l}{e'}{id g G n off d c}{K}{r:β}(B:bH z H)(hg:bF H id=some ⟨false,.rows e' u l⟩)(p:z.ρ id= .real g G n)
 (C:P.underlying t=some (.slice e))(I:mR P e u=true)(L:off+d<=l.length)
 (h:K (.tup []) (bR H id (some ⟨false,.rows e' u (bY l off (List.replicate d u.zero))⟩))=some r):
 Ok P (Builtin.clear_ #[t] ty #[.slice (some ⟨g,off*u.cells,none⟩) d c]) z K r:=by
 obtain⟨i,D,N,O,R⟩:=ccZ I;obtain⟨U,V⟩:=(R z.w z.M z.ρ).cells;rcases ZBm d with h0|h0
 .subst h0;have T:bY l off (List.replicate 0 u.zero)=l:=by simp[bY]
  rw[T] at h;exact .mk' (z':=z) (c6Z z.w C) (B.reset hg) (.tup _ _ rfl (λi x v h=>by grind)) (Nx.refl z) h
 .obtain⟨j,p1,E⟩:=nKZ (P:=P) B hg p (m:=List.replicate d u.zero) (off:=off) (css:=List.replicate d D.cells.toList) (by simp_all) (by simp) (λi e us W h2=>by
   grind)
  rw[<-hnZ] at j p1 E;exact .mk' (z':={z with w:=z.w.setCells g (off*u.cells) (Builtin.zeroCells D.cells d).toList}) (htZ C N O (by omega) j) p1 (.tup _ _ rfl (λi x v h=>by grind)) E h
theorem odZ{t}(ty){a}{v}{K}{r:β}(h:qN P t a H K=some r)(C:bH z H)(I:bE z a v):Ok P (Builtin.clear_ #[t] ty #[v]) z K r:=by
 unfold qN at h;split at h
 .rename_i e G
  let⟨u,h1,h2⟩:=agZ.1 h
  let⟨O,p⟩:=aeZ.1 h2
  have B:∀{z'},bE z' (.tup []) (.tuple #[]):=.tup _ _ rfl (λi x v h=>by simp at h);have j:∀{A} {c} {E} {l} {id} {e'} {off},bF H id=some ⟨false,.rows e' E l⟩->K (.tup []) (bR H id (some ⟨false,.rows e' E (bY l off (List.replicate 0 E.zero))⟩))=some r->
   Ok P (Builtin.clear_ #[t] ty #[.slice A 0 c]) z K r:=λ{A c E l id e' off} hg hk=>by
   have L:bY l off (List.replicate 0 E.zero)=l:=by simp[bY]
   rw[L] at hk;exact .mk' (c6Z z.w G) (C.reset hg) B (Nx.refl z) hk
  split at p
  .obtain rfl:=I.v.opq.1;exact .mk' (c6Z z.w G) C B (Nx.refl z) p
  .rename_i es id;split at p
   .rename_i e' T l hg;rcases aRZ p with⟨rfl,h4⟩|h4
    .let⟨h5,D⟩:=aeZ.1 h4
     rw[afZ] at h5;subst h5;cases I with
     |slfV _ _ A d=>
      obtain⟨rfl,_⟩:=C.virt hg d;exact j hg D
     |slf _ _ g R n c d U L N=>
      have V:l.length=n:=by let⟨_,_,_,cs,fr,a1,a2,a3,W,_⟩:=C.real hg d;exact W
      subst V;have:=kyZ (ty:=ty) (c:=c) C hg d G O (by omega) D;rwa [ZBq] at this
    .cases h4
   .cases p
  .rename_i es id off n;split at p
   .rename_i e' T l hg;rcases aRZ p with⟨rfl,h4⟩|h4
    .let⟨h5,D⟩:=aeZ.1 h4
     simp[ZAm] at h5;obtain⟨rfl,X⟩:=h5;cases I with
     |slV _ _ _ A d=>exact j hg D
     |slE _ _ _ g R Y o d=>exact j hg D
     |sl _ _ _ _ g R Y c d U L N=>exact kyZ C hg d G O X D
    .cases h4
   .cases p
  .cases p
 grind
end
section
variable {P : Program} {β : Type} {z : Z} {H : Hp}
theorem hGZ{α}{f}(d:∀{a b},f a b=true->a=b):∀{l r:List α},kW f l r=true->l=r
 |[],[],_=>rfl
 |a::l,b::r,h=>by
  simp[kW] at h;rw[d h.1,hGZ d h.2]
 |[],_::_,h=>by grind[kW]
 |_::_,[],h=>by grind[kW]
theorem e9Z:(k:Ty)->k.keyed=true->{x a:k.den}->k.eqb x a=true->x=a
 |.int _,_,x,a,h=>by
  have:((x:Int)==(a:Int))=true:=h
  simp_all
 |.byte,_,x,a,h=>by
  have:((x:UInt8)==(a:UInt8))=true:=h
  simp_all
 |.bool,_,x,a,h=>by
  have:((x:Bool)==(a:Bool))=true:=h
  simp_all
 |.str,_,x,a,h=>by
  have:((x:List UInt8)==(a:List UInt8))=true:=h
  simp_all
 |.one t,hk,x,a,h=>e9Z t hk h
 |.pair s t,hk,x,a,h=>by
  simp[Ty.keyed] at hk;simp[Ty.eqb] at h;exact Prod.ext (e9Z s hk.1 h.1) (e9Z t hk.2 h.2)
 |.arr _ t,hk,x,a,h=>hGZ (λh=>e9Z t hk h) h
theorem m1Z{d}{k}(h:tY P d k=true):k.keyed=true:=by
 simp_all[tY]
def JI(w:World)(g:Nat)(o:Obj):World:={w with heap:=w.heap.setIfInBounds g o}
theorem jlZ{w}{g}{es}{c}(h:w.heap[g]? =some (.map es c))(o):(setObj g o).run P w= .ok () (JI w g o):=by
 simp[setObj,Sem.run,h]
 rfl
theorem iLZ{w}{g}{es}{c}(h:w.heap[g]? =some (.map es c)):(getObj g).run P w= .ok (.map es c) w:=by
 simp[getObj,Sem.run,h]
theorem r0Z(w)(old new):∃v w',(Instr.keyThatStays old new).run P w= .ok v w'/\(v=old\/v=new)/\w'.heap=w.heap/\w'.os=w.os/\(w'.tape=w.tape/\w.drawn<=w'.drawn)/\w'.output=w.output:=by
 by_cases h:Instr.sameBits 10000 old new=true
 .exact⟨new,w,by simp[Instr.keyThatStays,h],.inr rfl,rfl,rfl,⟨rfl,ZAN _⟩,rfl⟩
 .by_cases h2:(Question.extern "map.whichKeyStays" 2).cut (w.tape w.drawn (.extern "map.whichKeyStays" 2))=0
  .exact⟨new,w.drew,by simp[Instr.keyThatStays,h,Question.forced,h2],.inr rfl,rfl,rfl,⟨rfl,ZBc _⟩,rfl⟩
  .exact⟨old,w.drew,by simp[Instr.keyThatStays,h,Question.forced,h2],.inl rfl,rfl,rfl,⟨rfl,ZBc _⟩,rfl⟩
theorem gVZ{id g sz n}{b0 b}{w1}{o}(hH:bH z H)(hg:bF H id=some ⟨false,b0⟩)(hρ:z.ρ id= .real g sz n)(h1:w1.heap=z.w.heap)(h2:w1.os=z.w.os)(h3:w1.tape=z.w.tape/\z.w.drawn<=w1.drawn)(h4:w1.output=z.w.output)
 (hb:∀z',Kp z z'->z'.w.heap[g]? =some o->gV z' g sz n b):bH {z with w:=JI w1 g o} (bR H id (some ⟨false,b⟩))/\Nx z {z with w:=JI w1 g o}:=by
 have hlt:=(hH.real hg hρ).1;refine hH.write hg hρ h2 h3 h4 (by simp[JI,h1]) (fun b hb=> ?_) fun k=>hb _ k ?_
 ·simp[JI,h1,ZBk hb]
 simp_all[JI]
section
variable {k v : Ty}
theorem rpZ:∀{l} {j} {a x} {b y:v.den} {n},l[j]? =some ((a,b),n)->k.eqb x a=true->(∀d e,d<j->l[d]? =some e->k.eqb x e.1.1=false)->wQ l x y=l.set j ((x,y),n)
 |[],j,_,_,_,_,_,h,_,_=>by grind
 |((C,D),n')::l,0,a,x,b,y,n,h,p,B=>by
  obtain⟨⟨rfl,rfl⟩,rfl⟩:=h;simp[wQ,p]
 |((C,D),n')::l,j+1,a,x,b,y,n,h,p,B=>by
  have:=B 0 _ (by omega) rfl;simp[wQ,this,List.set_cons_succ];rw[rpZ (by simpa using h) p λd e E he=>B (d+1) e (by omega) (by simpa using he)]
theorem tfZ:∀{l} {j} {a x} {b:v.den} {n},l[j]? =some ((a,b),n)->k.eqb x a=true->(∀d e,d<j->l[d]? =some e->k.eqb x e.1.1=false)->xR l x=l.eraseIdx j
 |[],j,_,_,_,_,h,_,_=>by grind
 |((C,D),n')::l,0,a,x,b,n,h,p,B=>by
  obtain⟨⟨rfl,rfl⟩,rfl⟩:=h;simp[xR,p]
 |((C,D),n')::l,j+1,a,x,b,n,h,p,B=>by
  have:=B 0 _ (by omega) rfl;simp[xR,this,List.eraseIdx_cons_succ];rw[tfZ (by simpa using h) p λd e E he=>B (d+1) e (by omega) (by simpa using he)]
theorem pdZ:∀{l:List ((k.den×v.den)×Nat)} {x},eN l x=none->xR l x=l
 |[],_,_=>rfl
 |((a,b),n)::l,x,h=>by
  simp[eN] at h;cases d:k.eqb x a<;>rw[d] at h<;>simp only[ZAM,ZAD] at h
  .simp[xR,d];rw[pdZ h]
  .cases h
theorem tyZ:∀{l p} {i} {y},DN l i y=some p->∃(j:Nat) (a:k.den) (b:v.den) (n:Nat),l[j]? =some ((a,b),n)/\(n:Int)=i/\p=l.set j ((a,y),n)/\∀d e,d<j->l[d]? =some e->(e.2:Int)≠i
 |[],_,_,_,h=>by grind[DN]
 |((a,b),n)::l,p,i,y,h=>by
  simp[DN] at h;cases B:((n:Int)==i)<;>rw[B] at h<;>simp only[ZAM,ZAD] at h
  .obtain⟨N,C,rfl⟩:=ZAH.1 h
   let⟨j,D,E,n',G,I,K,O⟩:=tyZ C
   refine⟨j+1,D,E,n',by simpa using G,I,by rw[K];rfl,λd e L he=> ?_⟩
   grind
  .simp at h;exact⟨0,a,b,n,rfl,by simp_all,h.symm,λd e L=>by omega⟩
end
def sS(z:Z)(k v)(M:rI k v)(es:Array MapEntry):Prop:=
 es.size=M.1.length/\(∀(i:Nat) x e,M.1[i]? =some x->es[i]? =some e->cU z.w z.M z.ρ k x.1.1 e.key/\cU z.w z.M z.ρ v x.1.2 e.val/\e.born=x.2)/\
  (∀(i j:Nat) x y,M.1[i]? =some x->M.1[j]? =some y->x.2=y.2->i=j)/\(∀(i:Nat) x,M.1[i]? =some x->x.2<M.2)
theorem sS.kp{z'}(p:Kp z z'){k v}{M}{es}(h:sS z k v M es):sS z' k v M es:=
 ⟨h.1,λi x e d j=>⟨(h.2.1 i x e d j).1.kp p,(h.2.1 i x e d j).2.1.kp p,(h.2.1 i x e d j).2.2⟩,h.2.2⟩
theorem qFZ{k v:Ty}{l:List ((k.den×v.den)×Nat)}{j n}{p q}(d:l[j]? =some (p,n)){i:Nat}{x}(h:(l.set j (q,n))[i]? =some x):∃y,l[i]? =some y/\y.2=x.2:=by
 grind
theorem sS.set{k v}{M}{es d}{j n}{p}{x}{y}{e'}(h:sS z k v M es)(D:M.1[j]? =some (p,n))(hx:cU z.w z.M z.ρ k x e'.key)(E:cU z.w z.M z.ρ v y e'.val)(hb:e'.born=n)
 (G:d.size=es.size)(I:d[j]? =some e')(h2:∀i,i≠j->d[i]? =es[i]?):sS z k v (M.1.set j ((x,y),n),M.2) d:=by
 obtain⟨K,L,N,Y⟩:=h;refine⟨by rw[G,K];simp,λi a e B C=> ?_,λi O a b B C R=> ?_,λi a B=> ?_⟩
 .by_cases hi:j=i
  .subst hi;have:=(ZAC.1 D).1;rw[ZAR this] at B;rw[I] at C;simp only[ZAW] at B C;subst B;subst C;exact⟨hx,E,hb⟩
  .rw[ZAX hi] at B;rw[h2 i (ZBk hi)] at C;exact L i a e B C
 .obtain⟨T,U,V⟩:=qFZ D B;obtain⟨y2,W,X⟩:=qFZ D C;exact N i O T y2 U W (by rw[V,X,R])
 grind
theorem sS.push{k v}{M}{es}{x}{y}{e'}(h:sS z k v M es)(hx:cU z.w z.M z.ρ k x e'.key)(G:cU z.w z.M z.ρ v y e'.val)(hb:e'.born=M.2):
 sS z k v (M.1++[((x,y),M.2)],M.2+1) (es.push e'):=by
 obtain⟨D,I,K,E⟩:=h;have key:∀(i) a,(M.1++[((x,y),M.2)])[i]? =some a->(i<M.1.length/\M.1[i]? =some a)\/(i=M.1.length/\a=((x,y),M.2)):=λi a h=>by
  by_cases hi:i<M.1.length
  .rw[ZAS hi] at h;exact .inl ⟨hi,h⟩
  .rw[ZAU (by omega)] at h;have p:=by
    have:=(ZAC.1 h).1;simpa using this
   rw[p] at h;simp at h;exact .inr ⟨by omega,h.symm⟩
 refine⟨by simp[D],λi a e j d=> ?_,λi B a b j d C=> ?_,λi a j=> ?_⟩
 .rcases key i a j with⟨hi,j⟩|⟨rfl,rfl⟩
  .rw[ZCn,ZAJ (by omega)] at d;exact I i a e j d
  .rw[ZCn,ZAL D.symm] at d;simp only[ZAW] at d;subst d;exact⟨hx,G,hb⟩
 .rcases key i a j with⟨hi,j⟩|⟨rfl,rfl⟩<;>rcases key B b d with⟨L,d⟩|⟨rfl,rfl⟩
  .exact K i B a b j d C
  .have:=E i a j;simp only at C;omega
  .have:=E B b d;simp only at C;omega
  .rfl
 grind
theorem sS.find{k v}{M}{es}{T}{x}{U}(h:sS z k v M es)(hk:tY P T k=true)(hx:cU z.w z.M z.ρ k x U):
 ∃q,(Instr.findKey T U es.toList).run P z.w= .ok q z.w/\((q=none/\eN M.1 x=none)\/
  ∃(j:Nat) (b:v.den) (n:Nat) (e:MapEntry),q=some (j,e.val)/\M.1[j]? =some ((x,b),n)/\es[j]? =some e/\eN M.1 x=some (b,n)/\k.eqb x x=true/\∀(d) e',d<j->M.1[d]? =some e'->k.eqb x e'.1.1=false):=by
 obtain⟨a2,a3,_⟩:=h;obtain⟨q,Y,f2⟩:=cFZ hk z.w hx es.toList (M.1.map (·.1.1)) (by grind) (λj a e e1 e2=>by
  grind)
 refine⟨q,Y,?_⟩;rcases f2.split (by grind) with⟨rfl,C⟩|⟨j,a,e,rfl,C,f4,B,V⟩
 .refine .inl ⟨rfl,?_⟩;cases D:eN M.1 x with
  |none=>rfl
  |some y=>
   obtain⟨j,a,E,G,_⟩:=cPZ D;have:=C j a (by simp[E]);rw[G] at this;cases this
 .rw[ZAV] at C;obtain⟨⟨⟨W,b⟩,n⟩,p,rfl⟩:=ZAH.1 C;simp only at B;obtain rfl:=e9Z k (m1Z hk) B;refine .inr ⟨j,b,n,e,rfl,p,by simpa using f4,?_,B,λd e' I K=>V d e'.1.1 I (by simp[K])⟩;cases D:eN M.1 x with
  |none=>
   have:=fgZ D j _ p;rw[B] at this;cases this
  |some y'=>
   obtain⟨d,W,E,G,q3⟩:=cPZ D;have L:d=j:=by
    rcases ZCf d j with N|O|hgt
    .have:=V d W N (by simp[E]);rw[G] at this;cases this
    .exact O
    .have:=q3 j _ hgt p;rw[B] at this;cases this
   subst L;rw[E] at p;injection p with p;injection p with X f9;injection X with X R;rw[<-f9,<-R]
def OkU(P:Program)(s:Sem Unit)(z:Z)(K:AV->Hp->Option β)(r:β):Prop:=
 ∃H' z',s.run P z.w= .ok () z'.w/\bH z' H'/\Nx z z'/\K .junk H'=some r
theorem fPZ{t d h}{q}(j:P.underlying t=some (.map d h))(p:∀v,q=some v->∃k n,v= .int k n)(w):(Instr.makeMap t q).run P w= .ok (.map (some w.heap.size)) (w.alloc (.map #[] 0)):=by
 cases q with
 |none=>rfl
 |some v=>
  obtain⟨k,n,rfl⟩:=p v rfl;simp[Instr.makeMap,run_underlying j,asInt,asIntOf]
theorem lhZ{t}{a}{v}{L}{id}{K}{r:β}(h:lG P t a L id H K=some r)(R:bH z H)(T:¬z.D id)(U:BJ z a v):Ok P (Instr.makeMap t v) z K r:=by
 unfold lG at h;split at h
 .rename_i kt V W
  let⟨k,h1,h2⟩:=agZ.1 h
  let⟨N,h4⟩:=aeZ.1 h2
  have X:∀x,v=some x->∃k n,x= .int k n:=λx hx=>by
   rcases U with⟨rfl,rfl⟩|⟨y,u,rfl,rfl,Y⟩
   .cases hx
   .simp at hx;subst hx;cases O:y.any? with
    |none=>simp only[O] at N;cases N
    |some n=>
     let⟨p,e⟩:=b1Z O Y
     exact⟨p,n,e⟩
  have B:=fPZ W X z.w;have d:∀b,(bM H id=false/\id<bA)->(∀z',Kp z z'->z'.w.heap[z.w.heap.size]? =some (.map #[] 0)->gV z' z.w.heap.size 0 0 b)->K (.mp id) (bR H id (some ⟨false,b⟩))=some r->Ok P (Instr.makeMap t v) z K r:=λb hk hb hK=>by
   have C:=(ZBI.1 (heap_alloc_new z.w (.map #[] 0))).1;obtain⟨z',p1,p2,p3,p4⟩:=R.new hk T (ZAN _) C rfl ⟨rfl,ZAN _⟩ rfl (Nat.le_of_lt C) (λk hk=>heap_alloc_old _ _ _ hk) (λz' E p=>hb z' p (by rw[E];exact heap_alloc_new _ _));exact .mk' (by rw[p1];exact B) p2 (.mp _ _ _ _ p4) p3 hK
  cases hf:BD P V<;>rw[hf] at h4<;>simp[bq_false] at h4
  .let⟨u,h5,h6⟩:=agZ.1 h4
   let⟨G,I⟩:=aFZ.1 h6
   exact d (.map k (KS L u) ([],0)) G (λz' p E=>⟨#[],E,rfl,λi x e h=>by simp at h,λi j x y h=>by simp at h,λi x h=>by simp at h⟩) I
  .let⟨G,I⟩:=aFZ.1 h4
   exact d (.fmap k []) G (λz' p E=>⟨#[],0,E,rfl,λi x e h=>by simp at h⟩) I
 grind
theorem sxZ{t}{k v}(h:xU P t k v=true):∃j d,P.underlying t=some (.map j d)/\tY P j k=true/\ty P d=some v.unref/\mR P d v=true:=by
 unfold xU at h
 grind
theorem t2Z{id}{a D}{H'}{v}(E:bH z H)(h:KT H id a=some (D,H'))(G:bE z a v):
 ∃z',z'.w=z.w/\bH z' H'/\Nx z z'/\bE z' D v:=by
 unfold KT at h;split at h
 .rename_i fz k u M hg;cases hb:u.noRef<;>rw[hb] at h<;>simp[bq_false] at h
  .let⟨⟨y,H1⟩,I,h2⟩:=agZ.1 h
   let⟨R,K,L,N,O⟩:=rTZ E I G
   let⟨d,j,p,B,_,C⟩:=bUZ L h2 O
   exact⟨d,j.trans K,p,N.trans B,C⟩
  .let⟨d,j,p,B,_,C⟩:=bUZ E h G
   exact⟨d,j,p,B,C⟩
 grind[bUZ]
theorem gEZ{t}{m ak ax}{vm vk vx}{K}{r:β}(h:nK P t m ak ax H K=some r)(hH:bH z H)(hm:bE z m vm)(hk:bE z ak vk)(hx:bE z ax vx):OkU P (Instr.mapUpdate t vm vk vx) z K r:=by
 unfold nK at h;split at h
 ·rename_i id;cases hm with|mp _ g sz n hρ=>
  split at h
  ·rename_i k l hg;obtain⟨h1,h2⟩:=aeZ.1 h;obtain⟨x,h3,h4⟩:=bRZ h2 hk;obtain⟨h5,h6⟩:=aeZ.1 h4;obtain⟨c,h7,h8⟩:=agZ.1 h6;obtain⟨h9,h10⟩:=aeZ.1 h8;unfold BE at h1;split at h1
   ·rename_i kt et hu;simp only[ZAF] at h1;obtain⟨⟨hK,_⟩,_⟩:=h1;obtain⟨_,_,_,es,clock,a1,a2,a3⟩:=hH.real hg hρ;have hck:=bqZ (em:=false) z.w dB kt k (dMZ hK).2 10000 (by unfold dB;omega) x vk h3;obtain⟨q,f1,f2⟩:=cFZ hK z.w h3 es.toList (l.map (·.1)) (by simp[a2]) (fun j a e e1 e2=>by
     rw[ZAV] at e1;obtain⟨y,e3,rfl⟩:=ZAH.1 e1;exact(a3 j y e e3 (by simpa using e2)).1)
    have hno:∀(l),IB l x=true->∀(i:Nat) e,l[i]? =some e->k.eqb x e.1=false:=by
     intro l;induction l with
     |nil=>intro _ i e he;simp at he
     |cons a l ih=>
      intro hn i e he;simp only[IB,ZAF,ZAl] at hn
      match i with
      |0=>simp at he;subst he;exact hn.1
      |i+1=>exact ih hn.2 i e (by simpa using he)
    rcases f2.split (by simp[a2]) with⟨rfl,f3⟩|⟨j,a,e,rfl,f3,f4,f5,f6⟩
    ·obtain⟨p1,p2⟩:=gVZ (o:=.map (es.push {key:=vk,val:=vx,born:=clock}) (clock+1)) (b:=.fmap k (l++[(x,ax)])) hH hg hρ rfl rfl ⟨rfl,ZAN _⟩ rfl (fun z' kk hz=>by
      refine⟨_,_,hz,by simp[a2],fun i a e q1 q2=> ?_⟩;by_cases hi:i<l.length
      ·rw[ZAS hi] at q1;rw[ZCn,ZAJ (by omega)] at q2;exact⟨(a3 i a e q1 q2).1.kp kk,(a3 i a e q1 q2).2.kp kk⟩
      ·rw[ZAU (by omega)] at q1;have hi0:=by
        have:=(ZAC.1 q1).1;simpa using this
       rw[hi0] at q1;rw[ZCn,ZAL (by omega)] at q2;simp at q1 q2;subst q1;subst q2;exact⟨h3.kp kk,hx.kp kk⟩)
     refine⟨_,_,?_,p1,p2,h10⟩;simp[Instr.mapUpdate,run_underlying hu,iLZ a1,hck,f1,jlZ a1]
    ·rw[ZAV] at f3;obtain⟨y,f7,rfl⟩:=ZAH.1 f3;have:=hno l h5 j y f7;rw[f5] at this;cases this
   ·cases h1
  ·obtain⟨⟨y,H1⟩,h1,h2⟩:=agZ.1 h;obtain⟨z1,s1,s2,s3,s5⟩:=t2Z hH h1 hx;split at h2
   ·rename_i k v M hg;obtain⟨h3,h4⟩:=aeZ.1 h2;obtain⟨x,h5,h6⟩:=bRZ h4 (hk.kp (s3.kp hH.sub));obtain⟨w,h7,h8⟩:=bRZ h6 s5;obtain⟨kt,et,hu,hK,_,_⟩:=sxZ h3;have hρ1:z1.ρ id= .real g sz n:=by rw[s3.ext id (by rw[hρ];intro h;cases h)];exact hρ
    obtain⟨_,_,_,es,a1,a2⟩:=s2.real hg hρ1;have a2':sS z1 k v M es:=a2;have hck:=bqZ (em:=false) z1.w dB kt k (dMZ hK).2 10000 (by unfold dB;omega) x vk h5;obtain⟨q,f1,f2⟩:=a2'.find hK h5;rcases f2 with⟨rfl,f3⟩|⟨j,b,nb,e,rfl,f3,f4,f5,f6,f7⟩
    ·have hp:mQ M x w=(M.1++[((x,w),M.2)],M.2+1):=by unfold mQ;rw[f3]
     rw[hp] at h8;obtain⟨p1,p2⟩:=gVZ (o:=.map (es.push {key:=vk,val:=vx,born:=M.2}) (M.2+1)) (b:=.map k v (M.1++[((x,w),M.2)],M.2+1)) s2 hg hρ1 rfl rfl ⟨rfl,ZAN _⟩ rfl (fun z' kk hz=>⟨_,hz,(a2'.push h5 h7 rfl).kp kk⟩);refine⟨_,_,?_,p1,s3.trans p2,h8⟩;rw[<-s1];simp[Instr.mapUpdate,run_underlying hu,iLZ a1,hck,f1,jlZ a1]
    ·have hp:mQ M x w=(M.1.set j ((x,w),nb),M.2):=by unfold mQ;rw[f5];simp only;rw[rpZ f3 f6 f7]
     rw[hp] at h8;obtain⟨key,w1,k1,k2,k3,k4,k5,k6⟩:=r0Z (P:=P) z1.w e.key vk;obtain⟨r1,r2,r3⟩:=a2'.2.1 j _ e f3 f4;have bM:cU z1.w z1.M z1.ρ k x key:=by rcases k2 with rfl|rfl<;>first|exact r1|exact h5
     have hj:=(ZBI.1 f4).1;obtain⟨p1,p2⟩:=gVZ (o:=.map (es.modify j fun e=>{e with key,val:=vx}) M.2) (b:=.map k v (M.1.set j ((x,w),nb),M.2)) s2 hg hρ1 k3 k4 k5 k6 (fun z' kk hz=>by
      refine⟨_,hz,(a2'.set (e':={e with key,val:=vx}) f3 bM h7 r3 (by simp) (by simp[ZCG,f4]) (fun i hi=>by simp[ZCG,ZBk hi])).kp kk⟩)
     refine⟨_,_,?_,p1,s3.trans p2,h8⟩;rw[<-s1];have a1':w1.heap[g]? =some (.map es M.2):=by rw[k3];exact a1
     simp[Instr.mapUpdate,run_underlying hu,iLZ a1,hck,f1,f4,k1,jlZ a1']
   ·cases h2
 grind
theorem sS.erase{k v}{M}{es p}{j}(h:sS z k v M es)(C:p.toList=es.toList.eraseIdx j):sS z k v (M.1.eraseIdx j,M.2) p:=by
 let⟨D,E,G,L⟩:=h
 have key:∀{α} (l:List α) (i),(l.eraseIdx j)[i]? =l[if i<j then i else i+1]? :=λl i=>by
  rw[List.getElem?_eraseIdx];split<;>rfl
 have I:es.toList.length=M.1.length:=by simp[D]
 refine⟨?_,λi a e d B=> ?_,λi N a b d B K=> ?_,λi a d=> ?_⟩
 .rw[<-Array.length_toList,C,List.length_eraseIdx,List.length_eraseIdx,I]
 .rw[key] at d;rw[<-Array.getElem?_toList,C,key] at B;exact E _ a e d (by simpa using B)
 .rw[key] at d B;have:=G _ _ a b d B K;split at this<;>split at this<;>omega
 grind
end
section
variable {P : Program} {T : Tbl} {β : Type} {z : Z} {H : Hp}
def OkX(P:Program)(s:Sem Next)(z:Z)(K:AV->Hp->Option β)(r:β):Prop:=
 ∃x H' z' d,s.run P z.w= .ok d z'.w/\bH z' H'/\Nx z z'/\((∃v,d= .value v/\bE z' x v)\/(d= .skip/\x= .junk))/\K x H'=some r
theorem OkX.v{ρ}{o}{s}{K}{r:β}(he:execOp ρ o=(do pure (.value (<-s))))(h:Ok P s z K r):OkX P (execOp ρ o) z K r:=by
 let⟨x,v,H',z',j,h2,d,h4,h5⟩:=h
 exact⟨x,H',z',.value v,by simp_all,h2,h4,.inl ⟨v,rfl,d⟩,h5⟩
theorem OkX.u{ρ}{o}{s}{K}{r:β}(he:execOp ρ o=(do s;pure .skip))(h:OkU P s z K r):OkX P (execOp ρ o) z K r:=by
 let⟨H',z',j,h2,d,h4⟩:=h
 exact⟨.junk,H',z',.skip,by simp_all,h2,d,.inr ⟨rfl,rfl⟩,h4⟩
theorem OkX.call{ρ}{o}{c}{b}{s}{K}{r:β}(j:o.op= .call c)(p:c.callee= .builtin b)
 (hb:∀d,builtin b c.argTypes o.type d (c.args.map ρ)=(do pure (.value (<-s))))(h:Ok P s z K r):OkX P (execOp ρ o) z K r:=by
 let⟨x,v,H',z',B,h2,C,h4,h5⟩:=h
 refine⟨x,H',z',.value v,?_,h2,h4,.inl ⟨v,rfl,C⟩,h5⟩;unfold execOp;simp[j,resolve,p,invoke,hb,B]
def BK(o:Oper):Bool:=match o.op with|.call c=>(match c.callee with|.value _=>true|_=>false)|_=>false
theorem DV.map{d:Array (Nat×Operand)}{r:Operand->AV}{ρ:Operand->Value}(h:∀x,bE z (r x) (ρ x)):DV z (d.toList.map λx=>(x.1,r x.2)) (d.map λ(i,x)=>(i,ρ x)).toList:=by
 refine⟨by simp,λi x y j h2=> ?_⟩
 grind
theorem vOZ{o}{U}{r}{ρ}{K}{I:β}(h:evW P T o U r H K=some I)(E:bH z H)(G:sR P o=true->¬z.D (U.ids.headD 0))(p:∀x,bE z (r x) (ρ x))(W:BK o=false):
 OkX P (execOp ρ o) z K I:=by
 unfold evW at h;split at h
 .rename_i t j;exact .v (s:=Instr.alloc t true (.tuple #[])) (by simp[execOp,j]) (by cases V:JF U.md<;>rw[V] at h<;>first|exact lNZ h E (G (by simp[sR,j]))|exact ofZ h E (G (by simp[sR,j])))
 .rename_i t x j;exact .v (s:=Instr.box t (ρ x)) (by simp[execOp,j]) (by cases V:JF U.md<;>rw[V] at h<;>first|exact rxZ h E (G (by simp[sR,j])) (p x)|exact sMZ h E (G (by simp[sR,j])) (p x))
 .rename_i t n ps j;exact .v (by simp[execOp,j]) (ghZ h E (G (by simp[sR,j])) (DV.map p))
 .rename_i t a x j;exact .u (by simp[execOp,j]) (nIZ h E (p a) (p x))
 .rename_i s d x j;split at h
  .obtain⟨y,v,X,h2,Y⟩:=f0Z h E (p x);exact .v (by simp[execOp,j]) ⟨y,v,H,z,X,E,h2,Nx.refl z,Y⟩
  .exact .v (by simp[execOp,j]) (iCZ h E (λhs=>G (by simp[sR,j,hs])) (p x))
 .rename_i t l c j;exact .v (by simp[execOp,j]) (qMZ h E (G (by simp[sR,j])) (p l) (p c))
 .rename_i t q j;exact .v (by simp[execOp,j]) (lhZ h E (G (by simp[sR,j])) (.map p))
 .rename_i t m k x j;exact .u (by simp[execOp,j]) (gEZ h E (p m) (p k) (p x))
 .rename_i t m k x j;exact .u (by simp[execOp,j]) (gEZ h E (p m) (p k) (p x))
 .rename_i c j;have two:∀{α} {l} {a b:α},l.toList=[a,b]->l=#[a,b]:=λhl=>by apply ZB4;rw[hl]
  split at h
  .rename_i B;split at h
   .rename_i s x t u L ht;have N:=two L;have O:=two ht;have hb:∀C,builtin .append c.argTypes o.type C (c.args.map ρ)=(do pure (.value (<-Builtin.append_ #[t,u] o.type #[ρ s,ρ x]))):=λC=>by simp[builtin,N,O]
    split at h
    .rename_i k R;exact .call j B hb (kKZ o.type h E (G (by simp[sR,j,B])) (p s) (p x) R)
    .rename_i e' R;exact .call j B hb (fXZ o.type h E (G (by simp[sR,j,B])) (p s) (p x) (.inl ⟨e',R⟩))
    .rename_i R;exact .call j B hb (fXZ o.type h E (G (by simp[sR,j,B])) (p s) (p x) (.inr R))
    .cases h
   .cases h
  .rename_i B;split at h
   .rename_i d x t ts L ht;have N:=two L;refine .call (s:=Builtin.copy_ c.argTypes o.type #[ρ d,ρ x]) j B (λC=>by simp[builtin,N]) ?_;have e0:c.argTypes[0]? =some t:=by rw[<-Array.getElem?_toList,ht];rfl
    have O:Builtin.copy_ c.argTypes o.type #[ρ d,ρ x]=Builtin.copy_ #[t,t] o.type #[ρ d,ρ x]:=by simp[Builtin.copy_,e0]
    rw[O];exact p3Z o.type h E (p d) (p x)
   .cases h
  .rename_i B;split at h
   .rename_i d t L ht;have N:c.args=#[d]:=by apply ZB4;rw[L]
    have O:c.argTypes=#[t]:=by apply ZB4;rw[ht]
    exact .call j B (λC=>by simp[builtin,N,O]) (odZ o.type h E (p d))
   .cases h
  .rename_i f B;simp[BK,j,B] at W
  .cases h
 grind
end
theorem g4Z:(d:List Ty)->(x:HL d)->gD d (DO d x)=x
 |[],_=>rfl
 |[_],x=>rfl
 |_::u::r,x=>by
  show(x.1,gD (u::r) (DO (u::r) x.2))=x;rw[g4Z (u::r) x.2]
  rfl
section
variable {β : Type} {z : Z}
theorem u2Z{es id i j}{a:AV}(h:a.own? es id i j=true):a= .own es id i j:=by
 unfold AV.own? at h;split at h<;>simp_all
theorem thZ{es id i j}{a:AV}(h:a.ownx? es id j=some i):a= .own es id i j:=by
 unfold AV.ownx? at h;split at h
 .rename_i d p C B;cases hb:(Nat.beq es d&&Nat.beq id p&&Nat.beq j B)<;>rw[hb] at h<;>simp at h;simp[afZ] at hb;obtain⟨⟨rfl,rfl⟩,rfl⟩:=hb;rw[h]
 grind
theorem waZ{es id}{y}{a:AV}(h:a.sl? es id=some y):a= .sl es id y.1 y.2:=by
 unfold AV.sl? at h;split at h
 .rename_i d j i n;cases hb:(Nat.beq es d&&Nat.beq id j)<;>rw[hb] at h<;>simp at h;simp[afZ] at hb;obtain⟨rfl,rfl⟩:=hb;rw[<-h]
 grind
theorem ujZ{es id}{a:AV}(h:a.slf? es id=true):a= .slf es id:=by
 unfold AV.slf? at h;split at h<;>simp_all
theorem wiZ{id}{a:AV}(h:a.mp? id=true):a= .mp id:=by
 unfold AV.mp? at h
 grind[afZ]
theorem wfZ{u}{l}{a:AV}(h:a.pt? u=some l):a= .pt u l 0 0:=by
 unfold AV.pt? at h
 grind
theorem v3Z{f}{y}{a}{v}(h:a.fn? f=some y)(d:bE z a v):bE z (.fn f y.1 y.2) v:=by
 unfold AV.fn? at h;split at h
 .rename_i g a c;cases hb:Nat.beq f g<;>rw[hb] at h<;>simp at h;rw[afZ] at hb;subst hb;subst h;exact d
 .rename_i g a c;cases hb:(Nat.beq f g&&(Nat.beq a.size 0&&Nat.beq c.size 0))<;>rw[hb] at h<;>simp at h;simp only[ZAF,afZ] at hb;obtain⟨rfl,j,h2⟩:=hb;subst h;obtain rfl:=d.v.opq.1;exact .fn _ _ _ _ _ j h2 (λi x v h=>by simp at h) (λi x v h=>by simp at h)
 grind
theorem s8Z{v x}(h:KK v x=true):x=v:=by
 unfold KK at h
 grind
theorem uMZ{v}{a:AV}(h:a.nil? v=true):a= .p .opq v:=by
 unfold AV.nil? at h
 grind[s8Z]
theorem v0Z{a}{l}{v}(h:eX a=some l)(hg:JC a=true)(d:bE z a v):∃cs,v= .agg cs:=by
 let⟨_,_,j⟩:=cNZ h d<;>grind
mutual
theorem co_ok:(k:Kd)->{r:List Ty}->{a:AV}->{x:HL r}->{K:HL (k.lv r)->Option β}->{d:β}->{v:Value}->co k r a x K=some d->bE z a v->
 ∃y,K y=some d/\bE z (emb k r y).1 v/\(emb k r y).2=x
 |.p t,r,a,x,K,d,v,h,B=>by
  have h:asA t a (λy=>K (y,x))=some d:=h;obtain⟨y,C,h2⟩:=bRZ h B;exact⟨(y,x),h2,.p _ _ _ C,rfl⟩
 |.pt t,r,a,x,K,d,v,h,B=>by
  obtain⟨l,C,h2⟩:=agZ.1 h;rw[wfZ C] at B;exact⟨(l,x),h2,B,rfl⟩
 |.own es id i j,r,a,x,K,d,v,h,B=>by
  obtain⟨C,h2⟩:=aeZ.1 h;rw[u2Z C] at B;exact⟨x,h2,B,rfl⟩
 |.ownx es id j,r,a,x,K,d,v,h,B=>by
  obtain⟨i,C,h2⟩:=agZ.1 h;rw[thZ C] at B;exact⟨(i,x),h2,B,rfl⟩
 |.sl es id,r,a,x,K,d,v,h,B=>by
  obtain⟨y,C,h2⟩:=agZ.1 h;rw[waZ C] at B;exact⟨(y.1,y.2,x),h2,B,rfl⟩
 |.slf es id,r,a,x,K,d,v,h,B=>by
  obtain⟨C,h2⟩:=aeZ.1 h;rw[ujZ C] at B;exact⟨x,h2,B,rfl⟩
 |.mp id,r,a,x,K,d,v,h,B=>by
  obtain⟨C,h2⟩:=aeZ.1 h;rw[wiZ C] at B;exact⟨x,h2,B,rfl⟩
 |.any,r,a,x,K,d,v,h,B=>⟨x,h,.junk v,rfl⟩
 |.fn f U V,r,a,x,K,d,v,h,B=>by
  obtain⟨y,C,h2⟩:=agZ.1 h;obtain⟨E,h4⟩:=aeZ.1 h2;simp only[ZAF,afZ] at E;have W:=v3Z C B;cases W with|fn _ _ _ X Y I L e3 e4=>
  obtain⟨y1,N,G,O⟩:=gnZ V (vs:=Y.toList) h4 ⟨by simp[L],λi a v p1 D=>e4 i a v p1 (by simpa using D)⟩ E.2;obtain⟨y2,q4,R,T⟩:=gnZ U (vs:=X.toList) N ⟨by simp[I],λi a v p1 D=>e3 i a v p1 (by simpa using D)⟩ E.1;refine⟨y2,q4,?_,by simp only[emb,T,O]⟩;simp only[emb,T];refine .fn _ _ _ _ _ (by have:=R.1;simpa using this.symm) (by have:=G.1;simpa using this.symm) (λi x v p1 D=>R.2 i x v p1 (by simpa using D)) (λi x v p1 D=>G.2 i x v p1 (by simpa using D))
 |.agg l,r,a,x,K,d,v,h,B=>by
  obtain⟨c,C,h2⟩:=agZ.1 h;obtain⟨E,h4⟩:=aeZ.1 h2;simp only[ZAF,afZ] at E;obtain⟨cs,rfl⟩:=v0Z C E.1 B;obtain⟨p1,D,_⟩:=cNZ C B;obtain⟨y,N,G,O⟩:=gnZ l (vs:=cs.toList) h4 p1 E.2;refine⟨y,N,?_,by simp only[emb,O]⟩;simp only[emb];exact .agg _ _ (by have:=G.1;simpa using this.symm) (λv hv=>D v hv) λi x v I L=>G.2 i x v I (by simpa using L)
 |.tup l,r,a,x,K,d,v,h,B=>by
  obtain⟨c,C,h2⟩:=agZ.1 h;obtain⟨E,h4⟩:=aeZ.1 h2;rw[afZ] at E;obtain⟨vs,rfl,p1,D⟩:=iYZ C B;obtain⟨y,N,G,O⟩:=gnZ l (vs:=vs.toList) h4 ⟨by simp[p1],λi a v I L=>D i a v I (by simpa using L)⟩ E;refine⟨y,N,?_,by simp only[emb,O]⟩;simp only[emb];exact .tup _ _ (by have:=G.1;simpa using this.symm) λi x v I L=>G.2 i x v I (by simpa using L)
 |.nilp u,r,a,x,K,d,v,h,B=>by
  obtain⟨C,h2⟩:=aeZ.1 h;rw[uMZ C] at B;exact⟨x,h2,B,rfl⟩
theorem gnZ:(k:KdL)->{r:List Ty}->{c:List AV}->{x:HL r}->{K:HL (k.lv r)->Option β}->{d:β}->{vs:List Value}->coL k r c x K=some d->bQ z c vs->c.length=k.length->
 ∃y,K y=some d/\bQ z (embL k r y).1 vs/\(embL k r y).2=x
 |.nil,r,c,x,K,d,vs,h,j,p=>by
  obtain rfl:c=[]:=ZAY p;exact⟨x,h,j,rfl⟩
 |.cons k l,r,[],x,K,d,vs,h,j,p=>by simp[KdL.length] at p
 |.cons k l,r,a::c,x,K,d,[],h,j,p=>by have:=j.1;simp at this
 |.cons k l,r,a::c,x,K,d,v::vs,h,j,p=>by
  simp only[coL,List.tail_cons,List.headD_cons] at h;obtain⟨L,C,D,E⟩:=gnZ l h j.tail (by simpa[KdL.length] using p);obtain⟨y2,G,I,B⟩:=co_ok k C j.head;refine⟨y2,G,?_,by simp only[embL,B,E]⟩;simp only[embL,B];exact .cons I D
end
def Blk.isFam:Blk->Bool
 |.fam _ _ _=>true
 |_=>false
def EX(z:Z)(id:Nat)(e:Ent):Prop:=e.b.isFam=false->fC z id e
theorem bH.ex{H}(d:bH z H){id}{e}(h:bF H id=some e):EX z id e:=λj=>by
 have p:=d.fam id e h
 let⟨fz,b⟩:=e
 have h2:id<bA:=by cases b<;>first|exact p|cases j
 exact d.ent id _ (by simp_all[arZ])
theorem uDZ{k}{r}{b}{x}{K}{j:β}(h:coB k r b x K=some j):
 (b.isFam=true->∃y,K y=some j/\(mD k r y).1=b/\(mD k r y).2=x)/\∀y,(mD k r y).1.isFam=b.isFam:=by
 cases k with
 |vars l=>
  let⟨c,d,h2⟩:=agZ.1 h
  unfold Blk.vars? at d;split at d
  .exact⟨λh=>(by cases h),λ_=>rfl⟩
  simp_all
 |rows e t=>
  let⟨l,d,h2⟩:=agZ.1 h
  unfold Blk.rows? at d;split at d
  .exact⟨λh=>(by cases h),λ_=>rfl⟩
  simp_all
 |map B C=>
  let⟨m,d,h2⟩:=agZ.1 h
  unfold Blk.map? at d;split at d
  .exact⟨λh=>(by cases h),λ_=>rfl⟩
  simp_all
 |fam e s=>
  let⟨m,d,h2⟩:=agZ.1 h
  unfold Blk.fam? at d;split at d
  .rename_i e' D p;cases hb:Nat.beq e e'<;>rw[hb] at d<;>simp at d;rw[afZ] at hb;subst hb
   let⟨ht,d⟩:=d
   subst ht;subst d;exact⟨λ_=>⟨(p,x),h2,rfl,rfl⟩,λ_=>rfl⟩
  simp_all
theorem tDZ{k}{r}{b}{x}{K}{B:β}(h:coB k r b x K=some B):
 (∀{g C n},gV z g C n b->∃y,K y=some B/\gV z g C n (mD k r y).1/\(mD k r y).2=x)/\(pL b->∃y,K y=some B/\pL (mD k r y).1/\(mD k r y).2=x):=by
 cases k with
 |vars l=>
  let⟨c,d,h2⟩:=agZ.1 h
  unfold Blk.vars? at d;split at d
  .rename_i L;cases hb:Nat.beq L.length l.length<;>rw[hb] at d<;>simp at d;subst d;rw[afZ] at hb;refine⟨λ{g C n} j=> ?_,λj=>j.elim⟩
   let⟨cs,e,N,O,R,D,⟨T,U⟩,V,W⟩:=j
   let⟨y,X,G,Y⟩:=gnZ l (vs:=cs.toList) h2 ⟨by simp[T,D],λi a v p1 E=>V i a v p1 (by simpa using E)⟩ hb
   refine⟨y,X,?_,by simp[mD,Y]⟩;simp[mD];exact⟨cs,e,N,O,R,D,⟨by have:=G.1;simp[D] at this;exact this,U⟩,λi a v p1 E=>G.2 i a v p1 (by simpa using E),W⟩
  simp_all
 |rows e t=>
  let⟨l,d,h2⟩:=agZ.1 h
  unfold Blk.rows? at d;split at d
  .rename_i e' t' I;cases hb:Nat.beq e e'<;>rw[hb] at d<;>simp at d;rw[afZ] at hb;subst hb
   let⟨ht,d⟩:=d
   subst ht;subst d;exact⟨λj=>⟨(I,x),h2,j,rfl⟩,λj=>⟨(I,x),h2,j,rfl⟩⟩
  simp_all
 |map kt vt=>
  let⟨m,d,h2⟩:=agZ.1 h
  unfold Blk.map? at d;split at d
  .rename_i k' v' m';split at d
   .rename_i hm;have p:k'=kt/\v'=vt:=by
     unfold HY at hm;injection hm with p e2;injection p with p;injection p with p e3;injection p with p e4;exact⟨p,e4⟩
    obtain⟨rfl,rfl⟩:=p;simp at d;subst d;exact⟨λj=>⟨(m',x),h2,j,rfl⟩,λj=>j.elim⟩
   .cases d
  simp_all
 |fam e s=>
  let⟨m,d,h2⟩:=agZ.1 h
  unfold Blk.fam? at d;split at d
  .exact⟨λj=>j.elim,λj=>j.elim⟩
  simp_all
theorem ufZ{k}{r}{id}{e}{x}{K}{d:β}(h:coB k r e.b x K=some d)(he:fC z id e):
 ∃y,K y=some d/\fC z id ⟨e.fz,(mD k r y).1⟩/\(mD k r y).2=x:=by
 unfold fC at*;cases j:z.ρ id with
 |no=>simp_all
 |virt=>
  rw[j] at he;exact(tDZ (z:=z) h).2 he
 |real g p n=>
  rw[j] at he
  let⟨B,h2,C,h4⟩:=he
  let⟨y,D,E,G⟩:=(tDZ h).1 h4<;>grind
theorem vVZ{k}{r}{id}{e}{x}{K}{d:β}(h:coB k r e.b x K=some d)(he:EX z id e):
 ∃y,K y=some d/\EX z id ⟨e.fz,(mD k r y).1⟩/\(mD k r y).2=x/\(mD k r y).1.isFam=e.b.isFam/\(e.b.isFam=true->(mD k r y).1=e.b):=by
 let⟨D,C⟩:=uDZ h
 cases j:e.b.isFam
 .let⟨y,p1,p,B⟩:=ufZ h (he j)
  exact⟨y,p1,λ_=>p,B,(C y).trans j,λh=>by cases h⟩
 .let⟨y,p1,p,B⟩:=D j
  refine⟨y,p1,λh=> ?_,B,(C y).trans j,λ_=>p⟩
  simp_all
theorem sHZ{fz}{H}{id}{b}(h:KL fz H id=some b):bF H id=some ⟨fz,b⟩:=by
 unfold KL at h;split at h
 .rename_i e he;cases hb:(e.fz==fz)<;>rw[hb] at h<;>simp at h
  let⟨f,d⟩:=e
  simp at hb h;rw[he,hb,h]
 grind
structure UF (H:Hp) (id:Nat) (e:Ent):Prop where
 from_:∃e0,bF H id=some e0/\e0.fz=e.fz/\e.b.isFam=e0.b.isFam/\(e0.b.isFam=true->e=e0)
theorem tVZ{H}(p:∀id e,bF H id=some e->EX z id e):(j:HK)->{r:List Ty}->{x:HL r}->{K:HL (fP j r)->Option β}->{d:β}->coH j r H x K=some d->
 ∃y,K y=some d/\(kY j r y).2=x/\∀id e,bF (kY j r y).1 id=some e->EX z id e/\UF H id e
 |[],r,x,K,d,h=>⟨x,h,rfl,λid e h=>by simp_all[kY,bF]⟩
 |(id,fz,k)::j,r,x,K,d,h=>by
  let⟨b,C,h2⟩:=agZ.1 h
  have hb:=sHZ C
  let⟨R,D,E,G⟩:=tVZ p j h2
  let⟨y2,I,L,B,N,O⟩:=vVZ D (p _ _ hb)
  refine⟨y2,I,by simp[kY,B,E],λi e he=> ?_⟩;simp[kY,B,bF] at he;cases hi:Nat.beq id i<;>rw[hi] at he<;>simp[ZAD] at he
  .exact G i e he
  .rw[afZ] at hi;subst hi;cases he;exact⟨L,⟨_,hb,rfl,N,λh=>by rw[O h]⟩⟩
theorem Shp.co_ok{s:Shp}{vs}{H}{K}{d:β}{vals}(h:s.co vs H K=some d)(p:∀id e,bF H id=some e->EX z id e)(hv:bQ z vs vals):
 s.ok=true/\∃t,K t=some d/\bQ z (s.emb t).1 vals/\∀id e,bF (s.emb t).2 id=some e->EX z id e/\UF H id e:=by
 let⟨j,h2⟩:=aeZ.1 h
 simp[afZ] at j
 let⟨y,B,E,G⟩:=tVZ p s.hs h2
 let⟨y2,C,I,D⟩:=gnZ s.ks B hv j.2
 refine⟨j.1,_,C,?_⟩;have key:s.emb (DO s.tys y2)=((embL s.ks (fP s.hs []) y2).1,(kY s.hs [] y).1):=by
  show((embL s.ks (fP s.hs []) (gD s.tys (DO s.tys y2))).1,(kY s.hs [] (embL s.ks (fP s.hs []) (gD s.tys (DO s.tys y2))).2).1)=_;rw[show gD s.tys (DO s.tys y2)=y2 from g4Z _ _,D]
 simp_all
end
theorem ajZ{n}:∀{l},cH n l=true↔n∈l
 |[]=>by simp[cH]
 |i::l=>by
  simp only[cH,ZAj];by_cases h:i=n
  .subst h;simp
  .rw[ahZ h,ZAD,ajZ];constructor
   .exact .inr
   .rintro(d|d)
    .exact absurd d.symm h
    .exact d
theorem bZZ{l}:∀{r},nE r l=true↔∀i∈r,i∈l
 |[]=>by simp[nE]
 |i::r=>by simp[nE,ajZ,bZZ,forall_eq_or_imp]
theorem cGZ:∀{l},kH l=true↔l.Nodup
 |[]=>by simp[kH]
 |i::l=>by
  simp only[kH,ZAF,List.nodup_cons,cGZ];constructor
  .rintro⟨d,h2⟩;exact⟨λh=>(by rw[ajZ.2 h] at d;cases d),h2⟩
  .rintro⟨d,h2⟩;refine⟨?_,h2⟩;cases hm:cH i l
   .rfl
   .exact absurd (ajZ.1 hm) d
theorem dFZ{l}{a}{id}(h:a∈l)(hi:id∈AV.ids a):id∈AV.idsL l:=by
 induction l with
 |nil=>cases h
 |cons b l d=>
  simp[AV.idsL]
  grind
theorem dhZ(f)(l)(i:Nat):(AV.renL f l)[i]? =(l[i]?).map (AV.ren f):=by
 induction l generalizing i<;>grind[AV.renL]
theorem c2Z(f)(l):(AV.renL f l).length=l.length:=by
 induction l<;>grind[AV.renL]
section
variable {z z' : Z}
theorem bE.ren{a}{v}{f}(h:bE z a v)(T:z'.w=z.w)(U:z'.M=z.M)(E:Agr z.ρ z'.ρ λfs=>a.famInT fs)(C:∀id k,id∈AV.ids a->f id=some k->z'.ρ k=z.ρ id):bE z' (AV.ren f a) v:=by
 let⟨w',M',C',d,D'⟩:=z'
 simp at T U E C;subst T;subst U;induction h with
 |p t x v h=>exact .p t x v (h.to E)
 |pt t l i j b off G h2 K=>exact .pt t l i j b off G h2 (K.to E)
 |own es id i j g D n h=>
  simp[AV.ren];cases hk:f id with
  |none=>exact .junk _
  |some k=>exact .own es k i j g D n (by show d k=_;rw[C id k (by simp[AV.ids]) hk,h])
 |rp g es k' i j V D n h=>
  refine .rp g es k' i j V D n ?_;show d (enc g k')=_;rcases E with E|⟨fs,G,h2⟩
  .rw[E _ (cjZ g k') (by simp_all),h]
  .rw[G g k' h2 (by simp_all),h]
 |slV es id off A h=>
  simp[AV.ren];cases hk:f id with
  |none=>exact .junk _
  |some k=>exact .slV es k off A (by show d k=_;rw[C id k (by simp[AV.ids]) hk,h])
 |slE es id off g D m o h=>
  simp[AV.ren];cases hk:f id with
  |none=>exact .junk _
  |some k=>exact .slE es k off g D m o (by show d k=_;rw[C id k (by simp[AV.ids]) hk,h])
 |sl es id off n g D m c h G h2 K=>
  simp[AV.ren];cases hk:f id with
  |none=>exact .junk _
  |some k=>exact .sl es k off n g D m c (by show d k=_;rw[C id k (by simp[AV.ids]) hk,h]) G h2 K
 |slfV es id A h=>
  simp only[AV.ren];cases hk:f id with
  |none=>exact .junk _
  |some k=>exact .slfV es k A (by show d k=_;rw[C id k (by simp[AV.ids]) hk,h])
 |slf es id g D n c h G h2 K=>
  simp only[AV.ren];cases hk:f id with
  |none=>exact .junk _
  |some k=>exact .slf es k g D n c (by show d k=_;rw[C id k (by simp[AV.ids]) hk,h]) G h2 K
 |mp id g D n h=>
  simp only[AV.ren];cases hk:f id with
  |none=>exact .junk _
  |some k=>exact .mp k g D n (by show d k=_;rw[C id k (by simp[AV.ids]) hk,h])
 |fn g a c W X Y hc G h2 L N=>
  simp only[AV.ren];refine .fn g _ _ W X (by simp_all[c2Z]) (by simp_all[c2Z]) (λi x v p1 I=> ?_) (λi x v p1 I=> ?_)
  .rw[dhZ] at p1;obtain⟨y,B,rfl⟩:=ZAH.1 p1;exact L i y v B I (E.mono λfs h=>by simp only[AV.famInT,ZAF] at h;grind[boZ,ZAI]) λid k hi hk=>C id k (by simp only[AV.ids,ZAh];exact .inl (dFZ (ZAI B) hi)) hk
  .rw[dhZ] at p1;obtain⟨y,B,rfl⟩:=ZAH.1 p1;exact N i y v B I (E.mono λfs h=>by simp only[AV.famInT,ZAF] at h;grind[boZ,ZAI]) λid k hi hk=>C id k (by simp only[AV.ids,ZAh];exact .inr (dFZ (ZAI B) hi)) hk
 |agg l cs O G h R=>
  simp only[AV.ren];refine .agg _ cs (by rw[c2Z];exact O) G λi x v p1 I=> ?_;rw[dhZ] at p1;obtain⟨y,B,rfl⟩:=ZAH.1 p1;exact R i y v B I (E.mono λfs h=>boZ h (ZAI B)) λid k hi hk=>C id k (by simp only[AV.ids];exact dFZ (ZAI B) hi) hk
 |tup l vs O h R=>
  simp only[AV.ren];refine .tup _ vs (by rw[c2Z];exact O) λi x v p1 I=> ?_;rw[dhZ] at p1;obtain⟨y,B,rfl⟩:=ZAH.1 p1;exact R i y v B I (E.mono λfs h=>boZ h (ZAI B)) λid k hi hk=>C id k (by simp only[AV.ids];exact dFZ (ZAI B) hi) hk
 |junk v=>exact .junk v
theorem bQ.ren{l}{vs}{f}(h:bQ z l vs)(j:z'.w=z.w)(p:z'.M=z.M)(B:Agr z.ρ z'.ρ λfs=>AV.famInTL fs l)(C:∀id k,id∈AV.idsL l->f id=some k->z'.ρ k=z.ρ id):bQ z' (AV.renL f l) vs:=by
 refine⟨by rw[c2Z];exact h.1,λi a v p1 D=> ?_⟩;rw[dhZ] at p1;obtain⟨y,d,rfl⟩:=ZAH.1 p1;exact(h.2 i y v d D).ren j p (B.mono λfs h=>boZ h (ZAI d)) λid k hi hk=>C id k (dFZ (ZAI d) hi) hk
mutual
theorem iSZ:(a:AV)->AV.ren some a=a
 |.p _ _|.pt _ _ _ _|.own _ _ _ _|.rp _ _ _ _ _|.sl _ _ _ _|.slf _ _|.mp _|.junk=>rfl
 |.fn g a c=>by simp only[AV.ren,ceZ a,ceZ c]
 |.agg l=>by simp only[AV.ren,ceZ l]
 |.tup l=>by simp only[AV.ren,ceZ l]
theorem ceZ:(l:List AV)->AV.renL some l=l
 |[]=>rfl
 |a::l=>by simp only[AV.renL,iSZ a,ceZ l]
end
theorem bE.rho{a}{v}(h:bE z a v)(d:z'.w=z.w)(j:z'.M=z.M)(p:Agr z.ρ z'.ρ λfs=>a.famInT fs)(B:∀id∈AV.ids a,z'.ρ id=z.ρ id):bE z' a v:=by
 have:=h.ren (f:=some) d j p λid k hi hk=>by
  cases hk;exact B id hi
 simp_all[iSZ]
theorem bQ.rho{l}{vs}(h:bQ z l vs)(d:z'.w=z.w)(j:z'.M=z.M)(p:Agr z.ρ z'.ρ λfs=>AV.famInTL fs l)(B:∀id∈AV.idsL l,z'.ρ id=z.ρ id):bQ z' l vs:=by
 have:=h.ren (f:=some) d j p λid k hi hk=>by
  cases hk;exact B id hi
 simp_all[ceZ]
theorem gV.ren{g W n}{b}{f}{fz}(h:gV z g W n b)(j:z'.w=z.w)(E:z'.M=z.M)(C:Agr z.ρ z'.ρ λfs=>b.famInT fs)(X:∀id k,id∈Ent.ids ⟨fz,b⟩->f id=some k->z'.ρ k=z.ρ id):gV z' g W n (b.ren f):=by
 cases b with
 |vars c=>
  let⟨cs,e,L,G,p,d,⟨K,Y⟩,N,O⟩:=h
  refine⟨cs,e,L,by simp_all,p,d,⟨by simp_all[c2Z],Y⟩,λi a v p1 p2=> ?_,O⟩;rw[dhZ] at p1;obtain⟨y,R,rfl⟩:=ZAH.1 p1;exact(N i y v R p2).ren j E (C.mono λfs h=>boZ h (ZAI R)) λid k hi hk=>X id k (by simp[Ent.ids];exact dFZ (ZAI R) hi) hk
 |rows e t l=>
  let⟨cs,L,G,p,d,K,N,O,a7⟩:=h
  refine⟨cs,L,by simp_all,p,d,K,N,O,λi x hx=> ?_⟩
  let⟨u,T,U⟩:=a7 i x hx
  exact⟨u,by rw[j,E];exact T.to C,U⟩
 |fam e s ms=>exact h.elim
 |map kt vt m=>
  let⟨es,G,p,d,K⟩:=h
  exact⟨es,by rw[j];exact G,p,λi x e D I=>by rw[j,E];exact⟨(d i x e D I).1.to (C.mono λfs h=>by simp[Blk.famInT,ZAF] at h;exact h.1),(d i x e D I).2.1.to (C.mono λfs h=>by simp only[Blk.famInT,ZAF] at h;exact h.2),(d i x e D I).2.2⟩,K⟩
 |fmap kt l=>
  let⟨es,B,G,p,d⟩:=h
  refine⟨es,B,by rw[j];exact G,by simp[p],λi x e D I=> ?_⟩;rw[ZAV] at D;obtain⟨y,V,rfl⟩:=ZAH.1 D
  let⟨T,U⟩:=d i y e V I
  refine⟨by rw[j,E];exact T.to (C.mono λfs h=>by simp only[Blk.famInT,ZAF] at h;exact h.1),U.ren j E (C.mono λfs h=>by simp only[Blk.famInT,ZAF,ZCU] at h;exact h.2 y (ZAI V)) λid k hi hk=>X id k ?_ hk⟩;simp only[Ent.ids,ZCm];exact⟨y,ZAI V,hi⟩
end
theorem dEZ:∀{d} {id k},gE d id=some k->(id,k)∈d
 |(i,j)::d,id,k,h=>by
  simp[gE] at h;cases hb:Nat.beq i id<;>rw[hb] at h<;>simp[ZAD] at h
  .exact ZAc _ (dEZ h)
  simp_all
def gZ:List (Nat×Nat)->Nat->Option Nat
 |[],_=>none
 |(i,k)::r,n=>bif Nat.beq k n then some i else gZ r n
theorem aLZ:∀{d} {id k},gZ d k=some id->(id,k)∈d
 |(i,j)::d,id,k,h=>by
  simp[gZ] at h;cases hb:Nat.beq j k<;>rw[hb] at h<;>simp[ZAD] at h
  .exact ZAc _ (aLZ h)
  simp_all
theorem dAZ{d}{id k}(h:(id,k)∈d):k∈kI d:=by
 induction d with
 |nil=>cases h
 |cons x d j=>
  rcases ZAj.1 h with h|h
  .cases h;exact ZAr
  .exact ZAc _ (j h)
theorem fMZ{d}{id k}(h:(id,k)∈d):id∈mC d:=by
 induction d with
 |nil=>cases h
 |cons x d j=>
  rcases ZAj.1 h with h|h
  .cases h;exact ZAr
  .exact ZAc _ (j h)
theorem fbZ:∀{d} {id k},(kI d).Nodup->(id,k)∈d->gZ d k=some id
 |(i,j)::d,id,k,p,h=>by
  simp[kI] at p;simp[gZ];rcases ZAj.1 h with h|h
  .simp_all
  .have:j≠k:=λe=>p.1 (e▸dAZ h);rw[ahZ this];exact fbZ p.2 h
theorem mqZ:∀{d} {id k},(mC d).Nodup->(id,k)∈d->gE d id=some k
 |(i,j)::d,id,k,p,h=>by
  simp[mC] at p;simp[gE];rcases ZAj.1 h with h|h
  .simp_all
  .have:i≠id:=λe=>p.1 (e▸fMZ h);rw[ahZ this];exact mqZ p.2 h
theorem etZ{H}:∀{l},iV H l=true->∀i∈l,∃e,bF H i=some e
 |[],_,i,h=>by cases h
 |j::l,h,i,hi=>by
  simp[iV] at h;rcases ZAj.1 hi with rfl|hi
  .cases hg:bF H i with
   |none=>rw[hg] at h;exact absurd h.1 (by simp)
   |some e=>exact⟨e,rfl⟩
  .exact etZ h.2 i hi
theorem bEZ{H}{f}:∀{d},iV H (mC d)=true->∀k,bF (iU H f d) k=(gZ d k).bind (λid=>(bF H id).map (Ent.ren f))/\bM (iU H f d) k=(gZ d k).isSome
 |[],_,k=>⟨rfl,rfl⟩
 |(i,j)::d,h,k=>by
  simp[mC,iV] at h;cases hg:bF H i with
  |none=>rw[hg] at h;exact absurd h.1 (by simp)
  |some e=>
   obtain⟨p,B⟩:=bEZ h.2 k;simp[iU,hg,bF,bM,gZ];cases hb:Nat.beq j k
   .exact⟨p,B⟩
   .simp[hg]
section
variable {z : Z} {H : Hp}
def Z.ren(z:Z)(H:Hp)(d:List (Nat×Nat)):Z:=
 {z with ρ:=λk=>match gZ d k with|some id=>z.ρ id|none=>if bC<=k then z.ρ k else .no,C:=λg=>∃id e h n,rt id∈mC d/\bP H id=some e/\e.fz=false/\z.ρ id= .real g h n,D:=λk=>bC<=k/\rt k∉kI d}
theorem bLZ:∀{l} {k},tT l=true->k∈l->k<bC
 |[],k,_,h=>by cases h
 |i::l,k,d,h=>by
  simp[tT] at d;rcases ZAj.1 h with rfl|h
  .simp_all
  .exact bLZ d.2 h
theorem bvZ:∀{d} {i k},vG d=true->(i,k)∈d->i=k\/(i<bA/\k<bA)
 |[],i,k,_,h=>by cases h
 |(a,b)::d,i,k,j,h=>by
  simp[vG,ZBg] at j;rcases ZAj.1 h with h|h
  .simp_all
  .exact bvZ j.2 h
theorem Z.ren_dyn{d}(j:tT (kI d)=true){k}(hk:bC<=k):(z.ren H d).ρ k=z.ρ k:=by
 show(match gZ d k with|some id=>z.ρ id|none=>if bC<=k then z.ρ k else .no)=_;cases h:gZ d k with
 |none=>simp_all
 |some id=>
  have:=bLZ j (dAZ (aLZ h));omega
theorem fkZ(e)(f)(k):(e.ren f).has k=e.has k/\(bC<=bC->pick k (e.ren f)=pick k e):=by
 let⟨fz,b⟩:=e
 cases b<;>exact⟨rfl,λ_=>rfl⟩
theorem eRZ{e x}{k}(h:pick k e=some x)(f):x.ren f=x/\x.ids=[]:=by
 unfold pick at h;split at h
 .split at h
  .split at h
   .cases h
   .simp at h;subst h;exact⟨rfl,rfl⟩
  .cases h
 grind
def OfX(d:List (Nat×Nat))(id k:Nat):Prop:=((id,k)∈d/\id<bA/\k<bA)\/(id=k/\bC<=k/\(rt k,rt k)∈d)
theorem OfX.fst{d}{id k}(h:OfX d id k):rt id∈mC d:=by
 have h0:=eQZ;rcases h with⟨j,h2,_⟩|⟨rfl,_,j⟩
 .rw[beZ (by omega)];exact fMZ j
 grind[fMZ]
theorem OfX.inj{d}{id k k'}(j:(mC d).Nodup)(h:OfX d id k)(C:OfX d id k'):k=k':=by
 have h0:=eQZ;rcases h with⟨p,h2,_⟩|⟨rfl,h2,p⟩<;>rcases C with⟨B,h4,_⟩|⟨rfl,h4,B⟩
 .have D:=mqZ j p;have E:=mqZ j B
  simp_all
 .omega
 .omega
 .rfl
theorem OfX.ro{d}{id k}(h:OfX d id k)(j:Ro id):Ro k:=by
 rcases h with⟨_,h,_⟩|⟨rfl,_⟩
 .exact absurd j (bPZ h)
 omega
theorem renX{H}{f}{d}(O:(mC d).Nodup)(h2:(kI d).Nodup)(I:iV H (mC d)=true)(K:vG d=true){k}{e'}(h:bP (iU H f d) k=some e'):
 ∃id e,OfX d id k/\bP H id=some e/\e'=e.ren f:=by
 by_cases j:bC<=k
 .rw[a9Z j,(bEZ I (rt k)).1] at h
  let⟨R,D,p⟩:=ZAG.1 h
  let⟨id,E,G⟩:=ZAG.1 D
  obtain⟨L,N,rfl⟩:=ZAH.1 G;have hm:=aLZ E;have:=(bvZ K hm).resolve_right λh=>by have:=(bFZ j).1;omega
  subst this;rw[(fkZ L f _).2 (ZAN _)] at p;refine⟨k,e',.inr ⟨rfl,j,hm⟩,?_,(eRZ p f).1.symm⟩;rw[a9Z j,N];exact p
 .by_cases hk:bA<=k
  .unfold bP at h;rw[ZAJ j,ZAL hk] at h;cases h
  .have B:=ZBR.1 hk;rw[arZ B,(bEZ I k).1] at h
   let⟨id,D,p⟩:=ZAG.1 h
   let⟨e,E,G⟩:=ZAH.1 p
   have hm:=aLZ D;have C:id<bA:=by
    rcases bvZ K hm with h|h
    .omega
    .exact h.1
   exact⟨id,e,.inl ⟨hm,C,B⟩,by rw[arZ C];exact E,G.symm⟩
theorem vRZ{d}(I:bH z H)(V:kH (mC d)=true)(h2:kH (kI d)=true)(K:iV H (mC d)=true)(X:tT (kI d)=true)(E:vG d=true):
 bH (z.ren H d) (iU H (gE d) d)/\(∀id k,(id,k)∈d->(z.ren H d).ρ k=z.ρ id)/\∀g,(z.ren H d).C g->z.C g:=by
 have h0:=eQZ;rw[cGZ] at V h2;have G:fE z.ρ (z.ren H d).ρ:=λid p _=>Z.ren_dyn X p;have O:∀id k,(id,k)∈d->(z.ren H d).ρ k=z.ρ id:=λid k h=>by
  show(match gZ d k with|some id=>z.ρ id|none=>if bC<=k then z.ρ k else .no)=_;rw[fbZ h2 h]
 have B:∀id k,OfX d id k->(z.ren H d).ρ k=z.ρ id:=λid k h=>by
  rcases h with⟨h,_⟩|⟨rfl,h,_⟩
  .exact O id k h
  simp_all[Z.ren_dyn]
 have hC:∀g,(z.ren H d).C g->z.C g:=λg ⟨id,e,W,n,L,N,R,Y⟩=>(I.realX N Y).2.1 R;have T:∀k,k∈kI d->∃id,(id,k)∈d/\∃e,bF H id=some e:=λk hk=>by
  have:∀{d},k∈kI d->∃id,(id,k)∈d:=λ{d}=>by
   induction d with
   |nil=>intro h;cases h
   |cons x d ih=>
    let⟨i,j⟩:=x
    intro h;rcases ZAj.1 h with rfl|h
    .exact⟨i,ZAr⟩
    .let⟨id,h⟩:=ih h;exact⟨id,ZAc _ h⟩
  let⟨id,h⟩:=this hk
  let⟨e,he⟩:=etZ K id (fMZ h)<;>grind
 refine⟨⟨λk e' h=> ?_,λk k' e e' g W n g' aa n' ab p1 p2 m1 m2 p3 p4=> ?_,λk h=> ?_,λg h=>I.sub g (hC g h),λk x h=> ?_,λk h=> ?_,λk af h=> ?_,λk ac ad=> ?_⟩,O,hC⟩
 .obtain⟨id,e,L,N,rfl⟩:=renX V h2 K E h;have h0:=I.ent _ _ N;unfold fC at h0⊢;rw[B id k L];cases hr:z.ρ id with
  |no=>simp_all
  |virt=>
   rw[hr] at h0
   let⟨fz,b⟩:=e
   cases b<;>first|exact h0.elim|exact h0
  |real g W n=>
   rw[hr] at h0
   let⟨a1,a2,a3,a4⟩:=h0
   exact⟨a1,λE=>⟨id,e,W,n,L.fst,N,E,hr⟩,a3,a4.ren (fz:=e.fz) rfl rfl (.inl G) λD k' _ ae=>O D k' (dEZ ae)⟩
 .obtain⟨id,e1,L,N,rfl⟩:=renX V h2 K E p1;obtain⟨D,e2,R,Y,rfl⟩:=renX V h2 K E p2;rw[B id k L] at p3;rw[B D k' R] at p4;have p:id≠D:=λh=>by
   subst h;exact ab (L.inj V R)
  exact λp5=>I.inj id D e1 e2 g W n g' aa n' p N Y m1 m2 p3 p4 λh=>p5 ⟨L.ro h.1,R.ro h.2⟩
 .by_cases G:bC<=k
  .by_cases hk:rt k∈kI d
   .left
    let⟨id,hm,e,he⟩:=T _ hk
    have:=(bvZ E hm).resolve_right λh=>by have:=(bFZ G).1;omega
    subst this;rw[Z.ren_dyn X G];refine(I.fresh k ?_).resolve_right (I.dyn k G (aiZ he));rw[azZ G,(bEZ K (rt k)).1,fbZ h2 hm] at h;rw[azZ G,he];simp only[ZAA,he,ZBM] at h;rw[(fkZ e _ _).1] at h;exact h
   .exact .inr ⟨G,hk⟩
  .left;by_cases hk:bA<=k
   .show(match gZ d k with|some id=>z.ρ id|none=>if bC<=k then z.ρ k else .no)=_;cases hi:gZ d k with
    |none=>simp only[ZAJ G]
    |some id=>
     have:=(bvZ E (aLZ hi)).resolve_right λh=>by omega
     subst this;exact I.nos id hk (by omega)
   .rw[aEZ (by omega),(bEZ K k).2] at h;show(match gZ d k with|some id=>z.ρ id|none=>if bC<=k then z.ρ k else .no)=_;cases hk:gZ d k with
    |none=>simp only[ZAJ G]
    |some id=>rw[hk] at h;cases h
 .rw[(bEZ K k).1] at h
  let⟨id,L,N⟩:=ZAG.1 h
  obtain⟨e,R,rfl⟩:=ZAH.1 N;have hm:=aLZ L;have U:=I.fam id e R
  let⟨fz,b⟩:=e
  cases b with
  |fam e s ms=>
   have:=(bvZ E hm).resolve_right λh=>by have:=U.1;omega
   subst this;exact U
  |_=>
   have p:id<bA:=U;show k<bA;rcases bvZ E hm with h|h
   .omega
   .exact h.2
 .rw[(bEZ K k).2] at h
  let⟨id,p⟩:=ZBu.1 h
  exact bLZ X (dAZ (aLZ p))
 .rw[(bEZ K (rt k)).2] at h
  let⟨id,p⟩:=ZBu.1 h
  exact λhD=>hD.2 (dAZ (aLZ p))
 .show(match gZ d k with|some id=>z.ρ id|none=>if bC<=k then z.ρ k else .no)=_;cases hi:gZ d k with
  |none=>simp only[ZAJ (show¬bC<=k by omega)]
  |some id=>
   have:=(bvZ E (aLZ hi)).resolve_right λh=>by omega
   subst this;exact I.nos id ac ad
end
mutual
theorem vvZ:(k:Kd)->{r:List Ty}->(y:HL (k.lv r))->AV.ids (emb k r y).1=k.ids
 |.p _,r,y|.pt _,r,y|.own _ _ _ _,r,y|.ownx _ _ _,r,y|.sl _ _,r,y|.slf _ _,r,y|.mp _,r,y|.any,r,y|.nilp _,r,y=>rfl
 |.fn f a c,r,y=>congr (congrArg HAppend.hAppend (c1Z a (r:=c.lv r) y)) (c1Z c (r:=r) _)
 |.agg l,r,y=>c1Z l (r:=r) y
 |.tup l,r,y=>c1Z l (r:=r) y
theorem c1Z:(k:KdL)->{r:List Ty}->(y:HL (k.lv r))->AV.idsL (embL k r y).1=k.ids
 |.nil,r,y=>rfl
 |.cons k l,r,y=>congr (congrArg HAppend.hAppend (vvZ k (r:=l.lv r) y)) (c1Z l (r:=r) _)
end
theorem t6Z{k}{r}{fz}(y):Ent.ids ⟨fz,(mD k r y).1⟩=k.ids:=by
 cases k with
 |vars l=>exact c1Z l y
 |rows e t=>rfl
 |map d h=>rfl
 |fam e s=>rfl
theorem cyZ:(d:HK)->{r:List Ty}->(y:HL (fP d r))->∀id,bM (kY d r y).1 id=cH id (bI d)/\(cH id (bI d)=true->∃e,bF (kY d r y).1 id=some e)/\∀e,bF (kY d r y).1 id=some e->∀i∈e.ids,i∈wB d
 |[],r,y,id=>⟨rfl,λh=>by simp_all[bI,cH],λe h=>by simp_all[kY,bF]⟩
 |(j,fz,k)::d,r,y,id=>by
  let⟨p,B,C⟩:=cyZ d (mD k (fP d r) y).2 id
  simp only[kY,bM,bF,bI,cH];cases hb:Nat.beq j id
  .simp_all[wB]
  .simp only[ZAM]
   grind[t6Z,fP,wB,ZAh]
section
variable {z : Z} {H : Hp} {β : Type}
def Z.cut(z:Z)(ks:List Nat)(d:Rho)(C':Nat->Prop):Z:={z with ρ:=λk=>bif cH k ks then z.ρ k else if bC<=k then z.ρ k else d k,C:=C',D:=λk=>cH (rt k) ks=false/\(bC<=k\/d k≠.no)}
theorem Z.cut_dyn(z:Z)(ks)(ρ0)(C'):fE z.ρ (z.cut ks ρ0 C').ρ:=λid d _=>by
 show(bif cH id ks then z.ρ id else if bC<=id then z.ρ id else ρ0 id)=_
 simp_all
theorem fC.rho{z z'}{id}{e}(h:fC z id e)(p:z'.w=z.w)(B:z'.M=z.M)(D:Agr z.ρ z'.ρ λfs=>e.b.famInT fs)(d:z'.ρ id=z.ρ id)(E:∀i∈e.ids,z'.ρ i=z.ρ i)(I:∀g j n,z.ρ id= .real g j n->e.fz=false->z.C g->z'.C g):fC z' id e:=by
 unfold fC at*;rw[d];cases G:z.ρ id with
 |no=>simp_all
 |virt=>simp_all
 |real g j n=>
  rw[G] at h
  let⟨K,h2,L,h4⟩:=h
  have:=h4.ren (f:=some) p B D λi k hi hk=>by
   cases hk;exact E i hi
  have N:e.b.ren some=e.b:=by
   cases e.b with
   |vars c=>simp[Blk.ren,ceZ]
   |rows _ _ _=>rfl
   |map _ _ _=>rfl
   |fam _ _ _=>rfl
   |fmap k l=>
    simp[Blk.ren];congr 1
    conv=>rhs;rw[<-List.map_id l]
    apply ZCo;intro x _;simp[iSZ]
  simp_all
theorem Shp.rco_ok{s:Shp}{vs}{d}{K}{ab:β}{vals}(p:Rho)(V:∀k,bA<=k->k<bC->p k= .no)(h:s.rco vs H d K=some ab)(hH:bH z H)(hv:bQ z vs vals):
 ∃t z',K t=some ab/\z'.w=z.w/\z'.M=z.M/\bH z' (s.emb t).2/\bQ z' (s.emb t).1 vals/\(∀k,cH k (bI s.hs)=true->∃id,(id,k)∈d/\z'.ρ k=z.ρ id)/\(∀k,cH k (bI s.hs)=false->z'.ρ k=if bC<=k then z.ρ k else p k)/\
  (∀g,z'.C g->z.C g)/\(∀g,z'.C g->∃id e sz n,rt id∈mC d/\bP H id=some e/\e.fz=false/\z.ρ id= .real g sz n)/\z'.D=(λk=>cH (rt k) (bI s.hs)=false/\(bC<=k\/p k≠.no))/\(∀k,bM (s.emb t).2 k=cH k (bI s.hs))/\fE z.ρ z'.ρ/\(∀k,cH k (bI s.hs)=true->k<bC)/\(∀i,i∈s.ks.ids\/i∈wB s.hs->i∈bI s.hs):=by
 have h0:=eQZ;unfold Shp.rco at h;obtain⟨h1,h2⟩:=aeZ.1 h;simp only[ZAF] at h1;obtain⟨⟨g1,g2,g3,g4⟩,g5⟩:=h1;obtain⟨L,r2,r3⟩:=vRZ hH g1 g2 g5 g3 g4;have ag:fE z.ρ (z.ren H d).ρ:=λid B _=>Z.ren_dyn g3 B;have ah:bQ (z.ren H d) (AV.renL (gE d) vs) vals:=hv.ren rfl rfl (.inl ag) λid k _ hk=>r2 id k (dEZ hk);obtain⟨k1,t,k2,k3,k4⟩:=Shp.co_ok h2 (λid e he=>L.ex he) ah;unfold Shp.ok at k1;simp only[ZAF,bZZ,ZAh] at k1;have hg:=λid=>cyZ s.hs (embL s.ks (fP s.hs []) (gD s.tys t)).2 id;have ai:AV.idsL (s.emb t).1=s.ks.ids:=c1Z s.ks _
 let z':=(z.ren H d).cut (bI s.hs) p (z.ren H d).C
 have W:fE (z.ren H d).ρ z'.ρ:=Z.cut_dyn _ _ _ _;have T:∀k,k∈bI s.hs->z'.ρ k=(z.ren H d).ρ k:=λk hk=>by
  show(bif cH k (bI s.hs) then(z.ren H d).ρ k else if bC<=k then(z.ren H d).ρ k else p k)=_;rw[ajZ.2 hk];rfl
 have aj:∀k e,bF (s.emb t).2 k=some e->k∈bI s.hs:=λk e he=>by
  have:=aiZ he;rw[show bM (s.emb t).2 k=cH k (bI s.hs) from(hg k).1] at this;exact ajZ.1 this
 have ac:∀k,cH k (bI s.hs)=true->k<bC:=λk hk=>by
  obtain⟨e,he⟩:=(hg k).2.1 hk;obtain⟨_,⟨G,E,_⟩⟩:=k4 k e he;have:=aiZ E;rw[(bEZ g5 k).2] at this;obtain⟨id,B⟩:=ZBu.1 this;exact bLZ g3 (dAZ (aLZ B))
 have N:∀k e,bF (s.emb t).2 k=some e->bA<=k->bF (iU H (gE d) d) k=some e:=λk e he hk=>by
  obtain⟨_,⟨G,E,q2,X,Y⟩⟩:=k4 k e he;have O:=L.fam k G E;have ak:G.b.isFam=true:=by
   obtain⟨fz,b⟩:=G;cases b<;>first|rfl|(have:k<bA:=O;omega)
  rw[Y ak];exact E
 have R:∀k e,bF (s.emb t).2 k=some e->k<bA->e.b.isFam=false:=λk e he hk=>by
  obtain⟨_,⟨G,E,q2,X,Y⟩⟩:=k4 k e he;have O:=L.fam k G E;rw[X];obtain⟨fz,b⟩:=G;cases b<;>first|rfl|(have:=O.1;omega)
 have hX:∀k e,bP (s.emb t).2 k=some e->fC (z.ren H d) k e/\(∃e1,bP (iU H (gE d) d) k=some e1/\e1.fz=e.fz)/\(k∈bI s.hs\/bC<=k)/\∀i∈e.ids,i∈bI s.hs:=λk e he=>by
  by_cases hd:bC<=k
  .rw[a9Z hd] at he;obtain⟨G,p1,p2⟩:=ZAG.1 he;have p3:=N _ _ p1 (bFZ hd).1;have p4:bP (iU H (gE d) d) k=some e:=by rw[a9Z hd,p3];exact p2
   exact⟨L.ent _ _ p4,⟨e,p4,rfl⟩,.inr hd,λi hi=>by rw[(eRZ p2 some).2] at hi;cases hi⟩
  .by_cases hk:bA<=k
   .unfold bP at he;rw[ZAJ hd,ZAL hk] at he;cases he
   .have aa:k<bA:=ZBR.1 hk;rw[arZ aa] at he;obtain⟨q0,⟨G,E,q2,_⟩⟩:=k4 k e he;have ad:=(hg k).2.2 e he;exact⟨q0 (R k e he aa),⟨G,by rw[arZ aa];exact E,q2⟩,.inl (aj k e he),λi hi=>k1.2 i (.inr (ad i hi))⟩
 have I:∀k,k∈bI s.hs\/bC<=k->z'.ρ k=(z.ren H d).ρ k:=λk hk=>by
  rcases hk with hk|hk
  .exact T k hk
  .show(bif cH k (bI s.hs) then(z.ren H d).ρ k else if bC<=k then(z.ren H d).ρ k else p k)=_;rw[ZAL hk];cases cH k (bI s.hs)<;>rfl
 refine⟨t,z',k2,rfl,rfl,⟨λk e he=> ?_,λi i' e e' g sz n g' al n' am p1 p2 m1 m2 p3 p4=> ?_,λk hk=> ?_,L.sub,λk x hx=> ?_,λk hk=>ac k (by rw[<-(hg k).1];exact hk),λk hd hk=> ?_,λk ae af=> ?_⟩,?_,λk hk=> ?_,λk hk=> ?_,r3,λg hC=>hC,rfl,λk=>(hg k).1,λid B hn=> ?_,ac,k1.2⟩
 .obtain⟨E,_,X,Y⟩:=hX k e he;exact E.rho rfl rfl (.inl W) (I k X) (λi hi=>T i (Y i hi)) (λg sz n _ _ h=>h)
 .obtain⟨_,⟨G,E,q2⟩,X,_⟩:=hX i e p1;obtain⟨_,⟨an,Y,q5⟩,q6,_⟩:=hX i' e' p2;rw[I i X] at p3;rw[I i' q6] at p4;exact L.inj i i' G an g sz n g' al n' am E Y (by rw[q2];exact m1) (by rw[q5];exact m2) p3 p4
 .by_cases j:bC<=k
  .rw[azZ j] at hk;cases he:bF (s.emb t).2 (rt k) with
   |none=>
    rw[he] at hk;have hk:bM (s.emb t).2 (rt k)=false:=hk;rw[show bM (s.emb t).2 (rt k)=cH (rt k) (bI s.hs) from(hg _).1] at hk;exact .inr ⟨hk,.inl j⟩
   |some G=>
    rw[he] at hk;have p3:=N _ _ he (bFZ j).1;left;rw[I k (.inr j)];refine(L.fresh k (by rw[azZ j,p3];exact hk)).resolve_right (L.dyn k j (aiZ p3))
  .by_cases U:bA<=k
   .left;show(bif cH k (bI s.hs) then(z.ren H d).ρ k else if bC<=k then(z.ren H d).ρ k else p k)=_;rw[ZAJ j];cases cH k (bI s.hs)
    .exact V k U (by omega)
    .exact L.nos k U (by omega)
   .rw[aEZ (by omega),show bM (s.emb t).2 k=cH k (bI s.hs) from(hg k).1] at hk;have e1:z'.ρ k=p k:=by
     show(bif cH k (bI s.hs) then(z.ren H d).ρ k else if bC<=k then(z.ren H d).ρ k else p k)=_;rw[hk,ZAJ j];rfl
    by_cases h0:p k= .no
    .left;rw[e1,h0]
    .exact .inr ⟨by rw[beZ (by omega)];exact hk,.inr h0⟩
 .obtain⟨_,⟨G,E,q2,X,Y⟩⟩:=k4 k x hx;have O:=L.fam k G E;by_cases U:bA<=k
  .have:=N k x hx U;rw[this] at E;injection E with E;rw[E];exact O
  .have:=R k x hx (by omega);obtain⟨fz,b⟩:=x;cases b<;>first|(show k<bA;omega)|cases this
 .rw[show bM (s.emb t).2 (rt k)=cH (rt k) (bI s.hs) from(hg _).1] at hk;exact λhD=>by have:=hD.1;rw[hk] at this;cases this
 .show(bif cH k (bI s.hs) then(z.ren H d).ρ k else if bC<=k then(z.ren H d).ρ k else p k)=_;rw[ZAJ (show¬bC<=k by omega)];cases cH k (bI s.hs)
  .exact V k ae af
  .exact L.nos k ae af
 .exact k3.rho rfl rfl (.inl W) λi hi=>T i (k1.2 i (.inl (by rw[<-ai];exact hi)))
 .obtain⟨e,he⟩:=(hg k).2.1 hk;obtain⟨_,⟨G,E,_⟩⟩:=k4 k e he;have:=aiZ E;rw[(bEZ g5 k).2] at this;obtain⟨id,B⟩:=ZBu.1 this;exact⟨id,aLZ B,by rw[T k (ajZ.1 hk),r2 id k (aLZ B)]⟩
 .show(bif cH k (bI s.hs) then(z.ren H d).ρ k else if bC<=k then(z.ren H d).ρ k else p k)=_;rw[hk];by_cases j:bC<=k
  .rw[ZAL j,ZAL j];exact Z.ren_dyn g3 j
  .rw[ZAJ j,ZAJ j];rfl
 .rw[W id B (by rw[Z.ren_dyn g3 B];exact hn),Z.ren_dyn g3 B]
end
end Go.Ab
