/- An evaluator of the model's code over plain values, and its soundness; of no program. -/
import Derived.Test.YtjngohmkdmdecaaGreatE3
import Derived.DataReads
import Derived.WalkKit
import Derived.ProofKit
import Derived.OpenShut
import Derived.JoinedTies
import GoSem.Claim
import Derived.Shelf.SlSortCmp.NoneTotal
import Derived.Shelf.SlGeneric
import Derived.Shelf.Spec.SlicesInsertGrow
import Derived.Shelf.Slices.Delete
import Derived.Shelf.Strings.IndexAnyAll
import Derived.WalkMore
import Derived.Shelf.Small.Utf8
import Derived.Laws.Runes
import Derived.Lib.Bytealg
set_option linter.all false
namespace Go.Ab
theorem ZAE:type_of% @decide_eq_false:=@decide_eq_false
theorem ZAK:type_of% @decide_eq_true:=@decide_eq_true
theorem ZCY:type_of% @List.drop_eq_nil_of_le:=@List.drop_eq_nil_of_le
theorem ZCe:type_of% @List.getElem?_toArray:=@List.getElem?_toArray
theorem ZCp:type_of% @List.getElem?_range:=@List.getElem?_range
theorem ZCt:type_of% @of_decide_eq_false:=@of_decide_eq_false
theorem ZCv:type_of% @Nat.sub_mul:=@Nat.sub_mul
theorem ZCw:type_of% @List.map_cons:=@List.map_cons
def OkV:(t:Ty)->t.den->Prop
 |.int k,n=>k.min<=n/\n<=k.max
 |.byte,_=>True
 |.bool,_=>True
 |.str,l=>List.length (α:=UInt8) l<=maxLen
 |.opq,_=>False
 |.nat,_=>False
 |.ref _ _,_=>False
 |.ptr _,_=>False
 |.sl t,l=>List.length (α:=t.den) l<=maxLen/\∀x∈(show List t.den from l),OkV t x
 |.one t,x=>OkV t x
 |.pair a b,x=>OkV a x.1/\OkV b x.2
 |.arr n t,l=>List.length (α:=t.den) l=n/\∀x∈(show List t.den from l),OkV t x
section
variable (P : Program)
def yE(f:TypeId->Ty->Bool):List Field->Nat->Ty->Bool
 |[x],o,u=>Nat.beq x.offset o&&Nat.beq (P.cellsOf x.type) u.cells&&f x.type u
 |x::r,o,.pair a b=>Nat.beq x.offset o&&Nat.beq (P.cellsOf x.type) a.cells&&f x.type a&&yE f r (o+a.cells) b
 |_,_,_=>false
def uF:Nat->TypeId->Ty->Bool
 |0,_,_=>false
 |n+1,t,u=>match P.underlying t,u with
  |some (.int k),.int k'=>decide (k=k')
  |some (.int k),.byte=>decide (k= .u8)
  |some .bool,.bool=>true
  |some .string,.str=>true
  |some (.slice e),.sl v=>Nat.beq (P.cellsOf e) v.cells&&Nat.blt 0 v.cells&&uF n e v
  |some (.struct fs),.one v=>Nat.beq (P.cellsOf t) v.cells&&yE P (uF n) fs.toList 0 v
  |some (.struct fs),.pair a b=>Nat.beq (P.cellsOf t) (Ty.pair a b).cells&&yE P (uF n) fs.toList 0 (.pair a b)
  |some (.array m e),.arr d v=>Nat.beq m d&&Nat.beq (P.cellsOf t) (m*v.cells)&&Nat.beq (P.cellsOf e) v.cells&&uF n e v
  |_,_=>false
end
theorem eaZ{α:Type}(k):∀(n) (cs:List α),cs.length=n*k->((List.range n).map λi=>(cs.drop (i*k)).take k).flatten=cs
 |0,cs,h=>by
  simp_all
 |n+1,cs,h=>by
  rw[List.range_succ_eq_map,ZCw,ZCQ,List.map_map];have e:((List.range n).map ((λi=>(cs.drop (i*k)).take k)∘Nat.succ))=(List.range n).map λi=>((cs.drop k).drop (i*k)).take k:=by
   refine ZCo λi _=> ?_;simp[List.drop_drop];rw[ZCD,Nat.add_comm]
  rw[e,eaZ k n (cs.drop k) (by grind)];simp
theorem ejZ{α:Type}{Q:Nat->α->Prop}:∀(n),(∀i,i<n->∃x,Q i x)->∃l:List α,l.length=n/\∀(i) x,l[i]? =some x->Q i x
 |0,_=>⟨[],rfl,λi x h=>by grind⟩
 |n+1,h=>by
  let⟨l,d,h2⟩:=ejZ n λi hi=>h i (by omega)
  let⟨x,hx⟩:=h n (by omega)
  refine⟨l++[x],by simp[d],λi y j=> ?_⟩
  grind
section
variable {P : Program} {H : Type} {enc : TypeId × Value → H} {w : World} {sp : Nat → Bool} {held : Bool}
theorem fWZ{f}{n}{cs:List Value}(j:∀(x:Field) u,f x.type u=true->P.cellsOf x.type=u.cells->(∃y,DataW.trod enc P w 0 sp held n x.type ((cs.drop x.offset).take (P.cellsOf x.type))=some y)->
 ∃v,Cl w (λ_=>False) (λ_=>.no) u v ((cs.drop x.offset).take (P.cellsOf x.type))/\OkV u v):
 ∀(fs) (o) (u),yE P f fs o u=true->(∀x∈fs,∃y,DataW.trod enc P w 0 sp held n x.type ((cs.drop x.offset).take (P.cellsOf x.type))=some y)->∃v,Cl w (λ_=>False) (λ_=>.no) u v ((cs.drop o).take u.cells)/\OkV u v
 |[],o,u,h,_=>by cases u<;>cases h
 |[x],o,u,h,d=>by
  have h:(Nat.beq x.offset o&&Nat.beq (P.cellsOf x.type) u.cells&&f x.type u)=true:=by cases u<;>exact h
  simp[afZ] at h
  grind[ZAr]
 |x::y::r,o,u,h,d=>by
  cases u with
  |pair a b=>
   have h:(Nat.beq x.offset o&&Nat.beq (P.cellsOf x.type) a.cells&&f x.type a&&yE P f (y::r) (o+a.cells) b)=true:=h;simp[ZAF,afZ] at h;obtain⟨⟨⟨rfl,h2⟩,p⟩,h4⟩:=h
   let⟨B,C,D⟩:=j x a p h2 (d x ZAr)
   let⟨E,G,I⟩:=fWZ j (y::r) (x.offset+a.cells) b h4 λz K=>d z (ZAc _ K)
   refine⟨(B,E),⟨_,_,?_,C,G⟩,D,I⟩;rw[h2,show(Ty.pair a b).cells=a.cells+b.cells from rfl,List.take_add,List.drop_drop]
  |_=>cases h
theorem koZ{a}{n}{cs}(h:w.cells? 0 a n=some cs):cs.length=n/\∀(j) v,cs[j]? =some v->w.cell? (a.add j)=some v:=by
 unfold World.cells? at h;have p:=mapM_some_length h;simp at p;refine⟨p,λj v B=> ?_⟩;have d:j<n:=by have:=(ZAC.1 B).1;omega
 have:=mapM_some_get h j j (by simp[d])
 simp_all
theorem rnZ{a}{v}(h:w.cell? a=some v):a.spot=none/\a.block<w.heap.size:=by
 unfold World.cell? at h;split at h
 .rename_i c _ _ hb;split at h
  .cases h
  .rename_i j;refine⟨by cases d:a.spot<;>simp[d] at j⊢,(ZBI.1 hb).1⟩
 grind
theorem e3Z{bB}{t}{cs}{y}{d}(j:P.underlying t=some d)(h:DataW.trod enc P w 0 sp held (bB+1) t cs=some y)(p:d.isRow=false):∃v,cs=[v]:=by
 unfold DataW.trod at h;rcases cs with _|⟨v,_|⟨B,cs⟩⟩
 .cases d<;>first|simp_all|grind
 .grind
 .cases d<;>cases v<;>first|simp_all|simp_all|simp_all|(split at h<;>first|(done)|(done))
theorem gJZ:∀(n) (t) (u),uF P n t u=true->∀(bB) (cs) (d) (X),DataW.trod enc P w 0 sp held bB t cs=some (d,X)->
 ∃x,Cl w (λ_=>False) (λ_=>.no) u x cs/\OkV u x
 |0,t,u,h,bB,cs,d,X,p=>by cases h
 |n+1,t,u,h,0,cs,d,X,p=>by cases p
 |n+1,t,u,h,bB+1,cs,d,X,p=>by
  unfold uF at h;split at h
  .rename_i k k' B;simp only[ZAq] at h;subst h;obtain⟨v,rfl⟩:=e3Z B p rfl;unfold DataW.trod at p;rw[B] at p;cases v<;>first|(cases p;done)|skip;rename_i k' m;simp only at p;split at p
   .rename_i L;obtain⟨rfl,L⟩:=L;have hb:=by simpa[Lit.wf] using L
    exact⟨m,rfl,hb⟩
   .cases p
  .rename_i k B;simp only[ZAq] at h;subst h;obtain⟨v,rfl⟩:=e3Z B p rfl;unfold DataW.trod at p;rw[B] at p;cases v<;>first|(cases p;done)|skip;rename_i k' m;simp only at p;split at p
   .rename_i L;obtain⟨rfl,L⟩:=L;have hb:=by simpa[Lit.wf,IntKind.min,IntKind.max,IntKind.signed,IntKind.bits] using L
    refine⟨UInt8.ofNat m.toNat,?_,trivial⟩;show[Value.int .u8 m]=[Value.int .u8 ((UInt8.ofNat m.toNat).toNat:Int)];have:((UInt8.ofNat m.toNat).toNat:Int)=m:=by
     rw[UInt8.toNat_ofNat'];omega
    rw[this]
   .cases p
  .rename_i B;obtain⟨v,rfl⟩:=e3Z B p rfl;unfold DataW.trod at p;rw[B] at p;cases v<;>first|(cases p;done)|skip;rename_i b;exact⟨b,rfl,trivial⟩
  .rename_i B;obtain⟨v,rfl⟩:=e3Z B p rfl;unfold DataW.trod at p;rw[B] at p;cases v<;>first|(cases p;done)|skip;rename_i s;simp only at p;split at p
   .rename_i hs;have hb:=hs;exact⟨s.data.toList,rfl,hb⟩
   .cases p
  .rename_i e v B;simp only[ZAF,afZ,ZBg] at h;obtain⟨⟨h1,h2⟩,h3⟩:=h;obtain⟨x,rfl⟩:=e3Z B p rfl;unfold DataW.trod at p;rw[B] at p;cases x<;>first|(cases p;done)|skip;rename_i A D E;cases A with
   |none=>
    cases D with
    |succ k=>cases p
    |zero=>cases E with
     |succ k=>cases p
     |zero=>exact⟨([]:List v.den),⟨none,0,rfl,by simp,by unfold maxLen;omega,λ_=>rfl,λh=>absurd rfl h⟩,by simp,λx hx=>by cases hx⟩
   |some a=>
    simp only at p;split at p
    .rename_i hb;obtain⟨_,aa,ab⟩:=hb;obtain⟨ac,he,_⟩:=ZAG.1 p;have G:=mapM_some_length he;simp only[List.length_range] at G;have T:∀i,i<D->∃cs,w.cells? 0 (a.add (i*P.cellsOf e)) (P.cellsOf e)=some cs/\∃x,Cl w (λ_=>False) (λ_=>.no) v x cs/\OkV v x:=λi hi=>by
      have:=mapM_some_get he i i (by simp[hi]);rw[ZAB (by omega)] at this;obtain⟨cs,C,I⟩:=ZAG.1 this;exact⟨cs,C,gJZ n e v h3 bB cs _ _ I⟩
     obtain⟨l,Y,U⟩:=ejZ (Q:=λi x=>∃cs,w.cells? 0 (a.add (i*P.cellsOf e)) (P.cellsOf e)=some cs/\Cl w (λ_=>False) (λ_=>.no) v x cs/\OkV v x) D λi hi=>by
      obtain⟨cs,C,x,I,c3⟩:=T i hi;exact⟨x,cs,C,I,c3⟩
     have N:=Y;refine⟨((l)),⟨some a,E,by show[Value.slice (some a) D E]=[Value.slice (some a) (List.length l) E];rw[N],by show List.length l<=E;rw[N];exact aa,ab,(λh=>by cases h),λad=> ?_⟩,by show List.length l<=maxLen;rw[N];omega,λx hx=> ?_⟩
     .have V:0<D:=by
       have:=ad;omega
      obtain⟨cs,C,_⟩:=T 0 V;rw[ZBq] at C;obtain⟨g1,g2⟩:=koZ C;have ae:∃y,cs[0]? =some y:=⟨_,ZAB (by omega)⟩;obtain⟨y,hy⟩:=ae;have K:=rnZ (g2 0 y hy);have af:((a.add 0).add 0)=a:=rfl;rw[af] at K;obtain⟨b,off,ag⟩:=a;simp only at K;obtain⟨rfl,W⟩:=K;refine⟨b,off,rfl,λh=>h,W,λi x hx=> ?_⟩;obtain⟨cs,C,I,c3⟩:=U i x hx;refine⟨cs,I,λj y hj=> ?_⟩;have:=(koZ C).2 j y hj;rw[Addr.add_mid,Addr.add_mid] at this;rw[<-h1];exact this
     .obtain⟨i,hi⟩:=ZAT hx;obtain⟨cs,_,_,c3⟩:=U i x hi;exact c3
    .cases p
  .rename_i fs v B;simp only[ZAF,afZ] at h;unfold DataW.trod at p;rw[B] at p;simp only at p;split at p
   .rename_i N;obtain⟨xs,hx,_⟩:=ZAH.1 p;obtain⟨y,C,I⟩:=fWZ (f:=uF P n) (λx u hf _ O=>by obtain⟨z,O⟩:=O;exact gJZ n x.type u hf bB _ z.1 z.2 O) fs.toList 0 v h.2 λx R=>by
     obtain⟨i,hi⟩:=ZAT R;have:=mapM_some_get hx i x hi;rw[ZAB (by rw[mapM_some_length hx];exact(ZAC.1 hi).1)] at this;exact⟨_,this⟩
    refine⟨y,?_,I⟩;rw[ZB2,ZAw (by omega)] at C;exact C
   .cases p
  .rename_i fs a b B;simp only[ZAF,afZ] at h;unfold DataW.trod at p;rw[B] at p;simp only at p;split at p
   .rename_i N;obtain⟨xs,hx,_⟩:=ZAH.1 p;obtain⟨y,C,I⟩:=fWZ (n:=bB) (f:=uF P n) (λx u hf _ O=>by obtain⟨z,O⟩:=O;exact gJZ n x.type u hf bB _ z.1 z.2 O) fs.toList 0 (.pair a b) h.2 λx R=>by
     obtain⟨i,hi⟩:=ZAT R;have:=mapM_some_get hx i x hi;rw[ZAB (by rw[mapM_some_length hx];exact(ZAC.1 hi).1)] at this;exact⟨_,this⟩
    refine⟨y,?_,I⟩;rw[ZB2,ZAw (by omega)] at C;exact C
   .cases p
  .rename_i m e m' v B;simp only[ZAF,afZ] at h;obtain⟨⟨⟨rfl,h1⟩,h2⟩,h3⟩:=h;unfold DataW.trod at p;rw[B] at p;simp only at p;split at p
   .rename_i N;obtain⟨xs,hx,_⟩:=ZAH.1 p;have G:=mapM_some_length hx;simp only[List.length_range] at G;obtain⟨l,Y,U⟩:=ejZ (Q:=λi x=>Cl w (λ_=>False) (λ_=>.no) v x ((cs.drop (i*v.cells)).take v.cells)/\OkV v x) m λi hi=>by
     have:=mapM_some_get hx i i (by simp[hi]);rw[ZAB (by omega)] at this;obtain⟨x,C,I⟩:=gJZ n e v h3 bB _ _ _ this;rw[h2] at C;exact⟨x,C,I⟩
    refine⟨(show(Ty.arr m v).den from l),⟨Y,(List.range m).map λi=>(cs.drop (i*v.cells)).take v.cells,by simp,(eaZ v.cells m cs (by rw[N,h1])).symm,λi x c hx K=> ?_⟩,Y,λx hx=> ?_⟩
    .have hi:i<m:=by have:=(ZAC.1 K).1;simpa using this
     rw[ZAV,ZCp hi] at K;simp only[ZBM,ZAW] at K;rw[<-K];exact(U i x hx).1
    .obtain⟨i,hi⟩:=ZAT hx;exact(U i x hi).2
   .cases p
  grind
theorem trod_v{n}{t}{u}(h:uF P n t u=true)(j:oD P t u=true){C}{v}{d}{I}(B:Value.okWide P w .any C t v)(G:DataW.Trod enc P w 0 sp held t v d I):
 ∃x,cU w (λ_=>False) (λ_=>.no) u x v/\OkV u x:=by
 let⟨bB,G⟩:=G
 let⟨x,K,h2⟩:=gJZ n t u h bB _ d I G
 refine⟨x,⟨v.cells.toList,K,?_⟩,h2⟩;unfold oD at j;simp[ZAl] at j
 let⟨_,j⟩:=j
 unfold Value.okWide at B;cases hg:u.isAgg<;>rw[hg] at j
 .simp at j;have L:=K.len
  let⟨E,p,D⟩:=hBZ j
  cases v with
  |agg cs=>
   exfalso;unfold fW at j;rw[p] at j B;cases E<;>first|(cases j;done)|(simp[Cell.okWide,Cell.ok] at B;done)
  |tuple cs=>
   exfalso;unfold fW at j;rw[p] at j B;cases E<;>first|(cases j;done)|(simp[Cell.okWide,Cell.ok] at B;done)
  |_=>rfl
 .simp only[bq_true] at j
  let⟨E,p,D⟩:=fcZ j
  unfold gI at j;rw[p] at j B;cases E<;>first|(cases j;done)|skip
  .obtain⟨cs,rfl,_⟩:=B;rfl
  .obtain⟨cs,rfl,_⟩:=B;rfl
theorem law_of_told{f}(hb:vQ P f){ks}{d}(B:fF P ⟨f,⟨ks,[]⟩,[⟨.cons (.p .bool) .nil,[]⟩],d⟩){t}(C:d t=some true){vals}
 (hv:bQ ⟨w,λ_=>False,λ_=>False,λ_=>.no,λ_=>False⟩ (Shp.emb ⟨ks,[]⟩ t).1 vals):Calls P f vals.toArray w λe w'=>e= .returned (.bool true)/\RowKit.Below w.heap.size w w':=by
 refine((B.spec t true C ⟨w,λ_=>False,λ_=>False,λ_=>.no,λ_=>False⟩ vals ⟨λid e h=>(by rw[show(Shp.emb ⟨ks,[]⟩ t).2=[] from rfl,cgZ] at h;cases h),λi E e e' g G n I D n' _ h=>(by simp_all),λid _=>.inl rfl,λg h=>h,λi x h=>by simp_all[Shp.emb,kY,bF],λi h=>by simp_all[Shp.emb,kY,bM],λ_ _ _ h=>h,λ_ _ _=>rfl⟩ hv λ_ h=>h).calls hb).mono ?_;rintro K w' ⟨v,z',rfl,rfl,hn,_,j⟩
 let⟨_,j⟩:=j
 have j:bE z' (.p .bool true) v:=j;refine⟨by rw[j.v.bool],⟨hn.os,hn.tape.1,hn.output,hn.size,λb hb=>hn.block b hb λh=>h⟩⟩
end
open Go.ChangeShapes Go.WideShapes Go.ChangeAt Go.RowKit
section
variable {H : Type} {enc : TypeId × Value → H} {P : Program}
theorem eCZ(G:laidOutB P=true){W W'}{I}(hb:Below W.heap.size W W'):
 ∀(j) (vs) (C) (B),DataW.TrodAll enc P W 0 (λ_=>true) true j vs C B->
  (∀t∈j,P.readableRec t=true/\t<P.types.size)->(∀x∈B,x.block<W.heap.size/\I x.block=true)->DataW.TrodAll enc P W' 0 I true j vs C B
 |[],vs,C,B,h,_,_=>by
  obtain⟨rfl,rfl,rfl⟩:=trodAll_nil h;exact trodAll_mk0
 |t::j,vs,C,B,h,K,hp=>by
  obtain⟨v,D,d,E,p,q,rfl,rfl,rfl,h0,L⟩:=trodAll_cons h;have ht:=K t (by simp);exact trodAll_cons_mk (WideElems.Trod_stays G ht.1 ht.2 h0 (λx hx=>hb.same (hp x (by simp[hx])).1) (λx hx=>(hp x (by simp[hx])).2))
   (eCZ G hb j D E q L (λN O=>K N (by simp[O])) λx hx=>hp x (by simp[hx]))
theorem ivZ{f}{s:ChangeSpec}{h K B L:Bool}{W W':World}{C:Array Value}{v:Value}{O R:List (DataW H)}{d pa pv:List MemPlace}
 (V:DataW.Whole enc P f.params.toList s.vars h W C.toList O R d)
 (G:∀(b:Nat) (N:Nat->Bool) (hd:Bool),DataW.TrodAll enc P W' b N hd f.resultTypes.toList (v.resultList f.resultTypes.size) (s.fn H (O++R)).results [])
 (D:∀N:Nat->Bool,(∀p∈d,N p.block=true)->DataW.TrodAll enc P W' 0 N true f.params.toList C.toList (s.fn H (O++R)).args pa)
 (E:∀N:Nat->Bool,(∀p∈d,N p.block=true)->DataW.TrodVars enc P W' N s.vars (s.fn H (O++R)).vars pv)
 (T:d=pa++pv)(hb:Below W.heap.size W W')
 (X:∀(j:Nat) (t:TypeId) (r:Value),f.resultTypes[j]? =some t->(v.resultList f.resultTypes.size)[j]? =some r->Value.okWide P W' .any 0 t r):
 s.post enc P f h K B L W C v W':=by
 have Y:∀p∈d,p.block<W.heap.size:=λp hp=>V.lt p hp;have I:∀p∈d,(λb=>decide (b<W.heap.size)) p.block=true:=λp hp=>by simp_all
 refine⟨O,R,d,[],pa,pv,V,G _ _ _,D _ I,E _ I,World.keptBut_mono (λp hp=>⟨hp,?_⟩) (hb.frame (·∈d)),λ_=> ?_⟩
 .simp_all
 .obtain⟨_,_,_,_,_,hz,hn⟩:=V;refine⟨X,_,_,([]++pa)++pv,⟨[]++pa,pv,trodAll_append (D _ (λ_ _=>rfl)) (G _ _ _),E _ (λ_ _=>rfl),rfl,?_,?_⟩,?_⟩
  .intro b off hp;have U:MemPlace.cell b off∈d:=by rw[T];simpa using hp
   rw[hb.frozen (Y _ U)];exact hz b off U
  .intro ha;have:=hn ha;rw[T] at this;simpa using this
  simp_all
theorem law_post(V:laidOutB P=true){f}{s:ChangeSpec}{B}{W W'}{C}{E K}{d}
 (h:P.underlying B=some .bool)(D:f.resultTypes=#[B])(L:∀t∈f.params.toList,P.readableRec t=true/\t<P.types.size)(j:s.vars=[])
 (G:(s.fn H (E++K)).results=[.lit (.bool true)]/\(s.fn H (E++K)).args=E/\(s.fn H (E++K)).vars=[])
 (N:DataW.Whole enc P f.params.toList s.vars false W C.toList E K d)(hb:Below W.heap.size W W'):
 s.post enc P f false true false false W C (.bool true) W':=by
 have T:∀p∈d,p.block<W.heap.size:=λp hp=>N.lt p hp;have O:=N;obtain⟨p,q,X,R,I,_,_⟩:=N;rw[j] at R;obtain⟨rfl,rfl⟩:=trodVars_none R;rw[ZAs] at I;subst I;refine ivZ (pa:=d) (pv:=[]) O ?_ ?_ ?_ (by simp) hb ?_
 .intro b U Y;rw[G.1,D];exact trodAll_mk1 (shut_bool h _)
 .grind[eCZ]
 .intro U _;rw[j,G.2.2]
  rfl
 .exact ok_one D rfl (okWide_bool_mk h _)
end
open Go.Proofs Go.Shelf Go.Sort
abbrev rL:Ty:=.pair (.int .i64) (.int .i64)
def oW(x:Int×Int):List Value:=[.int .i64 x.1,.int .i64 x.2]
theorem clII{w}{M}{ρ}{x:Int×Int}{vs}:Cl w M ρ rL x vs↔vs=oW x:=by
 constructor
 .rintro⟨u,v,rfl,d,h2⟩;subst d;subst h2;rfl
 .rintro rfl;exact⟨[.int .i64 x.1],[.int .i64 x.2],rfl,rfl,rfl⟩
theorem vQZ{z}(x:Int×Int):bE z (.p rL x) (.agg (oW x).toArray):=.p _ _ _ ⟨_,clII.2 rfl,rfl⟩
theorem wsZ{z}{a b}{vals}(h:bQ z [a,b] vals):∃u v,vals=[u,v]/\bE z a u/\bE z b v:=by
 let⟨d,h2⟩:=h
 match vals,d,h2 with
 |[u,v],_,h2=>exact⟨u,v,rfl,h2 0 a u rfl rfl,h2 1 b v rfl rfl⟩
theorem suZ{w w':World}(p:w'.os=w.os)(h2:w'.tape=w.tape)(E:w.drawn<=w'.drawn)(h4:w'.output=w.output)(h5:w.heap.size<=w'.heap.size)(B:∀b,b<w.heap.size->w'.heap[b]? =w.heap[b]?):
 ∃q C,w'=grow (w.drewN q) C:=by
 refine⟨w'.drawn-w.drawn,w'.heap.extract w.heap.size w'.heap.size,?_⟩;obtain⟨h,D,d,C,j⟩:=w';simp only at p h2 E h4 h5 B;subst p;subst h2;subst h4;unfold grow;have G:(w.drewN (d-w.drawn)).heap=w.heap:=by rfl
 have I:(w.drewN (d-w.drawn)).drawn=d:=by show w.drawn+(d-w.drawn)=d;omega
 have K:(w.drewN (d-w.drawn)).tape=w.tape/\(w.drewN (d-w.drawn)).os=w.os/\(w.drewN (d-w.drawn)).output=w.output:=⟨rfl,rfl,rfl⟩;have hh:h=w.heap++h.extract w.heap.size h.size:=by
  apply Array.ext_getElem?;intro i;by_cases hi:i<w.heap.size
  .rw[B i hi,ZBS hi]
  .rw[Array.getElem?_append_right (by omega),Array.getElem?_extract];by_cases L:i<h.size
   .rw[ZAL (by omega)];congr 1;omega
   .rw[ZAJ (by omega),Array.getElem?_eq_none (by omega)]
 grind
theorem giZ(e)(id):bP [(0,some e)] id=if id=0 then some e else none:=by
 have p:0<bA:=by simp[bA]
 have d:∀j,j≠0->bF [(0,some e)] j=none:=λj B=>by simp_all[bF,ahZ,ZBk]
 by_cases hi:id=0
 .subst hi
  rfl
 .rw[ZAJ hi];by_cases h:bC<=id
  .rw[a9Z h,d _ (by have:=(bFZ h).1;omega)];rfl
  simp_all[bP,ZAJ]
section
variable {P : Program} {ρr : Ren}
theorem kEZ{F}{cs}{k}(hk):(putCells id 0 F cs)[k]? =some (if k<F.size then F[k]! else cs[k]):=by
 unfold putCells
 simp_all
end
end Go.Ab
namespace Go.Proofs
open Go.Shelf
structure InsLay (P:Program) (ρ:Ren):Prop where
 mixed:P.follows .mixedOrders=true
 f22:Bears P (ρ.f 22) (Body2.n22 ρ)
 x29:(P.funcs[ρ.f 29]?.map fun fn=>(fn.name== "runtime.NumGoroutine",fn.body.isNone,(Extern.findNext fn).isNone,Extern.find fn))=some (false,true,true,some (Extern.SlicesOverlaps.overlaps #[(ρ.t 24),(ρ.t 24)] #[(ρ.t 4)]))
 t0:P.underlying (ρ.t 0)=some (TypeDesc.tuple #[])
 a0:∀w,(isAgg (ρ.t 0)).run P w= .ok false w
 z0:∀w,(Go.sizeOf (ρ.t 0)).run P w= .ok 1 w
 v0:∀w,(zeroValue (ρ.t 0)).run P w= .ok (Value.tuple #[]) w
 t3:P.underlying (ρ.t 3)=some (TypeDesc.int IntKind.i64)
 a3:∀w,(isAgg (ρ.t 3)).run P w= .ok false w
 z3:∀w,(Go.sizeOf (ρ.t 3)).run P w= .ok 1 w
 v3:∀w,(zeroValue (ρ.t 3)).run P w= .ok (Value.int IntKind.i64 0) w
 t4:P.underlying (ρ.t 4)=some (TypeDesc.bool)
 a4:∀w,(isAgg (ρ.t 4)).run P w= .ok false w
 z4:∀w,(Go.sizeOf (ρ.t 4)).run P w= .ok 1 w
 v4:∀w,(zeroValue (ρ.t 4)).run P w= .ok (Value.bool false) w
 t24:P.underlying (ρ.t 24)=some (TypeDesc.slice (ρ.t 9))
 a24:∀w,(isAgg (ρ.t 24)).run P w= .ok false w
 z24:∀w,(Go.sizeOf (ρ.t 24)).run P w= .ok 1 w
 v24:∀w,(zeroValue (ρ.t 24)).run P w= .ok (Value.slice none 0 0) w
open Go.Shelf Go.RowKit Go.Lib
variable {P : Program} {ρ : Ren}
theorem dnZ(Z)(q):(Builtin.zeroCells Z q).size=q*Z.size:=by
 rw[Builtin.zeroCells]
 simp_all
theorem dKZ(w)(dT sT ty elem)(b o dLen dCap)(a)(sLen sCap k)(cs)
 (B:P.underlying dT=some (.slice elem))(C:(P.info? elem).map (·.size)=some k)(D:cs.length=Nat.min sLen dLen*k)
 (d:∀j v,cs[j]? =some v->w.cell? (a.add j)=some v)(I:∀j,j<cs.length->(w.cell? ⟨b,o+j,none⟩).isSome=true)(K:∀j,j<cs.length->w.frozen? ⟨b,o+j,none⟩=false)(E:∀v∈cs,v.oneCell'=true):
 (Builtin.copy_ #[dT,sT] ty #[.slice (some ⟨b,o,none⟩) dLen dCap,.slice (some a) sLen sCap]).run P w= .ok (goInt (Nat.min sLen dLen)) (w.setCells b o cs):=by
 have G:=run_firstCells_some (P:=P) w k (Nat.min sLen dLen) a sLen sCap cs D d;have h:=run_storeCells_cells (P:=P) b o cs 0 w (by omega) (by omega) E;cases p:P.info? elem with
 |none=>simp_all
 |some i=>
  have hi:=by simpa[p] using C
  simp[Builtin.copy_,run_underlying B,Builtin.lenOf,sizeOf,typeInfo,p,hi,G,h]
theorem InsLay.overlaps(L:InsLay P ρ){a b}{w w'}{v}(h:(Extern.SlicesOverlaps.overlaps #[(ρ.t 24),(ρ.t 24)] #[(ρ.t 4)] #[a,b]).run P w= .ok v w'):(callFunc (ρ.f 29) #[a,b]).run P w= .ok (.value v) w':=by
 have hx:=L.x29;cases d:P.funcs[ρ.f 29]? with
 |none=>simp_all
 |some fn=>
  rw[d] at hx;simp only[Option.map_some,Option.some.injEq,Prod.mk.injEq] at hx
  let⟨j,h2,p,h4⟩:=hx
  rw[run_callFunc_extern d j h2 (by simp_all) h4,h]
  rfl
section
variable (L : InsLay P ρ) {k : Nat} (hk : 0 < k) (z9 : ∀ w, (Go.sizeOf (ρ.t 9)).run P w = .ok k w) {ag : Bool} (a9 : ∀ w, (isAgg (ρ.t 9)).run P w = .ok ag w) (hsz : (P.info? (ρ.t 9)).map (·.size) = some k)
include L hk z9 a9 hsz
set_option maxHeartbeats 4000000 in
set_option maxRecDepth 100000 in
theorem kUZ(b n c i vb m vc:Nat)(cs vs:List Value)(w:World)(hi:i<n)(hm:0<m)(hroom:n+m<=c)(hc63:c<=9223372036854775807)(hvb:vb≠b)
 (hcl:cs.length=n*k)(hvl:vs.length=m*k)
 (hcs:∀j v,cs[j]? =some v->w.cell? ⟨b,j,none⟩=some v)(hsp:∀j,j<(n+m)*k->(w.cell? ⟨b,j,none⟩).isSome=true)(hfz:∀j,j<(n+m)*k->w.frozen? ⟨b,j,none⟩=false)
 (hvs:∀j v,vs[j]? =some v->w.cell? ⟨vb,j,none⟩=some v)(h1c:∀v∈cs,v.oneCell'=true)(h1v:∀v∈vs,v.oneCell'=true)
 (tA tB:TypeId)(kA kB:Nat)(hsa:w.shape? vb=some (tA,kA))(hsb:w.shape? b=some (tB,kB))(hkB:kB≠0)(hfa:w.frozen? ⟨vb,0,none⟩=false)(hfe:w.frozen? ⟨vb,kA,none⟩=false):
 Calls P (ρ.f 22) #[.slice (some ⟨b,0,none⟩) n c,.int .i64 i,.slice (some ⟨vb,0,none⟩) m vc] w fun e w'=>
  e= .returned (.slice (some ⟨b,0,none⟩) (n+m) c)/\w'=(w.drew.setCells b ((i+m)*k) (cs.drop (i*k))).setCells b (i*k) vs:=by
 have t0:=L.t0;have a0:=L.a0;have z0:=L.z0;have v0:=L.v0;have t3:=L.t3;have a3:=L.a3;have z3:=L.z3;have v3:=L.v3;have t4:=L.t4;have a4:=L.a4;have z4:=L.z4;have v4:=L.v4;have t24:=L.t24;have a24:=L.a24;have z24:=L.z24;have v24:=L.v24;have u0:=run_underlying L.t0;have u3:=run_underlying L.t3;have u4:=run_underlying L.t4;have u24:=run_underlying L.t24;have hz1:¬((m:Int)=0):=by omega
 have hz2:¬((i:Int)=(n:Int)):=by omega
 have hov:∀lb cb,(callFunc (ρ.f 29) #[.slice (some ⟨vb,0,none⟩) m vc,.slice (some ⟨b,(i+m)*k,none⟩) lb cb]).run P w= .ok (.value (.bool false)) w:=fun lb cb=>
  L.overlaps (Lib.run_overlaps_apart w (ρ.t 24) (ρ.t 4) (ρ.t 9) L.t24 k z9 ⟨vb,0,none⟩ ⟨b,(i+m)*k,none⟩ m vc lb cb hvb tA tB kA kB hsa hsb hkB hfa hfe)
 have hdl:(cs.drop (i*k)).length=(n-i)*k:=by rw[List.length_drop,hcl,Nat.sub_mul]
 have mixed:=L.mixed;have hw1:IntKind.i64.wrap ((i:Int)+(m:Int))=(i:Int)+(m:Int):=by rw[IntKind.wrap_i64];omega
 have hb1:(0:Int)<=(i:Int)+(m:Int):=by omega
 have hin:i<=n:=by omega
 have htn:((i:Int)+(m:Int)).toNat=i+m:=by omega
 have hb2:¬(c=i+m):=by omega
 have hb3:(i:Int)<=(n:Int)+(m:Int):=by omega
 have hb4:¬(c=i):=by omega
 have hmin:Nat.min (n+m-i) (n+m-(i+m))=n-i:=by simp only[Nat.min_def];split<;>omega
 have hmin2:Nat.min m (n+m-i)=m:=by simp only[Nat.min_def];split<;>omega
 have hnm:(n+m)*k=(i+m)*k+(n-i)*k:=by rw[<-Nat.add_mul];congr 1;omega
 have hnm2:(n+m)*k=i*k+m*k+(n-i)*k:=by rw[<-Nat.add_mul,<-Nat.add_mul];congr 1;omega
 have hcp1:∀ty dc sc,(Builtin.copy_ #[(ρ.t 24),(ρ.t 24)] ty #[.slice (some ⟨b,(i+m)*k,none⟩) (n+m-(i+m)) dc,.slice (some ⟨b,i*k,none⟩) (n+m-i) sc]).run P w.drew= .ok (goInt ((n-i:Nat):Int)) (w.drew.setCells b ((i+m)*k) (cs.drop (i*k))):=fun ty dc sc=>by
  have:=dKZ w.drew (ρ.t 24) (ρ.t 24) ty (ρ.t 9) b ((i+m)*k) (n+m-(i+m)) dc ⟨b,i*k,none⟩ (n+m-i) sc k (cs.drop (i*k)) L.t24 hsz (by rw[hdl,hmin])
   (fun j v hj=>by rw[Addr.add_lit];exact hcs (i*k+j) v (by rwa [List.getElem?_drop] at hj))
   (fun j hj=>hsp _ (by rw[hdl] at hj;omega)) (fun j hj=>hfz _ (by rw[hdl] at hj;omega)) (fun v hv=>h1c v (List.mem_of_mem_drop hv))
  rw[hmin] at this;exact this
 obtain⟨W1,hW1⟩:∃W1,W1=w.drew.setCells b ((i+m)*k) (cs.drop (i*k)):=⟨_,rfl⟩;have hsp1:∀x,x<(n+m)*k->(W1.cell? ⟨b,x,none⟩).isSome=true:=fun x hx=>by
  rw[hW1];exact isSome_setCells b (cs.drop (i*k)) ((i+m)*k) w.drew (fun j hj=>hsp _ (by rw[hdl] at hj;omega)) _ (hsp x hx)
 have hcp2:∀(W:World),(∀x,W.cell? x=W1.cell? x)->(∀x,W.frozen? x=W1.frozen? x)->∀ty dc,(Builtin.copy_ #[(ρ.t 24),(ρ.t 24)] ty #[.slice (some ⟨b,i*k,none⟩) (n+m-i) dc,.slice (some ⟨vb,0,none⟩) m vc]).run P W= .ok (goInt m) (W.setCells b (i*k) vs):=fun W hWc hWf ty dc=>by
  have:=dKZ W (ρ.t 24) (ρ.t 24) ty (ρ.t 9) b (i*k) (n+m-i) dc ⟨vb,0,none⟩ m vc k vs L.t24 hsz (by rw[hvl,hmin2])
   (fun j v hj=>by
    rw[Addr.add_lit,hWc,hW1,World.cell?_setCells_out b _ _ _ _ (fun h _=>absurd h hvb),Nat.zero_add];exact hvs j v hj)
   (fun j hj=>by rw[hWc];exact hsp1 _ (by omega)) (fun j hj=>by rw[hWf,hW1,World.frozen?_setCells];exact hfz _ (by omega)) h1v
  rw[hmin2] at this;exact this
 rw[<-hW1] at hcp1;obtain⟨nm,hnm9,F22⟩:=L.f22
 go_enter F22,Body2.n22_ntmps ρ
 go_wp2_with (simp only[hov])
 go_region_law_o (refine step_copy_runI rfl _ _ (ρ.t 24) (ρ.t 24) rfl _ _ (by simp[Act.eval,Act.put]) (by simp[Act.eval,Act.put]) (hcp1 _ _ _) ?_)
 go_wp2_with (at_builtin;refine wpList_copy_runI _ rfl _ _ (ρ.t 24) (ρ.t 24) rfl _ _ rfl rfl (hcp2 _ (fun _=>rfl) (fun _=>rfl) _ _) ?_)
 go_ret
 first|exact⟨rfl,rfl⟩|exact⟨rfl,by rw[hW1]⟩
omit hk z9 a9 hsz in
include L a9 z9 in
set_option maxHeartbeats 4000000 in
set_option maxRecDepth 100000 in
theorem fzZ{D:TypeInfo}(G:P.info? (ρ.t 9)=some D)(d:D.size=k)(b n c p m E:Nat)(vs:List Value)(w:World)(hm:0<m)(h:n+m<=c)(V:c<=9223372036854775807)
 (I:vs.length=m*k)(K:∀j,j<m*k->(w.cell? ⟨b,n*k+j,none⟩).isSome=true)(N:∀j,j<m*k->w.frozen? ⟨b,n*k+j,none⟩=false)
 (O:∀j v,vs[j]? =some v->w.cell? ⟨p,j,none⟩=some v)(R:∀v∈vs,v.oneCell'=true):
 Calls P (ρ.f 22) #[.slice (some ⟨b,0,none⟩) n c,.int .i64 n,.slice (some ⟨p,0,none⟩) m E] w λe w'=>
  e= .returned (.slice (some ⟨b,0,none⟩) (n+m) c)/\w'=w.setCells b (n*k) vs:=by
 have t0:=L.t0;have a0:=L.a0;have z0:=L.z0;have v0:=L.v0;have t3:=L.t3;have a3:=L.a3;have z3:=L.z3;have v3:=L.v3;have t4:=L.t4;have a4:=L.a4;have z4:=L.z4;have v4:=L.v4;have X:=L.t24;have Y:=L.a24;have aa:=L.z24;have ab:=L.v24;have u0:=run_underlying L.t0;have u3:=run_underlying L.t3;have u4:=run_underlying L.t4;have ac:=run_underlying L.t24;have T:=L.mixed;have ad:¬((m:Int)=0):=by omega
 have B:Src P D.size (ρ.t 24) (.slice (some ⟨p,0,none⟩) m E) m vs w:=by
  rw[d];exact Src.ofSlice w L.t24 ⟨p,0,none⟩ m E vs I (λj u U=>by rw[Addr.add_lit,Nat.zero_add];exact O j u U) R
 have C:∀ty,(Builtin.append_ #[(ρ.t 24),(ρ.t 24)] ty #[.slice (some ⟨b,0,none⟩) n c,.slice (some ⟨p,0,none⟩) m E]).run P w= .ok (.slice (some ⟨b,0,none⟩) (n+m) c) (w.setCells b (n*k) vs):=λty=>by
  have:=run_append_room_src w (ρ.t 24) (ρ.t 24) ty (ρ.t 9) D L.t24 G b 0 n c _ m vs B h (λj U=>by rw[d,Nat.zero_add];exact K j (by omega)) (λj U=>by rw[d,Nat.zero_add];exact N j (by omega));rw[d,Nat.zero_add] at this;exact this
 obtain⟨nm,W,F22⟩:=L.f22
 go_enter F22,Body2.n22_ntmps ρ
 go_wp2_with (at_builtin;refine Lib.wpList_append_run _ rfl _ _ _ _ rfl _ _ rfl rfl _ _ (C _) ?_)
 go_ret
 exact⟨rfl,rfl⟩
omit hk z9 a9 hsz in
include L a9 z9 in
set_option maxHeartbeats 4000000 in
set_option maxRecDepth 100000 in
theorem cwZ{E:TypeInfo}{zv:Value}{Zc:Array Value}(hZ:Zc=zv.cells)(T:P.info? (ρ.t 9)=some E)(G:E.size=k)(I:E.zero=some zv)(d:Option Addr)(n c K m R:Nat)(cs vs:List Value)(w:World)(hm:0<m)(ac:n<=c)(h:c<n+m)(N:(n+m)*E.bytes<=140737488355328)(ad:n+m<=140737488355328)
 (O:cs.length=n*k)(U:vs.length=m*k)(p:d=none->n=0)
 (V:∀a,d=some a->∀j v,cs[j]? =some v->w.cell? (a.add j)=some v)
 (W:∀j v,vs[j]? =some v->w.cell? ⟨K,j,none⟩=some v)(X:∀v∈vs,v.oneCell'=true):
 Calls P (ρ.f 22) #[.slice d n c,.int .i64 n,.slice (some ⟨K,0,none⟩) m R] w λe w'=>
  e= .returned (.slice (some ⟨w.heap.size,0,none⟩) (n+m) (grownCap w (n+m) c (ρ.t 9)))/\
  w'=w.drew.alloc (.cells ((cs++vs).toArray++Builtin.zeroCells Zc (grownCap w (n+m) c (ρ.t 9)-(n+m))) (ρ.t 9)):=by
 have t0:=L.t0;have a0:=L.a0;have z0:=L.z0;have v0:=L.v0;have t3:=L.t3;have a3:=L.a3;have z3:=L.z3;have v3:=L.v3;have t4:=L.t4;have a4:=L.a4;have z4:=L.z4;have v4:=L.v4;have ae:=L.t24;have af:=L.a24;have ag:=L.z24;have ah:=L.v24;have u0:=run_underlying L.t0;have u3:=run_underlying L.t3;have u4:=run_underlying L.t4;have ai:=run_underlying L.t24;have Y:=L.mixed;have aj:¬((m:Int)=0):=by omega
 have B:Src P E.size (ρ.t 24) (.slice (some ⟨K,0,none⟩) m R) m vs w:=by
  rw[G];exact Src.ofSlice w L.t24 ⟨K,0,none⟩ m R vs U (λj u hj=>by rw[Addr.add_lit,Nat.zero_add];exact W j u hj) X
 have C:(Builtin.firstCells E.size n (.slice d n c)).run P w.drew= .ok cs.toArray w.drew:=by
  rw[G];cases d with
  |none=>
   have h0:=p rfl;subst h0;obtain rfl:cs=[]:=List.eq_nil_of_length_eq_zero (by rw[O,Nat.zero_mul]);exact run_firstCells_none w.drew k 0 0 c
  |some a=>exact run_firstCells_some w.drew k n a n c cs O (λj v hj=>V a rfl j v hj)
 have D:∀ty,(Builtin.append_ #[(ρ.t 24),(ρ.t 24)] ty #[.slice d n c,.slice (some ⟨K,0,none⟩) m R]).run P w= .ok (.slice (some ⟨w.heap.size,0,none⟩) (n+m) (grownCap w (n+m) c (ρ.t 9))) (w.drew.alloc (.cells ((cs++vs).toArray++Builtin.zeroCells Zc (grownCap w (n+m) c (ρ.t 9)-(n+m))) (ρ.t 9))):=λty=>by
  rw[hZ];exact run_append_grow_src w (ρ.t 24) (ρ.t 24) ty (ρ.t 9) E _ L.t24 T I d n c cs C _ m vs B h (by omega) (growslice_fits h N)
 clear C B I hZ;obtain⟨nm,aa,F22⟩:=L.f22
 go_enter F22,Body2.n22_ntmps ρ
 cases d with
 |none=>
  have h0:=p rfl;subst h0
  go_wp2_with (at_builtin;refine Lib.wpList_append_run _ rfl _ _ _ _ rfl _ _ rfl rfl _ _ (D _) ?_)
  all_goals(go_ret;exact⟨rfl,rfl⟩)
 |some a=>
  obtain⟨ab,ao,ak⟩:=a
  go_wp2_with (at_builtin;refine Lib.wpList_append_run _ rfl _ _ _ _ rfl _ _ rfl rfl _ _ (D _) ?_)
  all_goals(go_ret;exact⟨rfl,rfl⟩)
set_option maxHeartbeats 4000000 in
set_option maxRecDepth 100000 in
theorem nCZ{i0:TypeInfo}{zv:Value}{Zc:Array Value}(hZ:Zc=zv.cells)(hi0:P.info? (ρ.t 9)=some i0)(hs0:i0.size=k)(hz0:i0.zero=some zv)(hzl:Zc.size=k)(b n c i vb m vc:Nat)(cs vs:List Value)(w:World)(hi:i<n)(hm:0<m)(hnc:n<=c)(hroom:c<n+m)(hbig:(n+m)*i0.bytes<=140737488355328)(h48:n+m<=140737488355328)
 (hcl:cs.length=n*k)(hvl:vs.length=m*k)
 (hcs:∀j v,cs[j]? =some v->w.cell? ⟨b,j,none⟩=some v)
 (hvs:∀j v,vs[j]? =some v->w.cell? ⟨vb,j,none⟩=some v)(h1c:∀v∈cs,v.oneCell'=true)(h1v:∀v∈vs,v.oneCell'=true):
 Calls P (ρ.f 22) #[.slice (some ⟨b,0,none⟩) n c,.int .i64 i,.slice (some ⟨vb,0,none⟩) m vc] w fun e w'=>
  e= .returned (.slice (some ⟨w.heap.size,0,none⟩) (n+m) (grownCap w (n+m) c (ρ.t 9)))/\
  w'=(((w.alloc (.cells ((cs.take (i*k)).toArray++Builtin.zeroCells Zc (n+m-i)++Builtin.zeroCells Zc (grownCap w (n+m) c (ρ.t 9)-(n+m))) (ρ.t 9))).drew.setCells w.heap.size (i*k) vs).drew).setCells w.heap.size ((i+m)*k) (cs.drop (i*k)):=by
 have t0:=L.t0;have a0:=L.a0;have z0:=L.z0;have v0:=L.v0;have t3:=L.t3;have a3:=L.a3;have z3:=L.z3;have v3:=L.v3;have t4:=L.t4;have a4:=L.a4;have z4:=L.z4;have v4:=L.v4;have t24:=L.t24;have a24:=L.a24;have z24:=L.z24;have v24:=L.v24;have u0:=run_underlying L.t0;have u3:=run_underlying L.t3;have u4:=run_underlying L.t4;have u24:=run_underlying L.t24;have mixed:=L.mixed;have hz1:¬((m:Int)=0):=by omega
 have hz2:¬((i:Int)=(n:Int)):=by omega
 have hz3:(c:Int)<(n:Int)+(m:Int):=by omega
 have hik0:i*k<n*k:=Nat.mul_lt_mul_of_pos_right hi hk;have hmk0:0<m*k:=Nat.mul_pos hm hk;have hbw:b<w.heap.size:=block_lt_of_cell (hcs 0 _ (List.getElem?_eq_getElem (by omega)));have hvw:vb<w.heap.size:=block_lt_of_cell (hvs 0 _ (List.getElem?_eq_getElem (by omega)));have hkk:(n:Int)+(m:Int)-(i:Int)=((n+m-i:Nat):Int):=by omega
 have hik:i+(n+m-i)=n+m:=by omega
 have hold:(Builtin.firstCells i0.size i (.slice (some ⟨b,0,none⟩) i c)).run P w.drew= .ok (cs.take (i*k)).toArray w.drew:=by
  rw[hs0];exact run_firstCells_some w.drew k i ⟨b,0,none⟩ i c (cs.take (i*k)) (by rw[List.length_take];omega) (fun j v hj=>by
   rw[Addr.add_lit,Nat.zero_add];rw[List.getElem?_take] at hj;split at hj
   ·exact hcs j v hj
   ·cases hj)
 have hrz:∀ty,(Builtin.append_ #[(ρ.t 24),(ρ.t 3)] ty #[.slice (some ⟨b,0,none⟩) i c,.int .i64 ((n:Int)+(m:Int)-(i:Int))]).run P w=
  .ok (.slice (some ⟨w.heap.size,0,none⟩) (n+m) (grownCap w (n+m) c (ρ.t 9))) (w.drew.alloc (.cells ((cs.take (i*k)).toArray++Builtin.zeroCells Zc (n+m-i)++Builtin.zeroCells Zc (grownCap w (n+m) c (ρ.t 9)-(n+m))) (ρ.t 9))):=fun ty=>by
  have h:=Lib.run_append_grow_zeros w (ρ.t 24) (ρ.t 3) ty (ρ.t 9) i0 _ .i64 .i64 L.t24 L.t3 hi0 hz0 (some ⟨b,0,none⟩) i c (cs.take (i*k)) hold (n+m-i) (by omega) (by omega) (by omega) (by omega) (by
   have:(n+m-i)*i0.bytes<=(n+m)*i0.bytes:=Nat.mul_le_mul_right _ (by omega);omega) (by rw[hik];exact growslice_fits hroom hbig)
  rw[hik] at h;rw[hkk,hZ];exact h
 obtain⟨G,hG⟩:∃G,G=grownCap w (n+m) c (ρ.t 9):=⟨_,rfl⟩;obtain⟨ROW,hROW⟩:∃ROW:Array Value,ROW=(cs.take (i*k)).toArray++Builtin.zeroCells Zc (n+m-i)++Builtin.zeroCells Zc (G-(n+m)):=⟨_,rfl⟩;rw[<-hG] at hrz⊢;rw[<-hROW] at hrz⊢;have hzc:∀q,(Builtin.zeroCells Zc q).size=q*k:=fun q=>by rw[dnZ,hzl]
 have hnm:(n+m)*k=(i+m)*k+(n-i)*k:=by rw[<-Nat.add_mul];congr 1;omega
 have hnm2:(n+m)*k=i*k+m*k+(n-i)*k:=by rw[<-Nat.add_mul,<-Nat.add_mul];congr 1;omega
 have hnm3:(n+m)*k=i*k+(n+m-i)*k:=by rw[<-Nat.add_mul];congr 1;omega
 have hRl:(n+m)*k<=ROW.size:=by
  rw[hROW,Array.size_append,Array.size_append,hzc,hzc,List.size_toArray,List.length_take];omega
 obtain⟨W1,hW1⟩:∃W1,W1=w.drew.alloc (.cells ROW (ρ.t 9)):=⟨_,rfl⟩;rw[<-hW1] at hrz;have hN:∀j,j<(n+m)*k->(W1.cell? ⟨w.heap.size,j,none⟩).isSome=true:=fun j hj=>by
  rw[hW1,World.cell?_alloc_at (w:=w.drew) ROW _ w.heap.size j rfl,Array.getElem?_eq_getElem (by omega)];rfl
 have hNf:∀j,W1.frozen? ⟨w.heap.size,j,none⟩=false:=fun j=>by rw[hW1];exact World.frozen?_alloc_at (w:=w.drew) ROW _ w.heap.size j rfl
 have hOb:∀j v,w.cell? ⟨b,j,none⟩=some v->W1.cell? ⟨b,j,none⟩=some v:=fun j v h=>by rw[hW1,World.cell?_alloc_past (w:=w.drew) _ b j hbw];exact h
 have hOv:∀j v,w.cell? ⟨vb,j,none⟩=some v->W1.cell? ⟨vb,j,none⟩=some v:=fun j v h=>by rw[hW1,World.cell?_alloc_past (w:=w.drew) _ vb j hvw];exact h
 have hminA:Nat.min m (n+m-i)=m:=by simp only[Nat.min_def];split<;>omega
 have hminB:Nat.min (n-i) (n+m-(i+m))=n-i:=by simp only[Nat.min_def];split<;>omega
 have hcpA:∀(W:World),(∀x,W.cell? x=W1.cell? x)->(∀x,W.frozen? x=W1.frozen? x)->∀ty dc,(Builtin.copy_ #[(ρ.t 24),(ρ.t 24)] ty #[.slice (some ⟨w.heap.size,i*k,none⟩) (n+m-i) dc,.slice (some ⟨vb,0,none⟩) m vc]).run P W= .ok (goInt m) (W.setCells w.heap.size (i*k) vs):=fun W hWc hWf ty dc=>by
  have:=dKZ W (ρ.t 24) (ρ.t 24) ty (ρ.t 9) w.heap.size (i*k) (n+m-i) dc ⟨vb,0,none⟩ m vc k vs L.t24 hsz (by rw[hvl,hminA])
   (fun j v hj=>by rw[Addr.add_lit,hWc,Nat.zero_add];exact hOv _ v (hvs j v hj))
   (fun j hj=>by rw[hWc];exact hN _ (by omega)) (fun j hj=>by rw[hWf];exact hNf _) h1v
  rw[hminA] at this;exact this
 have hGn:n+m<=G:=by rw[hG];exact grownCap_ge w _ _ _
 have hG63:G<=9223372036854775807:=by
  have:=grownCap_le_maxLen w (n+m) c (ρ.t 9) (by unfold maxLen;omega);rw[<-hG] at this;unfold maxLen at this;omega
 have hGi:¬(G=i):=by omega
 have hGim:¬(G=i+m):=by omega
 have hci:¬(c=i):=by omega
 have hbN:b≠w.heap.size:=by omega
 have hdl:(cs.drop (i*k)).length=(n-i)*k:=by rw[List.length_drop,hcl,Nat.sub_mul]
 have hcpB:∀(W:World),(∀x,W.cell? x=(W1.setCells w.heap.size (i*k) vs).cell? x)->(∀x,W.frozen? x=(W1.setCells w.heap.size (i*k) vs).frozen? x)->∀ty dc sc,(Builtin.copy_ #[(ρ.t 24),(ρ.t 24)] ty #[.slice (some ⟨w.heap.size,(i+m)*k,none⟩) (n+m-(i+m)) dc,.slice (some ⟨b,i*k,none⟩) (n-i) sc]).run P W= .ok (goInt ((n-i:Nat):Int)) (W.setCells w.heap.size ((i+m)*k) (cs.drop (i*k))):=fun W hWc hWf ty dc sc=>by
  have:=dKZ W (ρ.t 24) (ρ.t 24) ty (ρ.t 9) w.heap.size ((i+m)*k) (n+m-(i+m)) dc ⟨b,i*k,none⟩ (n-i) sc k (cs.drop (i*k)) L.t24 hsz (by rw[hdl,hminB])
   (fun j v hj=>by
    rw[Addr.add_lit,hWc,World.cell?_setCells_out _ _ _ _ _ (fun h _=>absurd h hbN)];exact hOb _ v (hcs (i*k+j) v (by rwa [List.getElem?_drop] at hj)))
   (fun j hj=>by rw[hWc];exact isSome_setCells w.heap.size vs (i*k) W1 (fun t ht=>hN _ (by omega)) _ (hN _ (by rw[hdl] at hj;omega)))
   (fun j hj=>by rw[hWf,World.frozen?_setCells];exact hNf _) (fun v hv=>h1c v (List.mem_of_mem_drop hv))
  rw[hminB] at this;exact this
 subst hW1;have hE1:∀x,((w.alloc (.cells ROW (ρ.t 9))).drew).cell? x=(w.drew.alloc (.cells ROW (ρ.t 9))).cell? x:=fun x=>rfl;have hE2:∀x,((w.alloc (.cells ROW (ρ.t 9))).drew).frozen? x=(w.drew.alloc (.cells ROW (ρ.t 9))).frozen? x:=fun x=>rfl;have hF1:∀x,(((w.alloc (.cells ROW (ρ.t 9))).drew.setCells w.heap.size (i*k) vs).drew).cell? x=((w.drew.alloc (.cells ROW (ρ.t 9))).setCells w.heap.size (i*k) vs).cell? x:=fun x=>rfl;have hF2:∀x,(((w.alloc (.cells ROW (ρ.t 9))).drew.setCells w.heap.size (i*k) vs).drew).frozen? x=((w.drew.alloc (.cells ROW (ρ.t 9))).setCells w.heap.size (i*k) vs).frozen? x:=fun x=>rfl;have hw1:IntKind.i64.wrap ((i:Int)+(m:Int))=(i:Int)+(m:Int):=by rw[IntKind.wrap_i64];omega
 have hb1:(0:Int)<=(i:Int)+(m:Int):=by omega
 have hin:i<=n:=by omega
 have htn:((i:Int)+(m:Int)).toNat=i+m:=by omega
 have hb3:(i:Int)<=(n:Int):=by omega
 clear hz0 hZ hkk hik hold hROW hG hRl hnm hnm2 hnm3;obtain⟨nm,hnm9,F22⟩:=L.f22
 go_enter F22,Body2.n22_ntmps ρ
 go_wp2_with (first
  |(at_builtin;refine Lib.wpList_append_run _ rfl _ _ _ _ rfl _ _ rfl rfl _ _ (hrz _) ?_)
  |(at_builtin;refine wpList_copy_runI _ rfl _ _ (ρ.t 24) (ρ.t 24) rfl _ _ rfl rfl (hcpA _ hE1 hE2 _ _) ?_)
  |(at_builtin;refine wpList_copy_runI _ rfl _ _ (ρ.t 24) (ρ.t 24) rfl _ _ rfl rfl (hcpB _ (fun _=>rfl) (fun _=>rfl) _ _ _) ?_))
 go_region_law_o (refine step_copy_runI rfl _ _ (ρ.t 24) (ρ.t 24) rfl (.slice (some ⟨w.heap.size,(i+m)*k,none⟩) (n+m-(i+m)) (G-(i+m))) (.slice (some ⟨b,i*k,none⟩) (n-i) (c-i)) (by simp[Act.eval,Act.put]) (by simp[Act.eval,Act.put]) (hcpB _ hF1 hF2 (ρ.t 3) (G-(i+m)) (c-i)) ?_)
 go_wp2
 go_ret
 exact⟨rfl,rfl⟩
end
end Go.Proofs
namespace Go.Ab
open Go.Proofs Go.Shelf
section
variable {z : Z} {H : Hp}
theorem evZ{H H'}(h:∀j,bF H j=bF H' j)(id):bP H id=bP H' id:=by
 simp_all[bP]
theorem bH.forget(p:bH z H){H2}{a}(T:a<bA)(hg:∀j,bF H2 j=bF H j)(hk:∀j,bM H2 j=(bM H j&& !Nat.beq a j)):bH {z with D:=λk=>z.D k\/k=a} H2:=by
 have h0:=eQZ;have B:∀j,bM H2 j=true->bM H j=true:=λj h=>by simp_all
 refine⟨λid e he=>(p.ent id e (by grind[evZ])).rho rfl rfl (.inl (.eq rfl)) rfl (λ_ _=>rfl) (λ_ _ _ _ _ h=>h),λi N e e' g O n R E n' G U h2=>p.inj i N e e' g O n R E n' G (by grind[evZ]) (by grind[evZ]),λid d=> ?_,p.sub,λid e h=>p.fam id e (by simp_all),λi h=>p.key i (B i h),λi C h=> ?_,p.nos⟩
 .by_cases I:id=a
  .omega
  .have:dX H id=false:=by
    unfold dX at d⊢;by_cases C:bC<=id
    .rw[ZAL C] at d⊢;have K:a≠rt id:=by have:=(bFZ C).1;omega
     rw[hg,hk] at d;have hb:Nat.beq a (rt id)=false:=ahZ K;rw[hb] at d;simpa using d
    .rw[ZAJ C] at d⊢;by_cases L:bA<=id
     .rw[ZAL L]
     .rw[ZAJ L] at d⊢;rw[hk,ahZ (ZBk I)] at d;simpa using d
   rcases p.fresh id this with h2|h2<;>grind
 .rintro(h2|h2)
  .exact p.dyn i C (B _ h) h2
  omega
end
section
variable {w : World} {M : Nat → Prop} {ρ : Rho} {u : Ty}
theorem cI.eq{l}{cs cs'}(h:cI w M ρ u l cs)(he:∀j,j<l.length*u.cells->cs'[j]? =cs[j]?):cI w M ρ u l cs':=λi x hx=>by
 let⟨us,p,h2⟩:=h i x hx
 refine⟨us,p,λj v B=> ?_⟩;have hi:=(ZAC.1 hx).1;have d:=(ZAC.1 B).1;rw[p.len] at d;have C:(i+1)*u.cells<=l.length*u.cells:=ZAe _ hi
 grind
theorem cI.app{l m}{cs d}(h:cI w M ρ u l cs)(B:cs.length=l.length*u.cells)(C:cI w M ρ u m d):cI w M ρ u (l++m) (cs++d):=λi x hx=>by
 by_cases hi:i<l.length
 .rw[ZAS hi] at hx
  let⟨us,p,h2⟩:=h i x hx<;>grind
 .rw[ZAU (by omega)] at hx
  let⟨us,p,h2⟩:=C _ x hx
  refine⟨us,p,λj v D=> ?_⟩;have:=h2 j v D;have e:i*u.cells=cs.length+(i-l.length)*u.cells:=by rw[B,<-Nat.add_mul];congr 1;omega
  rw[e,ZCE,ZAU (by omega),ZA6];exact this
theorem cI.takeC{l}{cs}(h:cI w M ρ u l cs)(q):cI w M ρ u (l.take q) (cs.take (q*u.cells)):=
 (h.take q).eq λj d=>by
  rw[ZAn,ZAL];have:(l.take q).length*u.cells<=q*u.cells:=ZAe _ (by grind);omega
theorem cI.dropC{l}{cs}(h:cI w M ρ u l cs)(q):cI w M ρ u (l.drop q) (cs.drop (q*u.cells)):=λi x hx=>by
 rw[ZAy] at hx
 let⟨us,d,h2⟩:=h _ x hx<;>grind
theorem cI.cut{l}{cs}(h:cI w M ρ u l cs)(D:l.length*u.cells<=cs.length)(h0:0<u.cells):
 cI w M ρ u l (cs.take (l.length*u.cells))/\(cs.take (l.length*u.cells)).length=l.length*u.cells/\∀v∈cs.take (l.length*u.cells),v.oneCell'=true:=by
 refine⟨h.eq λj d=>by rw[ZAn,ZAL d],by rw[ZAQ];omega,λv hv=> ?_⟩
 let⟨j,d⟩:=ZAT hv
 rw[ZAn] at d;split at d
 .rename_i p;have hi:=Nat.div_lt_of_lt_mul (by rw[ZCF];exact p)
  let⟨us,B,h2⟩:=h _ _ (ZAB hi)
  have C:j%u.cells<us.length:=by rw[B.len];exact ZCV _ h0
  have:=h2 _ _ (ZAB C);rw[show j/u.cells*u.cells+j%u.cells=j from by rw[ZCF];exact ZB5 _ _] at this;rw[this] at d;cases d;exact B.one _ (ZBN C)
 simp_all
end
theorem uIZ{z}{a b c}{vals}(h:bQ z [a,b,c] vals):∃u v w,vals=[u,v,w]/\bE z a u/\bE z b v/\bE z c w:=by
 let⟨d,h2⟩:=h
 match vals,d,h2 with
 |[u,v,w],_,h2=>exact⟨u,v,w,rfl,h2 0 a u rfl rfl,h2 1 b v rfl rfl,h2 2 c w rfl rfl⟩
def TO(u:Ty)(d:Nat)(t:Int×(List u.den×List u.den)):Option (List u.den×List u.den):=
 (cO t.1 t.2.1.length).bind λq=>bO (Nat.blt 0 t.2.2.length&&Nat.ble ((t.2.1.length+t.2.2.length)*d) cL&&Nat.ble (t.2.1.length+t.2.2.length) cL) (some (t.2.2,t.2.1.take q++t.2.2++t.2.1.drop q))
section
variable {P : Program} {ρr : Ren}
theorem gbZ(L:InsLay P ρr){u}{by_}{ag:Bool}(h0:0<u.cells)(hub:u≠.byte)(z9:∀w,(Go.sizeOf (ρr.t 9)).run P w= .ok u.cells w)(a9:∀w,(isAgg (ρr.t 9)).run P w= .ok ag w)
 (hi9:(P.info? (ρr.t 9)).map (fun i=>(i.size,i.bytes,i.zero.map fun v=>v.cells.size))=some (u.cells,by_,some u.cells))
 (hent:∃fn c,P.funcs[ρr.f 22]? =some fn/\fn.body=some c/\(fn.name== "runtime.NumGoroutine")=false):
 fF P ⟨ρr.f 22,⟨.cons (.slf u.cells 0) (.cons (.p (.int .i64)) (.cons (.slf u.cells 1) .nil)),[(0,false,.rows (ρr.t 9) u),(1,false,.rows (ρr.t 9) u)]⟩,[⟨.cons (.slf u.cells 2) .nil,[(1,false,.rows (ρr.t 9) u),(2,false,.rows (ρr.t 9) u)]⟩],TO u by_⟩:=by
 refine fF.of hent fun t r hr z vals hH hv hD=> ?_;obtain⟨⟨qi,l,v⟩,rfl⟩:∃t':Int×(List u.den×List u.den),t'=t:=⟨t,rfl⟩;have hr:TO u by_ (qi,(l,v))=some r:=hr;unfold TO at hr;dsimp only at hr;obtain⟨q,hq,hr⟩:=ZAG.1 hr;obtain⟨hr0,hr⟩:=aeZ.1 hr;simp only[ZAF,ZBg,ZAm,show cL=140737488355328 from rfl] at hr0;injection hr with hr;subst hr;have hH:bH z [(0,some ⟨false,.rows (ρr.t 9) u l⟩),(1,some ⟨false,.rows (ρr.t 9) u v⟩)]:=hH;have hv:bQ z [.slf u.cells 0,.p (.int .i64) qi,.slf u.cells 1] vals:=hv;obtain⟨v1,v2,v3,rfl,k1,k2,k3⟩:=uIZ hv;obtain rfl:=k2.v.int;have hqi:0<=qi/\qi<=l.length/\q=qi.toNat:=by
  unfold cO at hq;split at hq
  ·simp_all
  ·grind
 obtain rfl:qi=(q:Int):=by omega
 have hql:q<=l.length:=by omega
 have hg0:bF [(0,some (⟨false,.rows (ρr.t 9) u l⟩:Ent)),(1,some ⟨false,.rows (ρr.t 9) u v⟩)] 0=some ⟨false,.rows (ρr.t 9) u l⟩:=rfl;have hg1:bF [(0,some (⟨false,.rows (ρr.t 9) u l⟩:Ent)),(1,some ⟨false,.rows (ρr.t 9) u v⟩)] 1=some ⟨false,.rows (ρr.t 9) u v⟩:=rfl;obtain⟨i0,hi0,hi0'⟩:=ZAH.1 hi9;simp only[ZA1] at hi0';obtain⟨hs0,hby,hz0⟩:=hi0';obtain⟨zv,hzv,hzl⟩:=ZAH.1 hz0;have hsz:(P.info? (ρr.t 9)).map (·.size)=some u.cells:=by rw[hi0];simp[hs0]
 have hbig:(l.length+v.length)*i0.bytes<=140737488355328:=by rw[hby];exact hr0.1.2
 have hfb:(0:Nat)<bA/\(1:Nat)<bA/\(2:Nat)<bA:=by simp[bA]
 cases k3 with
 |slfV _ _ A hρ=>
  have:v=[]:=(hH.virt hg1 hρ).1
  simp_all
 |slf _ _ g3 sz3 m c3 hρ3 hn3 hs3 hm3=>
 obtain⟨hlt3,hC3,_,cs3,fr3,b1,b2,b3,b4,b5,b6,b7⟩:=hH.real hg1 hρ3;obtain rfl:v.length=m:=b4;have R3:cI z.w z.M z.ρ u v cs3.toList:=fun i x hx=>by grind
 obtain⟨V1,V2,V3⟩:=R3.cut (by grind) h0;generalize hVS:cs3.toList.take (v.length*u.cells)=VS at V1 V2 V3;have hvs:∀j x,VS[j]? =some x->z.w.cell? ⟨g3,j,none⟩=some x:=fun j x hj=>by
  grind[ZAn,bzZ]
 have htup:∀(z':Z) (x:Value),bE z' (.slf u.cells 2) x->bE z' (nL [.slf u.cells 2]) x:=fun z' x h=>h;have fin:∀(w':World) (val:Value) (z':Z),z'.w=w'->bH z' [(0,none),(1,some ⟨false,.rows (ρr.t 9) u v⟩),(2,some ⟨false,.rows (ρr.t 9) u (l.take q++v++l.drop q)⟩)]->Nx z z'->bE z' (.slf u.cells 2) val->
  ∃vv z'',Ending.returned val= .returned vv/\z''.w=w'/\Nx z {z'' with D:=z.D}/\(∀k,z''.D k->k∈bI [(0,false,BKd.rows (ρr.t 9) u),(1,false,BKd.rows (ρr.t 9) u)])/\
   dW.on [⟨.cons (.slf u.cells 2) .nil,[(1,false,.rows (ρr.t 9) u),(2,false,.rows (ρr.t 9) u)]⟩] (v,l.take q++v++l.drop q) fun o x=>bH z'' (o.emb x).2/\bE z'' (nL (o.emb x).1) vv:=fun w' val z' e1 e2 e3 e4=>by
  refine⟨val,{z' with D:=fun k=>z'.D k\/k=0},rfl,e1,?_,fun k hk=> ?_,?_,?_⟩
  ·exact⟨e3.os,e3.tape,e3.output,e3.size,e3.block,e3.subM,e3.subC,e3.keepM,e3.ext,rfl⟩
  ·rcases hk with hk|hk
   ·rw[e3.dom] at hk;exact absurd hk (hD k)
   grind[bI]
  ·have:=e2.forget (a:=0) hfb.1 (H2:=[(1,some ⟨false,.rows (ρr.t 9) u v⟩),(2,some ⟨false,.rows (ρr.t 9) u (l.take q++v++l.drop q)⟩)]) (fun j=>by
    simp only[bF];cases hb:Nat.beq 0 j with
    |false=>rfl
    |true=>
     have:j=0:=(ZCC hb).symm;subst this
     rfl) (fun j=>by
    simp only[bM];cases hb:Nat.beq 0 j with
    |false=>simp
    |true=>
     have:j=0:=(ZCC hb).symm;subst this
     rfl)
   exact this
  ·exact e4.less rfl rfl fun g h=>h
 have hok2:bM [(0,(none:Option Ent)),(1,some ⟨false,.rows (ρr.t 9) u v⟩)] 2=false/\2<bA:=⟨rfl,hfb.2.2⟩;have nD:∀k,¬z.D k:=hD;have h3len:(l.take q++v++l.drop q).length=l.length+v.length:=by simp;omega
 have hVS0:VS.length=v.length*u.cells:=V2;have hvz:∀(W:World),(∀x,W.cell? x=z.w.cell? x)->True:=fun _ _=>trivial;cases k1 with
 |slfV _ _ A hρ=>
  have hl:l=[]:=(hH.virt hg0 hρ).1;subst hl;obtain rfl:q=0:=by simpa using hql
  have hins:=cwZ (k:=u.cells) L z9 a9 (Zc:=zv.cells) rfl hi0 hs0 hzv A 0 0 g3 v.length c3 [] VS z.w hr0.1.1 (ZAN _) (by omega) (by simpa using hbig) (by have:=hr0.2;simpa using this) (by simp) V2 (fun _=>rfl) (fun a _ j x hx=>by simp at hx) hvs V3;refine hins.mono ?_;rintro en w' ⟨rfl,rfl⟩;generalize hG:grownCap z.w (0+v.length) 0 (ρr.t 9)=G at*;have hge:v.length<=G:=by rw[<-hG];have:=grownCap_ge z.w (0+v.length) 0 (ρr.t 9);omega
  have hGm:G<=maxLen:=by rw[<-hG];exact grownCap_le_maxLen _ _ _ _ (by unfold maxLen;omega)
  have hcs:(([]++VS).toArray++Builtin.zeroCells zv.cells (G-(0+v.length))).size=G*u.cells:=by
   rw[ZBJ,size_zeroCells,hzl,ZBb,ZBO,V2,<-Nat.add_mul];congr 1;omega
  obtain⟨z',p1,p2,p3,p4⟩:=bbZ (z:=z) (w':=z.w.drew.alloc (.cells (([]++VS).toArray++Builtin.zeroCells zv.cells (G-(0+v.length))) (ρr.t 9))) (e:=ρr.t 9) (l:=([]:List u.den).take 0++v++([]:List u.den).drop 0) (hH.kill (aiZ hg0)) hok2 (nD 2)
   (heap_alloc_new z.w.drew _) (okR0 _) rfl ⟨rfl,ZBc _⟩ rfl (fun k hk=>heap_alloc_old z.w.drew _ hk) (by rw[hcs];simpa using ZAe _ hge) h0 (by
    have:(([]:List u.den).take 0++v++([]:List u.den).drop 0)=v:=by simp
    rw[this];refine V1.eq fun j hj=> ?_;rw[ZB6,ZAS (by simp;omega)];simp)
  exact fin _ _ z' p1 p2 p3 (.slf _ _ _ _ (0+v.length) _ (by rw[p4];congr 1) (by simpa using hge) (by rw[hcs];exact ZAN _) hGm)
 |slf _ _ g sz n c hρ hn hs hm=>
 obtain⟨hlt,hC,_,cs,fr,a1,a2,a3,a4,a5,a6,a7⟩:=hH.real hg0 hρ;obtain rfl:l.length=n:=a4;have hne:g3≠g:=hH.inj 1 0 _ _ g3 sz3 _ g sz _ (by decide) (by rw[arZ hfb.2.1];exact hg1) (by rw[arZ hfb.1];exact hg0) rfl rfl hρ3 hρ fun h=>bPZ (by decide) h.1;have R1:cI z.w z.M z.ρ u l cs.toList:=fun i x hx=>by obtain⟨us,q1,q2⟩:=a7 i x hx;exact⟨us,q1,fun j v hj=>by simpa using q2 j v hj⟩
 obtain⟨S1,S2,S3⟩:=R1.cut (by rw[ZA5 (xs:=cs)];omega) h0;generalize hCS:cs.toList.take (l.length*u.cells)=CS at S1 S2 S3;have hcsj:∀j x,CS[j]? =some x->cs[j]? =some x:=fun j x hj=>by
  rw[<-hCS,ZAn] at hj;split at hj
  ·simpa using hj
  ·cases hj
 have hcell:∀j x,CS[j]? =some x->z.w.cell? ⟨g,j,none⟩=some x:=fun j x hj=>by rw[bzZ a1];exact hcsj j x hj
 have hcsl:∀j,j<l.length*u.cells->cs[j]? =CS[j]? :=fun j hj=>by rw[<-hCS,ZAn,ZAL hj];simp
 have hqk:q*u.cells<=l.length*u.cells:=ZAe _ hql;have RL:cI z.w z.M z.ρ u (l.take q++v++l.drop q) (CS.take (q*u.cells)++VS++CS.drop (q*u.cells)):=by
  refine cI.app (cI.app (S1.takeC q) ?_ V1) ?_ (S1.dropC q)
  ·rw[ZAQ,ZAQ,S2,ZA8 hqk,ZA8 hql]
  ·rw[ZAf,ZAf,ZAQ,ZAQ,S2,V2,ZA8 hqk,ZA8 hql,ZAk]
 have hL':(CS.take (q*u.cells)++VS++CS.drop (q*u.cells)).length=(l.length+v.length)*u.cells:=by
  rw[ZAf,ZAf,ZAQ,ZAv,S2,V2,ZA8 hqk,ZAk];omega
 have hdk:(CS.drop (q*u.cells)).length=(l.length-q)*u.cells:=by rw[ZAv,S2,ZCv]
 have hget3:∀j,(CS.take (q*u.cells)++VS++CS.drop (q*u.cells))[j]? =if j<q*u.cells then CS[j]? else if j<(q+v.length)*u.cells then VS[j-q*u.cells]? else CS[j-v.length*u.cells]? :=fun j=>by
  have e1:(CS.take (q*u.cells)).length=q*u.cells:=by rw[ZAQ,S2];omega
  have e2:(CS.take (q*u.cells)++VS).length=(q+v.length)*u.cells:=by rw[ZAf,e1,V2,ZAk]
  have e3:(q+v.length)*u.cells=q*u.cells+v.length*u.cells:=ZAk _ _ _;by_cases h1:j<q*u.cells
  ·rw[ZAL h1,ZAS (by omega),ZAS (by omega),ZAn,ZAL h1]
  ·rw[ZAJ h1];by_cases h2:j<(q+v.length)*u.cells
   ·rw[ZAL h2,ZAS (by omega),ZAU (by omega),e1]
   ·rw[ZAJ h2,ZAU (by omega),e2,ZAy];congr 1;omega
 have eqv:(q+v.length)*u.cells=q*u.cells+v.length*u.cells:=ZAk _ _ _;have elv:(l.length+v.length)*u.cells=l.length*u.cells+v.length*u.cells:=ZAk _ _ _;have eqd:(l.length-q)*u.cells=l.length*u.cells-q*u.cells:=ZCv _ _ _;have hvk:0<v.length*u.cells:=Nat.mul_pos hr0.1.1 h0;by_cases hroom:l.length+v.length<=c
 ·
  have hfit:(l.length+v.length)*u.cells<=cs.size:=by
   have:(l.length+v.length)*u.cells<=c*u.cells:=ZAe _ hroom;omega
  have hth:=cUZ (o:=0) (n:=(l.length+v.length)*u.cells) a1 a2.f (by omega);have hend:∀(w':World) (cs':Array Value),w'.heap[g]? =some (.cells cs' (ρr.t 9) fr)->cs'.size=cs.size->w'.os=z.w.os->(w'.tape=z.w.tape/\z.w.drawn<=w'.drawn)->w'.output=z.w.output->w'.heap.size=z.w.heap.size->(∀b,b≠g->w'.heap[b]? =z.w.heap[b]?)->
   (∀j,j<(l.length+v.length)*u.cells->cs'[j]? =(CS.take (q*u.cells)++VS++CS.drop (q*u.cells))[j]?)->
   ∃z',z'.w=w'/\bH z' [(0,none),(1,some ⟨false,.rows (ρr.t 9) u v⟩),(2,some ⟨false,.rows (ρr.t 9) u (l.take q++v++l.drop q)⟩)]/\Nx z z'/\bE z' (.slf u.cells 2) (.slice (some ⟨g,0,none⟩) (l.length+v.length) c):=fun w' cs' d1 d2 d3 d4 d5 d6 d7 d8=>by
   obtain⟨z',p1,p2,p3,p4⟩:=hH.move (id:=2) (n':=l.length+v.length) (b:=.rows (ρr.t 9) u (l.take q++v++l.drop q)) hg0 hρ hok2 (nD 2) d3 d4 d5 d6 d7 (fun z' hz kk=>by
    refine⟨cs',fr,by rw[hz];exact d1,efZ a2 d2,by rw[d2];exact a3,h3len,by rw[h3len];omega,a6,fun i x hx=> ?_⟩;have hR:=(RL.eq (cs':=cs'.toList) fun j hj=>by rw[h3len] at hj;simpa using d8 j hj).kp kk;obtain⟨us,q1,q2⟩:=hR i x hx;exact⟨us,q1,fun j y hj=>by simpa using q2 j y hj⟩)
   exact⟨z',p1,p2,p3,.slf _ _ _ _ _ _ p4 hroom hs hm⟩
  by_cases hqn:q<l.length
  ·have hn0:l.length*u.cells≠0:=by have:=Nat.mul_pos (show 0<l.length by omega) h0;omega
   have hsh:∀{gg:Nat} {cc:Array Value} {ee:TypeId} {ff:Nat×Nat},z.w.heap[gg]? =some (.cells cc ee ff)->z.w.shape? gg=some (ee,cc.size):=fun h=>by unfold World.shape?;rw[h]
   have hfr3:∀o,z.w.frozen? ⟨g3,o,none⟩=false:=fun o=>by
    have hf:fr3.1=fr3.2:=by
     rcases b2 with h|h
     ·exact h
     ·exact absurd h.1 hub
    unfold World.frozen?;rw[b1];simp only[ZCH,ZBB];omega
   have hins:=kUZ (k:=u.cells) L h0 z9 a9 hsz g l.length c q g3 v.length c3 CS VS z.w hqn hr0.1.1 hroom (by unfold maxLen at hm;omega) hne S2 V2 hcell
    (fun j hj=>by have:=(hth j hj).1;simpa using this) (fun j hj=>by have:=(hth j hj).2;simpa using this) hvs S3 V3 _ _ _ _ (hsh b1) (hsh a1) (by omega) (hfr3 0) (hfr3 _)
   refine hins.mono ?_;rintro en w' ⟨rfl,rfl⟩;obtain⟨e1,e2,e3,e4⟩:=asZ (CS.drop (q*u.cells)) z.w.drew g ((q+v.length)*u.cells);obtain⟨f1,f2,f3,f4⟩:=asZ VS (z.w.drew.setCells g ((q+v.length)*u.cells) (CS.drop (q*u.cells))) g (q*u.cells);have hA:z.w.drew.heap[g]? =some (.cells cs (ρr.t 9) fr):=a1;obtain⟨z',y1,y2,y3,y4⟩:=hend _ (eJ (eJ cs ((q+v.length)*u.cells) (CS.drop (q*u.cells))) (q*u.cells) VS) (anZ _ _ _ _ _ _ _ (anZ _ _ _ _ _ _ _ hA)) (by rw[amZ,amZ])
    (f2.trans e2) ⟨f3.1.trans e3.1,ZBC (ZBC (ZBc _) e3.2) f3.2⟩ (f4.trans e4) (f1.trans e1) (fun b hb=>(aoZ _ _ _ _ _ hb).trans (aoZ _ _ _ _ _ hb)) (fun j hj=>by
     rw[hget3 j,avZ _ _ _ _ (by rw[amZ,V2];omega),V2,avZ _ _ _ _ (by rw[hdk];omega),hdk];by_cases c1:j<q*u.cells
     ·rw[ZAJ (by omega),ZAJ (by omega),ZAL c1];exact hcsl j (by omega)
     ·rw[ZAJ c1];by_cases c2:j<(q+v.length)*u.cells
      ·rw[ZAL (by omega),ZAL c2]
      ·rw[ZAJ (by omega),ZAL (by omega),ZAJ c2,ZAy];congr 1;omega)
   exact fin _ _ z' y1 y2 y3 y4
  ·obtain rfl:q=l.length:=by omega
   have hins:=fzZ (k:=u.cells) L z9 a9 hi0 hs0 g l.length c g3 v.length c3 VS z.w hr0.1.1 hroom (by unfold maxLen at hm;omega) V2 (fun j hj=>by have:=(hth (l.length*u.cells+j) (by omega)).1;simpa using this) (fun j hj=>by have:=(hth (l.length*u.cells+j) (by omega)).2;simpa using this) hvs V3;refine hins.mono ?_;rintro en w' ⟨rfl,rfl⟩;obtain⟨e1,e2,e3,e4⟩:=asZ VS z.w g (l.length*u.cells);obtain⟨z',y1,y2,y3,y4⟩:=hend _ (eJ cs (l.length*u.cells) VS) (anZ _ _ _ _ _ _ _ a1) (amZ _ _ _) e2 e3 e4 e1 (fun b hb=>aoZ _ _ _ _ _ hb) (fun j hj=>by
    rw[hget3 j,avZ _ _ _ _ (by rw[V2];omega),V2];by_cases c1:j<l.length*u.cells
    ·rw[ZAJ (by omega),ZAL c1];exact hcsl j c1
    ·rw[ZAJ c1,ZAL (by omega),ZAL (by omega)])
   exact fin _ _ z' y1 y2 y3 y4
 ·
  have hroom':c<l.length+v.length:=by omega
  generalize hG:grownCap z.w (l.length+v.length) c (ρr.t 9)=G;have hge:l.length+v.length<=G:=by rw[<-hG];exact grownCap_ge _ _ _ _
  have hGm:G<=maxLen:=by rw[<-hG];exact grownCap_le_maxLen _ _ _ _ (by unfold maxLen;omega)
  have hgk:(l.length+v.length)*u.cells<=G*u.cells:=ZAe _ hge;have hend:∀(w':World) (cs':Array Value),w'.heap[z.w.heap.size]? =some (.cells cs' (ρr.t 9) (0,0))->cs'.size=G*u.cells->w'.os=z.w.os->(w'.tape=z.w.tape/\z.w.drawn<=w'.drawn)->w'.output=z.w.output->(∀b,b<z.w.heap.size->w'.heap[b]? =z.w.heap[b]?)->
   (∀j,j<(l.length+v.length)*u.cells->cs'[j]? =(CS.take (q*u.cells)++VS++CS.drop (q*u.cells))[j]?)->
   ∃z',z'.w=w'/\bH z' [(0,none),(1,some ⟨false,.rows (ρr.t 9) u v⟩),(2,some ⟨false,.rows (ρr.t 9) u (l.take q++v++l.drop q)⟩)]/\Nx z z'/\bE z' (.slf u.cells 2) (.slice (some ⟨z.w.heap.size,0,none⟩) (l.length+v.length) G):=fun w' cs' d1 d2 d3 d4 d5 d7 d8=>by
   obtain⟨z',p1,p2,p3,p4⟩:=bbZ (z:=z) (w':=w') (e:=ρr.t 9) (l:=l.take q++v++l.drop q) (hH.kill (aiZ hg0)) hok2 (nD 2) d1 (okR0 _) d3 d4 d5 d7 (by rw[h3len,d2];exact hgk) h0 (RL.eq (cs':=cs'.toList) fun j hj=>by rw[h3len] at hj;simpa using d8 j hj);exact⟨z',p1,p2,p3,.slf _ _ _ _ _ _ (by rw[p4,h3len]) hge (by rw[d2];exact ZAN _) hGm⟩
  by_cases hqn:q<l.length
  ·have hins:=nCZ (k:=u.cells) L h0 z9 a9 hsz (Zc:=zv.cells) rfl hi0 hs0 hzv hzl g l.length c q g3 v.length c3 CS VS z.w hqn hr0.1.1 hn hroom' hbig hr0.2 S2 V2 hcell hvs S3 V3;rw[hG] at hins;refine hins.mono ?_;rintro en w' ⟨rfl,rfl⟩;generalize hROW:(CS.take (q*u.cells)).toArray++Builtin.zeroCells zv.cells (l.length+v.length-q)++Builtin.zeroCells zv.cells (G-(l.length+v.length))=ROW;have hRs:ROW.size=G*u.cells:=by
    rw[<-hROW,ZBJ,ZBJ,size_zeroCells,size_zeroCells,hzl,ZBO,ZAQ,S2,ZA8 hqk,<-Nat.add_mul,<-Nat.add_mul];congr 1;omega
   have hR0:∀j,j<q*u.cells->ROW[j]? =CS[j]? :=fun j hj=>by
    have e1:(CS.take (q*u.cells)).length=q*u.cells:=by rw[ZAQ,S2];omega
    rw[<-hROW,Array.append_assoc,ZBS (by rw[ZBO,e1];exact hj),ZCe,ZAn,ZAL hj]
   have hnew:(z.w.alloc (.cells ROW (ρr.t 9))).drew.heap[z.w.heap.size]? =some (.cells ROW (ρr.t 9) (0,0)):=heap_alloc_new z.w _;obtain⟨e1,e2,e3,e4⟩:=asZ VS (z.w.alloc (.cells ROW (ρr.t 9))).drew z.w.heap.size (q*u.cells);obtain⟨f1,f2,f3,f4⟩:=asZ (CS.drop (q*u.cells)) ((z.w.alloc (.cells ROW (ρr.t 9))).drew.setCells z.w.heap.size (q*u.cells) VS).drew z.w.heap.size ((q+v.length)*u.cells);obtain⟨z',y1,y2,y3,y4⟩:=hend (((z.w.alloc (.cells ROW (ρr.t 9))).drew.setCells z.w.heap.size (q*u.cells) VS).drew.setCells z.w.heap.size ((q+v.length)*u.cells) (CS.drop (q*u.cells))) (eJ (eJ ROW (q*u.cells) VS) ((q+v.length)*u.cells) (CS.drop (q*u.cells))) (anZ _ _ _ _ _ _ _ (show((z.w.alloc (.cells ROW (ρr.t 9))).drew.setCells z.w.heap.size (q*u.cells) VS).heap[z.w.heap.size]? =_ from anZ _ _ _ _ _ _ _ hnew)) (by rw[amZ,amZ,hRs])
    (f2.trans e2) ⟨f3.1.trans e3.1,ZBC (ZBC (ZBC (ZBc _) e3.2) (ZBc _)) f3.2⟩ (f4.trans e4) (fun b hb=>(aoZ _ _ _ _ _ (by omega)).trans ((aoZ _ _ _ _ _ (by omega)).trans (heap_alloc_old z.w _ hb))) (fun j hj=>by
     rw[hget3 j,avZ _ _ _ _ (by rw[amZ,hdk,hRs];omega),hdk,avZ _ _ _ _ (by rw[V2,hRs];omega),V2];by_cases c1:j<q*u.cells
     ·rw[ZAJ (by omega),ZAJ (by omega),ZAL c1];exact hR0 j c1
     ·rw[ZAJ c1];by_cases c2:j<(q+v.length)*u.cells
      ·rw[ZAJ (by omega),ZAL (by omega),ZAL c2]
      ·rw[ZAL (by omega),ZAJ c2,ZAy];congr 1;omega)
   exact fin _ _ z' y1 y2 y3 y4
  ·obtain rfl:q=l.length:=by omega
   have hins:=cwZ (k:=u.cells) L z9 a9 (Zc:=zv.cells) rfl hi0 hs0 hzv (some ⟨g,0,none⟩) l.length c g3 v.length c3 CS VS z.w hr0.1.1 hn hroom' hbig hr0.2 S2 V2 (fun h=>by cases h) (fun a ha j x hx=>by cases ha;rw[Addr.add_lit,ZAz];exact hcell j x hx) hvs V3;rw[hG] at hins;refine hins.mono ?_;rintro en w' ⟨rfl,rfl⟩;have hcs:((CS++VS).toArray++Builtin.zeroCells zv.cells (G-(l.length+v.length))).size=G*u.cells:=by
    rw[ZBJ,size_zeroCells,hzl,ZBO,ZAf,S2,V2,<-Nat.add_mul,<-Nat.add_mul];congr 1;omega
   obtain⟨z',y1,y2,y3,y4⟩:=hend _ _ (heap_alloc_new z.w.drew _) hcs rfl ⟨rfl,ZBc _⟩ rfl (fun b hb=>heap_alloc_old z.w.drew _ hb) (fun j hj=>by
    rw[ZBS (by rw[ZBO,ZAf,S2,V2];omega),ZCe];congr 1;rw[ZAw (by omega),ZCY (by omega),ZAs])
   exact fin _ _ z' y1 y2 y3 y4
end
section
variable {P : Program} {ρr : Ren}
def LB(u fs:Ty)(d:Nat)(t:Int×(List u.den×(List u.den×List (Nat×List fs.den)))):Option (List u.den×(List u.den×List (Nat×List fs.den))):=
 (cO t.1 t.2.1.length).bind λq=>bO (Nat.blt 0 t.2.2.1.length&&Nat.ble ((t.2.1.length+t.2.2.1.length)*d) cL&&Nat.ble (t.2.1.length+t.2.2.1.length) cL) (some (t.2.2.1,(t.2.1.take q++t.2.2.1++t.2.1.drop q,t.2.2.2)))
theorem gpZ(L:InsLay P ρr){u}{f}{fe}{fs}{by_}{ag}(h0:0<u.cells)(hub:u≠.byte)(z9:∀w,(Go.sizeOf (ρr.t 9)).run P w= .ok u.cells w)(a9:∀w,(isAgg (ρr.t 9)).run P w= .ok ag w)
 (hi9:(P.info? (ρr.t 9)).map (fun i=>(i.size,i.bytes,i.zero.map fun v=>v.cells.size))=some (u.cells,by_,some u.cells))
 (hent:∃fn c,P.funcs[ρr.f 22]? =some fn/\fn.body=some c/\(fn.name== "runtime.NumGoroutine")=false):
 fF P ⟨ρr.f 22,⟨.cons (.slf u.cells 0) (.cons (.p (.int .i64)) (.cons (.slf u.cells 1) .nil)),[(0,false,.rows (ρr.t 9) u),(1,false,.rows (ρr.t 9) u),(bZ f,false,.fam fe fs)]⟩,[⟨.cons (.slf u.cells 2) .nil,[(1,false,.rows (ρr.t 9) u),(2,false,.rows (ρr.t 9) u),(bZ f,false,.fam fe fs)]⟩],LB u fs by_⟩:=by
 refine fF.of hent fun t r hr z vals hH hv hD=> ?_;obtain⟨⟨qi,l,v,ms⟩,rfl⟩:∃t':Int×(List u.den×(List u.den×List (Nat×List fs.den))),t'=t:=⟨t,rfl⟩;have hfr:=bTZ f;have hr:LB u fs by_ (qi,(l,(v,ms)))=some r:=hr;unfold LB at hr;dsimp only at hr;obtain⟨q,hq,hr⟩:=ZAG.1 hr;obtain⟨hr0,hr⟩:=aeZ.1 hr;simp only[ZAF,ZBg,ZAm,show cL=140737488355328 from rfl] at hr0;injection hr with hr;subst hr;have hH:bH z [(0,some ⟨false,.rows (ρr.t 9) u l⟩),(1,some ⟨false,.rows (ρr.t 9) u v⟩),(bZ f,some ⟨false,.fam fe fs ms⟩)]:=hH;have hv:bQ z [.slf u.cells 0,.p (.int .i64) qi,.slf u.cells 1] vals:=hv;obtain⟨v1,v2,v3,rfl,k1,k2,k3⟩:=uIZ hv;obtain rfl:=k2.v.int;have hqi:0<=qi/\qi<=l.length/\q=qi.toNat:=by
  unfold cO at hq;split at hq
  ·simp_all
  ·grind
 obtain rfl:qi=(q:Int):=by omega
 have hql:q<=l.length:=by omega
 have hg0:bF [(0,some (⟨false,.rows (ρr.t 9) u l⟩:Ent)),(1,some ⟨false,.rows (ρr.t 9) u v⟩),(bZ f,some ⟨false,.fam fe fs ms⟩)] 0=some ⟨false,.rows (ρr.t 9) u l⟩:=rfl;have hg1:bF [(0,some (⟨false,.rows (ρr.t 9) u l⟩:Ent)),(1,some ⟨false,.rows (ρr.t 9) u v⟩),(bZ f,some ⟨false,.fam fe fs ms⟩)] 1=some ⟨false,.rows (ρr.t 9) u v⟩:=rfl;obtain⟨i0,hi0,hi0'⟩:=ZAH.1 hi9;simp only[ZA1] at hi0';obtain⟨hs0,hby,hz0⟩:=hi0';obtain⟨zv,hzv,hzl⟩:=ZAH.1 hz0;have hsz:(P.info? (ρr.t 9)).map (·.size)=some u.cells:=by rw[hi0];simp[hs0]
 have hbig:(l.length+v.length)*i0.bytes<=140737488355328:=by rw[hby];exact hr0.1.2
 have hfb:(0:Nat)<bA/\(1:Nat)<bA/\(2:Nat)<bA:=by simp[bA]
 cases k3 with
 |slfV _ _ A hρ=>
  have:v=[]:=(hH.virt hg1 hρ).1
  simp_all
 |slf _ _ g3 sz3 m c3 hρ3 hn3 hs3 hm3=>
 obtain⟨hlt3,hC3,_,cs3,fr3,b1,b2,b3,b4,b5,b6,b7⟩:=hH.real hg1 hρ3;obtain rfl:v.length=m:=b4;have R3:cI z.w z.M z.ρ u v cs3.toList:=fun i x hx=>by grind
 obtain⟨V1,V2,V3⟩:=R3.cut (by grind) h0;generalize hVS:cs3.toList.take (v.length*u.cells)=VS at V1 V2 V3;have hvs:∀j x,VS[j]? =some x->z.w.cell? ⟨g3,j,none⟩=some x:=fun j x hj=>by
  grind[ZAn,bzZ]
 have htup:∀(z':Z) (x:Value),bE z' (.slf u.cells 2) x->bE z' (nL [.slf u.cells 2]) x:=fun z' x h=>h;have fin:∀(w':World) (val:Value) (z':Z),z'.w=w'->bH z' [(0,none),(1,some ⟨false,.rows (ρr.t 9) u v⟩),(bZ f,some ⟨false,.fam fe fs ms⟩),(2,some ⟨false,.rows (ρr.t 9) u (l.take q++v++l.drop q)⟩)]->Nx z z'->bE z' (.slf u.cells 2) val->
  ∃vv z'',Ending.returned val= .returned vv/\z''.w=w'/\Nx z {z'' with D:=z.D}/\(∀k,z''.D k->k∈bI [(0,false,BKd.rows (ρr.t 9) u),(1,false,BKd.rows (ρr.t 9) u),(bZ f,false,BKd.fam fe fs)])/\
   dW.on [⟨.cons (.slf u.cells 2) .nil,[(1,false,.rows (ρr.t 9) u),(2,false,.rows (ρr.t 9) u),(bZ f,false,.fam fe fs)]⟩] (v,(l.take q++v++l.drop q,ms)) fun o x=>bH z'' (o.emb x).2/\bE z'' (nL (o.emb x).1) vv:=fun w' val z' e1 e2 e3 e4=>by
  refine⟨val,{z' with D:=fun k=>z'.D k\/k=0},rfl,e1,?_,fun k hk=> ?_,?_,?_⟩
  ·exact⟨e3.os,e3.tape,e3.output,e3.size,e3.block,e3.subM,e3.subC,e3.keepM,e3.ext,rfl⟩
  ·rcases hk with hk|hk
   ·rw[e3.dom] at hk;exact absurd hk (hD k)
   grind[bI]
  ·have hne2:bZ f≠0/\bZ f≠2:=by omega
   refine e2.forget (a:=0) hfb.1 (H2:=[(1,some ⟨false,.rows (ρr.t 9) u v⟩),(2,some ⟨false,.rows (ρr.t 9) u (l.take q++v++l.drop q)⟩),(bZ f,some ⟨false,.fam fe fs ms⟩)]) (fun j=> ?_) (fun j=> ?_)
   ·simp only[bF];by_cases h0:j=0
    ·subst h0;simp[ahZ hne2.1,show Nat.beq 1 0=false from rfl,show Nat.beq 2 0=false from rfl,show Nat.beq 1 2=false from rfl,show Nat.beq 0 2=false from rfl]
    by_cases h2:j=2
    ·subst h2;simp[ahZ hne2.2,show Nat.beq 1 0=false from rfl,show Nat.beq 2 0=false from rfl,show Nat.beq 1 2=false from rfl,show Nat.beq 0 2=false from rfl]
    simp[ahZ (ZBk h0),ahZ (ZBk h2)]
   ·simp only[bM];by_cases h0:j=0
    ·subst h0;simp[ahZ hne2.1,show Nat.beq 1 0=false from rfl,show Nat.beq 2 0=false from rfl,show Nat.beq 1 2=false from rfl,show Nat.beq 0 2=false from rfl]
    by_cases h2:j=2
    ·subst h2;simp[ahZ hne2.2,show Nat.beq 1 0=false from rfl,show Nat.beq 2 0=false from rfl,show Nat.beq 1 2=false from rfl,show Nat.beq 0 2=false from rfl]
    simp[ahZ (ZBk h0),ahZ (ZBk h2)]
  ·exact e4.less rfl rfl fun g h=>h
 have hok2:bM [(0,(none:Option Ent)),(1,some ⟨false,.rows (ρr.t 9) u v⟩),(bZ f,some ⟨false,.fam fe fs ms⟩)] 2=false/\2<bA:=⟨by simp[bM,ahZ (show bZ f≠2 by omega),show Nat.beq 1 0=false from rfl,show Nat.beq 2 0=false from rfl,show Nat.beq 1 2=false from rfl,show Nat.beq 0 2=false from rfl],hfb.2.2⟩;have nD:∀k,¬z.D k:=hD;have hse:∀x:Option Ent,bR (bR [(0,some (⟨false,.rows (ρr.t 9) u l⟩:Ent)),(1,some ⟨false,.rows (ρr.t 9) u v⟩),(bZ f,some ⟨false,.fam fe fs ms⟩)] 0 none) 2 x=[(0,none),(1,some ⟨false,.rows (ρr.t 9) u v⟩),(bZ f,some ⟨false,.fam fe fs ms⟩),(2,x)]:=fun x=>by
  show bR [(0,none),(1,some ⟨false,.rows (ρr.t 9) u v⟩),(bZ f,some ⟨false,.fam fe fs ms⟩)] 2 x=_;simp[bR,ahZ (show bZ f≠2 by omega),show Nat.beq 1 0=false from rfl,show Nat.beq 2 0=false from rfl,show Nat.beq 1 2=false from rfl,show Nat.beq 0 2=false from rfl]
 have h3len:(l.take q++v++l.drop q).length=l.length+v.length:=by simp;omega
 have hVS0:VS.length=v.length*u.cells:=V2;have hvz:∀(W:World),(∀x,W.cell? x=z.w.cell? x)->True:=fun _ _=>trivial;cases k1 with
 |slfV _ _ A hρ=>
  have hl:l=[]:=(hH.virt hg0 hρ).1;subst hl;obtain rfl:q=0:=by simpa using hql
  have hins:=cwZ (k:=u.cells) L z9 a9 (Zc:=zv.cells) rfl hi0 hs0 hzv A 0 0 g3 v.length c3 [] VS z.w hr0.1.1 (ZAN _) (by omega) (by simpa using hbig) (by have:=hr0.2;simpa using this) (by simp) V2 (fun _=>rfl) (fun a _ j x hx=>by simp at hx) hvs V3;refine hins.mono ?_;rintro en w' ⟨rfl,rfl⟩;generalize hG:grownCap z.w (0+v.length) 0 (ρr.t 9)=G at*;have hge:v.length<=G:=by rw[<-hG];have:=grownCap_ge z.w (0+v.length) 0 (ρr.t 9);omega
  have hGm:G<=maxLen:=by rw[<-hG];exact grownCap_le_maxLen _ _ _ _ (by unfold maxLen;omega)
  have hcs:(([]++VS).toArray++Builtin.zeroCells zv.cells (G-(0+v.length))).size=G*u.cells:=by
   rw[ZBJ,size_zeroCells,hzl,ZBb,ZBO,V2,<-Nat.add_mul];congr 1;omega
  obtain⟨z',p1,p2,p3,p4⟩:=bbZ (z:=z) (w':=z.w.drew.alloc (.cells (([]++VS).toArray++Builtin.zeroCells zv.cells (G-(0+v.length))) (ρr.t 9))) (e:=ρr.t 9) (l:=([]:List u.den).take 0++v++([]:List u.den).drop 0) (hH.kill (aiZ hg0)) hok2 (nD 2)
   (heap_alloc_new z.w.drew _) (okR0 _) rfl ⟨rfl,ZBc _⟩ rfl (fun k hk=>heap_alloc_old z.w.drew _ hk) (by rw[hcs];simpa using ZAe _ hge) h0 (by
    have:(([]:List u.den).take 0++v++([]:List u.den).drop 0)=v:=by simp
    rw[this];refine V1.eq fun j hj=> ?_;rw[ZB6,ZAS (by simp;omega)];simp)
  exact fin _ _ z' p1 (hse _▸p2) p3 (.slf _ _ _ _ (0+v.length) _ (by rw[p4];congr 1) (by simpa using hge) (by rw[hcs];exact ZAN _) hGm)
 |slf _ _ g sz n c hρ hn hs hm=>
 obtain⟨hlt,hC,_,cs,fr,a1,a2,a3,a4,a5,a6,a7⟩:=hH.real hg0 hρ;obtain rfl:l.length=n:=a4;have hne:g3≠g:=hH.inj 1 0 _ _ g3 sz3 _ g sz _ (by decide) (by rw[arZ hfb.2.1];exact hg1) (by rw[arZ hfb.1];exact hg0) rfl rfl hρ3 hρ fun h=>bPZ (by decide) h.1;have R1:cI z.w z.M z.ρ u l cs.toList:=fun i x hx=>by obtain⟨us,q1,q2⟩:=a7 i x hx;exact⟨us,q1,fun j v hj=>by simpa using q2 j v hj⟩
 obtain⟨S1,S2,S3⟩:=R1.cut (by rw[ZA5 (xs:=cs)];omega) h0;generalize hCS:cs.toList.take (l.length*u.cells)=CS at S1 S2 S3;have hcsj:∀j x,CS[j]? =some x->cs[j]? =some x:=fun j x hj=>by
  rw[<-hCS,ZAn] at hj;split at hj
  ·simpa using hj
  ·cases hj
 have hcell:∀j x,CS[j]? =some x->z.w.cell? ⟨g,j,none⟩=some x:=fun j x hj=>by rw[bzZ a1];exact hcsj j x hj
 have hcsl:∀j,j<l.length*u.cells->cs[j]? =CS[j]? :=fun j hj=>by rw[<-hCS,ZAn,ZAL hj];simp
 have hqk:q*u.cells<=l.length*u.cells:=ZAe _ hql;have RL:cI z.w z.M z.ρ u (l.take q++v++l.drop q) (CS.take (q*u.cells)++VS++CS.drop (q*u.cells)):=by
  refine cI.app (cI.app (S1.takeC q) ?_ V1) ?_ (S1.dropC q)
  ·rw[ZAQ,ZAQ,S2,ZA8 hqk,ZA8 hql]
  ·rw[ZAf,ZAf,ZAQ,ZAQ,S2,V2,ZA8 hqk,ZA8 hql,ZAk]
 have hL':(CS.take (q*u.cells)++VS++CS.drop (q*u.cells)).length=(l.length+v.length)*u.cells:=by
  rw[ZAf,ZAf,ZAQ,ZAv,S2,V2,ZA8 hqk,ZAk];omega
 have hdk:(CS.drop (q*u.cells)).length=(l.length-q)*u.cells:=by rw[ZAv,S2,ZCv]
 have hget3:∀j,(CS.take (q*u.cells)++VS++CS.drop (q*u.cells))[j]? =if j<q*u.cells then CS[j]? else if j<(q+v.length)*u.cells then VS[j-q*u.cells]? else CS[j-v.length*u.cells]? :=fun j=>by
  have e1:(CS.take (q*u.cells)).length=q*u.cells:=by rw[ZAQ,S2];omega
  have e2:(CS.take (q*u.cells)++VS).length=(q+v.length)*u.cells:=by rw[ZAf,e1,V2,ZAk]
  have e3:(q+v.length)*u.cells=q*u.cells+v.length*u.cells:=ZAk _ _ _;by_cases h1:j<q*u.cells
  ·rw[ZAL h1,ZAS (by omega),ZAS (by omega),ZAn,ZAL h1]
  ·rw[ZAJ h1];by_cases h2:j<(q+v.length)*u.cells
   ·rw[ZAL h2,ZAS (by omega),ZAU (by omega),e1]
   ·rw[ZAJ h2,ZAU (by omega),e2,ZAy];congr 1;omega
 have eqv:(q+v.length)*u.cells=q*u.cells+v.length*u.cells:=ZAk _ _ _;have elv:(l.length+v.length)*u.cells=l.length*u.cells+v.length*u.cells:=ZAk _ _ _;have eqd:(l.length-q)*u.cells=l.length*u.cells-q*u.cells:=ZCv _ _ _;have hvk:0<v.length*u.cells:=Nat.mul_pos hr0.1.1 h0;by_cases hroom:l.length+v.length<=c
 ·
  have hfit:(l.length+v.length)*u.cells<=cs.size:=by
   have:(l.length+v.length)*u.cells<=c*u.cells:=ZAe _ hroom;omega
  have hth:=cUZ (o:=0) (n:=(l.length+v.length)*u.cells) a1 a2.f (by omega);have hend:∀(w':World) (cs':Array Value),w'.heap[g]? =some (.cells cs' (ρr.t 9) fr)->cs'.size=cs.size->w'.os=z.w.os->(w'.tape=z.w.tape/\z.w.drawn<=w'.drawn)->w'.output=z.w.output->w'.heap.size=z.w.heap.size->(∀b,b≠g->w'.heap[b]? =z.w.heap[b]?)->
   (∀j,j<(l.length+v.length)*u.cells->cs'[j]? =(CS.take (q*u.cells)++VS++CS.drop (q*u.cells))[j]?)->
   ∃z',z'.w=w'/\bH z' [(0,none),(1,some ⟨false,.rows (ρr.t 9) u v⟩),(bZ f,some ⟨false,.fam fe fs ms⟩),(2,some ⟨false,.rows (ρr.t 9) u (l.take q++v++l.drop q)⟩)]/\Nx z z'/\bE z' (.slf u.cells 2) (.slice (some ⟨g,0,none⟩) (l.length+v.length) c):=fun w' cs' d1 d2 d3 d4 d5 d6 d7 d8=>by
   obtain⟨z',p1,p2,p3,p4⟩:=hH.move (id:=2) (n':=l.length+v.length) (b:=.rows (ρr.t 9) u (l.take q++v++l.drop q)) hg0 hρ hok2 (nD 2) d3 d4 d5 d6 d7 (fun z' hz kk=>by
    refine⟨cs',fr,by rw[hz];exact d1,efZ a2 d2,by rw[d2];exact a3,h3len,by rw[h3len];omega,a6,fun i x hx=> ?_⟩;have hR:=(RL.eq (cs':=cs'.toList) fun j hj=>by rw[h3len] at hj;simpa using d8 j hj).kp kk;obtain⟨us,q1,q2⟩:=hR i x hx;exact⟨us,q1,fun j y hj=>by simpa using q2 j y hj⟩)
   exact⟨z',p1,hse _▸p2,p3,.slf _ _ _ _ _ _ p4 hroom hs hm⟩
  by_cases hqn:q<l.length
  ·have hn0:l.length*u.cells≠0:=by have:=Nat.mul_pos (show 0<l.length by omega) h0;omega
   have hsh:∀{gg:Nat} {cc:Array Value} {ee:TypeId} {ff:Nat×Nat},z.w.heap[gg]? =some (.cells cc ee ff)->z.w.shape? gg=some (ee,cc.size):=fun h=>by unfold World.shape?;rw[h]
   have hfr3:∀o,z.w.frozen? ⟨g3,o,none⟩=false:=fun o=>by
    have hf:fr3.1=fr3.2:=by
     rcases b2 with h|h
     ·exact h
     ·exact absurd h.1 hub
    unfold World.frozen?;rw[b1];simp only[ZCH,ZBB];omega
   have hins:=kUZ (k:=u.cells) L h0 z9 a9 hsz g l.length c q g3 v.length c3 CS VS z.w hqn hr0.1.1 hroom (by unfold maxLen at hm;omega) hne S2 V2 hcell
    (fun j hj=>by have:=(hth j hj).1;simpa using this) (fun j hj=>by have:=(hth j hj).2;simpa using this) hvs S3 V3 _ _ _ _ (hsh b1) (hsh a1) (by omega) (hfr3 0) (hfr3 _)
   refine hins.mono ?_;rintro en w' ⟨rfl,rfl⟩;obtain⟨e1,e2,e3,e4⟩:=asZ (CS.drop (q*u.cells)) z.w.drew g ((q+v.length)*u.cells);obtain⟨f1,f2,f3,f4⟩:=asZ VS (z.w.drew.setCells g ((q+v.length)*u.cells) (CS.drop (q*u.cells))) g (q*u.cells);have hA:z.w.drew.heap[g]? =some (.cells cs (ρr.t 9) fr):=a1;obtain⟨z',y1,y2,y3,y4⟩:=hend _ (eJ (eJ cs ((q+v.length)*u.cells) (CS.drop (q*u.cells))) (q*u.cells) VS) (anZ _ _ _ _ _ _ _ (anZ _ _ _ _ _ _ _ hA)) (by rw[amZ,amZ])
    (f2.trans e2) ⟨f3.1.trans e3.1,ZBC (ZBC (ZBc _) e3.2) f3.2⟩ (f4.trans e4) (f1.trans e1) (fun b hb=>(aoZ _ _ _ _ _ hb).trans (aoZ _ _ _ _ _ hb)) (fun j hj=>by
     rw[hget3 j,avZ _ _ _ _ (by rw[amZ,V2];omega),V2,avZ _ _ _ _ (by rw[hdk];omega),hdk];by_cases c1:j<q*u.cells
     ·rw[ZAJ (by omega),ZAJ (by omega),ZAL c1];exact hcsl j (by omega)
     ·rw[ZAJ c1];by_cases c2:j<(q+v.length)*u.cells
      ·rw[ZAL (by omega),ZAL c2]
      ·rw[ZAJ (by omega),ZAL (by omega),ZAJ c2,ZAy];congr 1;omega)
   exact fin _ _ z' y1 y2 y3 y4
  ·obtain rfl:q=l.length:=by omega
   have hins:=fzZ (k:=u.cells) L z9 a9 hi0 hs0 g l.length c g3 v.length c3 VS z.w hr0.1.1 hroom (by unfold maxLen at hm;omega) V2 (fun j hj=>by have:=(hth (l.length*u.cells+j) (by omega)).1;simpa using this) (fun j hj=>by have:=(hth (l.length*u.cells+j) (by omega)).2;simpa using this) hvs V3;refine hins.mono ?_;rintro en w' ⟨rfl,rfl⟩;obtain⟨e1,e2,e3,e4⟩:=asZ VS z.w g (l.length*u.cells);obtain⟨z',y1,y2,y3,y4⟩:=hend _ (eJ cs (l.length*u.cells) VS) (anZ _ _ _ _ _ _ _ a1) (amZ _ _ _) e2 e3 e4 e1 (fun b hb=>aoZ _ _ _ _ _ hb) (fun j hj=>by
    rw[hget3 j,avZ _ _ _ _ (by rw[V2];omega),V2];by_cases c1:j<l.length*u.cells
    ·rw[ZAJ (by omega),ZAL c1];exact hcsl j c1
    ·rw[ZAJ c1,ZAL (by omega),ZAL (by omega)])
   exact fin _ _ z' y1 y2 y3 y4
 ·
  have hroom':c<l.length+v.length:=by omega
  generalize hG:grownCap z.w (l.length+v.length) c (ρr.t 9)=G;have hge:l.length+v.length<=G:=by rw[<-hG];exact grownCap_ge _ _ _ _
  have hGm:G<=maxLen:=by rw[<-hG];exact grownCap_le_maxLen _ _ _ _ (by unfold maxLen;omega)
  have hgk:(l.length+v.length)*u.cells<=G*u.cells:=ZAe _ hge;have hend:∀(w':World) (cs':Array Value),w'.heap[z.w.heap.size]? =some (.cells cs' (ρr.t 9) (0,0))->cs'.size=G*u.cells->w'.os=z.w.os->(w'.tape=z.w.tape/\z.w.drawn<=w'.drawn)->w'.output=z.w.output->(∀b,b<z.w.heap.size->w'.heap[b]? =z.w.heap[b]?)->
   (∀j,j<(l.length+v.length)*u.cells->cs'[j]? =(CS.take (q*u.cells)++VS++CS.drop (q*u.cells))[j]?)->
   ∃z',z'.w=w'/\bH z' [(0,none),(1,some ⟨false,.rows (ρr.t 9) u v⟩),(bZ f,some ⟨false,.fam fe fs ms⟩),(2,some ⟨false,.rows (ρr.t 9) u (l.take q++v++l.drop q)⟩)]/\Nx z z'/\bE z' (.slf u.cells 2) (.slice (some ⟨z.w.heap.size,0,none⟩) (l.length+v.length) G):=fun w' cs' d1 d2 d3 d4 d5 d7 d8=>by
   obtain⟨z',p1,p2,p3,p4⟩:=bbZ (z:=z) (w':=w') (e:=ρr.t 9) (l:=l.take q++v++l.drop q) (hH.kill (aiZ hg0)) hok2 (nD 2) d1 (okR0 _) d3 d4 d5 d7 (by rw[h3len,d2];exact hgk) h0 (RL.eq (cs':=cs'.toList) fun j hj=>by rw[h3len] at hj;simpa using d8 j hj);exact⟨z',p1,hse _▸p2,p3,.slf _ _ _ _ _ _ (by rw[p4,h3len]) hge (by rw[d2];exact ZAN _) hGm⟩
  by_cases hqn:q<l.length
  ·have hins:=nCZ (k:=u.cells) L h0 z9 a9 hsz (Zc:=zv.cells) rfl hi0 hs0 hzv hzl g l.length c q g3 v.length c3 CS VS z.w hqn hr0.1.1 hn hroom' hbig hr0.2 S2 V2 hcell hvs S3 V3;rw[hG] at hins;refine hins.mono ?_;rintro en w' ⟨rfl,rfl⟩;generalize hROW:(CS.take (q*u.cells)).toArray++Builtin.zeroCells zv.cells (l.length+v.length-q)++Builtin.zeroCells zv.cells (G-(l.length+v.length))=ROW;have hRs:ROW.size=G*u.cells:=by
    rw[<-hROW,ZBJ,ZBJ,size_zeroCells,size_zeroCells,hzl,ZBO,ZAQ,S2,ZA8 hqk,<-Nat.add_mul,<-Nat.add_mul];congr 1;omega
   have hR0:∀j,j<q*u.cells->ROW[j]? =CS[j]? :=fun j hj=>by
    have e1:(CS.take (q*u.cells)).length=q*u.cells:=by rw[ZAQ,S2];omega
    rw[<-hROW,Array.append_assoc,ZBS (by rw[ZBO,e1];exact hj),ZCe,ZAn,ZAL hj]
   have hnew:(z.w.alloc (.cells ROW (ρr.t 9))).drew.heap[z.w.heap.size]? =some (.cells ROW (ρr.t 9) (0,0)):=heap_alloc_new z.w _;obtain⟨e1,e2,e3,e4⟩:=asZ VS (z.w.alloc (.cells ROW (ρr.t 9))).drew z.w.heap.size (q*u.cells);obtain⟨f1,f2,f3,f4⟩:=asZ (CS.drop (q*u.cells)) ((z.w.alloc (.cells ROW (ρr.t 9))).drew.setCells z.w.heap.size (q*u.cells) VS).drew z.w.heap.size ((q+v.length)*u.cells);obtain⟨z',y1,y2,y3,y4⟩:=hend (((z.w.alloc (.cells ROW (ρr.t 9))).drew.setCells z.w.heap.size (q*u.cells) VS).drew.setCells z.w.heap.size ((q+v.length)*u.cells) (CS.drop (q*u.cells))) (eJ (eJ ROW (q*u.cells) VS) ((q+v.length)*u.cells) (CS.drop (q*u.cells))) (anZ _ _ _ _ _ _ _ (show((z.w.alloc (.cells ROW (ρr.t 9))).drew.setCells z.w.heap.size (q*u.cells) VS).heap[z.w.heap.size]? =_ from anZ _ _ _ _ _ _ _ hnew)) (by rw[amZ,amZ,hRs])
    (f2.trans e2) ⟨f3.1.trans e3.1,ZBC (ZBC (ZBC (ZBc _) e3.2) (ZBc _)) f3.2⟩ (f4.trans e4) (fun b hb=>(aoZ _ _ _ _ _ (by omega)).trans ((aoZ _ _ _ _ _ (by omega)).trans (heap_alloc_old z.w _ hb))) (fun j hj=>by
     rw[hget3 j,avZ _ _ _ _ (by rw[amZ,hdk,hRs];omega),hdk,avZ _ _ _ _ (by rw[V2,hRs];omega),V2];by_cases c1:j<q*u.cells
     ·rw[ZAJ (by omega),ZAJ (by omega),ZAL c1];exact hR0 j c1
     ·rw[ZAJ c1];by_cases c2:j<(q+v.length)*u.cells
      ·rw[ZAJ (by omega),ZAL (by omega),ZAL c2]
      ·rw[ZAL (by omega),ZAJ c2,ZAy];congr 1;omega)
   exact fin _ _ z' y1 y2 y3 y4
  ·obtain rfl:q=l.length:=by omega
   have hins:=cwZ (k:=u.cells) L z9 a9 (Zc:=zv.cells) rfl hi0 hs0 hzv (some ⟨g,0,none⟩) l.length c g3 v.length c3 CS VS z.w hr0.1.1 hn hroom' hbig hr0.2 S2 V2 (fun h=>by cases h) (fun a ha j x hx=>by cases ha;rw[Addr.add_lit,ZAz];exact hcell j x hx) hvs V3;rw[hG] at hins;refine hins.mono ?_;rintro en w' ⟨rfl,rfl⟩;have hcs:((CS++VS).toArray++Builtin.zeroCells zv.cells (G-(l.length+v.length))).size=G*u.cells:=by
    rw[ZBJ,size_zeroCells,hzl,ZBO,ZAf,S2,V2,<-Nat.add_mul,<-Nat.add_mul];congr 1;omega
   obtain⟨z',y1,y2,y3,y4⟩:=hend _ _ (heap_alloc_new z.w.drew _) hcs rfl ⟨rfl,ZBc _⟩ rfl (fun b hb=>heap_alloc_old z.w.drew _ hb) (fun j hj=>by
    rw[ZBS (by rw[ZBO,ZAf,S2,V2];omega),ZCe];congr 1;rw[ZAw (by omega),ZCY (by omega),ZAs])
   exact fin _ _ z' y1 y2 y3 y4
end
end Go.Ab
namespace Go.Proofs
open Go.Shelf Go.RowKit Go.Lib
structure DelLay (P:Program) (ρ:Ren):Prop where
 mixed:P.follows .mixedOrders=true
 f24:Bears P (ρ.f 24) (Body2.n24 ρ)
 t0:P.underlying (ρ.t 0)=some (TypeDesc.tuple #[])
 a0:∀w,(isAgg (ρ.t 0)).run P w= .ok false w
 z0:∀w,(Go.sizeOf (ρ.t 0)).run P w= .ok 1 w
 v0:∀w,(zeroValue (ρ.t 0)).run P w= .ok (Value.tuple #[]) w
 t3:P.underlying (ρ.t 3)=some (TypeDesc.int IntKind.i64)
 a3:∀w,(isAgg (ρ.t 3)).run P w= .ok false w
 z3:∀w,(Go.sizeOf (ρ.t 3)).run P w= .ok 1 w
 v3:∀w,(zeroValue (ρ.t 3)).run P w= .ok (Value.int IntKind.i64 0) w
 t4:P.underlying (ρ.t 4)=some (TypeDesc.bool)
 a4:∀w,(isAgg (ρ.t 4)).run P w= .ok false w
 z4:∀w,(Go.sizeOf (ρ.t 4)).run P w= .ok 1 w
 v4:∀w,(zeroValue (ρ.t 4)).run P w= .ok (Value.bool false) w
 t24:P.underlying (ρ.t 24)=some (TypeDesc.slice (ρ.t 9))
 a24:∀w,(isAgg (ρ.t 24)).run P w= .ok false w
 z24:∀w,(Go.sizeOf (ρ.t 24)).run P w= .ok 1 w
 v24:∀w,(zeroValue (ρ.t 24)).run P w= .ok (Value.slice none 0 0) w
variable {P : Program} {ρ : Ren}
theorem mmZ(w)(t e ty)(z)(k)(ht:P.underlying t=some (.slice e))(hv:∀w,(zeroValue e).run P w= .ok z w)(C:z.cells.size=k)(hk:0<k)(G:∀v∈z.cells,v.oneCell'=true)(b o n c)(I:0<n)
 (K:∀j,j<n*k->(w.cell? ⟨b,o+j,none⟩).isSome=true)(L:∀j,j<n*k->w.frozen? ⟨b,o+j,none⟩=false):
 (Builtin.clear_ #[t] ty #[.slice (some ⟨b,o,none⟩) n c]).run P w= .ok (.tuple #[]) (w.setCells b o (Builtin.zeroCells z.cells n).toList):=by
 have D:(Builtin.zeroCells z.cells n).toList.length=n*k:=by rw[Array.length_toList,dnZ,C]
 have d:∀v∈(Builtin.zeroCells z.cells n).toList,v.oneCell'=true:=λv B=>by
  obtain⟨j,p⟩:=List.getElem?_of_mem B;have E:=(List.getElem?_eq_some_iff.1 p).1;have:v∈z.cells:=by
   rw[Array.getElem?_toList] at p;simp only[Builtin.zeroCells,Array.getElem?_map,Option.map_eq_some_iff] at p;obtain⟨q,_,rfl⟩:=p;rw[getElem!_pos z.cells (q%z.cells.size) (Nat.mod_lt _ (by omega))];exact Array.getElem_mem _
  simp_all
 have h:=run_storeCells_cells (P:=P) b o (Builtin.zeroCells z.cells n).toList 0 w (by simp_all) (by simp_all) d;simp only[Nat.add_zero] at h;obtain⟨m,rfl⟩:∃m,n=m+1:=⟨n-1,by omega⟩;simp[Builtin.clear_,run_underlying ht,hv,h]
set_option maxHeartbeats 4000000 in
set_option maxRecDepth 100000 in
theorem w1Z(L:DelLay P ρ){k:Nat}(hk:0<k)(z9:∀w,(Go.sizeOf (ρ.t 9)).run P w= .ok k w){ag:Bool}(a9:∀w,(isAgg (ρ.t 9)).run P w= .ok ag w){E:Value}{Z:List Value}(v9:∀w,(zeroValue (ρ.t 9)).run P w= .ok E w)(N:E.cells.size=k)(O:∀v∈E.cells,v.oneCell'=true)
 {R:TypeInfo}(T:P.info? (ρ.t 9)=some R)(U:R.size=k)(b n c i j:Nat)(cs:List Value)(w:World)(ac:i<j)(hj:j<=n)(ad:n<=c)(hm:c<=9223372036854775807)(Y:Z=(Builtin.zeroCells E.cells (j-i)).toList)
 (G:cs.length=n*k)(C:∀j v,cs[j]? =some v->w.cell? ⟨b,j,none⟩=some v)(V:∀j,j<n*k->w.frozen? ⟨b,j,none⟩=false)(W:∀v∈cs,v.oneCell'=true):
 Calls P (ρ.f 24) #[.slice (some ⟨b,0,none⟩) n c,.int .i64 i,.int .i64 j] w λe w'=>e= .returned (.slice (some ⟨b,0,none⟩) (i+(n-j)) c)/\w'=(w.drew.setCells b (i*k) (cs.drop (j*k))).setCells b ((i+(n-j))*k) Z:=by
 have X:=L.mixed;have t0:=L.t0;have a0:=L.a0;have z0:=L.z0;have v0:=L.v0;have t3:=L.t3;have a3:=L.a3;have z3:=L.z3;have v3:=L.v3;have t4:=L.t4;have a4:=L.a4;have z4:=L.z4;have v4:=L.v4;have I:=L.t24;have ae:=L.a24;have af:=L.z24;have ah:=L.v24;have u0:=run_underlying L.t0;have u3:=run_underlying L.t3;have u4:=run_underlying L.t4;have ai:=run_underlying L.t24;have aj:i<=c:=by omega
 have ak:j<=c:=by omega
 have al:j*k<=n*k:=Nat.mul_le_mul_right _ hj;have p:(cs.drop (j*k)).length=(n-j)*k:=by rw[List.length_drop,G,Nat.sub_mul]
 have am:i*k+(n-j)*k<=n*k:=by rw[<-Nat.add_mul];exact Nat.mul_le_mul_right _ (by omega)
 have d:∀x,x<n*k->(w.cell? ⟨b,x,none⟩).isSome=true:=λx hx=>by rw[C x _ (List.getElem?_eq_getElem (by omega))];rfl
 obtain⟨A,hA,K⟩:∃A:Addr,(if c=j then some (⟨b,0,none⟩:Addr) else some ⟨b,j*k,none⟩)=some A/\Hid (∀t u,(cs.drop (j*k))[t]? =some u->w.drew.cell? (A.add t)=some u):=by
  by_cases h:c=j
  .refine⟨⟨b,0,none⟩,by simp[h],λt u D=> ?_⟩;have h0:(cs.drop (j*k)).length=0:=by rw[p,show n-j=0 by omega,Nat.zero_mul]
   rw[List.length_eq_zero_iff.1 h0] at D;simp at D
  .refine⟨⟨b,j*k,none⟩,by simp[h],λt u D=> ?_⟩;rw[List.getElem?_drop] at D;rw[Addr.add_lit];exact C _ _ D
 have s1:Hid ((cs.drop (j*k)).length=(n-j)*k):=p;have s2:Hid (∀u∈cs.drop (j*k),u.oneCell'=true):=λu D=>W u (List.mem_of_mem_drop D);have s3:Hid (∀t,t<(cs.drop (j*k)).length->(w.drew.cell? ⟨b,0+i*k+t,none⟩).isSome=true/\w.drew.frozen? ⟨b,0+i*k+t,none⟩=false):=λt ht=>by
  rw[p] at ht;rw[Nat.zero_add];exact⟨d _ (by omega),V _ (by omega)⟩
 obtain⟨W1,B⟩:∃W1,W1=w.drew.setCells b (i*k) (cs.drop (j*k)):=⟨_,rfl⟩;have an:(i+(n-j))*k+(n-(i+(n-j)))*k=n*k:=by rw[<-Nat.add_mul];congr 1;omega
 have aa:∀ty,(Builtin.clear_ #[ρ.t 24] ty #[.slice (some ⟨b,(i+(n-j))*k,none⟩) (n-(i+(n-j))) (c-(i+(n-j)))]).run P W1= .ok (.tuple #[]) (W1.setCells b ((i+(n-j))*k) Z):=λty=>by
  have:=mmZ W1 (ρ.t 24) (ρ.t 9) ty E k I v9 N hk O b ((i+(n-j))*k) (n-(i+(n-j))) (c-(i+(n-j))) (by omega) (λt ht=>by
   rw[B];exact isSome_setCells b (cs.drop (j*k)) (i*k) w.drew (λq hq=>d _ (by rw[p] at hq;omega)) _ (d _ (by omega))) (λt ht=>by rw[B,World.frozen?_setCells];exact V _ (by omega))
  rw[Y,show j-i=n-(i+(n-j)) by omega];exact this
 have hW:Hid (W1=w.drew.setCells b (0+i*k) (cs.drop (j*k))):=by rw[Nat.zero_add];exact B
 clear d C V p G Y;rw[<-B];clear B;obtain⟨nm,ab,F24⟩:=L.f24
 go_enter F24,Body2.n24_ntmps ρ
 go_wp2_with fail
 go_region_law_o (refine step_append_room rfl (.tmp 22) (.tmp 25) (ρ.t 24) rfl (ρ.t 9) R k I T U b 0 i c (by simp[Act.eval,Act.put]) A (n-j) (c-j) (cs.drop (j*k)) (by simp[Act.eval,Act.put]) s1.out K.out s2.out (by omega) s3.out ?_;rw[<-hW.out])
 go_wp2
 go_ret
 exact⟨rfl,rfl⟩
end Go.Proofs
namespace Go.Ab
open Go.Proofs Go.Shelf
def LC(u:Ty)(t:Int×(Int×List u.den)):Option (List u.den):=
 (cO t.2.1 t.2.2.length).bind λj=>(cO t.1 j).bind λi=>bO (Nat.blt i j) (some (t.2.2.take i++t.2.2.drop j))
theorem nhZ{i}{n q}(h:cO i n=some q):i=(q:Int)/\q<=n:=by
 grind[cO]
section
variable {P : Program} {ρr : Ren}
theorem mkZ(L:DelLay P ρr){u}{ag}{zv}(h0:0<u.cells)(z9:∀w,(Go.sizeOf (ρr.t 9)).run P w= .ok u.cells w)(a9:∀w,(isAgg (ρr.t 9)).run P w= .ok ag w)(v9:∀w,(zeroValue (ρr.t 9)).run P w= .ok zv w)
 (hzl:zv.cells.size=u.cells)(hz1:∀v∈zv.cells,v.oneCell'=true)(hsz:(P.info? (ρr.t 9)).map (·.size)=some u.cells)
 (hent:∃fn c,P.funcs[ρr.f 24]? =some fn/\fn.body=some c/\(fn.name== "runtime.NumGoroutine")=false):
 fF P ⟨ρr.f 24,⟨.cons (.slf u.cells 0) (.cons (.p (.int .i64)) (.cons (.p (.int .i64)) .nil)),[(0,false,.rows (ρr.t 9) u)]⟩,[⟨.cons (.slf u.cells 1) .nil,[(1,false,.rows (ρr.t 9) u)]⟩],LC u⟩:=by
 refine fF.of hent fun t r hr z vals hH hv hD=> ?_;obtain⟨⟨ii,jj,l⟩,rfl⟩:∃t':Int×(Int×List u.den),t'=t:=⟨t,rfl⟩;have hr:LC u (ii,(jj,l))=some r:=hr;unfold LC at hr;dsimp only at hr;obtain⟨j,hj,hr⟩:=ZAG.1 hr;obtain⟨i,hi,hr⟩:=ZAG.1 hr;obtain⟨hij,hr⟩:=aeZ.1 hr;rw[ZBg] at hij;injection hr with hr;subst hr;have hH:bH z [(0,some ⟨false,.rows (ρr.t 9) u l⟩)]:=hH;have hv:bQ z [.slf u.cells 0,.p (.int .i64) ii,.p (.int .i64) jj] vals:=hv;obtain⟨v1,v2,v3,rfl,k1,k2,k3⟩:=uIZ hv;obtain rfl:=k2.v.int;obtain rfl:=k3.v.int;obtain⟨rfl,hjl⟩:=nhZ hj;obtain⟨rfl,hile⟩:=nhZ hi;have hg0:bF [(0,some (⟨false,.rows (ρr.t 9) u l⟩:Ent))] 0=some ⟨false,.rows (ρr.t 9) u l⟩:=rfl;obtain⟨i0,hi0,hs0⟩:=ZAH.1 hsz;have hfb:(0:Nat)<bA/\(1:Nat)<bA:=by simp[bA]
 have fin:∀(w':World) (val:Value) (z':Z),z'.w=w'->bH z' [(0,none),(1,some ⟨false,.rows (ρr.t 9) u (l.take i++l.drop j)⟩)]->Nx z z'->bE z' (.slf u.cells 1) val->
  ∃vv z'',Ending.returned val= .returned vv/\z''.w=w'/\Nx z {z'' with D:=z.D}/\(∀k,z''.D k->k∈bI [(0,false,BKd.rows (ρr.t 9) u)])/\
   dW.on [⟨.cons (.slf u.cells 1) .nil,[(1,false,.rows (ρr.t 9) u)]⟩] (l.take i++l.drop j) fun o x=>bH z'' (o.emb x).2/\bE z'' (nL (o.emb x).1) vv:=fun w' val z' e1 e2 e3 e4=>by
  refine⟨val,{z' with D:=fun k=>z'.D k\/k=0},rfl,e1,?_,fun k hk=> ?_,?_,?_⟩
  ·exact⟨e3.os,e3.tape,e3.output,e3.size,e3.block,e3.subM,e3.subC,e3.keepM,e3.ext,rfl⟩
  ·rcases hk with hk|hk
   ·rw[e3.dom] at hk;exact absurd hk (hD k)
   simp_all[bI]
  ·refine e2.forget (a:=0) hfb.1 (H2:=[(1,some ⟨false,.rows (ρr.t 9) u (l.take i++l.drop j)⟩)]) (fun q=> ?_) (fun q=> ?_)
   ·simp only[bF];cases hb:Nat.beq 0 q with
    |false=>rfl
    |true=>
     have:q=0:=(ZCC hb).symm;subst this
     rfl
   grind[bM,Nat.beq,ZCC]
  ·exact e4.less rfl rfl fun g h=>h
 have hok2:bM (bR [(0,some (⟨false,.rows (ρr.t 9) u l⟩:Ent))] 0 none) 1=false/\1<bA:=⟨rfl,hfb.2⟩;have nD:∀k,¬z.D k:=hD;cases k1 with
 |slfV _ _ A hρ=>
  have hl:l=[]:=(hH.virt hg0 hρ).1
  simp_all
 |slf _ _ g sz n c hρ hn hs hm=>
 obtain⟨hlt,hC,_,cs,fr,a1,a2,a3,a4,a5,a6,a7⟩:=hH.real hg0 hρ;obtain rfl:l.length=n:=a4;have R1:cI z.w z.M z.ρ u l cs.toList:=fun i x hx=>by obtain⟨us,q1,q2⟩:=a7 i x hx;exact⟨us,q1,fun j v hj=>by simpa using q2 j v hj⟩
 obtain⟨S1,S2,S3⟩:=R1.cut (by rw[ZA5 (xs:=cs)];omega) h0;generalize hCS:cs.toList.take (l.length*u.cells)=CS at S1 S2 S3;have hcsj:∀j x,CS[j]? =some x->cs[j]? =some x:=fun j x hj=>by
  rw[<-hCS,ZAn] at hj;split at hj
  ·simpa using hj
  ·cases hj
 have hcell:∀j x,CS[j]? =some x->z.w.cell? ⟨g,j,none⟩=some x:=fun j x hj=>by rw[bzZ a1];exact hcsj j x hj
 have hcsl:∀j,j<l.length*u.cells->cs[j]? =CS[j]? :=fun j hj=>by rw[<-hCS,ZAn,ZAL hj];simp
 have hth:=cUZ (o:=0) (n:=l.length*u.cells) a1 a2.f (by omega);have hjk:j*u.cells<=l.length*u.cells:=ZAe _ hjl;have hik:i*u.cells<=l.length*u.cells:=ZAe _ (by omega);have RL:cI z.w z.M z.ρ u (l.take i++l.drop j) (CS.take (i*u.cells)++CS.drop (j*u.cells)):=by
  refine cI.app (S1.takeC i) ?_ (S1.dropC j);rw[ZAQ,ZAQ,S2,ZA8 hik,ZA8 (by omega)]
 have h3len:(l.take i++l.drop j).length=i+(l.length-j):=by simp;omega
 have hdk:(CS.drop (j*u.cells)).length=(l.length-j)*u.cells:=by rw[ZAv,S2,ZCv]
 have eil:(i+(l.length-j))*u.cells=i*u.cells+(l.length-j)*u.cells:=ZAk _ _ _;have ejl:(l.length-j)*u.cells=l.length*u.cells-j*u.cells:=ZCv _ _ _;have eij:(j-i)*u.cells=j*u.cells-i*u.cells:=ZCv _ _ _;have hijk:i*u.cells<=j*u.cells:=ZAe _ (by omega);generalize hZ:(Builtin.zeroCells zv.cells (j-i)).toList=ZC;have hZl:ZC.length=(j-i)*u.cells:=by rw[<-hZ,ZA5,size_zeroCells,hzl]
 have hd:=w1Z (k:=u.cells) L h0 z9 a9 v9 hzl hz1 hi0 hs0 g l.length c i j CS z.w hij hjl hn (by unfold maxLen at hm;omega) hZ.symm S2 hcell (fun j hj=>by have:=(hth j hj).2;simpa using this) S3;refine hd.mono ?_;rintro en w' ⟨rfl,rfl⟩;obtain⟨e1,e2,e3,e4⟩:=asZ (CS.drop (j*u.cells)) z.w.drew g (i*u.cells);obtain⟨f1,f2,f3,f4⟩:=asZ ZC (z.w.drew.setCells g (i*u.cells) (CS.drop (j*u.cells))) g ((i+(l.length-j))*u.cells);have hA:z.w.drew.heap[g]? =some (.cells cs (ρr.t 9) fr):=a1;have hB:=anZ ZC _ g ((i+(l.length-j))*u.cells) _ _ _ (anZ (CS.drop (j*u.cells)) _ g (i*u.cells) _ _ _ hA);have hBs:(eJ (eJ cs (i*u.cells) (CS.drop (j*u.cells))) ((i+(l.length-j))*u.cells) ZC).size=cs.size:=by rw[amZ,amZ]
 have hBg:∀q,q<(i+(l.length-j))*u.cells->(eJ (eJ cs (i*u.cells) (CS.drop (j*u.cells))) ((i+(l.length-j))*u.cells) ZC)[q]? =(CS.take (i*u.cells)++CS.drop (j*u.cells))[q]? :=fun q hq=>by
  have t1:(CS.take (i*u.cells)).length=i*u.cells:=by rw[ZAQ,S2];omega
  rw[avZ _ _ _ _ (by rw[amZ,hZl];omega),hZl,ZAJ (by omega),avZ _ _ _ _ (by rw[hdk];omega),hdk];by_cases c1:q<i*u.cells
  ·rw[ZAJ (by omega),ZAS (by omega),ZAn,ZAL c1];exact hcsl q (by omega)
  ·rw[ZAL (by omega),ZAU (by omega),t1]
 generalize hWW:(z.w.drew.setCells g (i*u.cells) (CS.drop (j*u.cells))).setCells g ((i+(l.length-j))*u.cells) ZC=WW at*;generalize hCC:eJ (eJ cs (i*u.cells) (CS.drop (j*u.cells))) ((i+(l.length-j))*u.cells) ZC=CC at*;obtain⟨z',p1,p2,p3,p4⟩:=hH.move (id:=1) (n':=i+(l.length-j)) (w':=WW) (b:=.rows (ρr.t 9) u (l.take i++l.drop j)) hg0 hρ hok2 (nD 1)
  (f2.trans e2) ⟨f3.1.trans e3.1,ZBC (ZBC (ZBc _) e3.2) f3.2⟩ (f4.trans e4) (f1.trans e1) (fun b hb=>by rw[<-hWW];exact(aoZ _ _ _ _ _ hb).trans (aoZ _ _ _ _ _ hb)) (fun z' hz kk=>by
   refine⟨CC,fr,by rw[hz];exact hB,efZ a2 hBs,by rw[hBs];exact a3,h3len,by rw[h3len];omega,a6,fun q x hx=> ?_⟩;have hR:=(RL.eq (cs':=CC.toList) fun q hq=>by rw[h3len] at hq;simpa using hBg q hq).kp kk;obtain⟨us,q1,q2⟩:=hR q x hx;exact⟨us,q1,fun j y hj=>by simpa using q2 j y hj⟩)
 exact fin _ _ z' p1 p2 p3 (.slf _ _ _ _ _ _ p4 (by omega) hs hm)
end
end Go.Ab
namespace Go.Proofs
open Go.Shelf Go.RowKit Go.Lib
variable {P : Program} {ρ : Ren}
set_option maxHeartbeats 8000000 in
set_option maxRecDepth 1000000 in
theorem oNZ(L:Lays.n152 P ρ)(s:ByteArray)(r:Int)(w:World)(h:128<=r)(B:r≠65533)(hv:Lib.validRune r=false):
 Calls P (ρ.f 152) #[.string s,.int .i32 r] w λe w'=>e= .returned (.int .i64 (-1))/\w'=w:=by
 have j:=L.mixed;have K:=L.t3;have N:=L.a3;have O:=L.z3;have R:=L.v3;have T:=L.t4;have U:=L.a4;have V:=L.z4;have W:=L.v4;have X:=L.t5;have Y:=L.a5;have z5:=L.z5;have v5:=L.v5;have t9:=L.t9;have a9:=L.a9;have z9:=L.z9;have v9:=L.v9;have C:=L.t21;have D:=L.a21;have E:=L.z21;have G:=L.v21;have p:∀d w,(callFunc (ρ.f 119) d).run P w= .ok (.enter (ρ.f 119) d) w:=enters_of L.f119 (by kernel_rfl) rfl;have h0:(0:Int)<=r:=by omega
 have hd:¬(r<128):=by omega
 have I:decide (r<128)=false:=decide_eq_false (by omega);have hq:(r==65533)=false:=beq_eq_false_iff_ne.2 B
 go_enter L.f152,Body.n152_ntmps ρ
 go_wp2_with (go_at_fn (ρ.f 119);refine(Any.utf8_ValidRune {L with} _ _).mono ?_;rintro e w' ⟨rfl,hw⟩;rw[hw,hv])
 go_ret
 exact⟨rfl,rfl⟩
set_option maxHeartbeats 8000000 in
set_option maxRecDepth 1000000 in
theorem lgZ(L:Lays.n152 P ρ)(s:ByteArray)(w:World)(C:∀(j:Nat) b,s.data.toList[j]? =some b->b.toNat<128):
 Calls P (ρ.f 152) #[.string s,.int .i32 65533] w λe w'=>e= .returned (.int .i64 (-1))/\∃p,w'=w.iter s p:=by
 have HA:Aside (∀(j:Nat) b,s.data.toList[j]? =some b->b.toNat<128):=C;clear C;have B:=L.mixed;have R:=L.t3;have T:=L.a3;have U:=L.z3;have V:=L.v3;have W:=L.t4;have X:=L.a4;have Y:=L.z4;have v4:=L.v4;have t5:=L.t5;have a5:=L.a5;have z5:=L.z5;have v5:=L.v5;have t9:=L.t9;have a9:=L.a9;have z9:=L.z9;have v9:=L.v9;have D:=L.t21;have E:=L.a21;have G:=L.z21;have I:=L.v21
 go_enter L.f152,Body.n152_ntmps ρ
 go_wp2
 go_loopg [5,6] s.size (λg _ _ K=>∃i:Nat,i+g=s.size/\K=w.iter s i)
 case atStart=>exact⟨0,by omega,rfl⟩
 case round=>
  obtain⟨i,N,rfl⟩:=hrel;cases gk with
  |zero=>
   obtain rfl:i=s.size:=by omega
   have h:=run_next_end (P:=P) w s s.size
   go_wp2
   go_ret
   exact⟨rfl,_,rfl⟩
  |succ g=>
   have hi:i<s.size:=by omega
   obtain⟨x,hx⟩:∃x:UInt8,s[i]'hi=x:=⟨_,rfl⟩;have d:x.toNat<128:=HA.out i x (by rw[<-hx];exact Lib.data_getElem? s i hi);have h:=λty=>run_next_ascii (P:=P) w s i ty hi (by rw[hx];exact d);rw[hx] at h;clear hx;have O:(((x.toNat:Nat):Int)==65533)=false:=beq_eq_false_iff_ne.2 (by omega)
   go_wp2
   go_roundg g
   case measure=>omega
   case rel=>exact⟨i+1,by omega,rfl⟩
set_option maxHeartbeats 8000000 in
set_option maxRecDepth 1000000 in
theorem j9Z(L:Lays.n152 P ρ)(s:ByteArray)(r:Int)(w:World)(h:128<=r)(G:r≠65533)(hv:Lib.validRune r=true)(W:s.size=2)(X:∀(j:Nat) b,s.data.toList[j]? =some b->b.toNat<128)(Y:(Utf8.encode r).size≠2):
 Calls P (ρ.f 152) #[.string s,.int .i32 r] w λe w'=>e= .returned (.int .i64 (-1))/\w'=w:=by
 have p:Utf8.valid r=true:=by
  unfold Lib.validRune at hv;unfold Utf8.valid;simp at hv⊢;omega
 obtain⟨e1,e2,e3⟩:=encode_facts r p h;have B:=L.mixed;have t3:=L.t3;have a3:=L.a3;have z3:=L.z3;have v3:=L.v3;have t4:=L.t4;have a4:=L.a4;have z4:=L.z4;have v4:=L.v4;have t5:=L.t5;have a5:=L.a5;have z5:=L.z5;have v5:=L.v5;have t9:=L.t9;have a9:=L.a9;have z9:=L.z9;have C:=L.v9;have I:=L.t21;have K:=L.a21;have N:=L.z21;have O:=L.v21;have D:∀d w,(callFunc (ρ.f 119) d).run P w= .ok (.enter (ρ.f 119) d) w:=enters_of L.f119 (by kernel_rfl) rfl;have h0:(0:Int)<=r:=by omega
 have hd:¬(r<128):=by omega
 have R:decide (r<128)=false:=decide_eq_false (by omega);have hq:(r==65533)=false:=beq_eq_false_iff_ne.2 G;have E:∀d w,(callFunc (ρ.f 137) d).run P w= .ok (.enter (ρ.f 137) d) w:=enters_of L.f137 (by kernel_rfl) rfl;have T:wrap64 (((Utf8.encode r).size:Int)-1)=((Utf8.encode r).size:Int)-1:=by unfold wrap64;omega
 go_enter L.f152,Body.n152_ntmps ρ
 go_wp2_with (go_at_fn (ρ.f 119);refine(Any.utf8_ValidRune {L with} _ _).mono ?_;rintro e w' ⟨rfl,hw⟩;rw[hw,hv])
 go_step3
 go_wp2
 go_loopg [9] 1 (λ_ C U=>C= .int .i64 (((Utf8.encode r).size:Int)-1)/\U=w)
 case atStart=>exact⟨rfl,rfl⟩
 case round=>
  obtain⟨rfl,rfl⟩:=hrel;have V:¬(((Utf8.encode r).size:Int)-1<(s.size:Int)):=by omega
  go_wp2
  go_ret
  exact⟨rfl,rfl⟩
set_option maxHeartbeats 8000000 in
set_option maxRecDepth 1000000 in
theorem i5Z(L:Lays.n152 P ρ)(s:ByteArray)(r:Int)(w:World)(h:128<=r)(T:r≠65533)(hv:Lib.validRune r=true)(hs:s.size=2)(E:∀(j:Nat) b,s.data.toList[j]? =some b->b.toNat<128)(G:(Utf8.encode r).size=2):
 Calls P (ρ.f 152) #[.string s,.int .i32 r] w λe w'=>e= .returned (.int .i64 (-1))/\Below w.heap.size w w'/\w.drawn<=w'.drawn:=by
 have p:Utf8.valid r=true:=by
  unfold Lib.validRune at hv;unfold Utf8.valid;simp at hv⊢;omega
 obtain⟨U,V,I⟩:=encode_facts r p h;have B:=L.mixed;have t3:=L.t3;have a3:=L.a3;have z3:=L.z3;have v3:=L.v3;have t4:=L.t4;have a4:=L.a4;have z4:=L.z4;have v4:=L.v4;have t5:=L.t5;have a5:=L.a5;have z5:=L.z5;have v5:=L.v5;have t9:=L.t9;have a9:=L.a9;have z9:=L.z9;have K:=L.v9;have W:=L.t21;have X:=L.a21;have Y:=L.z21;have aa:=L.v21;have N:∀d w,(callFunc (ρ.f 119) d).run P w= .ok (.enter (ρ.f 119) d) w:=enters_of L.f119 (by kernel_rfl) rfl;have h0:(0:Int)<=r:=by omega
 have hd:¬(r<128):=by omega
 have ab:decide (r<128)=false:=decide_eq_false (by omega);have hq:(r==65533)=false:=beq_eq_false_iff_ne.2 T;have O:∀d w,(callFunc (ρ.f 137) d).run P w= .ok (.enter (ρ.f 137) d) w:=enters_of L.f137 (by kernel_rfl) rfl;obtain⟨x,hx⟩:∃x:UInt8,s[1]'(by omega)=x:=⟨_,rfl⟩;have C:x.toNat<128:=E 1 x (by rw[<-hx];exact Lib.data_getElem? s 1 (by omega));obtain⟨y,R⟩:∃y:UInt8,(Utf8.encode r)[1]'(by omega)=y:=⟨_,rfl⟩;have D:128<=y.toNat:=by
  have:=I (by omega);simp only[G] at this;rw[<-R];exact this
 have ac:(((x.toNat:Nat):Int)==((y.toNat:Nat):Int))=false:=beq_eq_false_iff_ne.2 (by omega);clear E I U V;obtain⟨rs,hE⟩:∃rs,Utf8.encode r=rs:=⟨_,rfl⟩;simp only[hE] at G R
 go_enter L.f152,Body.n152_ntmps ρ
 go_wp2_with (go_at_fn (ρ.f 119);refine(Any.utf8_ValidRune {L with} _ _).mono ?_;rintro e w' ⟨rfl,hw⟩;rw[hw,hv])
 go_step3
 go_wp2
 go_loopg [9] 1 (λ_ K wx=>K= .int .i64 1/\wx=w)
 case atStart=>exact⟨rfl,rfl⟩
 case round=>
  obtain⟨rfl,rfl⟩:=hrel
  go_wp2
  go_step3
  go_wp2
  go_region_o
  all_goals(
   go_wp2
   go_region_with_o (go_at_fn (ρ.f 137);refine(Any.strings_IndexByte {L with} _ _ _).mono ?_;rintro e w' ⟨rfl,hw⟩;rw[hw])
   all_goals(
    go_wp2
    simp only[Exit.noGoto_ret,go_sem]
    go_ret
    exact⟨rfl,((Below.refl _ _).drew).drew,Nat.le_add_right _ 2⟩))
def Fwd(w w':World):Prop:=Below w.heap.size w w'/\w.drawn<=w'.drawn
theorem Fwd.refl(w):Fwd w w:=⟨Below.refl _ _,Nat.le_refl _⟩
theorem Fwd.trans{a b c}(h:Fwd a b)(k:Fwd b c):Fwd a c:=⟨h.1.trans (k.1.mono h.1.size),Nat.le_trans h.2 k.2⟩
theorem Fwd.alloc(w)(o):Fwd w (w.alloc o):=⟨(Below.refl _ _).alloc (Nat.le_refl _) o,Nat.le_refl _⟩
theorem lsZ(L:Lays.n152 P ρ)(s)(r)(w)(h:128<=r)(D:s.size=2)(C:∀(j:Nat) b,s.data.toList[j]? =some b->b.toNat<128):
 Calls P (ρ.f 152) #[.string s,.int .i32 r] w λe w'=>e= .returned (.int .i64 (-1))/\Fwd w w':=by
 by_cases B:r=65533
 .subst B;exact(lgZ L s w C).mono λe w' ⟨d,G,p⟩=>⟨d,by rw[p];exact Fwd.alloc _ _⟩
 .cases hv:Lib.validRune r with
  |false=>exact(oNZ L s r w h B hv).mono λe w' ⟨d,p⟩=>⟨d,by simp_all[Fwd.refl]⟩
  |true=>
   by_cases E:(Utf8.encode r).size=2
   .exact(i5Z L s r w h B hv D C E).mono λe w' ⟨d,p⟩=>⟨d,p⟩
   .exact(j9Z L s r w h B hv D C E).mono λe w' ⟨d,p⟩=>⟨d,by simp_all[Fwd.refl]⟩
def TQ(A:Nat->Nat)(C:Nat->Bool):Nat×Nat:=
 if A 0<0x80 then(A 0,1)
 else if A 0/32==6&&C 1 then
  if(A 0%32)*64+A 1%64>=0x80 then((A 0%32)*64+A 1%64,2) else(Utf8.runeError,1)
 else if A 0/16==14&&C 1&&C 2 then
  if(A 0%16)*4096+(A 1%64)*64+A 2%64>=0x800&&Utf8.valid ((A 0%16)*4096+(A 1%64)*64+A 2%64:Nat) then((A 0%16)*4096+(A 1%64)*64+A 2%64,3) else(Utf8.runeError,1)
 else if A 0/8==30&&C 1&&C 2&&C 3 then
  if(A 0%8)*262144+(A 1%64)*4096+(A 2%64)*64+A 3%64>=0x10000&&Utf8.valid ((A 0%8)*262144+(A 1%64)*4096+(A 2%64)*64+A 3%64:Nat) then((A 0%8)*262144+(A 1%64)*4096+(A 2%64)*64+A 3%64,4) else(Utf8.runeError,1)
 else(Utf8.runeError,1)
theorem wxZ(s)(i):Utf8.decode s i=TQ (λk=>(s.get! (i+k)).toNat) (λk=>i+k<s.size&&(s.get! (i+k)).toNat/64==2):=rfl
theorem roZ(A)(C)(h:128<=A 0):∃c k,TQ A C=(c,k)/\128<=c/\1<=k/\∀j,1<=j->j<k->C j=true:=by
 have d:128<=Utf8.runeError:=by decide
 have one:∃c k,(Utf8.runeError,1)=(c,k)/\128<=c/\1<=k/\∀j,1<=j->j<k->C j=true:=⟨_,1,rfl,d,Nat.le_refl _,λj B h2=>by omega⟩;have p:¬A 0<128:=by omega
 unfold TQ;rw[if_neg p];split
 .grind
 .split
  .rename_i h;rw[Bool.and_eq_true,Bool.and_eq_true] at h;split
   .rename_i D;rw[Bool.and_eq_true,decide_eq_true_eq] at D;refine⟨_,3,rfl,by omega,by omega,λj B h2=> ?_⟩;have:j=1\/j=2:=by omega
    rcases this with rfl|rfl
    .exact h.1.2
    .exact h.2
   .exact one
  grind
theorem tBZ(s:ByteArray)(j)(d:j<s.size):s.get! j=s[j]'d:=by
 simp[ByteArray.get!,d]
 rfl
theorem ljZ(s)(i)(hi)(hx:128<=(s[i]'hi).toNat):∃c k,Utf8.decode s i=(c,k)/\128<=c/\1<=k/\i+k<=s.size/\∀j (d),i<=j->j<i+k->128<=(s[j]'d).toNat:=by
 let⟨c,k,B,C,D,h⟩:=roZ (λk=>(s.get! (i+k)).toNat) (λk=>i+k<s.size&&(s.get! (i+k)).toNat/64==2) (by
  simp_all[tBZ])
 refine⟨c,k,B,C,D,?_,λj d G h2=> ?_⟩
 .by_cases hk:k=1
  .omega
  .have:=h (k-1) (by omega) (by omega)
   grind
 .by_cases E:j=i
  .simp_all
  .have:=h (j-i) (by omega) (by omega);rw[Bool.and_eq_true] at this;have p:=this.2;have e:i+(j-i)=j:=by omega
   simp[e] at p;rw[tBZ s j d] at p
   grind
theorem g7Z(W)(g)(s)(pos c k)(ty)(hg:W.heap[g]? =some (.stringIter s pos))(h:pos<s.size)(hd:Utf8.decode s pos=(c,k)):
 (Instr.next (.pointer (some ⟨g,0,none⟩)) true ty).run P W= .ok (.tuple #[.bool true,.int .i64 pos,.int .i32 c]) {W with heap:=W.heap.setIfInBounds g (.stringIter s (pos+k))}:=by
 simp[Instr.next,getObj,setObj,Sem.run,hg,h,hd];simp[goInt,hg]
theorem fVZ(W)(g)(s)(pos)(ty)(hg:W.heap[g]? =some (.stringIter s pos))(h:¬pos<s.size):
 (Instr.next (.pointer (some ⟨g,0,none⟩)) true ty).run P W= .ok (.tuple #[.bool false]) W:=by
 simp[Instr.next,getObj,Sem.run,hg,h]
variable {P : Program} {ρ : Ren}
theorem NoAny.skip{s d}{i k}(h:Lib.NoAny s d i)(B:∀(j:Nat) b,d[j]? =some b->b.toNat<128)(hk:∀j b,i<=j->j<i+k->s[j]? =some b->128<=b.toNat):Lib.NoAny s d (i+k):=by
 have:∀n,n<=k->Lib.NoAny s d (i+n):=by
  intro n;induction n with
  |zero=>intro _;exact h
  |succ n G=>
   intro L;have D:=G (by omega);cases hb:s[i+n]? with
   |none=>
    intro j b E p;by_cases C:j<i+n
    .exact D j b C p
    .have:j=i+n:=by omega
     subst this;rw[hb] at p;cases p
   |some b=>
    refine D.succ hb ?_;have I:=hk (i+n) b (by omega) (by omega) hb;cases K:d.contains b with
    |false=>rfl
    |true=>
     let⟨j,E⟩:=List.getElem?_of_mem (List.contains_iff_mem.1 K)
     have:=B j b E;omega
 simp_all
set_option maxHeartbeats 8000000 in
set_option maxRecDepth 1000000 in
theorem lxZ(L:Lays.n153 P ρ)(s chars:ByteArray)(w:World)(h2:chars.size=2)(h8:s.size<=8)(hac:∀(j:Nat) b,chars.data.toList[j]? =some b->b.toNat<128):
 Calls P (ρ.f 153) #[.string s,.string chars] w fun e w'=>e= .returned (.int .i64 (Lib.indexAny s.data.toList chars.data.toList))/\Fwd w w':=by
 have HA:Aside (∀(j:Nat) b,chars.data.toList[j]? =some b->b.toNat<128):=hac;clear hac;have hemp:chars.toList.isEmpty=false:=by
  rw[Lib.toList_data];cases h:chars.data.toList with
  |nil=>have:=Lib.size_eq chars;rw[h,List.length_nil] at this;omega
  |cons _ _=>rfl
 have hn1:((chars.size:Int)==1)=false:=beq_eq_false_iff_ne.2 (by omega);have h8z:decide ((8:Int)<(s.size:Int))=false:=decide_eq_false (by omega);have t3:=L.t3;have a3:=L.a3;have z3:=L.z3;have v3:=L.v3;have t4:=L.t4;have a4:=L.a4;have z4:=L.z4;have v4:=L.v4;have t5:=L.t5;have a5:=L.a5;have z5:=L.z5;have v5:=L.v5;have t9:=L.t9;have a9:=L.a9;have z9:=L.z9;have v9:=L.v9;have t21:=L.t21;have a21:=L.a21;have z21:=L.z21;have v21:=L.v21;have e152:∀args w,(callFunc (ρ.f 152) args).run P w= .ok (.enter (ρ.f 152) args) w:=enters_of L.f152 (by kernel_rfl) rfl;have e226:∀args w,(callFunc (ρ.f 226) args).run P w= .ok (.enter (ρ.f 226) args) w:=enters_of L.f226 (by kernel_rfl) rfl
 go_enter L.f153,Body.n153_ntmps ρ
 go_wp2_with (go_at_fn (ρ.f 226);refine(Any.strings_shouldUseASCIISet {L with} _ _).mono ?_;rintro e w' ⟨rfl,hw⟩;rw[hw,h8z])
 go_loopg [9,10] s.size (fun g _ _ wx=>∃i:Nat,s.size<=i+g/\i<=s.size/\wx.heap[w.heap.size]? =some (.stringIter s i)/\Fwd w wx/\Lib.NoAny s.data.toList chars.data.toList i)
 case atStart=>exact⟨0,by omega,by omega,World.iter_heap w s 0,Fwd.alloc _ _,Lib.NoAny.zero _ _⟩
 case round=>
  obtain⟨i,hig,hil,hit,hfw,hno⟩:=hrel;have HN:Aside (Lib.NoAny s.data.toList chars.data.toList i):=hno;have HF:Aside (Fwd w wr):=hfw;clear hno hfw;by_cases hi:i<s.size
  ·obtain⟨g,rfl⟩:∃g,gk=g+1:=⟨gk-1,by omega⟩;obtain⟨x,hx⟩:∃x:UInt8,s[i]'hi=x:=⟨_,rfl⟩;have hxl:s.data.toList[i]? =some x:=by rw[<-hx];exact Lib.data_getElem? s i hi
   have hgl:w.heap.size<wr.heap.size:=(Array.getElem?_eq_some_iff.1 hit).1;have step:∀k,∃W1:World,W1={wr with heap:=wr.heap.setIfInBounds w.heap.size (.stringIter s (i+k))}/\W1.heap[w.heap.size]? =some (.stringIter s (i+k))/\Fwd w W1:=fun k=>by
    refine⟨_,rfl,?_,⟨⟨HF.out.1.os,HF.out.1.tape,HF.out.1.output,?_,fun b hb=> ?_⟩,HF.out.2⟩⟩
    ·show(wr.heap.setIfInBounds w.heap.size (.stringIter s (i+k)))[w.heap.size]? =_;rw[Array.getElem?_setIfInBounds_self_of_lt hgl]
    ·show _<=(wr.heap.setIfInBounds _ _).size;rw[Array.size_setIfInBounds];exact HF.out.1.size
    ·show(wr.heap.setIfInBounds _ _)[b]? =_;rw[Array.getElem?_setIfInBounds_ne (by omega)];exact HF.out.1.block b hb
   by_cases hx8:x.toNat<128
   ·obtain⟨W1,hW1,hW2,hW3⟩:=step 1;have hnx:=fun ty=>g7Z (P:=P) wr w.heap.size s i x.toNat 1 ty hit hi (by rw[decode_ascii s i hi (by rw[hx];exact hx8),hx]);rw[<-hW1] at hnx;have Hx:Aside (s.data.toList[i]? =some x):=hxl;have HW:Aside (W1.heap[w.heap.size]? =some (.stringIter s (i+1))/\Fwd w W1):=⟨hW2,hW3⟩;clear hxl hx hW1 hW2 hW3 step hit;have hcon:=Lib.contains_iff_indexByte chars.data.toList x;have hback:((x.toNat:Int)).toNat.toUInt8=x:=by simp
    cases hin:chars.data.toList.contains x
    ·rw[hin] at hcon;have hlt:¬((0:Int)<=Lib.indexByte chars.data.toList x):=of_decide_eq_false hcon.symm;clear hcon
     go_wp2_with (go_at_fn (ρ.f 152);refine(Any.strings_IndexRune_ascii {L with} _ _ _ (by omega) (by omega)).mono ?_;rintro e w' ⟨rfl,hw⟩;rw[hw,hback])
     go_roundg g
     case measure=>omega
     case rel=>exact⟨i+1,by omega,by omega,HW.out.1,HW.out.2,HN.out.succ Hx.out hin⟩
    ·rw[hin] at hcon;have hge:(0:Int)<=Lib.indexByte chars.data.toList x:=of_decide_eq_true hcon.symm;clear hcon
     go_wp2_with (go_at_fn (ρ.f 152);refine(Any.strings_IndexRune_ascii {L with} _ _ _ (by omega) (by omega)).mono ?_;rintro e w' ⟨rfl,hw⟩;rw[hw,hback])
     go_ret
     exact⟨by rw[Lib.indexAny_hit HN.out Hx.out hin];rfl,HW.out.2⟩
   ·obtain⟨c,k,hd,hc,hk1,hk2,hk3⟩:=ljZ s i hi (by rw[hx];omega);obtain⟨W1,hW1,hW2,hW3⟩:=step k;have hnx:=fun ty=>g7Z (P:=P) wr w.heap.size s i c k ty hit hi hd;rw[<-hW1] at hnx;have HW:Aside (W1.heap[w.heap.size]? =some (.stringIter s (i+k))/\Fwd w W1):=⟨hW2,hW3⟩;have HK:Aside (∀j (hj:j<s.size),i<=j->j<i+k->128<=(s[j]'hj).toNat):=hk3;clear hxl hx hW1 hW2 hW3 step hit hk3 hd
    go_wp2_with (go_at_fn (ρ.f 152);refine(lsZ {L with} _ _ _ (by omega) h2 HA.out).mono ?_;rintro e w' ⟨rfl,hw⟩)
    go_roundg g
    case measure=>omega
    case rel=>
     have hgl1:w.heap.size<W1.heap.size:=(Array.getElem?_eq_some_iff.1 HW.out.1).1;refine⟨i+k,by omega,hk2,by rw[hw.1.block _ hgl1];exact HW.out.1,HW.out.2.trans hw,NoAny.skip HN.out HA.out fun j b h1 h3 hb=> ?_⟩;have hj:j<s.size:=by omega
     have:=HK.out j hj h1 h3;have hb2:s.data.toList[j]? =some (s[j]'hj):=Lib.data_getElem? s j hj;rw[hb] at hb2;injection hb2 with hb2;rw[hb2];exact this
  ·obtain rfl:i=s.size:=by omega
   have hnx:=fun ty=>fVZ (P:=P) wr w.heap.size s s.size ty hit hi
   go_wp2
   go_ret
   exact⟨by rw[Lib.indexAny_none (by rw[<-Lib.size_eq];exact HN.out)];rfl,HF.out⟩
theorem pKZ(L:Lays.n153 P ρ)(d:(P.info? (ρ.t 116)).map (λi=>(i.zero,i.size))=some (some (.agg (Array.replicate 256 (.bool false))),256))(s chars)(w)(h2:chars.size=2)(p:s.size<4294967281)(h:∀(j:Nat) b,chars.data.toList[j]? =some b->b.toNat<128):
 Calls P (ρ.f 153) #[.string s,.string chars] w λe w'=>e= .returned (.int .i64 (Lib.indexAny s.data.toList chars.data.toList))/\Fwd w w':=by
 by_cases C:s.size<=8
 .grind[lxZ]
 .refine(Any.strings_IndexAny_long L (zero_of_info d).1 (zero_of_info d).2 s chars w (by omega) (by omega) p (by omega) h).mono λe w' ⟨B,h2⟩=>⟨B,?_⟩;rw[h2];exact(Fwd.alloc _ _).trans (Fwd.alloc _ _)
set_option maxHeartbeats 1000000 in
theorem fTZ(L:Lays.n150 P ρ)(p:(P.info? (ρ.t 116)).map (λi=>(i.zero,i.size))=some (some (.agg (Array.replicate 256 (.bool false))),256))(s d:ByteArray)(w:World)(h2:d.size=2)(D:s.size<4294967281)(B:∀(j:Nat) b,d.data.toList[j]? =some b->b.toNat<128):
 Calls P (ρ.f 150) #[.string s,.string d] w λe w'=>e= .returned (.bool (Lib.containsAny s.data.toList d.data.toList))/\Fwd w w':=by
 have c:=pKZ {L with} p s d w h2 D B;have E:=L.t3;have G:=L.a3;have I:=L.z3;have K:=L.v3;have N:=L.t4;have O:=L.a4;have R:=L.z4;have T:=L.v4;have U:=L.t9;have V:=L.a9;have W:=L.z9;have X:=L.v9;have C:∀h w,(callFunc (ρ.f 153) h).run P w= .ok (.enter (ρ.f 153) h) w:=enters_of L.f153 (by kernel_rfl) rfl
 go_enter L.f150,Body.n150_ntmps ρ
 go_wp2_with (go_at_fn (ρ.f 153);refine c.mono ?_;rintro e w' ⟨rfl,hw⟩)
 go_ret
 exact⟨rfl,hw⟩
end Go.Proofs
namespace Go.Ab
open Go.Proofs Go.Shelf
def caS(t:List UInt8×List UInt8):Option Bool:=
 bO (Nat.beq t.2.length 2&&t.2.all (λb=>Nat.blt b.toNat 128)&&Nat.blt t.1.length 4294967281) (some (Go.Lib.containsAny t.1 t.2))
theorem f5Z{P}{d}(L:Lays.n150 P d)(C:(P.info? (d.t 116)).map (λi=>(i.zero,i.size))=some (some (.agg (Array.replicate 256 (.bool false))),256))
 (D:∃fn c,P.funcs[d.f 150]? =some fn/\fn.body=some c/\(fn.name== "runtime.NumGoroutine")=false):
 fF P ⟨d.f 150,⟨.cons (.p .str) (.cons (.p .str) .nil),[]⟩,[⟨.cons (.p .bool) .nil,[]⟩],caS⟩:=by
 refine fF.of D λt r B z vals E hv R=> ?_;obtain⟨⟨s,c⟩,rfl⟩:∃T:List UInt8×List UInt8,T=t:=⟨t,rfl⟩;have B:=B;unfold caS at B
 let⟨O,B⟩:=aeZ.1 B
 cases B;simp only[ZAF,ZBg,afZ,ZCU] at O
 let⟨⟨G,I⟩,K⟩:=O
 have hv:=hv
 let⟨U,h2⟩:=hv
 match vals,U,h2 with
 |[a,b],_,h2=>
  have V:=h2 0 _ a rfl rfl;have W:=h2 1 _ b rfl rfl;obtain rfl:=V.v.str;obtain rfl:=W.v.str;refine(fTZ L C ⟨⟨s⟩⟩ ⟨⟨c⟩⟩ z.w (by simpa[ByteArray.size] using G) (by simpa[ByteArray.size] using K) (λj b X=>I b (ZAI X))).mono ?_;rintro en w' ⟨rfl,hw⟩
  let z':={z with w:=w'}
  have N:bH z' []:=⟨λid e h=>(by rw[cgZ] at h;cases h),λi i' e e' g sz n g' Y n' _ h=>(by rw[cgZ] at h;cases h),E.fresh,E.sub,λi x h=>by simp[bF] at h,λi h=>by simp[bM] at h,λi _ h=>by simp[bM] at h,E.nos⟩;have hN:Nx z z':=⟨hw.1.os,⟨hw.1.tape,hw.2⟩,hw.1.output,hw.1.size,λb hb _=>hw.1.block b hb,λ_ h=>.inl h,λ_ h=>.inl h,λ_ _ h _=>h,λ_ _=>rfl,rfl⟩;exact⟨_,z',rfl,rfl,hN,λk hk=>absurd hk (R k),N,.p _ _ _ ⟨[.bool (Go.Lib.containsAny s c)],rfl,rfl⟩⟩
theorem hpZ{P}{f}{fn}(j:P.funcs[f]? =some fn)(d:(fn.name== "runtime.NumGoroutine")=false)(hb:fn.body.isNone=true)(B:(Extern.findNext fn).isNone=true)(he:Extern.find fn=some Extern.BytealgCompare.compare):
 fF P ⟨f,⟨.cons (.p .str) (.cons (.p .str) .nil),[]⟩,[⟨.cons (.p (.int .i64)) .nil,[]⟩],λt:List UInt8×List UInt8=>some (Go.Lib.compareBytes t.1 t.2)⟩:=by
 refine⟨λt r C z vals D hv E=>.inr ?_⟩;obtain⟨⟨l,c⟩,rfl⟩:∃G,G=t:=⟨t,rfl⟩;cases C
 let⟨I,h2⟩:=hv
 match vals,I,h2 with
 |[a,b],_,h2=>
  have K:=h2 0 _ a rfl rfl;have L:=h2 1 _ b rfl rfl;obtain rfl:=K.v.str;obtain rfl:=L.v.str;refine⟨.int .i64 (Go.Lib.compareBytes l c),z.w,?_,_,z,rfl,rfl,Nx.refl z,λk hk=>absurd hk (E k),D,.p _ _ _ ⟨[.int .i64 (Go.Lib.compareBytes l c)],rfl,rfl⟩⟩;have h:=by simpa using B
  rw[run_callFunc_extern j d hb h he,Go.Lib.run_compareString]
  rfl
open Go.Proofs Go.Shelf Go.Sort
section
variable {α : Type} [Inhabited α]
def nM(v:α->Int×Int)(a:α):List Value:=oW (v a)
def pM(d:α->α->Bool)(l:List α):List α:=(pdq d l.toArray 0 l.toArray.size (Lib.bitLen l.toArray.size) true true).toList
theorem ijZ{d}(h:SWO d)(l:List α):PermIn 0 l.toArray.size l.toArray (pdq d l.toArray 0 l.toArray.size (Lib.bitLen l.toArray.size) true true)/\SortedIn d 0 l.toArray.size (pdq d l.toArray 0 l.toArray.size (Lib.bitLen l.toArray.size) true true):=
 pdq_sorts d h l.toArray 0 l.toArray.size (Lib.bitLen l.toArray.size) true true (ZBF _) (ZAN _) (Or.inl rfl)
theorem fwZ{d}(h:SWO d)(l:List α):(pM d l).length=l.length:=by
 have:=(ijZ h l).1.1
 simp_all[pM]
variable {P : Program} {ρr : Ren}
theorem vHZ(v)(l:List α){i j}{x}{w}(hx:l[i]? =some x)(hv:(oW (v x))[j]? =some w):i*2+j<l.length*2/\(flatK (nM v) 2 l.toArray)[i*2+j]! =w:=by
 have hi:=(ZAC.1 hx).1;have B:j<2:=(ZAC.1 hv).1;have d:i*2+j<l.length*2:=by omega
 refine⟨d,?_⟩;rw[get_flatK _ _ _ _ (by simpa using d)];have h:(i*2+j)/2=i:=by omega
 have h2:(i*2+j)%2=j:=by omega
 rw[h,h2];have p:l.toArray[i]! =x:=by simp[hx]
 rw[p];show(oW (v x))[j]! =w;simp[hv]
theorem mAZ(v){g}(D:vQ P g){C:α->α->Int}{d}
 (G:fF P ⟨g,⟨.cons (.p rL) (.cons (.p rL) .nil),[]⟩,[⟨.cons (.p (.int .i64)) .nil,[]⟩],d⟩)(E:∀x y,d (v x,v y)=some (C x y))(blk off size)(w):
 CmpLays P g #[] (nM v) 2 C blk off size w:=by
 intro m I K _ x y;generalize sortWorldK (nM v) 2 w blk off m K I=W;have h:=G.spec (v x,v y) (C x y) (E x y) ⟨W,λ_=>False,λ_=>False,λ_=>.no,λ_=>False⟩ [.agg (oW (v x)).toArray,.agg (oW (v y)).toArray]
  ⟨λid e h=>absurd ((cgZ id).symm.trans h) (λh=>by cases h),λi N e e' g O n R L n' _ h=>absurd ((cgZ i).symm.trans h) (λh=>by cases h),λid _=>.inl rfl,λg h=>h,λi x h=>by simp_all[Shp.emb,kY,bF],λi h=>by simp_all[Shp.emb,kY,bM],λ_ _ _ h=>h,λ_ _ _=>rfl⟩
  ⟨rfl,λi a T j h2=>by
   match i with
   |0=>
    have h2:=h2;injection j with j;injection h2 with h2;subst j;subst h2;exact vQZ (v x)
   |1=>
    have j:=j;have h2:=h2;injection j with j;injection h2 with h2;subst j;subst h2;exact vQZ (v y)
   |i+2=>simp at h2⟩ (λ_ h=>h)
 refine(h.calls D).mono ?_;rintro U w' ⟨vr,z',rfl,rfl,hn,_,B⟩
 let⟨_,B⟩:=B
 have B:bE z' (.p (.int .i64) (C x y)) vr:=B;refine⟨by rw[B.v.int],suZ hn.os hn.tape.1 hn.tape.2 hn.output hn.size λb hb=>hn.block b hb λh=>h⟩
theorem ogZ(v){O:List (Int×Int)->Option (List α)}(hl:∀l t,O l=some t->t.map v=l)(L:SlLaysF0.n6 P ρr)(aE:∀w,(isAgg (ρr.t 24)).run P w= .ok true w)(zE:∀w,(Go.sizeOf (ρr.t 24)).run P w= .ok 2 w){g}{e}{G}{C}
 (hO:SWO (ltOf G))(U:vQ P g)(hc:fF P ⟨g,⟨.cons (.p rL) (.cons (.p rL) .nil),[]⟩,[⟨.cons (.p (.int .i64)) .nil,[]⟩],C⟩)(ai:∀x y,C (v x,v y)=some (G x y))
 (ab:∃fn c,P.funcs[ρr.f 6]? =some fn/\fn.body=some c/\(fn.name== "runtime.NumGoroutine")=false)(eg:∀R w,(callFunc g R).run P w= .ok (.enter g R) w):
 fF P ⟨ρr.f 6,⟨.cons (.slf 2 0) (.cons (.fn g .nil .nil) .nil),[(0,false,.rows e rL)]⟩,[⟨.nil,[(0,false,.rows e rL)]⟩],λl=>bO (Nat.blt (List.length (α:=Int×Int) l) 4611686018427387904) ((O l).map λt=>(pM (ltOf G) t).map v)⟩:=by
 refine fF.of ab λt r hr z vals D hv hD=> ?_;obtain⟨t,rfl⟩:∃t',t'=t:=⟨t,rfl⟩;have hr:=hr;obtain⟨V,hr⟩:=aeZ.1 hr;rw[ZBg] at V;obtain⟨t',T,aj⟩:=ZAH.1 hr;obtain rfl:=hl _ _ T;subst aj;clear T hr;generalize t'=t at*;rw[ZAp] at V;have D:bH z [(0,some ⟨false,.rows e rL (t.map v)⟩)]:=D;have hv:bQ z [.slf 2 0,.fn g [] []] vals:=hv;obtain⟨v1,v2,rfl,h1,h2⟩:=wsZ hv;have hg:bF [(0,some (⟨false,.rows e rL (t.map v)⟩:Ent))] 0=some ⟨false,.rows e rL (t.map v)⟩:=rfl;cases h2 with
 |fn _ _ _ va vc ha W _ _=>
 have ha:va=#[]:=ZBt ha;have W:vc=#[]:=ZBt W;subst ha;subst W;have ac:∀z',bE z' (.tup []) (.tuple #[]):=λz'=>.tup [] #[] rfl λi x v h=>by grind
 cases h1 with
 |slfV _ _ A I=>
  have hB:t=[]:=List.map_eq_nil_iff.1 (D.virt hg I).1;subst hB;refine(AnyF.slices_SortFunc_none L A 0 (.func (.func g) #[] #[]) z.w).mono ?_;rintro en w' ⟨rfl,rfl⟩;refine⟨_,z,rfl,rfl,Nx.refl z,λk hk=>absurd hk (hD k),?_⟩;have e0:pM (ltOf G) ([]:List α)=[]:=ZAY (fwZ hO []);show bH z [(0,some ⟨false,.rows e rL ((pM (ltOf G) ([]:List α)).map v)⟩)]/\bE z (.tup []) _
  simp_all
 |slf _ _ d sz n c I hn hs hm=>
  obtain⟨X,hC,_,cs,fr,b1,b2,b3,b4,b5,b6,b7⟩:=D.real hg I;have hC:=hC rfl;have b4:t.length=n:=by have:=b4;rw[ZAp] at this;exact this
  have b5:t.length*2<=sz:=by have:=b5;rw[ZAp] at this;exact this
  have ad:∀(i) x,t[i]? =some x->∀(j) w,(oW (v x))[j]? =some w->cs[i*2+j]? =some w:=λi x hx j w hv=>by
   obtain⟨u,q1,q2⟩:=b7 i (v x) (by rw[ZAV,hx];rfl);rw[clII.1 q1] at q2;exact q2 j w hv
  have Y:∀k,k<t.length*2->cs[k]? =some ((flatK (nM v) 2 t.toArray)[k]!):=λk hk=>by
   have hi:k/2<t.length:=by omega
   have h1:t[k/2]? =some t[k/2]:=ZAB hi;have h2:(oW (v t[k/2]))[k%2]? =some ((oW (v t[k/2]))[k%2]'(by show k%2<2;omega)):=ZAB _;have e1:=ad _ _ h1 _ _ h2;have e2:=(vHZ v t h1 h2).2;have e3:k/2*2+k%2=k:=by omega
   rw[e3] at e1 e2;rw[e1,e2]
  have K:HoldsK (nM v) 2 z.w d 0 t.toArray:=by
   intro j hj;rw[size_flatK] at hj;have hj:j<t.length*2:=by simpa using hj
   refine⟨?_,?_⟩
   .simp only[World.cell?,b1,ZAz];exact Y j hj
   .simp only[World.frozen?,b1,ZAz];have an:j<cs.size:=by omega
    rcases b2.f with h|h
    .rw[h];simp only[ZCH,ZBB];omega
    .simp only[ZCH,ZBB];left;omega
  have ak:t.toArray.size<4611686018427387904:=by
   simpa using V
  have hS:=AnyQ.slices_SortFunc_eq L 2 aE zE (nM v) (λ_=>rfl) (λx w hv=>by simp[nM,oW] at hv;rcases hv with rfl|rfl<;>rfl) G hO g #[] d 0 c t.toArray z.w eg (mAZ v U hc ai d 0 t.toArray.size z.w) K X ak
  rw[show t.toArray.size=n by simpa using b4] at hS;refine hS.mono ?_;rintro en w' ⟨rfl,m,os,rfl⟩;have E:(pM (ltOf G) t).length=t.length:=fwZ hO t;have aa:pdq (ltOf G) t.toArray 0 n (Lib.bitLen n) true true=(pM (ltOf G) t).toArray:=by
   unfold pM;rw[show t.toArray.size=n by simpa using b4]
  rw[aa];generalize pM (ltOf G) t=l' at E⊢;have ae:∀b,b<z.w.heap.size->(sortWorldK (nM v) 2 z.w d 0 m l'.toArray os).heap[b]? =if b=d then some (.cells (putCells id 0 (flatK (nM v) 2 l'.toArray) cs) e fr) else z.w.heap[b]? :=λb hb=>by
   show((putRowK (nM v) 2 (Sort.ahead z.w m) d 0 l'.toArray).heap++os)[b]? =_;have al:b<(putRowK (nM v) 2 (Sort.ahead z.w m) d 0 l'.toArray).heap.size:=by
    show b<(Sort.putRow id (Sort.ahead z.w m) d 0 _).heap.size;rw[Go.Sort.size_putRow];exact hb
   rw[ZBS al];show(z.w.heap.modify d (onCells (putCells id 0 (flatK (nM v) 2 l'.toArray))))[b]? =_;rw[ZCG];by_cases h:b=d
   .subst h;rw[ZAL rfl,ZAL rfl,b1];rfl
   .rw[ZAJ (ZBk h),ZAJ h]
  have af:z.w.heap.size<=(sortWorldK (nM v) 2 z.w d 0 m l'.toArray os).heap.size:=by
   show _<=((Sort.putRow id (Sort.ahead z.w m) d 0 _).heap++os).size;rw[ZBJ,Go.Sort.size_putRow];exact ZCT _ _
  have N:(sortWorldK (nM v) 2 z.w d 0 m l'.toArray os).os=z.w.os/\(sortWorldK (nM v) 2 z.w d 0 m l'.toArray os).tape=z.w.tape/\(sortWorldK (nM v) 2 z.w d 0 m l'.toArray os).output=z.w.output/\(sortWorldK (nM v) 2 z.w d 0 m l'.toArray os).drawn=z.w.drawn+m:=⟨rfl,rfl,rfl,rfl⟩;generalize sortWorldK (nM v) 2 z.w d 0 m l'.toArray os=w' at*;have hM:z.M d:=D.sub _ hC;have ag:Nx z {z with w:=w'}:=⟨N.1,⟨N.2.1,by show _<=w'.drawn;rw[N.2.2.2];exact ZCT _ _⟩,N.2.2.1,af,λb hb U=>by
   show w'.heap[b]? =_;rw[ae b hb,ZAJ (λh=>by subst h;exact U hC)],λ_ h=>.inl h,λ_ h=>.inl h,λ_ _ h _=>h,λ_ _=>rfl,rfl⟩
  have ao:=ag.kp D.sub;refine⟨_,{z with w:=w'},rfl,rfl,ag,λk hk=>absurd hk (hD k),?_⟩;show bH {z with w:=w'} [(0,some ⟨false,.rows e rL (l'.map v)⟩)]/\bE _ (.tup []) _;refine⟨⟨λid e' he=> ?_,λi i' e1 e2 a sa na a' ap aq am h1 h2=> ?_,λid B=> ?_,D.sub,λi x h=> ?_,D.key,D.dyn,D.nos⟩,ac _⟩
  .by_cases B:id=0
   .subst B;rw[giZ,ZAL rfl] at he;injection he with he;subst he;unfold fC;show match z.ρ 0 with|.no=>False|.virt=>_|.real g sz n=>_
    rw[I];refine⟨Nat.lt_of_lt_of_le X af,λ_=>hC,(λh=>by cases h),putCells id 0 (flatK (nM v) 2 l'.toArray) cs,fr,?_,?_,?_,?_,?_,b6,λi x hx=>⟨oW x,clII.2 rfl,λj w hv=> ?_⟩⟩
    .show w'.heap[d]? =_;rw[ae d X,ZAL rfl]
    .unfold okR at b2⊢;simpa[putCells] using b2
    .simpa[putCells] using b3
    .rw[ZAp];exact E.trans b4
    .show(l'.map v).length*2<=sz;rw[ZAp,E];exact b5
    .rw[ZAV] at hx;obtain⟨y,hy,rfl⟩:=ZAH.1 hx;obtain⟨q1,q2⟩:=vHZ v l' hy hv;show(putCells id 0 (flatK (nM v) 2 l'.toArray) cs)[i*2+j]? =some w;rw[kEZ (by rw[b3];omega),ZAL (by rw[size_flatK];simpa using q1),q2]
   .rw[giZ,ZAJ B] at he;cases he
  .have key:∀j ee,bP [(0,some (⟨false,.rows e rL (l'.map v)⟩:Ent))] j=some ee->j=0:=λj ee h=>by
    by_cases hj:j=0
    .exact hj
    .rw[giZ,ZAJ hj] at h;cases h
   exact absurd ((key i _ h1).trans (key i' _ h2).symm) am
  .refine D.fresh id ?_;have h0:=eQZ;by_cases hd:bC<=id
   .have ah:∀l,bF [(0,some (⟨false,.rows e rL l⟩:Ent))] (rt id)=none:=λl=>by
     have:=(bFZ hd).1;have hf:0<bA:=by simp[bA]
     simp only[bF,ahZ (show 0≠rt id by omega)];rfl
    rw[azZ hd,ah] at B;rw[azZ hd];rw[ah];exact B
   .unfold dX at B⊢;rw[ZAJ hd] at B⊢;split
    .rfl
    .rename_i hf;rw[ZAJ hf] at B;exact B
  .by_cases hi:i=0
   .subst hi;have h:some (⟨false,.rows e rL (l'.map v)⟩:Ent)=some x:=h;injection h with h;subst h;show 0<bA;simp[bA]
   .simp only[bF,ahZ (ZBk hi)] at h;cases h
end
def okP(x:Int×Int):Bool:=decide (-4611686018427387904<=x.1/\x.1<=4611686018427387903)
abbrev yF:={x:Int×Int//okP x=true}
instance:Inhabited yF:=⟨⟨(0,0),by decide⟩⟩
def DX(l:List (Int×Int)):Option (List yF):=if h:∀x∈l,okP x=true then some (l.attach.map λx=>⟨x.1,h x.1 x.2⟩) else none
theorem mWZ(l)(t)(h:DX l=some t):t.map (λx=>x.1)=l:=by
 unfold DX at h;split at h
 .cases h;rw[List.map_map];exact List.attach_map_subtype_val l
 grind
def cfP(x y:yF):Int:=x.1.1-y.1.1
theorem swoP:SWO (ltOf cfP) where
 irrefl x:=by
  refine ZAE ?_
  simp_all[cfP]
 trans x y z d h2:=by
  have d:=of_decide_eq_true d;have h2:=of_decide_eq_true h2;refine ZAK ?_
  grind[cfP]
 ntrans x y z d h2:=by
  have d:=ZCt d;have h2:=ZCt h2;refine ZAE ?_
  grind[cfP]
def yG(l:List (Int×Int)):Option (List (Int×Int)):=(DX l).map λt=>(pM (ltOf cfP) t).map λx=>x.1
end Go.Ab
