/- An evaluator of the model's code over plain values, and its soundness; of no program. -/
import Derived.Test.YtjngohmkdmdecaaGreatE3
import Derived.DataReads
import Derived.WalkKit
import Derived.ProofKit
import Derived.OpenShut
import Derived.JoinedTies
import GoSem.Claim
import Derived.Shelf.SlSortCmp.NoneTotal
import Derived.Shelf.SlGeneric
import Derived.Shelf.Spec.SlicesInsertGrow
import Derived.Shelf.Slices.Delete
import Derived.Shelf.Strings.IndexAnyAll
import Derived.WalkMore
import Derived.Shelf.Small.Utf8
import Derived.Laws.Runes
import Derived.Lib.Bytealg
set_option linter.all false
namespace Go.Ab
theorem ZAF:type_of% @decide_eq_false:=@decide_eq_false
theorem ZAJ:type_of% @decide_eq_true:=@decide_eq_true
theorem ZCV:type_of% @List.drop_eq_nil_of_le:=@List.drop_eq_nil_of_le
theorem ZCb:type_of% @List.getElem?_toArray:=@List.getElem?_toArray
theorem ZCm:type_of% @List.getElem?_range:=@List.getElem?_range
theorem ZCp:type_of% @of_decide_eq_false:=@of_decide_eq_false
theorem ZCs:type_of% @Nat.sub_mul:=@Nat.sub_mul
theorem ZCt:type_of% @List.map_cons:=@List.map_cons
def OkV:(t:Ty)->t.den->Prop
 |.int k,n=>k.min<=n/\n<=k.max
 |.byte,_=>True
 |.bool,_=>True
 |.str,l=>List.length (α:=UInt8) l<=maxLen
 |.opq,_=>False
 |.nat,_=>False
 |.ref _ _,_=>False
 |.ptr _,_=>False
 |.sl t,l=>List.length (α:=t.den) l<=maxLen/\∀x∈(show List t.den from l),OkV t x
 |.one t,x=>OkV t x
 |.pair a b,x=>OkV a x.1/\OkV b x.2
 |.arr n t,l=>List.length (α:=t.den) l=n/\∀x∈(show List t.den from l),OkV t x
section
variable (P : Program)
def xW(f:TypeId->Ty->Bool):List Field->Nat->Ty->Bool
 |[x],o,u=>Nat.beq x.offset o&&Nat.beq (P.cellsOf x.type) u.cells&&f x.type u
 |x::r,o,.pair a b=>Nat.beq x.offset o&&Nat.beq (P.cellsOf x.type) a.cells&&f x.type a&&xW f r (o+a.cells) b
 |_,_,_=>false
def tW:Nat->TypeId->Ty->Bool
 |0,_,_=>false
 |n+1,t,u=>match P.underlying t,u with
  |some (.int k),.int k'=>decide (k=k')
  |some (.int k),.byte=>decide (k= .u8)
  |some .bool,.bool=>true
  |some .string,.str=>true
  |some (.slice e),.sl v=>Nat.beq (P.cellsOf e) v.cells&&Nat.blt 0 v.cells&&tW n e v
  |some (.struct fs),.one v=>Nat.beq (P.cellsOf t) v.cells&&xW P (tW n) fs.toList 0 v
  |some (.struct fs),.pair a b=>Nat.beq (P.cellsOf t) (Ty.pair a b).cells&&xW P (tW n) fs.toList 0 (.pair a b)
  |some (.array m e),.arr R v=>Nat.beq m R&&Nat.beq (P.cellsOf t) (m*v.cells)&&Nat.beq (P.cellsOf e) v.cells&&tW n e v
  |_,_=>false
end
theorem dZZ{α:Type}(k):∀(n) (cs:List α),cs.length=n*k->((List.range n).map λi=>(cs.drop (i*k)).take k).flatten=cs
 |0,cs,h=>by
  simp_all
 |n+1,cs,h=>by
  rw[List.range_succ_eq_map,ZCt,ZCK,List.map_map];have e:((List.range n).map ((λi=>(cs.drop (i*k)).take k)∘Nat.succ))=(List.range n).map λi=>((cs.drop k).drop (i*k)).take k:=by
   refine ZCl λi _=> ?_;simp[List.drop_drop];rw[ZB4,Nat.add_comm]
  rw[e,dZZ k n (cs.drop k) (by grind)];simp
theorem euZ{α:Type}{Q:Nat->α->Prop}:∀(n),(∀i,i<n->∃x,Q i x)->∃l:List α,l.length=n/\∀(i) x,l[i]? =some x->Q i x
 |0,_=>⟨[],rfl,λi x h=>by grind⟩
 |n+1,h=>by
  let⟨l,h1,h2⟩:=euZ n λi hi=>h i (by omega)
  let⟨x,hx⟩:=h n (by omega)
  refine⟨l++[x],by simp[h1],λi y R=> ?_⟩
  grind
section
variable {P : Program} {H : Type} {enc : TypeId × Value → H} {w : World} {sp : Nat → Bool} {held : Bool}
theorem gzZ{f}{n}{cs:List Value}(hf:∀(x:Field) u,f x.type u=true->P.cellsOf x.type=u.cells->(∃y,DataW.trod enc P w 0 sp held n x.type ((cs.drop x.offset).take (P.cellsOf x.type))=some y)->
 ∃v,Cl w (λ_=>False) (λ_=>.no) u v ((cs.drop x.offset).take (P.cellsOf x.type))/\OkV u v):
 ∀(fs) (o) (u),xW P f fs o u=true->(∀x∈fs,∃y,DataW.trod enc P w 0 sp held n x.type ((cs.drop x.offset).take (P.cellsOf x.type))=some y)->∃v,Cl w (λ_=>False) (λ_=>.no) u v ((cs.drop o).take u.cells)/\OkV u v
 |[],o,u,h,_=>by cases u<;>cases h
 |[x],o,u,h,R=>by
  have h:(Nat.beq x.offset o&&Nat.beq (P.cellsOf x.type) u.cells&&f x.type u)=true:=by cases u<;>exact h
  simp[afZ] at h
  grind[ZAq]
 |x::y::r,o,u,h,R=>by
  cases u with
  |pair a b=>
   have h:(Nat.beq x.offset o&&Nat.beq (P.cellsOf x.type) a.cells&&f x.type a&&xW P f (y::r) (o+a.cells) b)=true:=h;simp[ZAE,afZ] at h;obtain⟨⟨⟨rfl,h2⟩,h3⟩,h4⟩:=h
   let⟨v1,c1,k1⟩:=hf x a h3 h2 (R x ZAq)
   let⟨v2,c2,k2⟩:=gzZ hf (y::r) (x.offset+a.cells) b h4 λz hz=>R z (ZAc _ hz)
   refine⟨(v1,v2),⟨_,_,?_,c1,c2⟩,k1,k2⟩;rw[h2,show(Ty.pair a b).cells=a.cells+b.cells from rfl,List.take_add,List.drop_drop]
  |_=>cases h
theorem jHZ{a}{n}{cs}(h:w.cells? 0 a n=some cs):cs.length=n/\∀(j) v,cs[j]? =some v->w.cell? (a.add j)=some v:=by
 unfold World.cells? at h;have hl:=mapM_some_length h;simp at hl;refine⟨hl,λj v hj=> ?_⟩;have R:j<n:=by have:=(ZAB.1 hj).1;omega
 have:=mapM_some_get h j j (by simp[R])
 simp_all
theorem q3Z{a}{v}(h:w.cell? a=some v):a.spot=none/\a.block<w.heap.size:=by
 unfold World.cell? at h;split at h
 .rename_i c _ _ hb;split at h
  .cases h
  .rename_i hs;refine⟨by cases R:a.spot<;>simp[R] at hs⊢,(ZBH.1 hb).1⟩
 grind
theorem e5Z{bB}{t}{cs}{y}{d}(R:P.underlying t=some d)(hd:DataW.trod enc P w 0 sp held (bB+1) t cs=some y)(hr:d.isRow=false):∃v,cs=[v]:=by
 unfold DataW.trod at hd;rcases cs with _|⟨v,_|⟨v2,cs⟩⟩
 .cases d<;>first|simp_all|grind
 .grind
 .cases d<;>cases v<;>first|simp_all|simp_all|simp_all|(split at hd<;>first|(done)|(done))
theorem grZ:∀(n) (t) (u),tW P n t u=true->∀(bB) (cs) (d) (ps),DataW.trod enc P w 0 sp held bB t cs=some (d,ps)->
 ∃x,Cl w (λ_=>False) (λ_=>.no) u x cs/\OkV u x
 |0,t,u,h,bB,cs,d,ps,hd=>by cases h
 |n+1,t,u,h,0,cs,d,ps,hd=>by cases hd
 |n+1,t,u,h,bB+1,cs,d,ps,hd=>by
  unfold tW at h;split at h
  .rename_i k k' R;simp only[ZAp] at h;subst h;obtain⟨v,rfl⟩:=e5Z R hd rfl;unfold DataW.trod at hd;rw[R] at hd;cases v<;>first|(cases hd;done)|skip;rename_i k' m;simp only at hd;split at hd
   .rename_i hw;obtain⟨rfl,hw⟩:=hw;have hb:=by simpa[Lit.wf] using hw
    exact⟨m,rfl,hb⟩
   .cases hd
  .rename_i k R;simp only[ZAp] at h;subst h;obtain⟨v,rfl⟩:=e5Z R hd rfl;unfold DataW.trod at hd;rw[R] at hd;cases v<;>first|(cases hd;done)|skip;rename_i k' m;simp only at hd;split at hd
   .rename_i hw;obtain⟨rfl,hw⟩:=hw;have hb:=by simpa[Lit.wf,IntKind.min,IntKind.max,IntKind.signed,IntKind.bits] using hw
    refine⟨UInt8.ofNat m.toNat,?_,trivial⟩;show[Value.int .u8 m]=[Value.int .u8 ((UInt8.ofNat m.toNat).toNat:Int)];have:((UInt8.ofNat m.toNat).toNat:Int)=m:=by
     rw[UInt8.toNat_ofNat'];omega
    rw[this]
   .cases hd
  .rename_i R;obtain⟨v,rfl⟩:=e5Z R hd rfl;unfold DataW.trod at hd;rw[R] at hd;cases v<;>first|(cases hd;done)|skip;rename_i b;exact⟨b,rfl,trivial⟩
  .rename_i R;obtain⟨v,rfl⟩:=e5Z R hd rfl;unfold DataW.trod at hd;rw[R] at hd;cases v<;>first|(cases hd;done)|skip;rename_i s;simp only at hd;split at hd
   .rename_i hs;have hb:=hs;exact⟨s.data.toList,rfl,hb⟩
   .cases hd
  .rename_i e v R;simp only[ZAE,afZ,ZBd] at h;obtain⟨⟨h1,h2⟩,h3⟩:=h;obtain⟨x,rfl⟩:=e5Z R hd rfl;unfold DataW.trod at hd;rw[R] at hd;cases x<;>first|(cases hd;done)|skip;rename_i A aa ab;cases A with
   |none=>
    cases aa with
    |succ k=>cases hd
    |zero=>cases ab with
     |succ k=>cases hd
     |zero=>exact⟨([]:List v.den),⟨none,0,rfl,by simp,by unfold maxLen;omega,λ_=>rfl,λh=>absurd rfl h⟩,by simp,λx hx=>by cases hx⟩
   |some a=>
    simp only at hd;split at hd
    .rename_i hb;obtain⟨_,ah,ai⟩:=hb;obtain⟨aj,he,_⟩:=ZAG.1 hd;have ac:=mapM_some_length he;simp only[List.length_range] at ac;have ae:∀i,i<aa->∃cs,w.cells? 0 (a.add (i*P.cellsOf e)) (P.cellsOf e)=some cs/\∃x,Cl w (λ_=>False) (λ_=>.no) v x cs/\OkV v x:=λi hi=>by
      have:=mapM_some_get he i i (by simp[hi]);rw[ZAC (by omega)] at this;obtain⟨cs,c1,c2⟩:=ZAG.1 this;exact⟨cs,c1,grZ n e v h3 bB cs _ _ c2⟩
     obtain⟨l,l1,l2⟩:=euZ (Q:=λi x=>∃cs,w.cells? 0 (a.add (i*P.cellsOf e)) (P.cellsOf e)=some cs/\Cl w (λ_=>False) (λ_=>.no) v x cs/\OkV v x) aa λi hi=>by
      obtain⟨cs,c1,x,c2,c3⟩:=ae i hi;exact⟨x,cs,c1,c2,c3⟩
     have hl:=l1;refine⟨((l)),⟨some a,ab,by show[Value.slice (some a) aa ab]=[Value.slice (some a) (List.length l) ab];rw[hl],by show List.length l<=ab;rw[hl];exact ah,ai,(λh=>by cases h),λak=> ?_⟩,by show List.length l<=maxLen;rw[hl];omega,λx hx=> ?_⟩
     .have af:0<aa:=by
       have:=ak;omega
      obtain⟨cs,c1,_⟩:=ae 0 af;rw[ZBn] at c1;obtain⟨g1,g2⟩:=jHZ c1;have al:∃y,cs[0]? =some y:=⟨_,ZAC (by omega)⟩;obtain⟨y,hy⟩:=al;have hc:=q3Z (g2 0 y hy);have am:((a.add 0).add 0)=a:=rfl;rw[am] at hc;obtain⟨b,off,an⟩:=a;simp only at hc;obtain⟨rfl,ag⟩:=hc;refine⟨b,off,rfl,λh=>h,ag,λi x hx=> ?_⟩;obtain⟨cs,c1,c2,c3⟩:=l2 i x hx;refine⟨cs,c2,λj y hj=> ?_⟩;have:=(jHZ c1).2 j y hj;rw[Addr.add_mid,Addr.add_mid] at this;rw[<-h1];exact this
     .obtain⟨i,hi⟩:=ZAR hx;obtain⟨cs,_,_,c3⟩:=l2 i x hi;exact c3
    .cases hd
  .rename_i fs v R;simp only[ZAE,afZ] at h;unfold DataW.trod at hd;rw[R] at hd;simp only at hd;split at hd
   .rename_i hl;obtain⟨xs,hx,_⟩:=ZAH.1 hd;obtain⟨y,c1,c2⟩:=gzZ (f:=tW P n) (λx u hf _ hz=>by obtain⟨z,hz⟩:=hz;exact grZ n x.type u hf bB _ z.1 z.2 hz) fs.toList 0 v h.2 λx ad=>by
     obtain⟨i,hi⟩:=ZAR ad;have:=mapM_some_get hx i x hi;rw[ZAC (by rw[mapM_some_length hx];exact(ZAB.1 hi).1)] at this;exact⟨_,this⟩
    refine⟨y,?_,c2⟩;rw[ZCA,ZAv (by omega)] at c1;exact c1
   .cases hd
  .rename_i fs a b R;simp only[ZAE,afZ] at h;unfold DataW.trod at hd;rw[R] at hd;simp only at hd;split at hd
   .rename_i hl;obtain⟨xs,hx,_⟩:=ZAH.1 hd;obtain⟨y,c1,c2⟩:=gzZ (n:=bB) (f:=tW P n) (λx u hf _ hz=>by obtain⟨z,hz⟩:=hz;exact grZ n x.type u hf bB _ z.1 z.2 hz) fs.toList 0 (.pair a b) h.2 λx ad=>by
     obtain⟨i,hi⟩:=ZAR ad;have:=mapM_some_get hx i x hi;rw[ZAC (by rw[mapM_some_length hx];exact(ZAB.1 hi).1)] at this;exact⟨_,this⟩
    refine⟨y,?_,c2⟩;rw[ZCA,ZAv (by omega)] at c1;exact c1
   .cases hd
  .rename_i m e m' v R;simp only[ZAE,afZ] at h;obtain⟨⟨⟨rfl,h1⟩,h2⟩,h3⟩:=h;unfold DataW.trod at hd;rw[R] at hd;simp only at hd;split at hd
   .rename_i hl;obtain⟨xs,hx,_⟩:=ZAH.1 hd;have ac:=mapM_some_length hx;simp only[List.length_range] at ac;obtain⟨l,l1,l2⟩:=euZ (Q:=λi x=>Cl w (λ_=>False) (λ_=>.no) v x ((cs.drop (i*v.cells)).take v.cells)/\OkV v x) m λi hi=>by
     have:=mapM_some_get hx i i (by simp[hi]);rw[ZAC (by omega)] at this;obtain⟨x,c1,c2⟩:=grZ n e v h3 bB _ _ _ this;rw[h2] at c1;exact⟨x,c1,c2⟩
    refine⟨(show(Ty.arr m v).den from l),⟨l1,(List.range m).map λi=>(cs.drop (i*v.cells)).take v.cells,by simp,(dZZ v.cells m cs (by rw[hl,h1])).symm,λi x c hx hc=> ?_⟩,l1,λx hx=> ?_⟩
    .have hi:i<m:=by have:=(ZAB.1 hc).1;simpa using this
     rw[ZAW,ZCm hi] at hc;simp only[ZBS,ZAV] at hc;rw[<-hc];exact(l2 i x hx).1
    .obtain⟨i,hi⟩:=ZAR hx;exact(l2 i x hi).2
   .cases hd
  grind
theorem trod_v{n}{t}{u}(h:tW P n t u=true)(hf:nZ P t u=true){aa}{v}{d}{ps}(hw:Value.okWide P w .any aa t v)(hd:DataW.Trod enc P w 0 sp held t v d ps):
 ∃x,cU w (λ_=>False) (λ_=>.no) u x v/\OkV u x:=by
 let⟨bB,hd⟩:=hd
 let⟨x,h1,h2⟩:=grZ n t u h bB _ d ps hd
 refine⟨x,⟨v.cells.toList,h1,?_⟩,h2⟩;unfold nZ at hf;simp[ZAk] at hf
 let⟨_,hf⟩:=hf
 unfold Value.okWide at hw;cases hg:u.isAgg<;>rw[hg] at hf
 .simp at hf;have ac:=h1.len
  let⟨dd,R,ab⟩:=hMZ hf
  cases v with
  |agg cs=>
   exfalso;unfold fQ at hf;rw[R] at hf hw;cases dd<;>first|(cases hf;done)|(simp[Cell.okWide,Cell.ok] at hw;done)
  |tuple cs=>
   exfalso;unfold fQ at hf;rw[R] at hf hw;cases dd<;>first|(cases hf;done)|(simp[Cell.okWide,Cell.ok] at hw;done)
  |_=>rfl
 .simp only[bq_true] at hf
  let⟨dd,R,ab⟩:=faZ hf
  unfold gF at hf;rw[R] at hf hw;cases dd<;>first|(cases hf;done)|skip
  .obtain⟨cs,rfl,_⟩:=hw;rfl
  .obtain⟨cs,rfl,_⟩:=hw;rfl
theorem law_of_told{f}(hb:vG P f){ks}{R}(hT:eZ P ⟨f,⟨ks,[]⟩,[⟨.cons (.p .bool) .nil,[]⟩],R⟩){t}(hs:R t=some true){vals}
 (hv:bQ ⟨w,λ_=>False,λ_=>False,λ_=>.no,λ_=>False⟩ (Shp.emb ⟨ks,[]⟩ t).1 vals):Calls P f vals.toArray w λe w'=>e= .returned (.bool true)/\RowKit.Below w.heap.size w w':=by
 refine((hT.spec t true hs ⟨w,λ_=>False,λ_=>False,λ_=>.no,λ_=>False⟩ vals ⟨λid e h=>(by rw[show(Shp.emb ⟨ks,[]⟩ t).2=[] from rfl,ckZ] at h;cases h),λi i' e e' g sz n g' aa n' _ h=>(by simp_all),λid _=>.inl rfl,λg h=>h,λi x h=>by simp_all[Shp.emb,kV,bG],λi h=>by simp_all[Shp.emb,kV,bM],λ_ _ _ h=>h,λ_ _ _=>rfl⟩ hv λ_ h=>h).calls hb).mono ?_;rintro en w' ⟨v,z',rfl,rfl,hn,_,ho⟩
 let⟨_,ho⟩:=ho
 have ho:bE z' (.p .bool true) v:=ho;refine⟨by rw[ho.v.bool],⟨hn.os,hn.tape.1,hn.output,hn.size,λb hb=>hn.block b hb λh=>h⟩⟩
end
open Go.ChangeShapes Go.WideShapes Go.ChangeAt Go.RowKit
section
variable {H : Type} {enc : TypeId × Value → H} {P : Program}
theorem eEZ(hl:laidOutB P=true){W W'}{sp}(hb:Below W.heap.size W W'):
 ∀(R) (vs) (ds) (ps),DataW.TrodAll enc P W 0 (λ_=>true) true R vs ds ps->
  (∀t∈R,P.readableRec t=true/\t<P.types.size)->(∀x∈ps,x.block<W.heap.size/\sp x.block=true)->DataW.TrodAll enc P W' 0 sp true R vs ds ps
 |[],vs,ds,ps,h,_,_=>by
  obtain⟨rfl,rfl,rfl⟩:=trodAll_nil h;exact trodAll_mk0
 |t::R,vs,ds,ps,h,hr,hp=>by
  obtain⟨v,aa,d,ab,p,q,rfl,rfl,rfl,h0,h1⟩:=trodAll_cons h;have ht:=hr t (by simp);exact trodAll_cons_mk (WideElems.Trod_stays hl ht.1 ht.2 h0 (λx hx=>hb.same (hp x (by simp[hx])).1) (λx hx=>(hp x (by simp[hx])).2))
   (eEZ hl hb R aa ab q h1 (λt' h'=>hr t' (by simp[h'])) λx hx=>hp x (by simp[hx]))
theorem i2Z{f}{s:ChangeSpec}{aa ah ab ai:Bool}{W W':World}{ac:Array Value}{v:Value}{ds gs:List (DataW H)}{R pa pv:List MemPlace}
 (hW:DataW.Whole enc P f.params.toList s.vars aa W ac.toList ds gs R)
 (af:∀(b:Nat) (sp:Nat->Bool) (hd:Bool),DataW.TrodAll enc P W' b sp hd f.resultTypes.toList (v.resultList f.resultTypes.size) (s.fn H (ds++gs)).results [])
 (ad:∀sp:Nat->Bool,(∀p∈R,sp p.block=true)->DataW.TrodAll enc P W' 0 sp true f.params.toList ac.toList (s.fn H (ds++gs)).args pa)
 (ae:∀sp:Nat->Bool,(∀p∈R,sp p.block=true)->DataW.TrodVars enc P W' sp s.vars (s.fn H (ds++gs)).vars pv)
 (aj:R=pa++pv)(hb:Below W.heap.size W W')
 (al:∀(j:Nat) (t:TypeId) (r:Value),f.resultTypes[j]? =some t->(v.resultList f.resultTypes.size)[j]? =some r->Value.okWide P W' .any 0 t r):
 s.post enc P f aa ah ab ai W ac v W':=by
 have am:∀p∈R,p.block<W.heap.size:=λp hp=>hW.lt p hp;have ag:∀p∈R,(λb=>decide (b<W.heap.size)) p.block=true:=λp hp=>by simp_all
 refine⟨ds,gs,R,[],pa,pv,hW,af _ _ _,ad _ ag,ae _ ag,World.keptBut_mono (λp hp=>⟨hp,?_⟩) (hb.frame (·∈R)),λ_=> ?_⟩
 .simp_all
 .obtain⟨_,_,_,_,_,hz,hn⟩:=hW;refine⟨al,_,_,([]++pa)++pv,⟨[]++pa,pv,trodAll_append (ad _ (λ_ _=>rfl)) (af _ _ _),ae _ (λ_ _=>rfl),rfl,?_,?_⟩,?_⟩
  .intro b off hp;have ak:MemPlace.cell b off∈R:=by rw[aj];simpa using hp
   rw[hb.frozen (am _ ak)];exact hz b off ak
  .intro ha;have:=hn ha;rw[aj] at this;simpa using this
  simp_all
theorem law_post(hl:laidOutB P=true){f}{s:ChangeSpec}{B}{W W'}{ac}{ds gs}{R}
 (aa:P.underlying B=some .bool)(ad:f.resultTypes=#[B])(ag:∀t∈f.params.toList,P.readableRec t=true/\t<P.types.size)(ab:s.vars=[])
 (ae:(s.fn H (ds++gs)).results=[.lit (.bool true)]/\(s.fn H (ds++gs)).args=ds/\(s.fn H (ds++gs)).vars=[])
 (hW:DataW.Whole enc P f.params.toList s.vars false W ac.toList ds gs R)(hb:Below W.heap.size W W'):
 s.post enc P f false true false false W ac (.bool true) W':=by
 have ai:∀p∈R,p.block<W.heap.size:=λp hp=>hW.lt p hp;have ah:=hW;obtain⟨p,q,hA,hV,af,_,_⟩:=hW;rw[ab] at hV;obtain⟨rfl,rfl⟩:=trodVars_none hV;rw[ZAr] at af;subst af;refine i2Z (pa:=R) (pv:=[]) ah ?_ ?_ ?_ (by simp) hb ?_
 .intro b sp hd;rw[ae.1,ad];exact trodAll_mk1 (shut_bool aa _)
 .grind[eEZ]
 .intro sp _;rw[ab,ae.2.2]
  rfl
 .exact ok_one ad rfl (okWide_bool_mk aa _)
end
open Go.Proofs Go.Shelf Go.Sort
abbrev rI:Ty:=.pair (.int .i64) (.int .i64)
def oV(x:Int×Int):List Value:=[.int .i64 x.1,.int .i64 x.2]
theorem clII{w}{M}{ρ}{x:Int×Int}{vs}:Cl w M ρ rI x vs↔vs=oV x:=by
 constructor
 .rintro⟨u,v,rfl,h1,h2⟩;subst h1;subst h2;rfl
 .rintro rfl;exact⟨[.int .i64 x.1],[.int .i64 x.2],rfl,rfl,rfl⟩
theorem vyZ{z}(x:Int×Int):bE z (.p rI x) (.agg (oV x).toArray):=.p _ _ _ ⟨_,clII.2 rfl,rfl⟩
theorem wcZ{z}{a b}{vals}(h:bQ z [a,b] vals):∃u v,vals=[u,v]/\bE z a u/\bE z b v:=by
 let⟨h1,h2⟩:=h
 match vals,h1,h2 with
 |[u,v],_,h2=>exact⟨u,v,rfl,h2 0 a u rfl rfl,h2 1 b v rfl rfl⟩
theorem sbZ{w w':World}(h1:w'.os=w.os)(h2:w'.tape=w.tape)(h3:w.drawn<=w'.drawn)(h4:w'.output=w.output)(h5:w.heap.size<=w'.heap.size)(h6:∀b,b<w.heap.size->w'.heap[b]? =w.heap[b]?):
 ∃q os,w'=grow (w.drewN q) os:=by
 refine⟨w'.drawn-w.drawn,w'.heap.extract w.heap.size w'.heap.size,?_⟩;obtain⟨aa,ac,R,os,ab⟩:=w';simp only at h1 h2 h3 h4 h5 h6;subst h1;subst h2;subst h4;unfold grow;have e1:(w.drewN (R-w.drawn)).heap=w.heap:=by rfl
 have e2:(w.drewN (R-w.drawn)).drawn=R:=by show w.drawn+(R-w.drawn)=R;omega
 have e3:(w.drewN (R-w.drawn)).tape=w.tape/\(w.drewN (R-w.drawn)).os=w.os/\(w.drewN (R-w.drawn)).output=w.output:=⟨rfl,rfl,rfl⟩;have hh:aa=w.heap++aa.extract w.heap.size aa.size:=by
  apply Array.ext_getElem?;intro i;by_cases hi:i<w.heap.size
  .rw[h6 i hi,ZBO hi]
  .rw[Array.getElem?_append_right (by omega),Array.getElem?_extract];by_cases hj:i<aa.size
   .rw[ZAM (by omega)];congr 1;omega
   .rw[ZAK (by omega),Array.getElem?_eq_none (by omega)]
 grind
theorem fQZ(e)(id):bP [(0,some e)] id=if id=0 then some e else none:=by
 have hf:0<bA:=by simp[bA]
 have R:∀j,j≠0->bG [(0,some e)] j=none:=λj hj=>by simp_all[bG,ahZ,ZBj]
 by_cases hi:id=0
 .subst hi
  rfl
 .rw[ZAK hi];by_cases hd:bC<=id
  .rw[a8Z hd,R _ (by have:=(bNZ hd).1;omega)];rfl
  simp_all[bP,ZAK]
section
variable {P : Program} {ρr : Ren}
theorem kjZ{F}{cs}{k}(hk):(putCells id 0 F cs)[k]? =some (if k<F.size then F[k]! else cs[k]):=by
 unfold putCells
 simp_all
end
end Go.Ab
namespace Go.Proofs
open Go.Shelf
structure InsLay (P:Program) (ρ:Ren):Prop where
 mixed:P.follows .mixedOrders=true
 f22:Bears P (ρ.f 22) (Body2.n22 ρ)
 x29:(P.funcs[ρ.f 29]?.map fun fn=>(fn.name== "runtime.NumGoroutine",fn.body.isNone,(Extern.findNext fn).isNone,Extern.find fn))=some (false,true,true,some (Extern.SlicesOverlaps.overlaps #[(ρ.t 24),(ρ.t 24)] #[(ρ.t 4)]))
 t0:P.underlying (ρ.t 0)=some (TypeDesc.tuple #[])
 a0:∀w,(isAgg (ρ.t 0)).run P w= .ok false w
 z0:∀w,(Go.sizeOf (ρ.t 0)).run P w= .ok 1 w
 v0:∀w,(zeroValue (ρ.t 0)).run P w= .ok (Value.tuple #[]) w
 t3:P.underlying (ρ.t 3)=some (TypeDesc.int IntKind.i64)
 a3:∀w,(isAgg (ρ.t 3)).run P w= .ok false w
 z3:∀w,(Go.sizeOf (ρ.t 3)).run P w= .ok 1 w
 v3:∀w,(zeroValue (ρ.t 3)).run P w= .ok (Value.int IntKind.i64 0) w
 t4:P.underlying (ρ.t 4)=some (TypeDesc.bool)
 a4:∀w,(isAgg (ρ.t 4)).run P w= .ok false w
 z4:∀w,(Go.sizeOf (ρ.t 4)).run P w= .ok 1 w
 v4:∀w,(zeroValue (ρ.t 4)).run P w= .ok (Value.bool false) w
 t24:P.underlying (ρ.t 24)=some (TypeDesc.slice (ρ.t 9))
 a24:∀w,(isAgg (ρ.t 24)).run P w= .ok false w
 z24:∀w,(Go.sizeOf (ρ.t 24)).run P w= .ok 1 w
 v24:∀w,(zeroValue (ρ.t 24)).run P w= .ok (Value.slice none 0 0) w
open Go.Shelf Go.RowKit Go.Lib
variable {P : Program} {ρ : Ren}
theorem d0Z(Z)(q):(Builtin.zeroCells Z q).size=q*Z.size:=by
 rw[Builtin.zeroCells]
 simp_all
theorem dLZ(w)(dT sT ty elem)(b o dLen dCap)(a)(sLen sCap k)(cs)
 (hu:P.underlying dT=some (.slice elem))(hs:(P.info? elem).map (·.size)=some k)(hn:cs.length=Nat.min sLen dLen*k)
 (R:∀j v,cs[j]? =some v->w.cell? (a.add j)=some v)(hc:∀j,j<cs.length->(w.cell? ⟨b,o+j,none⟩).isSome=true)(hf:∀j,j<cs.length->w.frozen? ⟨b,o+j,none⟩=false)(h1:∀v∈cs,v.oneCell'=true):
 (Builtin.copy_ #[dT,sT] ty #[.slice (some ⟨b,o,none⟩) dLen dCap,.slice (some a) sLen sCap]).run P w= .ok (goInt (Nat.min sLen dLen)) (w.setCells b o cs):=by
 have hl:=run_firstCells_some (P:=P) w k (Nat.min sLen dLen) a sLen sCap cs hn R;have aa:=run_storeCells_cells (P:=P) b o cs 0 w (by omega) (by omega) h1;cases hq:P.info? elem with
 |none=>simp_all
 |some i=>
  have hi:=by simpa[hq] using hs
  simp[Builtin.copy_,run_underlying hu,Builtin.lenOf,sizeOf,typeInfo,hq,hi,hl,aa]
theorem InsLay.overlaps(L:InsLay P ρ){a b}{w w'}{v}(h:(Extern.SlicesOverlaps.overlaps #[(ρ.t 24),(ρ.t 24)] #[(ρ.t 4)] #[a,b]).run P w= .ok v w'):(callFunc (ρ.f 29) #[a,b]).run P w= .ok (.value v) w':=by
 have hx:=L.x29;cases hq:P.funcs[ρ.f 29]? with
 |none=>simp_all
 |some fn=>
  rw[hq] at hx;simp only[Option.map_some,Option.some.injEq,Prod.mk.injEq] at hx
  let⟨h1,h2,R,h4⟩:=hx
  rw[run_callFunc_extern hq h1 h2 (by simp_all) h4,h]
  rfl
section
variable (L : InsLay P ρ) {k : Nat} (hk : 0 < k) (z9 : ∀ w, (Go.sizeOf (ρ.t 9)).run P w = .ok k w) {ag : Bool} (a9 : ∀ w, (isAgg (ρ.t 9)).run P w = .ok ag w) (hsz : (P.info? (ρ.t 9)).map (·.size) = some k)
include L hk z9 a9 hsz
set_option maxHeartbeats 4000000 in
set_option maxRecDepth 100000 in
theorem kwZ(b n c i vb m vc:Nat)(cs vs:List Value)(w:World)(hi:i<n)(hm:0<m)(hroom:n+m<=c)(hc63:c<=9223372036854775807)(hvb:vb≠b)
 (hcl:cs.length=n*k)(hvl:vs.length=m*k)
 (hcs:∀j v,cs[j]? =some v->w.cell? ⟨b,j,none⟩=some v)(hsp:∀j,j<(n+m)*k->(w.cell? ⟨b,j,none⟩).isSome=true)(hfz:∀j,j<(n+m)*k->w.frozen? ⟨b,j,none⟩=false)
 (hvs:∀j v,vs[j]? =some v->w.cell? ⟨vb,j,none⟩=some v)(h1c:∀v∈cs,v.oneCell'=true)(h1v:∀v∈vs,v.oneCell'=true)
 (tA tB:TypeId)(kA kB:Nat)(hsa:w.shape? vb=some (tA,kA))(hsb:w.shape? b=some (tB,kB))(hkB:kB≠0)(hfa:w.frozen? ⟨vb,0,none⟩=false)(hfe:w.frozen? ⟨vb,kA,none⟩=false):
 Calls P (ρ.f 22) #[.slice (some ⟨b,0,none⟩) n c,.int .i64 i,.slice (some ⟨vb,0,none⟩) m vc] w fun e w'=>
  e= .returned (.slice (some ⟨b,0,none⟩) (n+m) c)/\w'=(w.drew.setCells b ((i+m)*k) (cs.drop (i*k))).setCells b (i*k) vs:=by
 have t0:=L.t0;have a0:=L.a0;have z0:=L.z0;have v0:=L.v0;have t3:=L.t3;have a3:=L.a3;have z3:=L.z3;have v3:=L.v3;have t4:=L.t4;have a4:=L.a4;have z4:=L.z4;have v4:=L.v4;have t24:=L.t24;have a24:=L.a24;have z24:=L.z24;have v24:=L.v24;have u0:=run_underlying L.t0;have u3:=run_underlying L.t3;have u4:=run_underlying L.t4;have u24:=run_underlying L.t24;have hz1:¬((m:Int)=0):=by omega
 have hz2:¬((i:Int)=(n:Int)):=by omega
 have hov:∀lb cb,(callFunc (ρ.f 29) #[.slice (some ⟨vb,0,none⟩) m vc,.slice (some ⟨b,(i+m)*k,none⟩) lb cb]).run P w= .ok (.value (.bool false)) w:=fun lb cb=>
  L.overlaps (Lib.run_overlaps_apart w (ρ.t 24) (ρ.t 4) (ρ.t 9) L.t24 k z9 ⟨vb,0,none⟩ ⟨b,(i+m)*k,none⟩ m vc lb cb hvb tA tB kA kB hsa hsb hkB hfa hfe)
 have hdl:(cs.drop (i*k)).length=(n-i)*k:=by rw[List.length_drop,hcl,Nat.sub_mul]
 have mixed:=L.mixed;have hw1:IntKind.i64.wrap ((i:Int)+(m:Int))=(i:Int)+(m:Int):=by rw[IntKind.wrap_i64];omega
 have hb1:(0:Int)<=(i:Int)+(m:Int):=by omega
 have hin:i<=n:=by omega
 have htn:((i:Int)+(m:Int)).toNat=i+m:=by omega
 have hb2:¬(c=i+m):=by omega
 have hb3:(i:Int)<=(n:Int)+(m:Int):=by omega
 have hb4:¬(c=i):=by omega
 have hmin:Nat.min (n+m-i) (n+m-(i+m))=n-i:=by simp only[Nat.min_def];split<;>omega
 have hmin2:Nat.min m (n+m-i)=m:=by simp only[Nat.min_def];split<;>omega
 have hnm:(n+m)*k=(i+m)*k+(n-i)*k:=by rw[<-Nat.add_mul];congr 1;omega
 have hnm2:(n+m)*k=i*k+m*k+(n-i)*k:=by rw[<-Nat.add_mul,<-Nat.add_mul];congr 1;omega
 have hcp1:∀ty dc sc,(Builtin.copy_ #[(ρ.t 24),(ρ.t 24)] ty #[.slice (some ⟨b,(i+m)*k,none⟩) (n+m-(i+m)) dc,.slice (some ⟨b,i*k,none⟩) (n+m-i) sc]).run P w.drew= .ok (goInt ((n-i:Nat):Int)) (w.drew.setCells b ((i+m)*k) (cs.drop (i*k))):=fun ty dc sc=>by
  have:=dLZ w.drew (ρ.t 24) (ρ.t 24) ty (ρ.t 9) b ((i+m)*k) (n+m-(i+m)) dc ⟨b,i*k,none⟩ (n+m-i) sc k (cs.drop (i*k)) L.t24 hsz (by rw[hdl,hmin])
   (fun j v hj=>by rw[Addr.add_lit];exact hcs (i*k+j) v (by rwa [List.getElem?_drop] at hj))
   (fun j hj=>hsp _ (by rw[hdl] at hj;omega)) (fun j hj=>hfz _ (by rw[hdl] at hj;omega)) (fun v hv=>h1c v (List.mem_of_mem_drop hv))
  rw[hmin] at this;exact this
 obtain⟨W1,hW1⟩:∃W1,W1=w.drew.setCells b ((i+m)*k) (cs.drop (i*k)):=⟨_,rfl⟩;have hsp1:∀x,x<(n+m)*k->(W1.cell? ⟨b,x,none⟩).isSome=true:=fun x hx=>by
  rw[hW1];exact isSome_setCells b (cs.drop (i*k)) ((i+m)*k) w.drew (fun j hj=>hsp _ (by rw[hdl] at hj;omega)) _ (hsp x hx)
 have hcp2:∀(W:World),(∀x,W.cell? x=W1.cell? x)->(∀x,W.frozen? x=W1.frozen? x)->∀ty dc,(Builtin.copy_ #[(ρ.t 24),(ρ.t 24)] ty #[.slice (some ⟨b,i*k,none⟩) (n+m-i) dc,.slice (some ⟨vb,0,none⟩) m vc]).run P W= .ok (goInt m) (W.setCells b (i*k) vs):=fun W hWc hWf ty dc=>by
  have:=dLZ W (ρ.t 24) (ρ.t 24) ty (ρ.t 9) b (i*k) (n+m-i) dc ⟨vb,0,none⟩ m vc k vs L.t24 hsz (by rw[hvl,hmin2])
   (fun j v hj=>by
    rw[Addr.add_lit,hWc,hW1,World.cell?_setCells_out b _ _ _ _ (fun h _=>absurd h hvb),Nat.zero_add];exact hvs j v hj)
   (fun j hj=>by rw[hWc];exact hsp1 _ (by omega)) (fun j hj=>by rw[hWf,hW1,World.frozen?_setCells];exact hfz _ (by omega)) h1v
  rw[hmin2] at this;exact this
 rw[<-hW1] at hcp1;obtain⟨nm,hnm9,F22⟩:=L.f22
 go_enter F22,Body2.n22_ntmps ρ
 go_wp2_with (simp only[hov])
 go_region_law_o (refine step_copy_runI rfl _ _ (ρ.t 24) (ρ.t 24) rfl _ _ (by simp[Act.eval,Act.put]) (by simp[Act.eval,Act.put]) (hcp1 _ _ _) ?_)
 go_wp2_with (at_builtin;refine wpList_copy_runI _ rfl _ _ (ρ.t 24) (ρ.t 24) rfl _ _ rfl rfl (hcp2 _ (fun _=>rfl) (fun _=>rfl) _ _) ?_)
 go_ret
 first|exact⟨rfl,rfl⟩|exact⟨rfl,by rw[hW1]⟩
omit hk z9 a9 hsz in
include L a9 z9 in
set_option maxHeartbeats 4000000 in
set_option maxRecDepth 100000 in
theorem fwZ{i0:TypeInfo}(ad:P.info? (ρ.t 9)=some i0)(R:i0.size=k)(b n c vb m vc:Nat)(vs:List Value)(w:World)(hm:0<m)(aa:n+m<=c)(aj:c<=9223372036854775807)
 (ae:vs.length=m*k)(af:∀j,j<m*k->(w.cell? ⟨b,n*k+j,none⟩).isSome=true)(ag:∀j,j<m*k->w.frozen? ⟨b,n*k+j,none⟩=false)
 (ah:∀j v,vs[j]? =some v->w.cell? ⟨vb,j,none⟩=some v)(ai:∀v∈vs,v.oneCell'=true):
 Calls P (ρ.f 22) #[.slice (some ⟨b,0,none⟩) n c,.int .i64 n,.slice (some ⟨vb,0,none⟩) m vc] w λe w'=>
  e= .returned (.slice (some ⟨b,0,none⟩) (n+m) c)/\w'=w.setCells b (n*k) vs:=by
 have t0:=L.t0;have a0:=L.a0;have z0:=L.z0;have v0:=L.v0;have t3:=L.t3;have a3:=L.a3;have z3:=L.z3;have v3:=L.v3;have t4:=L.t4;have a4:=L.a4;have z4:=L.z4;have v4:=L.v4;have al:=L.t24;have am:=L.a24;have an:=L.z24;have v24:=L.v24;have u0:=run_underlying L.t0;have u3:=run_underlying L.t3;have u4:=run_underlying L.t4;have u24:=run_underlying L.t24;have mixed:=L.mixed;have ao:¬((m:Int)=0):=by omega
 have ab:Src P i0.size (ρ.t 24) (.slice (some ⟨vb,0,none⟩) m vc) m vs w:=by
  rw[R];exact Src.ofSlice w L.t24 ⟨vb,0,none⟩ m vc vs ae (λj u hj=>by rw[Addr.add_lit,Nat.zero_add];exact ah j u hj) ai
 have ac:∀ty,(Builtin.append_ #[(ρ.t 24),(ρ.t 24)] ty #[.slice (some ⟨b,0,none⟩) n c,.slice (some ⟨vb,0,none⟩) m vc]).run P w= .ok (.slice (some ⟨b,0,none⟩) (n+m) c) (w.setCells b (n*k) vs):=λty=>by
  have:=run_append_room_src w (ρ.t 24) (ρ.t 24) ty (ρ.t 9) i0 L.t24 ad b 0 n c _ m vs ab aa (λj hj=>by rw[R,Nat.zero_add];exact af j (by omega)) (λj hj=>by rw[R,Nat.zero_add];exact ag j (by omega));rw[R,Nat.zero_add] at this;exact this
 obtain⟨nm,ak,F22⟩:=L.f22
 go_enter F22,Body2.n22_ntmps ρ
 go_wp2_with (at_builtin;refine Lib.wpList_append_run _ rfl _ _ _ _ rfl _ _ rfl rfl _ _ (ac _) ?_)
 go_ret
 exact⟨rfl,rfl⟩
omit hk z9 a9 hsz in
include L a9 z9 in
set_option maxHeartbeats 4000000 in
set_option maxRecDepth 100000 in
theorem ctZ{i0:TypeInfo}{zv:Value}{Zc:Array Value}(hZ:Zc=zv.cells)(hi0:P.info? (ρ.t 9)=some i0)(hs0:i0.size=k)(hz0:i0.zero=some zv)(base:Option Addr)(n c vb m vc:Nat)(cs vs:List Value)(w:World)(hm:0<m)(hnc:n<=c)(hroom:c<n+m)(hbig:(n+m)*i0.bytes<=140737488355328)(h48:n+m<=140737488355328)
 (hcl:cs.length=n*k)(hvl:vs.length=m*k)(hnil:base=none->n=0)
 (hcs:∀a,base=some a->∀j v,cs[j]? =some v->w.cell? (a.add j)=some v)
 (hvs:∀j v,vs[j]? =some v->w.cell? ⟨vb,j,none⟩=some v)(h1v:∀v∈vs,v.oneCell'=true):
 Calls P (ρ.f 22) #[.slice base n c,.int .i64 n,.slice (some ⟨vb,0,none⟩) m vc] w fun e w'=>
  e= .returned (.slice (some ⟨w.heap.size,0,none⟩) (n+m) (grownCap w (n+m) c (ρ.t 9)))/\
  w'=w.drew.alloc (.cells ((cs++vs).toArray++Builtin.zeroCells Zc (grownCap w (n+m) c (ρ.t 9)-(n+m))) (ρ.t 9)):=by
 have t0:=L.t0;have a0:=L.a0;have z0:=L.z0;have v0:=L.v0;have t3:=L.t3;have a3:=L.a3;have z3:=L.z3;have v3:=L.v3;have t4:=L.t4;have a4:=L.a4;have z4:=L.z4;have v4:=L.v4;have t24:=L.t24;have a24:=L.a24;have z24:=L.z24;have v24:=L.v24;have u0:=run_underlying L.t0;have u3:=run_underlying L.t3;have u4:=run_underlying L.t4;have u24:=run_underlying L.t24;have mixed:=L.mixed;have hz1:¬((m:Int)=0):=by omega
 have hsrc:Src P i0.size (ρ.t 24) (.slice (some ⟨vb,0,none⟩) m vc) m vs w:=by
  rw[hs0];exact Src.ofSlice w L.t24 ⟨vb,0,none⟩ m vc vs hvl (fun j u hj=>by rw[Addr.add_lit,Nat.zero_add];exact hvs j u hj) h1v
 have hold:(Builtin.firstCells i0.size n (.slice base n c)).run P w.drew= .ok cs.toArray w.drew:=by
  rw[hs0];cases base with
  |none=>
   have h0:=hnil rfl;subst h0;obtain rfl:cs=[]:=List.eq_nil_of_length_eq_zero (by rw[hcl,Nat.zero_mul]);exact run_firstCells_none w.drew k 0 0 c
  |some a=>exact run_firstCells_some w.drew k n a n c cs hcl (fun j v hj=>hcs a rfl j v hj)
 have hrun:∀ty,(Builtin.append_ #[(ρ.t 24),(ρ.t 24)] ty #[.slice base n c,.slice (some ⟨vb,0,none⟩) m vc]).run P w= .ok (.slice (some ⟨w.heap.size,0,none⟩) (n+m) (grownCap w (n+m) c (ρ.t 9))) (w.drew.alloc (.cells ((cs++vs).toArray++Builtin.zeroCells Zc (grownCap w (n+m) c (ρ.t 9)-(n+m))) (ρ.t 9))):=fun ty=>by
  rw[hZ];exact run_append_grow_src w (ρ.t 24) (ρ.t 24) ty (ρ.t 9) i0 _ L.t24 hi0 hz0 base n c cs hold _ m vs hsrc hroom (by omega) (growslice_fits hroom hbig)
 clear hold hsrc hz0 hZ;obtain⟨nm,hnm9,F22⟩:=L.f22
 go_enter F22,Body2.n22_ntmps ρ
 cases base with
 |none=>
  have h0:=hnil rfl;subst h0
  go_wp2_with (at_builtin;refine Lib.wpList_append_run _ rfl _ _ _ _ rfl _ _ rfl rfl _ _ (hrun _) ?_)
  all_goals(go_ret;exact⟨rfl,rfl⟩)
 |some a=>
  obtain⟨ab,ao,asp⟩:=a
  go_wp2_with (at_builtin;refine Lib.wpList_append_run _ rfl _ _ _ _ rfl _ _ rfl rfl _ _ (hrun _) ?_)
  all_goals(go_ret;exact⟨rfl,rfl⟩)
set_option maxHeartbeats 4000000 in
set_option maxRecDepth 100000 in
theorem mSZ{i0:TypeInfo}{zv:Value}{Zc:Array Value}(hZ:Zc=zv.cells)(hi0:P.info? (ρ.t 9)=some i0)(hs0:i0.size=k)(hz0:i0.zero=some zv)(hzl:Zc.size=k)(b n c i vb m vc:Nat)(cs vs:List Value)(w:World)(hi:i<n)(hm:0<m)(hnc:n<=c)(hroom:c<n+m)(hbig:(n+m)*i0.bytes<=140737488355328)(h48:n+m<=140737488355328)
 (hcl:cs.length=n*k)(hvl:vs.length=m*k)
 (hcs:∀j v,cs[j]? =some v->w.cell? ⟨b,j,none⟩=some v)
 (hvs:∀j v,vs[j]? =some v->w.cell? ⟨vb,j,none⟩=some v)(h1c:∀v∈cs,v.oneCell'=true)(h1v:∀v∈vs,v.oneCell'=true):
 Calls P (ρ.f 22) #[.slice (some ⟨b,0,none⟩) n c,.int .i64 i,.slice (some ⟨vb,0,none⟩) m vc] w fun e w'=>
  e= .returned (.slice (some ⟨w.heap.size,0,none⟩) (n+m) (grownCap w (n+m) c (ρ.t 9)))/\
  w'=(((w.alloc (.cells ((cs.take (i*k)).toArray++Builtin.zeroCells Zc (n+m-i)++Builtin.zeroCells Zc (grownCap w (n+m) c (ρ.t 9)-(n+m))) (ρ.t 9))).drew.setCells w.heap.size (i*k) vs).drew).setCells w.heap.size ((i+m)*k) (cs.drop (i*k)):=by
 have t0:=L.t0;have a0:=L.a0;have z0:=L.z0;have v0:=L.v0;have t3:=L.t3;have a3:=L.a3;have z3:=L.z3;have v3:=L.v3;have t4:=L.t4;have a4:=L.a4;have z4:=L.z4;have v4:=L.v4;have t24:=L.t24;have a24:=L.a24;have z24:=L.z24;have v24:=L.v24;have u0:=run_underlying L.t0;have u3:=run_underlying L.t3;have u4:=run_underlying L.t4;have u24:=run_underlying L.t24;have mixed:=L.mixed;have hz1:¬((m:Int)=0):=by omega
 have hz2:¬((i:Int)=(n:Int)):=by omega
 have hz3:(c:Int)<(n:Int)+(m:Int):=by omega
 have hik0:i*k<n*k:=Nat.mul_lt_mul_of_pos_right hi hk;have hmk0:0<m*k:=Nat.mul_pos hm hk;have hbw:b<w.heap.size:=block_lt_of_cell (hcs 0 _ (List.getElem?_eq_getElem (by omega)));have hvw:vb<w.heap.size:=block_lt_of_cell (hvs 0 _ (List.getElem?_eq_getElem (by omega)));have hkk:(n:Int)+(m:Int)-(i:Int)=((n+m-i:Nat):Int):=by omega
 have hik:i+(n+m-i)=n+m:=by omega
 have hold:(Builtin.firstCells i0.size i (.slice (some ⟨b,0,none⟩) i c)).run P w.drew= .ok (cs.take (i*k)).toArray w.drew:=by
  rw[hs0];exact run_firstCells_some w.drew k i ⟨b,0,none⟩ i c (cs.take (i*k)) (by rw[List.length_take];omega) (fun j v hj=>by
   rw[Addr.add_lit,Nat.zero_add];rw[List.getElem?_take] at hj;split at hj
   ·exact hcs j v hj
   ·cases hj)
 have hrz:∀ty,(Builtin.append_ #[(ρ.t 24),(ρ.t 3)] ty #[.slice (some ⟨b,0,none⟩) i c,.int .i64 ((n:Int)+(m:Int)-(i:Int))]).run P w=
  .ok (.slice (some ⟨w.heap.size,0,none⟩) (n+m) (grownCap w (n+m) c (ρ.t 9))) (w.drew.alloc (.cells ((cs.take (i*k)).toArray++Builtin.zeroCells Zc (n+m-i)++Builtin.zeroCells Zc (grownCap w (n+m) c (ρ.t 9)-(n+m))) (ρ.t 9))):=fun ty=>by
  have h:=Lib.run_append_grow_zeros w (ρ.t 24) (ρ.t 3) ty (ρ.t 9) i0 _ .i64 .i64 L.t24 L.t3 hi0 hz0 (some ⟨b,0,none⟩) i c (cs.take (i*k)) hold (n+m-i) (by omega) (by omega) (by omega) (by omega) (by
   have:(n+m-i)*i0.bytes<=(n+m)*i0.bytes:=Nat.mul_le_mul_right _ (by omega);omega) (by rw[hik];exact growslice_fits hroom hbig)
  rw[hik] at h;rw[hkk,hZ];exact h
 obtain⟨G,hG⟩:∃G,G=grownCap w (n+m) c (ρ.t 9):=⟨_,rfl⟩;obtain⟨ROW,hROW⟩:∃ROW:Array Value,ROW=(cs.take (i*k)).toArray++Builtin.zeroCells Zc (n+m-i)++Builtin.zeroCells Zc (G-(n+m)):=⟨_,rfl⟩;rw[<-hG] at hrz⊢;rw[<-hROW] at hrz⊢;have hzc:∀q,(Builtin.zeroCells Zc q).size=q*k:=fun q=>by rw[d0Z,hzl]
 have hnm:(n+m)*k=(i+m)*k+(n-i)*k:=by rw[<-Nat.add_mul];congr 1;omega
 have hnm2:(n+m)*k=i*k+m*k+(n-i)*k:=by rw[<-Nat.add_mul,<-Nat.add_mul];congr 1;omega
 have hnm3:(n+m)*k=i*k+(n+m-i)*k:=by rw[<-Nat.add_mul];congr 1;omega
 have hRl:(n+m)*k<=ROW.size:=by
  rw[hROW,Array.size_append,Array.size_append,hzc,hzc,List.size_toArray,List.length_take];omega
 obtain⟨W1,hW1⟩:∃W1,W1=w.drew.alloc (.cells ROW (ρ.t 9)):=⟨_,rfl⟩;rw[<-hW1] at hrz;have hN:∀j,j<(n+m)*k->(W1.cell? ⟨w.heap.size,j,none⟩).isSome=true:=fun j hj=>by
  rw[hW1,World.cell?_alloc_at (w:=w.drew) ROW _ w.heap.size j rfl,Array.getElem?_eq_getElem (by omega)];rfl
 have hNf:∀j,W1.frozen? ⟨w.heap.size,j,none⟩=false:=fun j=>by rw[hW1];exact World.frozen?_alloc_at (w:=w.drew) ROW _ w.heap.size j rfl
 have hOb:∀j v,w.cell? ⟨b,j,none⟩=some v->W1.cell? ⟨b,j,none⟩=some v:=fun j v h=>by rw[hW1,World.cell?_alloc_past (w:=w.drew) _ b j hbw];exact h
 have hOv:∀j v,w.cell? ⟨vb,j,none⟩=some v->W1.cell? ⟨vb,j,none⟩=some v:=fun j v h=>by rw[hW1,World.cell?_alloc_past (w:=w.drew) _ vb j hvw];exact h
 have hminA:Nat.min m (n+m-i)=m:=by simp only[Nat.min_def];split<;>omega
 have hminB:Nat.min (n-i) (n+m-(i+m))=n-i:=by simp only[Nat.min_def];split<;>omega
 have hcpA:∀(W:World),(∀x,W.cell? x=W1.cell? x)->(∀x,W.frozen? x=W1.frozen? x)->∀ty dc,(Builtin.copy_ #[(ρ.t 24),(ρ.t 24)] ty #[.slice (some ⟨w.heap.size,i*k,none⟩) (n+m-i) dc,.slice (some ⟨vb,0,none⟩) m vc]).run P W= .ok (goInt m) (W.setCells w.heap.size (i*k) vs):=fun W hWc hWf ty dc=>by
  have:=dLZ W (ρ.t 24) (ρ.t 24) ty (ρ.t 9) w.heap.size (i*k) (n+m-i) dc ⟨vb,0,none⟩ m vc k vs L.t24 hsz (by rw[hvl,hminA])
   (fun j v hj=>by rw[Addr.add_lit,hWc,Nat.zero_add];exact hOv _ v (hvs j v hj))
   (fun j hj=>by rw[hWc];exact hN _ (by omega)) (fun j hj=>by rw[hWf];exact hNf _) h1v
  rw[hminA] at this;exact this
 have hGn:n+m<=G:=by rw[hG];exact grownCap_ge w _ _ _
 have hG63:G<=9223372036854775807:=by
  have:=grownCap_le_maxLen w (n+m) c (ρ.t 9) (by unfold maxLen;omega);rw[<-hG] at this;unfold maxLen at this;omega
 have hGi:¬(G=i):=by omega
 have hGim:¬(G=i+m):=by omega
 have hci:¬(c=i):=by omega
 have hbN:b≠w.heap.size:=by omega
 have hdl:(cs.drop (i*k)).length=(n-i)*k:=by rw[List.length_drop,hcl,Nat.sub_mul]
 have hcpB:∀(W:World),(∀x,W.cell? x=(W1.setCells w.heap.size (i*k) vs).cell? x)->(∀x,W.frozen? x=(W1.setCells w.heap.size (i*k) vs).frozen? x)->∀ty dc sc,(Builtin.copy_ #[(ρ.t 24),(ρ.t 24)] ty #[.slice (some ⟨w.heap.size,(i+m)*k,none⟩) (n+m-(i+m)) dc,.slice (some ⟨b,i*k,none⟩) (n-i) sc]).run P W= .ok (goInt ((n-i:Nat):Int)) (W.setCells w.heap.size ((i+m)*k) (cs.drop (i*k))):=fun W hWc hWf ty dc sc=>by
  have:=dLZ W (ρ.t 24) (ρ.t 24) ty (ρ.t 9) w.heap.size ((i+m)*k) (n+m-(i+m)) dc ⟨b,i*k,none⟩ (n-i) sc k (cs.drop (i*k)) L.t24 hsz (by rw[hdl,hminB])
   (fun j v hj=>by
    rw[Addr.add_lit,hWc,World.cell?_setCells_out _ _ _ _ _ (fun h _=>absurd h hbN)];exact hOb _ v (hcs (i*k+j) v (by rwa [List.getElem?_drop] at hj)))
   (fun j hj=>by rw[hWc];exact isSome_setCells w.heap.size vs (i*k) W1 (fun t ht=>hN _ (by omega)) _ (hN _ (by rw[hdl] at hj;omega)))
   (fun j hj=>by rw[hWf,World.frozen?_setCells];exact hNf _) (fun v hv=>h1c v (List.mem_of_mem_drop hv))
  rw[hminB] at this;exact this
 subst hW1;have hE1:∀x,((w.alloc (.cells ROW (ρ.t 9))).drew).cell? x=(w.drew.alloc (.cells ROW (ρ.t 9))).cell? x:=fun x=>rfl;have hE2:∀x,((w.alloc (.cells ROW (ρ.t 9))).drew).frozen? x=(w.drew.alloc (.cells ROW (ρ.t 9))).frozen? x:=fun x=>rfl;have hF1:∀x,(((w.alloc (.cells ROW (ρ.t 9))).drew.setCells w.heap.size (i*k) vs).drew).cell? x=((w.drew.alloc (.cells ROW (ρ.t 9))).setCells w.heap.size (i*k) vs).cell? x:=fun x=>rfl;have hF2:∀x,(((w.alloc (.cells ROW (ρ.t 9))).drew.setCells w.heap.size (i*k) vs).drew).frozen? x=((w.drew.alloc (.cells ROW (ρ.t 9))).setCells w.heap.size (i*k) vs).frozen? x:=fun x=>rfl;have hw1:IntKind.i64.wrap ((i:Int)+(m:Int))=(i:Int)+(m:Int):=by rw[IntKind.wrap_i64];omega
 have hb1:(0:Int)<=(i:Int)+(m:Int):=by omega
 have hin:i<=n:=by omega
 have htn:((i:Int)+(m:Int)).toNat=i+m:=by omega
 have hb3:(i:Int)<=(n:Int):=by omega
 clear hz0 hZ hkk hik hold hROW hG hRl hnm hnm2 hnm3;obtain⟨nm,hnm9,F22⟩:=L.f22
 go_enter F22,Body2.n22_ntmps ρ
 go_wp2_with (first
  |(at_builtin;refine Lib.wpList_append_run _ rfl _ _ _ _ rfl _ _ rfl rfl _ _ (hrz _) ?_)
  |(at_builtin;refine wpList_copy_runI _ rfl _ _ (ρ.t 24) (ρ.t 24) rfl _ _ rfl rfl (hcpA _ hE1 hE2 _ _) ?_)
  |(at_builtin;refine wpList_copy_runI _ rfl _ _ (ρ.t 24) (ρ.t 24) rfl _ _ rfl rfl (hcpB _ (fun _=>rfl) (fun _=>rfl) _ _ _) ?_))
 go_region_law_o (refine step_copy_runI rfl _ _ (ρ.t 24) (ρ.t 24) rfl (.slice (some ⟨w.heap.size,(i+m)*k,none⟩) (n+m-(i+m)) (G-(i+m))) (.slice (some ⟨b,i*k,none⟩) (n-i) (c-i)) (by simp[Act.eval,Act.put]) (by simp[Act.eval,Act.put]) (hcpB _ hF1 hF2 (ρ.t 3) (G-(i+m)) (c-i)) ?_)
 go_wp2
 go_ret
 exact⟨rfl,rfl⟩
end
end Go.Proofs
namespace Go.Ab
open Go.Proofs Go.Shelf
section
variable {z : Z} {H : Hp}
theorem ejZ{H H'}(h:∀j,bG H j=bG H' j)(id):bP H id=bP H' id:=by
 simp_all[bP]
theorem bI.forget(hH:bI z H){H2}{a}(ha:a<bA)(hg:∀j,bG H2 j=bG H j)(hk:∀j,bM H2 j=(bM H j&& !Nat.beq a j)):bI {z with D:=λk=>z.D k\/k=a} H2:=by
 have h0:=eIZ;have aa:∀j,bM H2 j=true->bM H j=true:=λj h=>by simp_all
 refine⟨λid e he=>(hH.ent id e (by grind[ejZ])).rho rfl rfl (.inl (.eq rfl)) rfl (λ_ _=>rfl) (λ_ _ _ _ _ h=>h),λi i' e e' g sz n g' ab n' ac h1 h2=>hH.inj i i' e e' g sz n g' ab n' ac (by grind[ejZ]) (by grind[ejZ]),λid R=> ?_,hH.sub,λid e h=>hH.fam id e (by simp_all),λi h=>hH.key i (aa i h),λi hd h=> ?_,hH.nos⟩
 .by_cases ad:id=a
  .omega
  .have:dU H id=false:=by
    unfold dU at R⊢;by_cases hd:bC<=id
    .rw[ZAM hd] at R⊢;have ae:a≠rt id:=by have:=(bNZ hd).1;omega
     rw[hg,hk] at R;have hb:Nat.beq a (rt id)=false:=ahZ ae;rw[hb] at R;simpa using R
    .rw[ZAK hd] at R⊢;by_cases hf:bA<=id
     .rw[ZAM hf]
     .rw[ZAK hf] at R⊢;rw[hk,ahZ (ZBj ad)] at R;simpa using R
   rcases hH.fresh id this with h2|h2<;>grind
 .rintro(h2|h2)
  .exact hH.dyn i hd (aa _ h) h2
  omega
end
section
variable {w : World} {M : Nat → Prop} {ρ : Rho} {u : Ty}
theorem cI.eq{l}{cs cs'}(h:cI w M ρ u l cs)(he:∀j,j<l.length*u.cells->cs'[j]? =cs[j]?):cI w M ρ u l cs':=λi x hx=>by
 let⟨us,h1,h2⟩:=h i x hx
 refine⟨us,h1,λj v hj=> ?_⟩;have hi:=(ZAB.1 hx).1;have R:=(ZAB.1 hj).1;rw[h1.len] at R;have aa:(i+1)*u.cells<=l.length*u.cells:=ZAd _ hi
 grind
theorem cI.app{l m}{cs R}(h:cI w M ρ u l cs)(hc:cs.length=l.length*u.cells)(h':cI w M ρ u m R):cI w M ρ u (l++m) (cs++R):=λi x hx=>by
 by_cases hi:i<l.length
 .rw[ZAT hi] at hx
  let⟨us,h1,h2⟩:=h i x hx<;>grind
 .rw[ZAU (by omega)] at hx
  let⟨us,h1,h2⟩:=h' _ x hx
  refine⟨us,h1,λj v hj=> ?_⟩;have:=h2 j v hj;have e:i*u.cells=cs.length+(i-l.length)*u.cells:=by rw[hc,<-Nat.add_mul];congr 1;omega
  rw[e,ZB5,ZAU (by omega),ZA5];exact this
theorem cI.takeC{l}{cs}(h:cI w M ρ u l cs)(q):cI w M ρ u (l.take q) (cs.take (q*u.cells)):=
 (h.take q).eq λj R=>by
  rw[ZAo,ZAM];have:(l.take q).length*u.cells<=q*u.cells:=ZAd _ (by grind);omega
theorem cI.dropC{l}{cs}(h:cI w M ρ u l cs)(q):cI w M ρ u (l.drop q) (cs.drop (q*u.cells)):=λi x hx=>by
 rw[ZAy] at hx
 let⟨us,h1,h2⟩:=h _ x hx<;>grind
theorem cI.cut{l}{cs}(h:cI w M ρ u l cs)(hc:l.length*u.cells<=cs.length)(h0:0<u.cells):
 cI w M ρ u l (cs.take (l.length*u.cells))/\(cs.take (l.length*u.cells)).length=l.length*u.cells/\∀v∈cs.take (l.length*u.cells),v.oneCell'=true:=by
 refine⟨h.eq λj R=>by rw[ZAo,ZAM R],by rw[ZAS];omega,λv hv=> ?_⟩
 let⟨j,R⟩:=ZAR hv
 rw[ZAo] at R;split at R
 .rename_i aa;have hi:=Nat.div_lt_of_lt_mul (by rw[ZCN];exact aa)
  let⟨us,h1,h2⟩:=h _ _ (ZAC hi)
  have hr:j%u.cells<us.length:=by rw[h1.len];exact ZCc _ h0
  have:=h2 _ _ (ZAC hr);rw[show j/u.cells*u.cells+j%u.cells=j from by rw[ZCN];exact ZCL _ _] at this;rw[this] at R;cases R;exact h1.one _ (ZBK hr)
 simp_all
end
theorem uBZ{z}{a b c}{vals}(h:bQ z [a,b,c] vals):∃u v w,vals=[u,v,w]/\bE z a u/\bE z b v/\bE z c w:=by
 let⟨h1,h2⟩:=h
 match vals,h1,h2 with
 |[u,v,w],_,h2=>exact⟨u,v,w,rfl,h2 0 a u rfl rfl,h2 1 b v rfl rfl,h2 2 c w rfl rfl⟩
def SX(u:Ty)(R:Nat)(t:Int×(List u.den×List u.den)):Option (List u.den×List u.den):=
 (cT t.1 t.2.1.length).bind λq=>bO (Nat.blt 0 t.2.2.length&&Nat.ble ((t.2.1.length+t.2.2.length)*R) cM&&Nat.ble (t.2.1.length+t.2.2.length) cM) (some (t.2.2,t.2.1.take q++t.2.2++t.2.1.drop q))
section
variable {P : Program} {ρr : Ren}
theorem g2Z(L:InsLay P ρr){u}{by_}{ag:Bool}(h0:0<u.cells)(hub:u≠.byte)(z9:∀w,(Go.sizeOf (ρr.t 9)).run P w= .ok u.cells w)(a9:∀w,(isAgg (ρr.t 9)).run P w= .ok ag w)
 (hi9:(P.info? (ρr.t 9)).map (fun i=>(i.size,i.bytes,i.zero.map fun v=>v.cells.size))=some (u.cells,by_,some u.cells))
 (hent:∃fn c,P.funcs[ρr.f 22]? =some fn/\fn.body=some c/\(fn.name== "runtime.NumGoroutine")=false):
 eZ P ⟨ρr.f 22,⟨.cons (.slf u.cells 0) (.cons (.p (.int .i64)) (.cons (.slf u.cells 1) .nil)),[(0,false,.rows (ρr.t 9) u),(1,false,.rows (ρr.t 9) u)]⟩,[⟨.cons (.slf u.cells 2) .nil,[(1,false,.rows (ρr.t 9) u),(2,false,.rows (ρr.t 9) u)]⟩],SX u by_⟩:=by
 refine eZ.of hent fun t r hr z vals hH hv hD=> ?_;obtain⟨⟨qi,l,v⟩,rfl⟩:∃t':Int×(List u.den×List u.den),t'=t:=⟨t,rfl⟩;have hr:SX u by_ (qi,(l,v))=some r:=hr;unfold SX at hr;dsimp only at hr;obtain⟨q,hq,hr⟩:=ZAG.1 hr;obtain⟨hr0,hr⟩:=aeZ.1 hr;simp only[ZAE,ZBd,ZAm,show cM=140737488355328 from rfl] at hr0;injection hr with hr;subst hr;have hH:bI z [(0,some ⟨false,.rows (ρr.t 9) u l⟩),(1,some ⟨false,.rows (ρr.t 9) u v⟩)]:=hH;have hv:bQ z [.slf u.cells 0,.p (.int .i64) qi,.slf u.cells 1] vals:=hv;obtain⟨v1,v2,v3,rfl,k1,k2,k3⟩:=uBZ hv;obtain rfl:=k2.v.int;have hqi:0<=qi/\qi<=l.length/\q=qi.toNat:=by
  unfold cT at hq;split at hq
  ·simp_all
  ·grind
 obtain rfl:qi=(q:Int):=by omega
 have hql:q<=l.length:=by omega
 have hg0:bG [(0,some (⟨false,.rows (ρr.t 9) u l⟩:Ent)),(1,some ⟨false,.rows (ρr.t 9) u v⟩)] 0=some ⟨false,.rows (ρr.t 9) u l⟩:=rfl;have hg1:bG [(0,some (⟨false,.rows (ρr.t 9) u l⟩:Ent)),(1,some ⟨false,.rows (ρr.t 9) u v⟩)] 1=some ⟨false,.rows (ρr.t 9) u v⟩:=rfl;obtain⟨i0,hi0,hi0'⟩:=ZAH.1 hi9;simp only[ZA0] at hi0';obtain⟨hs0,hby,hz0⟩:=hi0';obtain⟨zv,hzv,hzl⟩:=ZAH.1 hz0;have hsz:(P.info? (ρr.t 9)).map (·.size)=some u.cells:=by rw[hi0];simp[hs0]
 have hbig:(l.length+v.length)*i0.bytes<=140737488355328:=by rw[hby];exact hr0.1.2
 have hfb:(0:Nat)<bA/\(1:Nat)<bA/\(2:Nat)<bA:=by simp[bA]
 cases k3 with
 |slfV _ _ A hρ=>
  have:v=[]:=(hH.virt hg1 hρ).1
  simp_all
 |slf _ _ g3 sz3 m c3 hρ3 hn3 hs3 hm3=>
 obtain⟨hlt3,hC3,_,cs3,fr3,b1,b2,b3,b4,b5,b6,b7⟩:=hH.real hg1 hρ3;obtain rfl:v.length=m:=b4;have R3:cI z.w z.M z.ρ u v cs3.toList:=fun i x hx=>by grind
 obtain⟨V1,V2,V3⟩:=R3.cut (by grind) h0;generalize hVS:cs3.toList.take (v.length*u.cells)=VS at V1 V2 V3;have hvs:∀j x,VS[j]? =some x->z.w.cell? ⟨g3,j,none⟩=some x:=fun j x hj=>by
  grind[ZAo,byZ]
 have htup:∀(z':Z) (x:Value),bE z' (.slf u.cells 2) x->bE z' (nH [.slf u.cells 2]) x:=fun z' x h=>h;have fin:∀(w':World) (val:Value) (z':Z),z'.w=w'->bI z' [(0,none),(1,some ⟨false,.rows (ρr.t 9) u v⟩),(2,some ⟨false,.rows (ρr.t 9) u (l.take q++v++l.drop q)⟩)]->Nx z z'->bE z' (.slf u.cells 2) val->
  ∃vv z'',Ending.returned val= .returned vv/\z''.w=w'/\Nx z {z'' with D:=z.D}/\(∀k,z''.D k->k∈bJ [(0,false,BKd.rows (ρr.t 9) u),(1,false,BKd.rows (ρr.t 9) u)])/\
   dS.on [⟨.cons (.slf u.cells 2) .nil,[(1,false,.rows (ρr.t 9) u),(2,false,.rows (ρr.t 9) u)]⟩] (v,l.take q++v++l.drop q) fun o x=>bI z'' (o.emb x).2/\bE z'' (nH (o.emb x).1) vv:=fun w' val z' e1 e2 e3 e4=>by
  refine⟨val,{z' with D:=fun k=>z'.D k\/k=0},rfl,e1,?_,fun k hk=> ?_,?_,?_⟩
  ·exact⟨e3.os,e3.tape,e3.output,e3.size,e3.block,e3.subM,e3.subC,e3.keepM,e3.ext,rfl⟩
  ·rcases hk with hk|hk
   ·rw[e3.dom] at hk;exact absurd hk (hD k)
   grind[bJ]
  ·have:=e2.forget (a:=0) hfb.1 (H2:=[(1,some ⟨false,.rows (ρr.t 9) u v⟩),(2,some ⟨false,.rows (ρr.t 9) u (l.take q++v++l.drop q)⟩)]) (fun j=>by
    simp only[bG];cases hb:Nat.beq 0 j with
    |false=>rfl
    |true=>
     have:j=0:=(ZB3 hb).symm;subst this
     rfl) (fun j=>by
    simp only[bM];cases hb:Nat.beq 0 j with
    |false=>simp
    |true=>
     have:j=0:=(ZB3 hb).symm;subst this
     rfl)
   exact this
  ·exact e4.less rfl rfl fun g h=>h
 have hok2:bM [(0,(none:Option Ent)),(1,some ⟨false,.rows (ρr.t 9) u v⟩)] 2=false/\2<bA:=⟨rfl,hfb.2.2⟩;have nD:∀k,¬z.D k:=hD;have h3len:(l.take q++v++l.drop q).length=l.length+v.length:=by simp;omega
 have hVS0:VS.length=v.length*u.cells:=V2;have hvz:∀(W:World),(∀x,W.cell? x=z.w.cell? x)->True:=fun _ _=>trivial;cases k1 with
 |slfV _ _ A hρ=>
  have hl:l=[]:=(hH.virt hg0 hρ).1;subst hl;obtain rfl:q=0:=by simpa using hql
  have hins:=ctZ (k:=u.cells) L z9 a9 (Zc:=zv.cells) rfl hi0 hs0 hzv A 0 0 g3 v.length c3 [] VS z.w hr0.1.1 (ZAN _) (by omega) (by simpa using hbig) (by have:=hr0.2;simpa using this) (by simp) V2 (fun _=>rfl) (fun a _ j x hx=>by simp at hx) hvs V3;refine hins.mono ?_;rintro en w' ⟨rfl,rfl⟩;generalize hG:grownCap z.w (0+v.length) 0 (ρr.t 9)=G at*;have hge:v.length<=G:=by rw[<-hG];have:=grownCap_ge z.w (0+v.length) 0 (ρr.t 9);omega
  have hGm:G<=maxLen:=by rw[<-hG];exact grownCap_le_maxLen _ _ _ _ (by unfold maxLen;omega)
  have hcs:(([]++VS).toArray++Builtin.zeroCells zv.cells (G-(0+v.length))).size=G*u.cells:=by
   rw[ZBU,size_zeroCells,hzl,ZBe,ZBL,V2,<-Nat.add_mul];congr 1;omega
  obtain⟨z',p1,p2,p3,p4⟩:=biZ (z:=z) (w':=z.w.drew.alloc (.cells (([]++VS).toArray++Builtin.zeroCells zv.cells (G-(0+v.length))) (ρr.t 9))) (e:=ρr.t 9) (l:=([]:List u.den).take 0++v++([]:List u.den).drop 0) (hH.kill (aiZ hg0)) hok2 (nD 2)
   (heap_alloc_new z.w.drew _) (okR0 _) rfl ⟨rfl,ZBa _⟩ rfl (fun k hk=>heap_alloc_old z.w.drew _ hk) (by rw[hcs];simpa using ZAd _ hge) h0 (by
    have:(([]:List u.den).take 0++v++([]:List u.den).drop 0)=v:=by simp
    rw[this];refine V1.eq fun j hj=> ?_;rw[ZCO,ZAT (by simp;omega)];simp)
  exact fin _ _ z' p1 p2 p3 (.slf _ _ _ _ (0+v.length) _ (by rw[p4];congr 1) (by simpa using hge) (by rw[hcs];exact ZAN _) hGm)
 |slf _ _ g sz n c hρ hn hs hm=>
 obtain⟨hlt,hC,_,cs,fr,a1,a2,a3,a4,a5,a6,a7⟩:=hH.real hg0 hρ;obtain rfl:l.length=n:=a4;have hne:g3≠g:=hH.inj 1 0 _ _ g3 sz3 _ g sz _ (by decide) (by rw[aqZ hfb.2.1];exact hg1) (by rw[aqZ hfb.1];exact hg0) rfl rfl hρ3 hρ fun h=>bUZ (by decide) h.1;have R1:cI z.w z.M z.ρ u l cs.toList:=fun i x hx=>by obtain⟨us,q1,q2⟩:=a7 i x hx;exact⟨us,q1,fun j v hj=>by simpa using q2 j v hj⟩
 obtain⟨S1,S2,S3⟩:=R1.cut (by rw[ZBD (xs:=cs)];omega) h0;generalize hCS:cs.toList.take (l.length*u.cells)=CS at S1 S2 S3;have hcsj:∀j x,CS[j]? =some x->cs[j]? =some x:=fun j x hj=>by
  rw[<-hCS,ZAo] at hj;split at hj
  ·simpa using hj
  ·cases hj
 have hcell:∀j x,CS[j]? =some x->z.w.cell? ⟨g,j,none⟩=some x:=fun j x hj=>by rw[byZ a1];exact hcsj j x hj
 have hcsl:∀j,j<l.length*u.cells->cs[j]? =CS[j]? :=fun j hj=>by rw[<-hCS,ZAo,ZAM hj];simp
 have hqk:q*u.cells<=l.length*u.cells:=ZAd _ hql;have RL:cI z.w z.M z.ρ u (l.take q++v++l.drop q) (CS.take (q*u.cells)++VS++CS.drop (q*u.cells)):=by
  refine cI.app (cI.app (S1.takeC q) ?_ V1) ?_ (S1.dropC q)
  ·rw[ZAS,ZAS,S2,ZA7 hqk,ZA7 hql]
  ·rw[ZAe,ZAe,ZAS,ZAS,S2,V2,ZA7 hqk,ZA7 hql,ZAn]
 have hL':(CS.take (q*u.cells)++VS++CS.drop (q*u.cells)).length=(l.length+v.length)*u.cells:=by
  rw[ZAe,ZAe,ZAS,ZAu,S2,V2,ZA7 hqk,ZAn];omega
 have hdk:(CS.drop (q*u.cells)).length=(l.length-q)*u.cells:=by rw[ZAu,S2,ZCs]
 have hget3:∀j,(CS.take (q*u.cells)++VS++CS.drop (q*u.cells))[j]? =if j<q*u.cells then CS[j]? else if j<(q+v.length)*u.cells then VS[j-q*u.cells]? else CS[j-v.length*u.cells]? :=fun j=>by
  have e1:(CS.take (q*u.cells)).length=q*u.cells:=by rw[ZAS,S2];omega
  have e2:(CS.take (q*u.cells)++VS).length=(q+v.length)*u.cells:=by rw[ZAe,e1,V2,ZAn]
  have e3:(q+v.length)*u.cells=q*u.cells+v.length*u.cells:=ZAn _ _ _;by_cases h1:j<q*u.cells
  ·rw[ZAM h1,ZAT (by omega),ZAT (by omega),ZAo,ZAM h1]
  ·rw[ZAK h1];by_cases h2:j<(q+v.length)*u.cells
   ·rw[ZAM h2,ZAT (by omega),ZAU (by omega),e1]
   ·rw[ZAK h2,ZAU (by omega),e2,ZAy];congr 1;omega
 have eqv:(q+v.length)*u.cells=q*u.cells+v.length*u.cells:=ZAn _ _ _;have elv:(l.length+v.length)*u.cells=l.length*u.cells+v.length*u.cells:=ZAn _ _ _;have eqd:(l.length-q)*u.cells=l.length*u.cells-q*u.cells:=ZCs _ _ _;have hvk:0<v.length*u.cells:=Nat.mul_pos hr0.1.1 h0;by_cases hroom:l.length+v.length<=c
 ·
  have hfit:(l.length+v.length)*u.cells<=cs.size:=by
   have:(l.length+v.length)*u.cells<=c*u.cells:=ZAd _ hroom;omega
  have hth:=dhZ (o:=0) (n:=(l.length+v.length)*u.cells) a1 a2.f (by omega);have hend:∀(w':World) (cs':Array Value),w'.heap[g]? =some (.cells cs' (ρr.t 9) fr)->cs'.size=cs.size->w'.os=z.w.os->(w'.tape=z.w.tape/\z.w.drawn<=w'.drawn)->w'.output=z.w.output->w'.heap.size=z.w.heap.size->(∀b,b≠g->w'.heap[b]? =z.w.heap[b]?)->
   (∀j,j<(l.length+v.length)*u.cells->cs'[j]? =(CS.take (q*u.cells)++VS++CS.drop (q*u.cells))[j]?)->
   ∃z',z'.w=w'/\bI z' [(0,none),(1,some ⟨false,.rows (ρr.t 9) u v⟩),(2,some ⟨false,.rows (ρr.t 9) u (l.take q++v++l.drop q)⟩)]/\Nx z z'/\bE z' (.slf u.cells 2) (.slice (some ⟨g,0,none⟩) (l.length+v.length) c):=fun w' cs' d1 d2 d3 d4 d5 d6 d7 d8=>by
   obtain⟨z',p1,p2,p3,p4⟩:=hH.move (id:=2) (n':=l.length+v.length) (b:=.rows (ρr.t 9) u (l.take q++v++l.drop q)) hg0 hρ hok2 (nD 2) d3 d4 d5 d6 d7 (fun z' hz kk=>by
    refine⟨cs',fr,by rw[hz];exact d1,ewZ a2 d2,by rw[d2];exact a3,h3len,by rw[h3len];omega,a6,fun i x hx=> ?_⟩;have hR:=(RL.eq (cs':=cs'.toList) fun j hj=>by rw[h3len] at hj;simpa using d8 j hj).kp kk;obtain⟨us,q1,q2⟩:=hR i x hx;exact⟨us,q1,fun j y hj=>by simpa using q2 j y hj⟩)
   exact⟨z',p1,p2,p3,.slf _ _ _ _ _ _ p4 hroom hs hm⟩
  by_cases hqn:q<l.length
  ·have hn0:l.length*u.cells≠0:=by have:=Nat.mul_pos (show 0<l.length by omega) h0;omega
   have hsh:∀{gg:Nat} {cc:Array Value} {ee:TypeId} {ff:Nat×Nat},z.w.heap[gg]? =some (.cells cc ee ff)->z.w.shape? gg=some (ee,cc.size):=fun h=>by unfold World.shape?;rw[h]
   have hfr3:∀o,z.w.frozen? ⟨g3,o,none⟩=false:=fun o=>by
    have hf:fr3.1=fr3.2:=by
     rcases b2 with h|h
     ·exact h
     ·exact absurd h.1 hub
    unfold World.frozen?;rw[b1];simp only[ZB8,ZBA];omega
   have hins:=kwZ (k:=u.cells) L h0 z9 a9 hsz g l.length c q g3 v.length c3 CS VS z.w hqn hr0.1.1 hroom (by unfold maxLen at hm;omega) hne S2 V2 hcell
    (fun j hj=>by have:=(hth j hj).1;simpa using this) (fun j hj=>by have:=(hth j hj).2;simpa using this) hvs S3 V3 _ _ _ _ (hsh b1) (hsh a1) (by omega) (hfr3 0) (hfr3 _)
   refine hins.mono ?_;rintro en w' ⟨rfl,rfl⟩;obtain⟨e1,e2,e3,e4⟩:=asZ (CS.drop (q*u.cells)) z.w.drew g ((q+v.length)*u.cells);obtain⟨f1,f2,f3,f4⟩:=asZ VS (z.w.drew.setCells g ((q+v.length)*u.cells) (CS.drop (q*u.cells))) g (q*u.cells);have hA:z.w.drew.heap[g]? =some (.cells cs (ρr.t 9) fr):=a1;obtain⟨z',y1,y2,y3,y4⟩:=hend _ (eG (eG cs ((q+v.length)*u.cells) (CS.drop (q*u.cells))) (q*u.cells) VS) (amZ _ _ _ _ _ _ _ (amZ _ _ _ _ _ _ _ hA)) (by rw[alZ,alZ])
    (f2.trans e2) ⟨f3.1.trans e3.1,ZBF (ZBF (ZBa _) e3.2) f3.2⟩ (f4.trans e4) (f1.trans e1) (fun b hb=>(anZ _ _ _ _ _ hb).trans (anZ _ _ _ _ _ hb)) (fun j hj=>by
     rw[hget3 j,awZ _ _ _ _ (by rw[alZ,V2];omega),V2,awZ _ _ _ _ (by rw[hdk];omega),hdk];by_cases c1:j<q*u.cells
     ·rw[ZAK (by omega),ZAK (by omega),ZAM c1];exact hcsl j (by omega)
     ·rw[ZAK c1];by_cases c2:j<(q+v.length)*u.cells
      ·rw[ZAM (by omega),ZAM c2]
      ·rw[ZAK (by omega),ZAM (by omega),ZAK c2,ZAy];congr 1;omega)
   exact fin _ _ z' y1 y2 y3 y4
  ·obtain rfl:q=l.length:=by omega
   have hins:=fwZ (k:=u.cells) L z9 a9 hi0 hs0 g l.length c g3 v.length c3 VS z.w hr0.1.1 hroom (by unfold maxLen at hm;omega) V2 (fun j hj=>by have:=(hth (l.length*u.cells+j) (by omega)).1;simpa using this) (fun j hj=>by have:=(hth (l.length*u.cells+j) (by omega)).2;simpa using this) hvs V3;refine hins.mono ?_;rintro en w' ⟨rfl,rfl⟩;obtain⟨e1,e2,e3,e4⟩:=asZ VS z.w g (l.length*u.cells);obtain⟨z',y1,y2,y3,y4⟩:=hend _ (eG cs (l.length*u.cells) VS) (amZ _ _ _ _ _ _ _ a1) (alZ _ _ _) e2 e3 e4 e1 (fun b hb=>anZ _ _ _ _ _ hb) (fun j hj=>by
    rw[hget3 j,awZ _ _ _ _ (by rw[V2];omega),V2];by_cases c1:j<l.length*u.cells
    ·rw[ZAK (by omega),ZAM c1];exact hcsl j c1
    ·rw[ZAK c1,ZAM (by omega),ZAM (by omega)])
   exact fin _ _ z' y1 y2 y3 y4
 ·
  have hroom':c<l.length+v.length:=by omega
  generalize hG:grownCap z.w (l.length+v.length) c (ρr.t 9)=G;have hge:l.length+v.length<=G:=by rw[<-hG];exact grownCap_ge _ _ _ _
  have hGm:G<=maxLen:=by rw[<-hG];exact grownCap_le_maxLen _ _ _ _ (by unfold maxLen;omega)
  have hgk:(l.length+v.length)*u.cells<=G*u.cells:=ZAd _ hge;have hend:∀(w':World) (cs':Array Value),w'.heap[z.w.heap.size]? =some (.cells cs' (ρr.t 9) (0,0))->cs'.size=G*u.cells->w'.os=z.w.os->(w'.tape=z.w.tape/\z.w.drawn<=w'.drawn)->w'.output=z.w.output->(∀b,b<z.w.heap.size->w'.heap[b]? =z.w.heap[b]?)->
   (∀j,j<(l.length+v.length)*u.cells->cs'[j]? =(CS.take (q*u.cells)++VS++CS.drop (q*u.cells))[j]?)->
   ∃z',z'.w=w'/\bI z' [(0,none),(1,some ⟨false,.rows (ρr.t 9) u v⟩),(2,some ⟨false,.rows (ρr.t 9) u (l.take q++v++l.drop q)⟩)]/\Nx z z'/\bE z' (.slf u.cells 2) (.slice (some ⟨z.w.heap.size,0,none⟩) (l.length+v.length) G):=fun w' cs' d1 d2 d3 d4 d5 d7 d8=>by
   obtain⟨z',p1,p2,p3,p4⟩:=biZ (z:=z) (w':=w') (e:=ρr.t 9) (l:=l.take q++v++l.drop q) (hH.kill (aiZ hg0)) hok2 (nD 2) d1 (okR0 _) d3 d4 d5 d7 (by rw[h3len,d2];exact hgk) h0 (RL.eq (cs':=cs'.toList) fun j hj=>by rw[h3len] at hj;simpa using d8 j hj);exact⟨z',p1,p2,p3,.slf _ _ _ _ _ _ (by rw[p4,h3len]) hge (by rw[d2];exact ZAN _) hGm⟩
  by_cases hqn:q<l.length
  ·have hins:=mSZ (k:=u.cells) L h0 z9 a9 hsz (Zc:=zv.cells) rfl hi0 hs0 hzv hzl g l.length c q g3 v.length c3 CS VS z.w hqn hr0.1.1 hn hroom' hbig hr0.2 S2 V2 hcell hvs S3 V3;rw[hG] at hins;refine hins.mono ?_;rintro en w' ⟨rfl,rfl⟩;generalize hROW:(CS.take (q*u.cells)).toArray++Builtin.zeroCells zv.cells (l.length+v.length-q)++Builtin.zeroCells zv.cells (G-(l.length+v.length))=ROW;have hRs:ROW.size=G*u.cells:=by
    rw[<-hROW,ZBU,ZBU,size_zeroCells,size_zeroCells,hzl,ZBL,ZAS,S2,ZA7 hqk,<-Nat.add_mul,<-Nat.add_mul];congr 1;omega
   have hR0:∀j,j<q*u.cells->ROW[j]? =CS[j]? :=fun j hj=>by
    have e1:(CS.take (q*u.cells)).length=q*u.cells:=by rw[ZAS,S2];omega
    rw[<-hROW,Array.append_assoc,ZBO (by rw[ZBL,e1];exact hj),ZCb,ZAo,ZAM hj]
   have hnew:(z.w.alloc (.cells ROW (ρr.t 9))).drew.heap[z.w.heap.size]? =some (.cells ROW (ρr.t 9) (0,0)):=heap_alloc_new z.w _;obtain⟨e1,e2,e3,e4⟩:=asZ VS (z.w.alloc (.cells ROW (ρr.t 9))).drew z.w.heap.size (q*u.cells);obtain⟨f1,f2,f3,f4⟩:=asZ (CS.drop (q*u.cells)) ((z.w.alloc (.cells ROW (ρr.t 9))).drew.setCells z.w.heap.size (q*u.cells) VS).drew z.w.heap.size ((q+v.length)*u.cells);obtain⟨z',y1,y2,y3,y4⟩:=hend (((z.w.alloc (.cells ROW (ρr.t 9))).drew.setCells z.w.heap.size (q*u.cells) VS).drew.setCells z.w.heap.size ((q+v.length)*u.cells) (CS.drop (q*u.cells))) (eG (eG ROW (q*u.cells) VS) ((q+v.length)*u.cells) (CS.drop (q*u.cells))) (amZ _ _ _ _ _ _ _ (show((z.w.alloc (.cells ROW (ρr.t 9))).drew.setCells z.w.heap.size (q*u.cells) VS).heap[z.w.heap.size]? =_ from amZ _ _ _ _ _ _ _ hnew)) (by rw[alZ,alZ,hRs])
    (f2.trans e2) ⟨f3.1.trans e3.1,ZBF (ZBF (ZBF (ZBa _) e3.2) (ZBa _)) f3.2⟩ (f4.trans e4) (fun b hb=>(anZ _ _ _ _ _ (by omega)).trans ((anZ _ _ _ _ _ (by omega)).trans (heap_alloc_old z.w _ hb))) (fun j hj=>by
     rw[hget3 j,awZ _ _ _ _ (by rw[alZ,hdk,hRs];omega),hdk,awZ _ _ _ _ (by rw[V2,hRs];omega),V2];by_cases c1:j<q*u.cells
     ·rw[ZAK (by omega),ZAK (by omega),ZAM c1];exact hR0 j c1
     ·rw[ZAK c1];by_cases c2:j<(q+v.length)*u.cells
      ·rw[ZAK (by omega),ZAM (by omega),ZAM c2]
      ·rw[ZAM (by omega),ZAK c2,ZAy];congr 1;omega)
   exact fin _ _ z' y1 y2 y3 y4
  ·obtain rfl:q=l.length:=by omega
   have hins:=ctZ (k:=u.cells) L z9 a9 (Zc:=zv.cells) rfl hi0 hs0 hzv (some ⟨g,0,none⟩) l.length c g3 v.length c3 CS VS z.w hr0.1.1 hn hroom' hbig hr0.2 S2 V2 (fun h=>by cases h) (fun a ha j x hx=>by cases ha;rw[Addr.add_lit,ZA1];exact hcell j x hx) hvs V3;rw[hG] at hins;refine hins.mono ?_;rintro en w' ⟨rfl,rfl⟩;have hcs:((CS++VS).toArray++Builtin.zeroCells zv.cells (G-(l.length+v.length))).size=G*u.cells:=by
    rw[ZBU,size_zeroCells,hzl,ZBL,ZAe,S2,V2,<-Nat.add_mul,<-Nat.add_mul];congr 1;omega
   obtain⟨z',y1,y2,y3,y4⟩:=hend _ _ (heap_alloc_new z.w.drew _) hcs rfl ⟨rfl,ZBa _⟩ rfl (fun b hb=>heap_alloc_old z.w.drew _ hb) (fun j hj=>by
    rw[ZBO (by rw[ZBL,ZAe,S2,V2];omega),ZCb];congr 1;rw[ZAv (by omega),ZCV (by omega),ZAr])
   exact fin _ _ z' y1 y2 y3 y4
end
section
variable {P : Program} {ρr : Ren}
def KM(u fs:Ty)(R:Nat)(t:Int×(List u.den×(List u.den×List (Nat×List fs.den)))):Option (List u.den×(List u.den×List (Nat×List fs.den))):=
 (cT t.1 t.2.1.length).bind λq=>bO (Nat.blt 0 t.2.2.1.length&&Nat.ble ((t.2.1.length+t.2.2.1.length)*R) cM&&Nat.ble (t.2.1.length+t.2.2.1.length) cM) (some (t.2.2.1,(t.2.1.take q++t.2.2.1++t.2.1.drop q,t.2.2.2)))
theorem gkZ(L:InsLay P ρr){u}{f}{fe}{fs}{by_}{ag}(h0:0<u.cells)(hub:u≠.byte)(z9:∀w,(Go.sizeOf (ρr.t 9)).run P w= .ok u.cells w)(a9:∀w,(isAgg (ρr.t 9)).run P w= .ok ag w)
 (hi9:(P.info? (ρr.t 9)).map (fun i=>(i.size,i.bytes,i.zero.map fun v=>v.cells.size))=some (u.cells,by_,some u.cells))
 (hent:∃fn c,P.funcs[ρr.f 22]? =some fn/\fn.body=some c/\(fn.name== "runtime.NumGoroutine")=false):
 eZ P ⟨ρr.f 22,⟨.cons (.slf u.cells 0) (.cons (.p (.int .i64)) (.cons (.slf u.cells 1) .nil)),[(0,false,.rows (ρr.t 9) u),(1,false,.rows (ρr.t 9) u),(bZ f,false,.fam fe fs)]⟩,[⟨.cons (.slf u.cells 2) .nil,[(1,false,.rows (ρr.t 9) u),(2,false,.rows (ρr.t 9) u),(bZ f,false,.fam fe fs)]⟩],KM u fs by_⟩:=by
 refine eZ.of hent fun t r hr z vals hH hv hD=> ?_;obtain⟨⟨qi,l,v,ms⟩,rfl⟩:∃t':Int×(List u.den×(List u.den×List (Nat×List fs.den))),t'=t:=⟨t,rfl⟩;have hfr:=caZ f;have hr:KM u fs by_ (qi,(l,(v,ms)))=some r:=hr;unfold KM at hr;dsimp only at hr;obtain⟨q,hq,hr⟩:=ZAG.1 hr;obtain⟨hr0,hr⟩:=aeZ.1 hr;simp only[ZAE,ZBd,ZAm,show cM=140737488355328 from rfl] at hr0;injection hr with hr;subst hr;have hH:bI z [(0,some ⟨false,.rows (ρr.t 9) u l⟩),(1,some ⟨false,.rows (ρr.t 9) u v⟩),(bZ f,some ⟨false,.fam fe fs ms⟩)]:=hH;have hv:bQ z [.slf u.cells 0,.p (.int .i64) qi,.slf u.cells 1] vals:=hv;obtain⟨v1,v2,v3,rfl,k1,k2,k3⟩:=uBZ hv;obtain rfl:=k2.v.int;have hqi:0<=qi/\qi<=l.length/\q=qi.toNat:=by
  unfold cT at hq;split at hq
  ·simp_all
  ·grind
 obtain rfl:qi=(q:Int):=by omega
 have hql:q<=l.length:=by omega
 have hg0:bG [(0,some (⟨false,.rows (ρr.t 9) u l⟩:Ent)),(1,some ⟨false,.rows (ρr.t 9) u v⟩),(bZ f,some ⟨false,.fam fe fs ms⟩)] 0=some ⟨false,.rows (ρr.t 9) u l⟩:=rfl;have hg1:bG [(0,some (⟨false,.rows (ρr.t 9) u l⟩:Ent)),(1,some ⟨false,.rows (ρr.t 9) u v⟩),(bZ f,some ⟨false,.fam fe fs ms⟩)] 1=some ⟨false,.rows (ρr.t 9) u v⟩:=rfl;obtain⟨i0,hi0,hi0'⟩:=ZAH.1 hi9;simp only[ZA0] at hi0';obtain⟨hs0,hby,hz0⟩:=hi0';obtain⟨zv,hzv,hzl⟩:=ZAH.1 hz0;have hsz:(P.info? (ρr.t 9)).map (·.size)=some u.cells:=by rw[hi0];simp[hs0]
 have hbig:(l.length+v.length)*i0.bytes<=140737488355328:=by rw[hby];exact hr0.1.2
 have hfb:(0:Nat)<bA/\(1:Nat)<bA/\(2:Nat)<bA:=by simp[bA]
 cases k3 with
 |slfV _ _ A hρ=>
  have:v=[]:=(hH.virt hg1 hρ).1
  simp_all
 |slf _ _ g3 sz3 m c3 hρ3 hn3 hs3 hm3=>
 obtain⟨hlt3,hC3,_,cs3,fr3,b1,b2,b3,b4,b5,b6,b7⟩:=hH.real hg1 hρ3;obtain rfl:v.length=m:=b4;have R3:cI z.w z.M z.ρ u v cs3.toList:=fun i x hx=>by grind
 obtain⟨V1,V2,V3⟩:=R3.cut (by grind) h0;generalize hVS:cs3.toList.take (v.length*u.cells)=VS at V1 V2 V3;have hvs:∀j x,VS[j]? =some x->z.w.cell? ⟨g3,j,none⟩=some x:=fun j x hj=>by
  grind[ZAo,byZ]
 have htup:∀(z':Z) (x:Value),bE z' (.slf u.cells 2) x->bE z' (nH [.slf u.cells 2]) x:=fun z' x h=>h;have fin:∀(w':World) (val:Value) (z':Z),z'.w=w'->bI z' [(0,none),(1,some ⟨false,.rows (ρr.t 9) u v⟩),(bZ f,some ⟨false,.fam fe fs ms⟩),(2,some ⟨false,.rows (ρr.t 9) u (l.take q++v++l.drop q)⟩)]->Nx z z'->bE z' (.slf u.cells 2) val->
  ∃vv z'',Ending.returned val= .returned vv/\z''.w=w'/\Nx z {z'' with D:=z.D}/\(∀k,z''.D k->k∈bJ [(0,false,BKd.rows (ρr.t 9) u),(1,false,BKd.rows (ρr.t 9) u),(bZ f,false,BKd.fam fe fs)])/\
   dS.on [⟨.cons (.slf u.cells 2) .nil,[(1,false,.rows (ρr.t 9) u),(2,false,.rows (ρr.t 9) u),(bZ f,false,.fam fe fs)]⟩] (v,(l.take q++v++l.drop q,ms)) fun o x=>bI z'' (o.emb x).2/\bE z'' (nH (o.emb x).1) vv:=fun w' val z' e1 e2 e3 e4=>by
  refine⟨val,{z' with D:=fun k=>z'.D k\/k=0},rfl,e1,?_,fun k hk=> ?_,?_,?_⟩
  ·exact⟨e3.os,e3.tape,e3.output,e3.size,e3.block,e3.subM,e3.subC,e3.keepM,e3.ext,rfl⟩
  ·rcases hk with hk|hk
   ·rw[e3.dom] at hk;exact absurd hk (hD k)
   grind[bJ]
  ·have hne2:bZ f≠0/\bZ f≠2:=by omega
   refine e2.forget (a:=0) hfb.1 (H2:=[(1,some ⟨false,.rows (ρr.t 9) u v⟩),(2,some ⟨false,.rows (ρr.t 9) u (l.take q++v++l.drop q)⟩),(bZ f,some ⟨false,.fam fe fs ms⟩)]) (fun j=> ?_) (fun j=> ?_)
   ·simp only[bG];by_cases h0:j=0
    ·subst h0;simp[ahZ hne2.1,show Nat.beq 1 0=false from rfl,show Nat.beq 2 0=false from rfl,show Nat.beq 1 2=false from rfl,show Nat.beq 0 2=false from rfl]
    by_cases h2:j=2
    ·subst h2;simp[ahZ hne2.2,show Nat.beq 1 0=false from rfl,show Nat.beq 2 0=false from rfl,show Nat.beq 1 2=false from rfl,show Nat.beq 0 2=false from rfl]
    simp[ahZ (ZBj h0),ahZ (ZBj h2)]
   ·simp only[bM];by_cases h0:j=0
    ·subst h0;simp[ahZ hne2.1,show Nat.beq 1 0=false from rfl,show Nat.beq 2 0=false from rfl,show Nat.beq 1 2=false from rfl,show Nat.beq 0 2=false from rfl]
    by_cases h2:j=2
    ·subst h2;simp[ahZ hne2.2,show Nat.beq 1 0=false from rfl,show Nat.beq 2 0=false from rfl,show Nat.beq 1 2=false from rfl,show Nat.beq 0 2=false from rfl]
    simp[ahZ (ZBj h0),ahZ (ZBj h2)]
  ·exact e4.less rfl rfl fun g h=>h
 have hok2:bM [(0,(none:Option Ent)),(1,some ⟨false,.rows (ρr.t 9) u v⟩),(bZ f,some ⟨false,.fam fe fs ms⟩)] 2=false/\2<bA:=⟨by simp[bM,ahZ (show bZ f≠2 by omega),show Nat.beq 1 0=false from rfl,show Nat.beq 2 0=false from rfl,show Nat.beq 1 2=false from rfl,show Nat.beq 0 2=false from rfl],hfb.2.2⟩;have nD:∀k,¬z.D k:=hD;have hse:∀x:Option Ent,bS (bS [(0,some (⟨false,.rows (ρr.t 9) u l⟩:Ent)),(1,some ⟨false,.rows (ρr.t 9) u v⟩),(bZ f,some ⟨false,.fam fe fs ms⟩)] 0 none) 2 x=[(0,none),(1,some ⟨false,.rows (ρr.t 9) u v⟩),(bZ f,some ⟨false,.fam fe fs ms⟩),(2,x)]:=fun x=>by
  show bS [(0,none),(1,some ⟨false,.rows (ρr.t 9) u v⟩),(bZ f,some ⟨false,.fam fe fs ms⟩)] 2 x=_;simp[bS,ahZ (show bZ f≠2 by omega),show Nat.beq 1 0=false from rfl,show Nat.beq 2 0=false from rfl,show Nat.beq 1 2=false from rfl,show Nat.beq 0 2=false from rfl]
 have h3len:(l.take q++v++l.drop q).length=l.length+v.length:=by simp;omega
 have hVS0:VS.length=v.length*u.cells:=V2;have hvz:∀(W:World),(∀x,W.cell? x=z.w.cell? x)->True:=fun _ _=>trivial;cases k1 with
 |slfV _ _ A hρ=>
  have hl:l=[]:=(hH.virt hg0 hρ).1;subst hl;obtain rfl:q=0:=by simpa using hql
  have hins:=ctZ (k:=u.cells) L z9 a9 (Zc:=zv.cells) rfl hi0 hs0 hzv A 0 0 g3 v.length c3 [] VS z.w hr0.1.1 (ZAN _) (by omega) (by simpa using hbig) (by have:=hr0.2;simpa using this) (by simp) V2 (fun _=>rfl) (fun a _ j x hx=>by simp at hx) hvs V3;refine hins.mono ?_;rintro en w' ⟨rfl,rfl⟩;generalize hG:grownCap z.w (0+v.length) 0 (ρr.t 9)=G at*;have hge:v.length<=G:=by rw[<-hG];have:=grownCap_ge z.w (0+v.length) 0 (ρr.t 9);omega
  have hGm:G<=maxLen:=by rw[<-hG];exact grownCap_le_maxLen _ _ _ _ (by unfold maxLen;omega)
  have hcs:(([]++VS).toArray++Builtin.zeroCells zv.cells (G-(0+v.length))).size=G*u.cells:=by
   rw[ZBU,size_zeroCells,hzl,ZBe,ZBL,V2,<-Nat.add_mul];congr 1;omega
  obtain⟨z',p1,p2,p3,p4⟩:=biZ (z:=z) (w':=z.w.drew.alloc (.cells (([]++VS).toArray++Builtin.zeroCells zv.cells (G-(0+v.length))) (ρr.t 9))) (e:=ρr.t 9) (l:=([]:List u.den).take 0++v++([]:List u.den).drop 0) (hH.kill (aiZ hg0)) hok2 (nD 2)
   (heap_alloc_new z.w.drew _) (okR0 _) rfl ⟨rfl,ZBa _⟩ rfl (fun k hk=>heap_alloc_old z.w.drew _ hk) (by rw[hcs];simpa using ZAd _ hge) h0 (by
    have:(([]:List u.den).take 0++v++([]:List u.den).drop 0)=v:=by simp
    rw[this];refine V1.eq fun j hj=> ?_;rw[ZCO,ZAT (by simp;omega)];simp)
  exact fin _ _ z' p1 (hse _▸p2) p3 (.slf _ _ _ _ (0+v.length) _ (by rw[p4];congr 1) (by simpa using hge) (by rw[hcs];exact ZAN _) hGm)
 |slf _ _ g sz n c hρ hn hs hm=>
 obtain⟨hlt,hC,_,cs,fr,a1,a2,a3,a4,a5,a6,a7⟩:=hH.real hg0 hρ;obtain rfl:l.length=n:=a4;have hne:g3≠g:=hH.inj 1 0 _ _ g3 sz3 _ g sz _ (by decide) (by rw[aqZ hfb.2.1];exact hg1) (by rw[aqZ hfb.1];exact hg0) rfl rfl hρ3 hρ fun h=>bUZ (by decide) h.1;have R1:cI z.w z.M z.ρ u l cs.toList:=fun i x hx=>by obtain⟨us,q1,q2⟩:=a7 i x hx;exact⟨us,q1,fun j v hj=>by simpa using q2 j v hj⟩
 obtain⟨S1,S2,S3⟩:=R1.cut (by rw[ZBD (xs:=cs)];omega) h0;generalize hCS:cs.toList.take (l.length*u.cells)=CS at S1 S2 S3;have hcsj:∀j x,CS[j]? =some x->cs[j]? =some x:=fun j x hj=>by
  rw[<-hCS,ZAo] at hj;split at hj
  ·simpa using hj
  ·cases hj
 have hcell:∀j x,CS[j]? =some x->z.w.cell? ⟨g,j,none⟩=some x:=fun j x hj=>by rw[byZ a1];exact hcsj j x hj
 have hcsl:∀j,j<l.length*u.cells->cs[j]? =CS[j]? :=fun j hj=>by rw[<-hCS,ZAo,ZAM hj];simp
 have hqk:q*u.cells<=l.length*u.cells:=ZAd _ hql;have RL:cI z.w z.M z.ρ u (l.take q++v++l.drop q) (CS.take (q*u.cells)++VS++CS.drop (q*u.cells)):=by
  refine cI.app (cI.app (S1.takeC q) ?_ V1) ?_ (S1.dropC q)
  ·rw[ZAS,ZAS,S2,ZA7 hqk,ZA7 hql]
  ·rw[ZAe,ZAe,ZAS,ZAS,S2,V2,ZA7 hqk,ZA7 hql,ZAn]
 have hL':(CS.take (q*u.cells)++VS++CS.drop (q*u.cells)).length=(l.length+v.length)*u.cells:=by
  rw[ZAe,ZAe,ZAS,ZAu,S2,V2,ZA7 hqk,ZAn];omega
 have hdk:(CS.drop (q*u.cells)).length=(l.length-q)*u.cells:=by rw[ZAu,S2,ZCs]
 have hget3:∀j,(CS.take (q*u.cells)++VS++CS.drop (q*u.cells))[j]? =if j<q*u.cells then CS[j]? else if j<(q+v.length)*u.cells then VS[j-q*u.cells]? else CS[j-v.length*u.cells]? :=fun j=>by
  have e1:(CS.take (q*u.cells)).length=q*u.cells:=by rw[ZAS,S2];omega
  have e2:(CS.take (q*u.cells)++VS).length=(q+v.length)*u.cells:=by rw[ZAe,e1,V2,ZAn]
  have e3:(q+v.length)*u.cells=q*u.cells+v.length*u.cells:=ZAn _ _ _;by_cases h1:j<q*u.cells
  ·rw[ZAM h1,ZAT (by omega),ZAT (by omega),ZAo,ZAM h1]
  ·rw[ZAK h1];by_cases h2:j<(q+v.length)*u.cells
   ·rw[ZAM h2,ZAT (by omega),ZAU (by omega),e1]
   ·rw[ZAK h2,ZAU (by omega),e2,ZAy];congr 1;omega
 have eqv:(q+v.length)*u.cells=q*u.cells+v.length*u.cells:=ZAn _ _ _;have elv:(l.length+v.length)*u.cells=l.length*u.cells+v.length*u.cells:=ZAn _ _ _;have eqd:(l.length-q)*u.cells=l.length*u.cells-q*u.cells:=ZCs _ _ _;have hvk:0<v.length*u.cells:=Nat.mul_pos hr0.1.1 h0;by_cases hroom:l.length+v.length<=c
 ·
  have hfit:(l.length+v.length)*u.cells<=cs.size:=by
   have:(l.length+v.length)*u.cells<=c*u.cells:=ZAd _ hroom;omega
  have hth:=dhZ (o:=0) (n:=(l.length+v.length)*u.cells) a1 a2.f (by omega);have hend:∀(w':World) (cs':Array Value),w'.heap[g]? =some (.cells cs' (ρr.t 9) fr)->cs'.size=cs.size->w'.os=z.w.os->(w'.tape=z.w.tape/\z.w.drawn<=w'.drawn)->w'.output=z.w.output->w'.heap.size=z.w.heap.size->(∀b,b≠g->w'.heap[b]? =z.w.heap[b]?)->
   (∀j,j<(l.length+v.length)*u.cells->cs'[j]? =(CS.take (q*u.cells)++VS++CS.drop (q*u.cells))[j]?)->
   ∃z',z'.w=w'/\bI z' [(0,none),(1,some ⟨false,.rows (ρr.t 9) u v⟩),(bZ f,some ⟨false,.fam fe fs ms⟩),(2,some ⟨false,.rows (ρr.t 9) u (l.take q++v++l.drop q)⟩)]/\Nx z z'/\bE z' (.slf u.cells 2) (.slice (some ⟨g,0,none⟩) (l.length+v.length) c):=fun w' cs' d1 d2 d3 d4 d5 d6 d7 d8=>by
   obtain⟨z',p1,p2,p3,p4⟩:=hH.move (id:=2) (n':=l.length+v.length) (b:=.rows (ρr.t 9) u (l.take q++v++l.drop q)) hg0 hρ hok2 (nD 2) d3 d4 d5 d6 d7 (fun z' hz kk=>by
    refine⟨cs',fr,by rw[hz];exact d1,ewZ a2 d2,by rw[d2];exact a3,h3len,by rw[h3len];omega,a6,fun i x hx=> ?_⟩;have hR:=(RL.eq (cs':=cs'.toList) fun j hj=>by rw[h3len] at hj;simpa using d8 j hj).kp kk;obtain⟨us,q1,q2⟩:=hR i x hx;exact⟨us,q1,fun j y hj=>by simpa using q2 j y hj⟩)
   exact⟨z',p1,hse _▸p2,p3,.slf _ _ _ _ _ _ p4 hroom hs hm⟩
  by_cases hqn:q<l.length
  ·have hn0:l.length*u.cells≠0:=by have:=Nat.mul_pos (show 0<l.length by omega) h0;omega
   have hsh:∀{gg:Nat} {cc:Array Value} {ee:TypeId} {ff:Nat×Nat},z.w.heap[gg]? =some (.cells cc ee ff)->z.w.shape? gg=some (ee,cc.size):=fun h=>by unfold World.shape?;rw[h]
   have hfr3:∀o,z.w.frozen? ⟨g3,o,none⟩=false:=fun o=>by
    have hf:fr3.1=fr3.2:=by
     rcases b2 with h|h
     ·exact h
     ·exact absurd h.1 hub
    unfold World.frozen?;rw[b1];simp only[ZB8,ZBA];omega
   have hins:=kwZ (k:=u.cells) L h0 z9 a9 hsz g l.length c q g3 v.length c3 CS VS z.w hqn hr0.1.1 hroom (by unfold maxLen at hm;omega) hne S2 V2 hcell
    (fun j hj=>by have:=(hth j hj).1;simpa using this) (fun j hj=>by have:=(hth j hj).2;simpa using this) hvs S3 V3 _ _ _ _ (hsh b1) (hsh a1) (by omega) (hfr3 0) (hfr3 _)
   refine hins.mono ?_;rintro en w' ⟨rfl,rfl⟩;obtain⟨e1,e2,e3,e4⟩:=asZ (CS.drop (q*u.cells)) z.w.drew g ((q+v.length)*u.cells);obtain⟨f1,f2,f3,f4⟩:=asZ VS (z.w.drew.setCells g ((q+v.length)*u.cells) (CS.drop (q*u.cells))) g (q*u.cells);have hA:z.w.drew.heap[g]? =some (.cells cs (ρr.t 9) fr):=a1;obtain⟨z',y1,y2,y3,y4⟩:=hend _ (eG (eG cs ((q+v.length)*u.cells) (CS.drop (q*u.cells))) (q*u.cells) VS) (amZ _ _ _ _ _ _ _ (amZ _ _ _ _ _ _ _ hA)) (by rw[alZ,alZ])
    (f2.trans e2) ⟨f3.1.trans e3.1,ZBF (ZBF (ZBa _) e3.2) f3.2⟩ (f4.trans e4) (f1.trans e1) (fun b hb=>(anZ _ _ _ _ _ hb).trans (anZ _ _ _ _ _ hb)) (fun j hj=>by
     rw[hget3 j,awZ _ _ _ _ (by rw[alZ,V2];omega),V2,awZ _ _ _ _ (by rw[hdk];omega),hdk];by_cases c1:j<q*u.cells
     ·rw[ZAK (by omega),ZAK (by omega),ZAM c1];exact hcsl j (by omega)
     ·rw[ZAK c1];by_cases c2:j<(q+v.length)*u.cells
      ·rw[ZAM (by omega),ZAM c2]
      ·rw[ZAK (by omega),ZAM (by omega),ZAK c2,ZAy];congr 1;omega)
   exact fin _ _ z' y1 y2 y3 y4
  ·obtain rfl:q=l.length:=by omega
   have hins:=fwZ (k:=u.cells) L z9 a9 hi0 hs0 g l.length c g3 v.length c3 VS z.w hr0.1.1 hroom (by unfold maxLen at hm;omega) V2 (fun j hj=>by have:=(hth (l.length*u.cells+j) (by omega)).1;simpa using this) (fun j hj=>by have:=(hth (l.length*u.cells+j) (by omega)).2;simpa using this) hvs V3;refine hins.mono ?_;rintro en w' ⟨rfl,rfl⟩;obtain⟨e1,e2,e3,e4⟩:=asZ VS z.w g (l.length*u.cells);obtain⟨z',y1,y2,y3,y4⟩:=hend _ (eG cs (l.length*u.cells) VS) (amZ _ _ _ _ _ _ _ a1) (alZ _ _ _) e2 e3 e4 e1 (fun b hb=>anZ _ _ _ _ _ hb) (fun j hj=>by
    rw[hget3 j,awZ _ _ _ _ (by rw[V2];omega),V2];by_cases c1:j<l.length*u.cells
    ·rw[ZAK (by omega),ZAM c1];exact hcsl j c1
    ·rw[ZAK c1,ZAM (by omega),ZAM (by omega)])
   exact fin _ _ z' y1 y2 y3 y4
 ·
  have hroom':c<l.length+v.length:=by omega
  generalize hG:grownCap z.w (l.length+v.length) c (ρr.t 9)=G;have hge:l.length+v.length<=G:=by rw[<-hG];exact grownCap_ge _ _ _ _
  have hGm:G<=maxLen:=by rw[<-hG];exact grownCap_le_maxLen _ _ _ _ (by unfold maxLen;omega)
  have hgk:(l.length+v.length)*u.cells<=G*u.cells:=ZAd _ hge;have hend:∀(w':World) (cs':Array Value),w'.heap[z.w.heap.size]? =some (.cells cs' (ρr.t 9) (0,0))->cs'.size=G*u.cells->w'.os=z.w.os->(w'.tape=z.w.tape/\z.w.drawn<=w'.drawn)->w'.output=z.w.output->(∀b,b<z.w.heap.size->w'.heap[b]? =z.w.heap[b]?)->
   (∀j,j<(l.length+v.length)*u.cells->cs'[j]? =(CS.take (q*u.cells)++VS++CS.drop (q*u.cells))[j]?)->
   ∃z',z'.w=w'/\bI z' [(0,none),(1,some ⟨false,.rows (ρr.t 9) u v⟩),(bZ f,some ⟨false,.fam fe fs ms⟩),(2,some ⟨false,.rows (ρr.t 9) u (l.take q++v++l.drop q)⟩)]/\Nx z z'/\bE z' (.slf u.cells 2) (.slice (some ⟨z.w.heap.size,0,none⟩) (l.length+v.length) G):=fun w' cs' d1 d2 d3 d4 d5 d7 d8=>by
   obtain⟨z',p1,p2,p3,p4⟩:=biZ (z:=z) (w':=w') (e:=ρr.t 9) (l:=l.take q++v++l.drop q) (hH.kill (aiZ hg0)) hok2 (nD 2) d1 (okR0 _) d3 d4 d5 d7 (by rw[h3len,d2];exact hgk) h0 (RL.eq (cs':=cs'.toList) fun j hj=>by rw[h3len] at hj;simpa using d8 j hj);exact⟨z',p1,hse _▸p2,p3,.slf _ _ _ _ _ _ (by rw[p4,h3len]) hge (by rw[d2];exact ZAN _) hGm⟩
  by_cases hqn:q<l.length
  ·have hins:=mSZ (k:=u.cells) L h0 z9 a9 hsz (Zc:=zv.cells) rfl hi0 hs0 hzv hzl g l.length c q g3 v.length c3 CS VS z.w hqn hr0.1.1 hn hroom' hbig hr0.2 S2 V2 hcell hvs S3 V3;rw[hG] at hins;refine hins.mono ?_;rintro en w' ⟨rfl,rfl⟩;generalize hROW:(CS.take (q*u.cells)).toArray++Builtin.zeroCells zv.cells (l.length+v.length-q)++Builtin.zeroCells zv.cells (G-(l.length+v.length))=ROW;have hRs:ROW.size=G*u.cells:=by
    rw[<-hROW,ZBU,ZBU,size_zeroCells,size_zeroCells,hzl,ZBL,ZAS,S2,ZA7 hqk,<-Nat.add_mul,<-Nat.add_mul];congr 1;omega
   have hR0:∀j,j<q*u.cells->ROW[j]? =CS[j]? :=fun j hj=>by
    have e1:(CS.take (q*u.cells)).length=q*u.cells:=by rw[ZAS,S2];omega
    rw[<-hROW,Array.append_assoc,ZBO (by rw[ZBL,e1];exact hj),ZCb,ZAo,ZAM hj]
   have hnew:(z.w.alloc (.cells ROW (ρr.t 9))).drew.heap[z.w.heap.size]? =some (.cells ROW (ρr.t 9) (0,0)):=heap_alloc_new z.w _;obtain⟨e1,e2,e3,e4⟩:=asZ VS (z.w.alloc (.cells ROW (ρr.t 9))).drew z.w.heap.size (q*u.cells);obtain⟨f1,f2,f3,f4⟩:=asZ (CS.drop (q*u.cells)) ((z.w.alloc (.cells ROW (ρr.t 9))).drew.setCells z.w.heap.size (q*u.cells) VS).drew z.w.heap.size ((q+v.length)*u.cells);obtain⟨z',y1,y2,y3,y4⟩:=hend (((z.w.alloc (.cells ROW (ρr.t 9))).drew.setCells z.w.heap.size (q*u.cells) VS).drew.setCells z.w.heap.size ((q+v.length)*u.cells) (CS.drop (q*u.cells))) (eG (eG ROW (q*u.cells) VS) ((q+v.length)*u.cells) (CS.drop (q*u.cells))) (amZ _ _ _ _ _ _ _ (show((z.w.alloc (.cells ROW (ρr.t 9))).drew.setCells z.w.heap.size (q*u.cells) VS).heap[z.w.heap.size]? =_ from amZ _ _ _ _ _ _ _ hnew)) (by rw[alZ,alZ,hRs])
    (f2.trans e2) ⟨f3.1.trans e3.1,ZBF (ZBF (ZBF (ZBa _) e3.2) (ZBa _)) f3.2⟩ (f4.trans e4) (fun b hb=>(anZ _ _ _ _ _ (by omega)).trans ((anZ _ _ _ _ _ (by omega)).trans (heap_alloc_old z.w _ hb))) (fun j hj=>by
     rw[hget3 j,awZ _ _ _ _ (by rw[alZ,hdk,hRs];omega),hdk,awZ _ _ _ _ (by rw[V2,hRs];omega),V2];by_cases c1:j<q*u.cells
     ·rw[ZAK (by omega),ZAK (by omega),ZAM c1];exact hR0 j c1
     ·rw[ZAK c1];by_cases c2:j<(q+v.length)*u.cells
      ·rw[ZAK (by omega),ZAM (by omega),ZAM c2]
      ·rw[ZAM (by omega),ZAK c2,ZAy];congr 1;omega)
   exact fin _ _ z' y1 y2 y3 y4
  ·obtain rfl:q=l.length:=by omega
   have hins:=ctZ (k:=u.cells) L z9 a9 (Zc:=zv.cells) rfl hi0 hs0 hzv (some ⟨g,0,none⟩) l.length c g3 v.length c3 CS VS z.w hr0.1.1 hn hroom' hbig hr0.2 S2 V2 (fun h=>by cases h) (fun a ha j x hx=>by cases ha;rw[Addr.add_lit,ZA1];exact hcell j x hx) hvs V3;rw[hG] at hins;refine hins.mono ?_;rintro en w' ⟨rfl,rfl⟩;have hcs:((CS++VS).toArray++Builtin.zeroCells zv.cells (G-(l.length+v.length))).size=G*u.cells:=by
    rw[ZBU,size_zeroCells,hzl,ZBL,ZAe,S2,V2,<-Nat.add_mul,<-Nat.add_mul];congr 1;omega
   obtain⟨z',y1,y2,y3,y4⟩:=hend _ _ (heap_alloc_new z.w.drew _) hcs rfl ⟨rfl,ZBa _⟩ rfl (fun b hb=>heap_alloc_old z.w.drew _ hb) (fun j hj=>by
    rw[ZBO (by rw[ZBL,ZAe,S2,V2];omega),ZCb];congr 1;rw[ZAv (by omega),ZCV (by omega),ZAr])
   exact fin _ _ z' y1 y2 y3 y4
end
end Go.Ab
namespace Go.Proofs
open Go.Shelf Go.RowKit Go.Lib
structure DelLay (P:Program) (ρ:Ren):Prop where
 mixed:P.follows .mixedOrders=true
 f24:Bears P (ρ.f 24) (Body2.n24 ρ)
 t0:P.underlying (ρ.t 0)=some (TypeDesc.tuple #[])
 a0:∀w,(isAgg (ρ.t 0)).run P w= .ok false w
 z0:∀w,(Go.sizeOf (ρ.t 0)).run P w= .ok 1 w
 v0:∀w,(zeroValue (ρ.t 0)).run P w= .ok (Value.tuple #[]) w
 t3:P.underlying (ρ.t 3)=some (TypeDesc.int IntKind.i64)
 a3:∀w,(isAgg (ρ.t 3)).run P w= .ok false w
 z3:∀w,(Go.sizeOf (ρ.t 3)).run P w= .ok 1 w
 v3:∀w,(zeroValue (ρ.t 3)).run P w= .ok (Value.int IntKind.i64 0) w
 t4:P.underlying (ρ.t 4)=some (TypeDesc.bool)
 a4:∀w,(isAgg (ρ.t 4)).run P w= .ok false w
 z4:∀w,(Go.sizeOf (ρ.t 4)).run P w= .ok 1 w
 v4:∀w,(zeroValue (ρ.t 4)).run P w= .ok (Value.bool false) w
 t24:P.underlying (ρ.t 24)=some (TypeDesc.slice (ρ.t 9))
 a24:∀w,(isAgg (ρ.t 24)).run P w= .ok false w
 z24:∀w,(Go.sizeOf (ρ.t 24)).run P w= .ok 1 w
 v24:∀w,(zeroValue (ρ.t 24)).run P w= .ok (Value.slice none 0 0) w
variable {P : Program} {ρ : Ren}
theorem kTZ(w)(t e ty)(z)(k)(ht:P.underlying t=some (.slice e))(hv:∀w,(zeroValue e).run P w= .ok z w)(hz:z.cells.size=k)(hk:0<k)(h1:∀v∈z.cells,v.oneCell'=true)(b o n c)(hn:0<n)
 (hc:∀j,j<n*k->(w.cell? ⟨b,o+j,none⟩).isSome=true)(hf:∀j,j<n*k->w.frozen? ⟨b,o+j,none⟩=false):
 (Builtin.clear_ #[t] ty #[.slice (some ⟨b,o,none⟩) n c]).run P w= .ok (.tuple #[]) (w.setCells b o (Builtin.zeroCells z.cells n).toList):=by
 have ac:(Builtin.zeroCells z.cells n).toList.length=n*k:=by rw[Array.length_toList,d0Z,hz]
 have R:∀v∈(Builtin.zeroCells z.cells n).toList,v.oneCell'=true:=λv ab=>by
  obtain⟨j,hj⟩:=List.getElem?_of_mem ab;have ad:=(List.getElem?_eq_some_iff.1 hj).1;have:v∈z.cells:=by
   rw[Array.getElem?_toList] at hj;simp only[Builtin.zeroCells,Array.getElem?_map,Option.map_eq_some_iff] at hj;obtain⟨q,_,rfl⟩:=hj;rw[getElem!_pos z.cells (q%z.cells.size) (Nat.mod_lt _ (by omega))];exact Array.getElem_mem _
  simp_all
 have aa:=run_storeCells_cells (P:=P) b o (Builtin.zeroCells z.cells n).toList 0 w (by simp_all) (by simp_all) R;simp only[Nat.add_zero] at aa;obtain⟨m,rfl⟩:∃m,n=m+1:=⟨n-1,by omega⟩;simp[Builtin.clear_,run_underlying ht,hv,aa]
set_option maxHeartbeats 4000000 in
set_option maxRecDepth 100000 in
theorem wfZ(L:DelLay P ρ){k:Nat}(hk:0<k)(z9:∀w,(Go.sizeOf (ρ.t 9)).run P w= .ok k w){ag:Bool}(a9:∀w,(isAgg (ρ.t 9)).run P w= .ok ag w){zv:Value}{Z:List Value}(v9:∀w,(zeroValue (ρ.t 9)).run P w= .ok zv w)(hzl:zv.cells.size=k)(hz1:∀v∈zv.cells,v.oneCell'=true)
 {i0:TypeInfo}(hi0:P.info? (ρ.t 9)=some i0)(hs0:i0.size=k)(b n c i j:Nat)(cs:List Value)(w:World)(hij:i<j)(hj:j<=n)(hnc:n<=c)(hm:c<=9223372036854775807)(hZ:Z=(Builtin.zeroCells zv.cells (j-i)).toList)
 (hcl:cs.length=n*k)(hcs:∀j v,cs[j]? =some v->w.cell? ⟨b,j,none⟩=some v)(hf:∀j,j<n*k->w.frozen? ⟨b,j,none⟩=false)(h1c:∀v∈cs,v.oneCell'=true):
 Calls P (ρ.f 24) #[.slice (some ⟨b,0,none⟩) n c,.int .i64 i,.int .i64 j] w fun e w'=>e= .returned (.slice (some ⟨b,0,none⟩) (i+(n-j)) c)/\w'=(w.drew.setCells b (i*k) (cs.drop (j*k))).setCells b ((i+(n-j))*k) Z:=by
 have mixed:=L.mixed;have t0:=L.t0;have a0:=L.a0;have z0:=L.z0;have v0:=L.v0;have t3:=L.t3;have a3:=L.a3;have z3:=L.z3;have v3:=L.v3;have t4:=L.t4;have a4:=L.a4;have z4:=L.z4;have v4:=L.v4;have t24:=L.t24;have a24:=L.a24;have z24:=L.z24;have v24:=L.v24;have u0:=run_underlying L.t0;have u3:=run_underlying L.t3;have u4:=run_underlying L.t4;have u24:=run_underlying L.t24;have hic:i<=c:=by omega
 have hjc:j<=c:=by omega
 have hjk:j*k<=n*k:=Nat.mul_le_mul_right _ hj;have hlen:(cs.drop (j*k)).length=(n-j)*k:=by rw[List.length_drop,hcl,Nat.sub_mul]
 have hik:i*k+(n-j)*k<=n*k:=by rw[<-Nat.add_mul];exact Nat.mul_le_mul_right _ (by omega)
 have hsome:∀x,x<n*k->(w.cell? ⟨b,x,none⟩).isSome=true:=fun x hx=>by rw[hcs x _ (List.getElem?_eq_getElem (by omega))];rfl
 obtain⟨A,hA,hsrc⟩:∃A:Addr,(if c=j then some (⟨b,0,none⟩:Addr) else some ⟨b,j*k,none⟩)=some A/\Hid (∀t u,(cs.drop (j*k))[t]? =some u->w.drew.cell? (A.add t)=some u):=by
  by_cases h:c=j
  ·refine⟨⟨b,0,none⟩,by simp[h],fun t u hu=> ?_⟩;have h0:(cs.drop (j*k)).length=0:=by rw[hlen,show n-j=0 by omega,Nat.zero_mul]
   rw[List.length_eq_zero_iff.1 h0] at hu;simp at hu
  ·refine⟨⟨b,j*k,none⟩,by simp[h],fun t u hu=> ?_⟩;rw[List.getElem?_drop] at hu;rw[Addr.add_lit];exact hcs _ _ hu
 have s1:Hid ((cs.drop (j*k)).length=(n-j)*k):=hlen;have s2:Hid (∀u∈cs.drop (j*k),u.oneCell'=true):=fun u hu=>h1c u (List.mem_of_mem_drop hu);have s3:Hid (∀t,t<(cs.drop (j*k)).length->(w.drew.cell? ⟨b,0+i*k+t,none⟩).isSome=true/\w.drew.frozen? ⟨b,0+i*k+t,none⟩=false):=fun t ht=>by
  rw[hlen] at ht;rw[Nat.zero_add];exact⟨hsome _ (by omega),hf _ (by omega)⟩
 obtain⟨W1,hW1⟩:∃W1,W1=w.drew.setCells b (i*k) (cs.drop (j*k)):=⟨_,rfl⟩;have hin:(i+(n-j))*k+(n-(i+(n-j)))*k=n*k:=by rw[<-Nat.add_mul];congr 1;omega
 have hcl2:∀ty,(Builtin.clear_ #[ρ.t 24] ty #[.slice (some ⟨b,(i+(n-j))*k,none⟩) (n-(i+(n-j))) (c-(i+(n-j)))]).run P W1= .ok (.tuple #[]) (W1.setCells b ((i+(n-j))*k) Z):=fun ty=>by
  have:=kTZ W1 (ρ.t 24) (ρ.t 9) ty zv k t24 v9 hzl hk hz1 b ((i+(n-j))*k) (n-(i+(n-j))) (c-(i+(n-j))) (by omega) (fun t ht=>by
   rw[hW1];exact isSome_setCells b (cs.drop (j*k)) (i*k) w.drew (fun q hq=>hsome _ (by rw[hlen] at hq;omega)) _ (hsome _ (by omega))) (fun t ht=>by rw[hW1,World.frozen?_setCells];exact hf _ (by omega))
  rw[hZ,show j-i=n-(i+(n-j)) by omega];exact this
 have hW:Hid (W1=w.drew.setCells b (0+i*k) (cs.drop (j*k))):=by rw[Nat.zero_add];exact hW1
 clear hsome hcs hf hlen hcl hZ;rw[<-hW1];clear hW1;obtain⟨nm,hnm9,F24⟩:=L.f24
 go_enter F24,Body2.n24_ntmps ρ
 go_wp2_with fail
 go_region_law_o (refine step_append_room rfl (.tmp 22) (.tmp 25) (ρ.t 24) rfl (ρ.t 9) i0 k t24 hi0 hs0 b 0 i c (by simp[Act.eval,Act.put]) A (n-j) (c-j) (cs.drop (j*k)) (by simp[Act.eval,Act.put]) s1.out hsrc.out s2.out (by omega) s3.out ?_;rw[<-hW.out])
 go_wp2
 go_ret
 exact⟨rfl,rfl⟩
end Go.Proofs
namespace Go.Ab
open Go.Proofs Go.Shelf
def KN(u:Ty)(t:Int×(Int×List u.den)):Option (List u.den):=
 (cT t.2.1 t.2.2.length).bind λj=>(cT t.1 j).bind λi=>bO (Nat.blt i j) (some (t.2.2.take i++t.2.2.drop j))
theorem nuZ{i}{n q}(h:cT i n=some q):i=(q:Int)/\q<=n:=by
 grind[cT]
section
variable {P : Program} {ρr : Ren}
theorem l9Z(L:DelLay P ρr){u}{ag}{zv}(h0:0<u.cells)(z9:∀w,(Go.sizeOf (ρr.t 9)).run P w= .ok u.cells w)(a9:∀w,(isAgg (ρr.t 9)).run P w= .ok ag w)(v9:∀w,(zeroValue (ρr.t 9)).run P w= .ok zv w)
 (hzl:zv.cells.size=u.cells)(hz1:∀v∈zv.cells,v.oneCell'=true)(hsz:(P.info? (ρr.t 9)).map (·.size)=some u.cells)
 (hent:∃fn c,P.funcs[ρr.f 24]? =some fn/\fn.body=some c/\(fn.name== "runtime.NumGoroutine")=false):
 eZ P ⟨ρr.f 24,⟨.cons (.slf u.cells 0) (.cons (.p (.int .i64)) (.cons (.p (.int .i64)) .nil)),[(0,false,.rows (ρr.t 9) u)]⟩,[⟨.cons (.slf u.cells 1) .nil,[(1,false,.rows (ρr.t 9) u)]⟩],KN u⟩:=by
 refine eZ.of hent fun t r hr z vals hH hv hD=> ?_;obtain⟨⟨ii,jj,l⟩,rfl⟩:∃t':Int×(Int×List u.den),t'=t:=⟨t,rfl⟩;have hr:KN u (ii,(jj,l))=some r:=hr;unfold KN at hr;dsimp only at hr;obtain⟨j,hj,hr⟩:=ZAG.1 hr;obtain⟨i,hi,hr⟩:=ZAG.1 hr;obtain⟨hij,hr⟩:=aeZ.1 hr;rw[ZBd] at hij;injection hr with hr;subst hr;have hH:bI z [(0,some ⟨false,.rows (ρr.t 9) u l⟩)]:=hH;have hv:bQ z [.slf u.cells 0,.p (.int .i64) ii,.p (.int .i64) jj] vals:=hv;obtain⟨v1,v2,v3,rfl,k1,k2,k3⟩:=uBZ hv;obtain rfl:=k2.v.int;obtain rfl:=k3.v.int;obtain⟨rfl,hjl⟩:=nuZ hj;obtain⟨rfl,hile⟩:=nuZ hi;have hg0:bG [(0,some (⟨false,.rows (ρr.t 9) u l⟩:Ent))] 0=some ⟨false,.rows (ρr.t 9) u l⟩:=rfl;obtain⟨i0,hi0,hs0⟩:=ZAH.1 hsz;have hfb:(0:Nat)<bA/\(1:Nat)<bA:=by simp[bA]
 have fin:∀(w':World) (val:Value) (z':Z),z'.w=w'->bI z' [(0,none),(1,some ⟨false,.rows (ρr.t 9) u (l.take i++l.drop j)⟩)]->Nx z z'->bE z' (.slf u.cells 1) val->
  ∃vv z'',Ending.returned val= .returned vv/\z''.w=w'/\Nx z {z'' with D:=z.D}/\(∀k,z''.D k->k∈bJ [(0,false,BKd.rows (ρr.t 9) u)])/\
   dS.on [⟨.cons (.slf u.cells 1) .nil,[(1,false,.rows (ρr.t 9) u)]⟩] (l.take i++l.drop j) fun o x=>bI z'' (o.emb x).2/\bE z'' (nH (o.emb x).1) vv:=fun w' val z' e1 e2 e3 e4=>by
  refine⟨val,{z' with D:=fun k=>z'.D k\/k=0},rfl,e1,?_,fun k hk=> ?_,?_,?_⟩
  ·exact⟨e3.os,e3.tape,e3.output,e3.size,e3.block,e3.subM,e3.subC,e3.keepM,e3.ext,rfl⟩
  ·rcases hk with hk|hk
   ·rw[e3.dom] at hk;exact absurd hk (hD k)
   simp_all[bJ]
  ·refine e2.forget (a:=0) hfb.1 (H2:=[(1,some ⟨false,.rows (ρr.t 9) u (l.take i++l.drop j)⟩)]) (fun q=> ?_) (fun q=> ?_)
   ·simp only[bG];cases hb:Nat.beq 0 q with
    |false=>rfl
    |true=>
     have:q=0:=(ZB3 hb).symm;subst this
     rfl
   grind[bM,Nat.beq,ZB3]
  ·exact e4.less rfl rfl fun g h=>h
 have hok2:bM (bS [(0,some (⟨false,.rows (ρr.t 9) u l⟩:Ent))] 0 none) 1=false/\1<bA:=⟨rfl,hfb.2⟩;have nD:∀k,¬z.D k:=hD;cases k1 with
 |slfV _ _ A hρ=>
  have hl:l=[]:=(hH.virt hg0 hρ).1
  simp_all
 |slf _ _ g sz n c hρ hn hs hm=>
 obtain⟨hlt,hC,_,cs,fr,a1,a2,a3,a4,a5,a6,a7⟩:=hH.real hg0 hρ;obtain rfl:l.length=n:=a4;have R1:cI z.w z.M z.ρ u l cs.toList:=fun i x hx=>by obtain⟨us,q1,q2⟩:=a7 i x hx;exact⟨us,q1,fun j v hj=>by simpa using q2 j v hj⟩
 obtain⟨S1,S2,S3⟩:=R1.cut (by rw[ZBD (xs:=cs)];omega) h0;generalize hCS:cs.toList.take (l.length*u.cells)=CS at S1 S2 S3;have hcsj:∀j x,CS[j]? =some x->cs[j]? =some x:=fun j x hj=>by
  rw[<-hCS,ZAo] at hj;split at hj
  ·simpa using hj
  ·cases hj
 have hcell:∀j x,CS[j]? =some x->z.w.cell? ⟨g,j,none⟩=some x:=fun j x hj=>by rw[byZ a1];exact hcsj j x hj
 have hcsl:∀j,j<l.length*u.cells->cs[j]? =CS[j]? :=fun j hj=>by rw[<-hCS,ZAo,ZAM hj];simp
 have hth:=dhZ (o:=0) (n:=l.length*u.cells) a1 a2.f (by omega);have hjk:j*u.cells<=l.length*u.cells:=ZAd _ hjl;have hik:i*u.cells<=l.length*u.cells:=ZAd _ (by omega);have RL:cI z.w z.M z.ρ u (l.take i++l.drop j) (CS.take (i*u.cells)++CS.drop (j*u.cells)):=by
  refine cI.app (S1.takeC i) ?_ (S1.dropC j);rw[ZAS,ZAS,S2,ZA7 hik,ZA7 (by omega)]
 have h3len:(l.take i++l.drop j).length=i+(l.length-j):=by simp;omega
 have hdk:(CS.drop (j*u.cells)).length=(l.length-j)*u.cells:=by rw[ZAu,S2,ZCs]
 have eil:(i+(l.length-j))*u.cells=i*u.cells+(l.length-j)*u.cells:=ZAn _ _ _;have ejl:(l.length-j)*u.cells=l.length*u.cells-j*u.cells:=ZCs _ _ _;have eij:(j-i)*u.cells=j*u.cells-i*u.cells:=ZCs _ _ _;have hijk:i*u.cells<=j*u.cells:=ZAd _ (by omega);generalize hZ:(Builtin.zeroCells zv.cells (j-i)).toList=ZC;have hZl:ZC.length=(j-i)*u.cells:=by rw[<-hZ,ZBD,size_zeroCells,hzl]
 have hd:=wfZ (k:=u.cells) L h0 z9 a9 v9 hzl hz1 hi0 hs0 g l.length c i j CS z.w hij hjl hn (by unfold maxLen at hm;omega) hZ.symm S2 hcell (fun j hj=>by have:=(hth j hj).2;simpa using this) S3;refine hd.mono ?_;rintro en w' ⟨rfl,rfl⟩;obtain⟨e1,e2,e3,e4⟩:=asZ (CS.drop (j*u.cells)) z.w.drew g (i*u.cells);obtain⟨f1,f2,f3,f4⟩:=asZ ZC (z.w.drew.setCells g (i*u.cells) (CS.drop (j*u.cells))) g ((i+(l.length-j))*u.cells);have hA:z.w.drew.heap[g]? =some (.cells cs (ρr.t 9) fr):=a1;have hB:=amZ ZC _ g ((i+(l.length-j))*u.cells) _ _ _ (amZ (CS.drop (j*u.cells)) _ g (i*u.cells) _ _ _ hA);have hBs:(eG (eG cs (i*u.cells) (CS.drop (j*u.cells))) ((i+(l.length-j))*u.cells) ZC).size=cs.size:=by rw[alZ,alZ]
 have hBg:∀q,q<(i+(l.length-j))*u.cells->(eG (eG cs (i*u.cells) (CS.drop (j*u.cells))) ((i+(l.length-j))*u.cells) ZC)[q]? =(CS.take (i*u.cells)++CS.drop (j*u.cells))[q]? :=fun q hq=>by
  have t1:(CS.take (i*u.cells)).length=i*u.cells:=by rw[ZAS,S2];omega
  rw[awZ _ _ _ _ (by rw[alZ,hZl];omega),hZl,ZAK (by omega),awZ _ _ _ _ (by rw[hdk];omega),hdk];by_cases c1:q<i*u.cells
  ·rw[ZAK (by omega),ZAT (by omega),ZAo,ZAM c1];exact hcsl q (by omega)
  ·rw[ZAM (by omega),ZAU (by omega),t1]
 generalize hWW:(z.w.drew.setCells g (i*u.cells) (CS.drop (j*u.cells))).setCells g ((i+(l.length-j))*u.cells) ZC=WW at*;generalize hCC:eG (eG cs (i*u.cells) (CS.drop (j*u.cells))) ((i+(l.length-j))*u.cells) ZC=CC at*;obtain⟨z',p1,p2,p3,p4⟩:=hH.move (id:=1) (n':=i+(l.length-j)) (w':=WW) (b:=.rows (ρr.t 9) u (l.take i++l.drop j)) hg0 hρ hok2 (nD 1)
  (f2.trans e2) ⟨f3.1.trans e3.1,ZBF (ZBF (ZBa _) e3.2) f3.2⟩ (f4.trans e4) (f1.trans e1) (fun b hb=>by rw[<-hWW];exact(anZ _ _ _ _ _ hb).trans (anZ _ _ _ _ _ hb)) (fun z' hz kk=>by
   refine⟨CC,fr,by rw[hz];exact hB,ewZ a2 hBs,by rw[hBs];exact a3,h3len,by rw[h3len];omega,a6,fun q x hx=> ?_⟩;have hR:=(RL.eq (cs':=CC.toList) fun q hq=>by rw[h3len] at hq;simpa using hBg q hq).kp kk;obtain⟨us,q1,q2⟩:=hR q x hx;exact⟨us,q1,fun j y hj=>by simpa using q2 j y hj⟩)
 exact fin _ _ z' p1 p2 p3 (.slf _ _ _ _ _ _ p4 (by omega) hs hm)
end
end Go.Ab
namespace Go.Proofs
open Go.Shelf Go.RowKit Go.Lib
variable {P : Program} {ρ : Ren}
set_option maxHeartbeats 8000000 in
set_option maxRecDepth 1000000 in
theorem n7Z(L:Lays.n152 P ρ)(s:ByteArray)(r:Int)(w:World)(h:128<=r)(h3:r≠65533)(hv:Lib.validRune r=false):
 Calls P (ρ.f 152) #[.string s,.int .i32 r] w λe w'=>e= .returned (.int .i64 (-1))/\w'=w:=by
 have mixed:=L.mixed;have t3:=L.t3;have a3:=L.a3;have z3:=L.z3;have v3:=L.v3;have t4:=L.t4;have a4:=L.a4;have z4:=L.z4;have v4:=L.v4;have t5:=L.t5;have a5:=L.a5;have z5:=L.z5;have v5:=L.v5;have t9:=L.t9;have a9:=L.a9;have z9:=L.z9;have v9:=L.v9;have ab:=L.t21;have ac:=L.a21;have ad:=L.z21;have ae:=L.v21;have aa:∀R w,(callFunc (ρ.f 119) R).run P w= .ok (.enter (ρ.f 119) R) w:=enters_of L.f119 (by kernel_rfl) rfl;have h0:(0:Int)<=r:=by omega
 have hd:¬(r<128):=by omega
 have af:decide (r<128)=false:=decide_eq_false (by omega);have hq:(r==65533)=false:=beq_eq_false_iff_ne.2 h3
 go_enter L.f152,Body.n152_ntmps ρ
 go_wp2_with (go_at_fn (ρ.f 119);refine(Any.utf8_ValidRune {L with} _ _).mono ?_;rintro e w' ⟨rfl,hw⟩;rw[hw,hv])
 go_ret
 exact⟨rfl,rfl⟩
set_option maxHeartbeats 8000000 in
set_option maxRecDepth 1000000 in
theorem kaZ(L:Lays.n152 P ρ)(s:ByteArray)(w:World)(ha:∀(j:Nat) b,s.data.toList[j]? =some b->b.toNat<128):
 Calls P (ρ.f 152) #[.string s,.int .i32 65533] w λe w'=>e= .returned (.int .i64 (-1))/\∃pos,w'=w.iter s pos:=by
 have HA:Aside (∀(j:Nat) b,s.data.toList[j]? =some b->b.toNat<128):=ha;clear ha;have mixed:=L.mixed;have t3:=L.t3;have a3:=L.a3;have z3:=L.z3;have v3:=L.v3;have t4:=L.t4;have a4:=L.a4;have z4:=L.z4;have v4:=L.v4;have t5:=L.t5;have a5:=L.a5;have z5:=L.z5;have v5:=L.v5;have t9:=L.t9;have a9:=L.a9;have z9:=L.z9;have v9:=L.v9;have ab:=L.t21;have ac:=L.a21;have ad:=L.z21;have ae:=L.v21
 go_enter L.f152,Body.n152_ntmps ρ
 go_wp2
 go_loopg [5,6] s.size (λg _ _ wx=>∃i:Nat,i+g=s.size/\wx=w.iter s i)
 case atStart=>exact⟨0,by omega,rfl⟩
 case round=>
  obtain⟨i,af,rfl⟩:=hrel;cases gk with
  |zero=>
   obtain rfl:i=s.size:=by omega
   have aa:=run_next_end (P:=P) w s s.size
   go_wp2
   go_ret
   exact⟨rfl,_,rfl⟩
  |succ g=>
   have hi:i<s.size:=by omega
   obtain⟨x,hx⟩:∃x:UInt8,s[i]'hi=x:=⟨_,rfl⟩;have R:x.toNat<128:=HA.out i x (by rw[<-hx];exact Lib.data_getElem? s i hi);have aa:=λty=>run_next_ascii (P:=P) w s i ty hi (by rw[hx];exact R);rw[hx] at aa;clear hx;have ag:(((x.toNat:Nat):Int)==65533)=false:=beq_eq_false_iff_ne.2 (by omega)
   go_wp2
   go_roundg g
   case measure=>omega
   case rel=>exact⟨i+1,by omega,rfl⟩
set_option maxHeartbeats 8000000 in
set_option maxRecDepth 1000000 in
theorem iCZ(L:Lays.n152 P ρ)(s:ByteArray)(r:Int)(w:World)(h:128<=r)(h3:r≠65533)(hv:Lib.validRune r=true)(hs:s.size=2)(ha:∀(j:Nat) b,s.data.toList[j]? =some b->b.toNat<128)(hz:(Utf8.encode r).size≠2):
 Calls P (ρ.f 152) #[.string s,.int .i32 r] w λe w'=>e= .returned (.int .i64 (-1))/\w'=w:=by
 have aa:Utf8.valid r=true:=by
  unfold Lib.validRune at hv;unfold Utf8.valid;simp at hv⊢;omega
 obtain⟨e1,e2,e3⟩:=encode_facts r aa h;have mixed:=L.mixed;have t3:=L.t3;have a3:=L.a3;have z3:=L.z3;have v3:=L.v3;have t4:=L.t4;have a4:=L.a4;have z4:=L.z4;have v4:=L.v4;have t5:=L.t5;have a5:=L.a5;have z5:=L.z5;have v5:=L.v5;have t9:=L.t9;have a9:=L.a9;have z9:=L.z9;have v9:=L.v9;have ad:=L.t21;have ae:=L.a21;have af:=L.z21;have ag:=L.v21;have ab:∀R w,(callFunc (ρ.f 119) R).run P w= .ok (.enter (ρ.f 119) R) w:=enters_of L.f119 (by kernel_rfl) rfl;have h0:(0:Int)<=r:=by omega
 have hd:¬(r<128):=by omega
 have ah:decide (r<128)=false:=decide_eq_false (by omega);have hq:(r==65533)=false:=beq_eq_false_iff_ne.2 h3;have ac:∀R w,(callFunc (ρ.f 137) R).run P w= .ok (.enter (ρ.f 137) R) w:=enters_of L.f137 (by kernel_rfl) rfl;have ai:wrap64 (((Utf8.encode r).size:Int)-1)=((Utf8.encode r).size:Int)-1:=by unfold wrap64;omega
 go_enter L.f152,Body.n152_ntmps ρ
 go_wp2_with (go_at_fn (ρ.f 119);refine(Any.utf8_ValidRune {L with} _ _).mono ?_;rintro e w' ⟨rfl,hw⟩;rw[hw,hv])
 go_step3
 go_wp2
 go_loopg [9] 1 (λ_ v9 wx=>v9= .int .i64 (((Utf8.encode r).size:Int)-1)/\wx=w)
 case atStart=>exact⟨rfl,rfl⟩
 case round=>
  obtain⟨rfl,rfl⟩:=hrel;have aj:¬(((Utf8.encode r).size:Int)-1<(s.size:Int)):=by omega
  go_wp2
  go_ret
  exact⟨rfl,rfl⟩
set_option maxHeartbeats 8000000 in
set_option maxRecDepth 1000000 in
theorem ikZ(L:Lays.n152 P ρ)(s:ByteArray)(r:Int)(w:World)(h:128<=r)(h3:r≠65533)(hv:Lib.validRune r=true)(hs:s.size=2)(ha:∀(j:Nat) b,s.data.toList[j]? =some b->b.toNat<128)(hz:(Utf8.encode r).size=2):
 Calls P (ρ.f 152) #[.string s,.int .i32 r] w λe w'=>e= .returned (.int .i64 (-1))/\Below w.heap.size w w'/\w.drawn<=w'.drawn:=by
 have aa:Utf8.valid r=true:=by
  unfold Lib.validRune at hv;unfold Utf8.valid;simp at hv⊢;omega
 obtain⟨e1,e2,e3⟩:=encode_facts r aa h;have mixed:=L.mixed;have t3:=L.t3;have a3:=L.a3;have z3:=L.z3;have v3:=L.v3;have t4:=L.t4;have a4:=L.a4;have z4:=L.z4;have v4:=L.v4;have t5:=L.t5;have a5:=L.a5;have z5:=L.z5;have v5:=L.v5;have t9:=L.t9;have a9:=L.a9;have z9:=L.z9;have v9:=L.v9;have af:=L.t21;have ag:=L.a21;have ah:=L.z21;have ai:=L.v21;have ad:∀R w,(callFunc (ρ.f 119) R).run P w= .ok (.enter (ρ.f 119) R) w:=enters_of L.f119 (by kernel_rfl) rfl;have h0:(0:Int)<=r:=by omega
 have hd:¬(r<128):=by omega
 have aj:decide (r<128)=false:=decide_eq_false (by omega);have hq:(r==65533)=false:=beq_eq_false_iff_ne.2 h3;have ae:∀R w,(callFunc (ρ.f 137) R).run P w= .ok (.enter (ρ.f 137) R) w:=enters_of L.f137 (by kernel_rfl) rfl;obtain⟨x,hx⟩:∃x:UInt8,s[1]'(by omega)=x:=⟨_,rfl⟩;have ab:x.toNat<128:=ha 1 x (by rw[<-hx];exact Lib.data_getElem? s 1 (by omega));obtain⟨y,hy⟩:∃y:UInt8,(Utf8.encode r)[1]'(by omega)=y:=⟨_,rfl⟩;have ac:128<=y.toNat:=by
  have:=e3 (by omega);simp only[hz] at this;rw[<-hy];exact this
 have ak:(((x.toNat:Nat):Int)==((y.toNat:Nat):Int))=false:=beq_eq_false_iff_ne.2 (by omega);clear ha e3 e1 e2;obtain⟨rs,hE⟩:∃rs,Utf8.encode r=rs:=⟨_,rfl⟩;simp only[hE] at hz hy
 go_enter L.f152,Body.n152_ntmps ρ
 go_wp2_with (go_at_fn (ρ.f 119);refine(Any.utf8_ValidRune {L with} _ _).mono ?_;rintro e w' ⟨rfl,hw⟩;rw[hw,hv])
 go_step3
 go_wp2
 go_loopg [9] 1 (λ_ v9 wx=>v9= .int .i64 1/\wx=w)
 case atStart=>exact⟨rfl,rfl⟩
 case round=>
  obtain⟨rfl,rfl⟩:=hrel
  go_wp2
  go_step3
  go_wp2
  go_region_o
  all_goals(
   go_wp2
   go_region_with_o (go_at_fn (ρ.f 137);refine(Any.strings_IndexByte {L with} _ _ _).mono ?_;rintro e w' ⟨rfl,hw⟩;rw[hw])
   all_goals(
    go_wp2
    simp only[Exit.noGoto_ret,go_sem]
    go_ret
    exact⟨rfl,((Below.refl _ _).drew).drew,Nat.le_add_right _ 2⟩))
def Fwd(w w':World):Prop:=Below w.heap.size w w'/\w.drawn<=w'.drawn
theorem Fwd.refl(w):Fwd w w:=⟨Below.refl _ _,Nat.le_refl _⟩
theorem Fwd.trans{a b c}(h:Fwd a b)(k:Fwd b c):Fwd a c:=⟨h.1.trans (k.1.mono h.1.size),Nat.le_trans h.2 k.2⟩
theorem Fwd.alloc(w)(o):Fwd w (w.alloc o):=⟨(Below.refl _ _).alloc (Nat.le_refl _) o,Nat.le_refl _⟩
theorem l1Z(L:Lays.n152 P ρ)(s)(r)(w)(h:128<=r)(hs:s.size=2)(R:∀(j:Nat) b,s.data.toList[j]? =some b->b.toNat<128):
 Calls P (ρ.f 152) #[.string s,.int .i32 r] w λe w'=>e= .returned (.int .i64 (-1))/\Fwd w w':=by
 by_cases h1:r=65533
 .subst h1;exact(kaZ L s w R).mono λe w' ⟨e1,pos,e2⟩=>⟨e1,by rw[e2];exact Fwd.alloc _ _⟩
 .cases hv:Lib.validRune r with
  |false=>exact(n7Z L s r w h h1 hv).mono λe w' ⟨e1,e2⟩=>⟨e1,by simp_all[Fwd.refl]⟩
  |true=>
   by_cases hz:(Utf8.encode r).size=2
   .exact(ikZ L s r w h h1 hv hs R hz).mono λe w' ⟨e1,e2⟩=>⟨e1,e2⟩
   .exact(iCZ L s r w h h1 hv hs R hz).mono λe w' ⟨e1,e2⟩=>⟨e1,by simp_all[Fwd.refl]⟩
def SY(A:Nat->Nat)(C:Nat->Bool):Nat×Nat:=
 if A 0<0x80 then(A 0,1)
 else if A 0/32==6&&C 1 then
  if(A 0%32)*64+A 1%64>=0x80 then((A 0%32)*64+A 1%64,2) else(Utf8.runeError,1)
 else if A 0/16==14&&C 1&&C 2 then
  if(A 0%16)*4096+(A 1%64)*64+A 2%64>=0x800&&Utf8.valid ((A 0%16)*4096+(A 1%64)*64+A 2%64:Nat) then((A 0%16)*4096+(A 1%64)*64+A 2%64,3) else(Utf8.runeError,1)
 else if A 0/8==30&&C 1&&C 2&&C 3 then
  if(A 0%8)*262144+(A 1%64)*4096+(A 2%64)*64+A 3%64>=0x10000&&Utf8.valid ((A 0%8)*262144+(A 1%64)*4096+(A 2%64)*64+A 3%64:Nat) then((A 0%8)*262144+(A 1%64)*4096+(A 2%64)*64+A 3%64,4) else(Utf8.runeError,1)
 else(Utf8.runeError,1)
theorem wbZ(s)(i):Utf8.decode s i=SY (λk=>(s.get! (i+k)).toNat) (λk=>i+k<s.size&&(s.get! (i+k)).toNat/64==2):=rfl
theorem rxZ(A)(C)(h:128<=A 0):∃c k,SY A C=(c,k)/\128<=c/\1<=k/\∀j,1<=j->j<k->C j=true:=by
 have R:128<=Utf8.runeError:=by decide
 have one:∃c k,(Utf8.runeError,1)=(c,k)/\128<=c/\1<=k/\∀j,1<=j->j<k->C j=true:=⟨_,1,rfl,R,Nat.le_refl _,λj h1 h2=>by omega⟩;have aa:¬A 0<128:=by omega
 unfold SY;rw[if_neg aa];split
 .grind
 .split
  .rename_i h;rw[Bool.and_eq_true,Bool.and_eq_true] at h;split
   .rename_i hc;rw[Bool.and_eq_true,decide_eq_true_eq] at hc;refine⟨_,3,rfl,by omega,by omega,λj h1 h2=> ?_⟩;have:j=1\/j=2:=by omega
    rcases this with rfl|rfl
    .exact h.1.2
    .exact h.2
   .exact one
  grind
theorem tGZ(s:ByteArray)(j)(R:j<s.size):s.get! j=s[j]'R:=by
 simp[ByteArray.get!,R]
 rfl
theorem lDZ(s)(i)(hi)(hx:128<=(s[i]'hi).toNat):∃c k,Utf8.decode s i=(c,k)/\128<=c/\1<=k/\i+k<=s.size/\∀j (R),i<=j->j<i+k->128<=(s[j]'R).toNat:=by
 let⟨c,k,e1,e2,e3,e4⟩:=rxZ (λk=>(s.get! (i+k)).toNat) (λk=>i+k<s.size&&(s.get! (i+k)).toNat/64==2) (by
  simp_all[tGZ])
 refine⟨c,k,e1,e2,e3,?_,λj R h1 h2=> ?_⟩
 .by_cases hk:k=1
  .omega
  .have:=e4 (k-1) (by omega) (by omega)
   grind
 .by_cases aa:j=i
  .simp_all
  .have:=e4 (j-i) (by omega) (by omega);rw[Bool.and_eq_true] at this;have h3:=this.2;have e:i+(j-i)=j:=by omega
   simp[e] at h3;rw[tGZ s j R] at h3
   grind
theorem gvZ(W)(g)(s)(pos c k)(ty)(hg:W.heap[g]? =some (.stringIter s pos))(h:pos<s.size)(hd:Utf8.decode s pos=(c,k)):
 (Instr.next (.pointer (some ⟨g,0,none⟩)) true ty).run P W= .ok (.tuple #[.bool true,.int .i64 pos,.int .i32 c]) {W with heap:=W.heap.setIfInBounds g (.stringIter s (pos+k))}:=by
 simp[Instr.next,getObj,setObj,Sem.run,hg,h,hd];simp[goInt,hg]
theorem geZ(W)(g)(s)(pos)(ty)(hg:W.heap[g]? =some (.stringIter s pos))(h:¬pos<s.size):
 (Instr.next (.pointer (some ⟨g,0,none⟩)) true ty).run P W= .ok (.tuple #[.bool false]) W:=by
 simp[Instr.next,getObj,Sem.run,hg,h]
variable {P : Program} {ρ : Ren}
theorem NoAny.skip{s R}{i k}(h:Lib.NoAny s R i)(ab:∀(j:Nat) b,R[j]? =some b->b.toNat<128)(hk:∀j b,i<=j->j<i+k->s[j]? =some b->128<=b.toNat):Lib.NoAny s R (i+k):=by
 have:∀n,n<=k->Lib.NoAny s R (i+n):=by
  intro n;induction n with
  |zero=>intro _;exact h
  |succ n ih=>
   intro hn;have h1:=ih (by omega);cases hb:s[i+n]? with
   |none=>
    intro j b hj aa;by_cases ac:j<i+n
    .exact h1 j b ac aa
    .have:j=i+n:=by omega
     subst this;rw[hb] at aa;cases aa
   |some b=>
    refine h1.succ hb ?_;have ad:=hk (i+n) b (by omega) (by omega) hb;cases hc:R.contains b with
    |false=>rfl
    |true=>
     let⟨j,hj⟩:=List.getElem?_of_mem (List.contains_iff_mem.1 hc)
     have:=ab j b hj;omega
 simp_all
set_option maxHeartbeats 8000000 in
set_option maxRecDepth 1000000 in
theorem lZZ(L:Lays.n153 P ρ)(s chars:ByteArray)(w:World)(h2:chars.size=2)(h8:s.size<=8)(hac:∀(j:Nat) b,chars.data.toList[j]? =some b->b.toNat<128):
 Calls P (ρ.f 153) #[.string s,.string chars] w fun e w'=>e= .returned (.int .i64 (Lib.indexAny s.data.toList chars.data.toList))/\Fwd w w':=by
 have HA:Aside (∀(j:Nat) b,chars.data.toList[j]? =some b->b.toNat<128):=hac;clear hac;have hemp:chars.toList.isEmpty=false:=by
  rw[Lib.toList_data];cases h:chars.data.toList with
  |nil=>have:=Lib.size_eq chars;rw[h,List.length_nil] at this;omega
  |cons _ _=>rfl
 have hn1:((chars.size:Int)==1)=false:=beq_eq_false_iff_ne.2 (by omega);have h8z:decide ((8:Int)<(s.size:Int))=false:=decide_eq_false (by omega);have t3:=L.t3;have a3:=L.a3;have z3:=L.z3;have v3:=L.v3;have t4:=L.t4;have a4:=L.a4;have z4:=L.z4;have v4:=L.v4;have t5:=L.t5;have a5:=L.a5;have z5:=L.z5;have v5:=L.v5;have t9:=L.t9;have a9:=L.a9;have z9:=L.z9;have v9:=L.v9;have t21:=L.t21;have a21:=L.a21;have z21:=L.z21;have v21:=L.v21;have e152:∀args w,(callFunc (ρ.f 152) args).run P w= .ok (.enter (ρ.f 152) args) w:=enters_of L.f152 (by kernel_rfl) rfl;have e226:∀args w,(callFunc (ρ.f 226) args).run P w= .ok (.enter (ρ.f 226) args) w:=enters_of L.f226 (by kernel_rfl) rfl
 go_enter L.f153,Body.n153_ntmps ρ
 go_wp2_with (go_at_fn (ρ.f 226);refine(Any.strings_shouldUseASCIISet {L with} _ _).mono ?_;rintro e w' ⟨rfl,hw⟩;rw[hw,h8z])
 go_loopg [9,10] s.size (fun g _ _ wx=>∃i:Nat,s.size<=i+g/\i<=s.size/\wx.heap[w.heap.size]? =some (.stringIter s i)/\Fwd w wx/\Lib.NoAny s.data.toList chars.data.toList i)
 case atStart=>exact⟨0,by omega,by omega,World.iter_heap w s 0,Fwd.alloc _ _,Lib.NoAny.zero _ _⟩
 case round=>
  obtain⟨i,hig,hil,hit,hfw,hno⟩:=hrel;have HN:Aside (Lib.NoAny s.data.toList chars.data.toList i):=hno;have HF:Aside (Fwd w wr):=hfw;clear hno hfw;by_cases hi:i<s.size
  ·obtain⟨g,rfl⟩:∃g,gk=g+1:=⟨gk-1,by omega⟩;obtain⟨x,hx⟩:∃x:UInt8,s[i]'hi=x:=⟨_,rfl⟩;have hxl:s.data.toList[i]? =some x:=by rw[<-hx];exact Lib.data_getElem? s i hi
   have hgl:w.heap.size<wr.heap.size:=(Array.getElem?_eq_some_iff.1 hit).1;have step:∀k,∃W1:World,W1={wr with heap:=wr.heap.setIfInBounds w.heap.size (.stringIter s (i+k))}/\W1.heap[w.heap.size]? =some (.stringIter s (i+k))/\Fwd w W1:=fun k=>by
    refine⟨_,rfl,?_,⟨⟨HF.out.1.os,HF.out.1.tape,HF.out.1.output,?_,fun b hb=> ?_⟩,HF.out.2⟩⟩
    ·show(wr.heap.setIfInBounds w.heap.size (.stringIter s (i+k)))[w.heap.size]? =_;rw[Array.getElem?_setIfInBounds_self_of_lt hgl]
    ·show _<=(wr.heap.setIfInBounds _ _).size;rw[Array.size_setIfInBounds];exact HF.out.1.size
    ·show(wr.heap.setIfInBounds _ _)[b]? =_;rw[Array.getElem?_setIfInBounds_ne (by omega)];exact HF.out.1.block b hb
   by_cases hx8:x.toNat<128
   ·obtain⟨W1,hW1,hW2,hW3⟩:=step 1;have hnx:=fun ty=>gvZ (P:=P) wr w.heap.size s i x.toNat 1 ty hit hi (by rw[decode_ascii s i hi (by rw[hx];exact hx8),hx]);rw[<-hW1] at hnx;have Hx:Aside (s.data.toList[i]? =some x):=hxl;have HW:Aside (W1.heap[w.heap.size]? =some (.stringIter s (i+1))/\Fwd w W1):=⟨hW2,hW3⟩;clear hxl hx hW1 hW2 hW3 step hit;have hcon:=Lib.contains_iff_indexByte chars.data.toList x;have hback:((x.toNat:Int)).toNat.toUInt8=x:=by simp
    cases hin:chars.data.toList.contains x
    ·rw[hin] at hcon;have hlt:¬((0:Int)<=Lib.indexByte chars.data.toList x):=of_decide_eq_false hcon.symm;clear hcon
     go_wp2_with (go_at_fn (ρ.f 152);refine(Any.strings_IndexRune_ascii {L with} _ _ _ (by omega) (by omega)).mono ?_;rintro e w' ⟨rfl,hw⟩;rw[hw,hback])
     go_roundg g
     case measure=>omega
     case rel=>exact⟨i+1,by omega,by omega,HW.out.1,HW.out.2,HN.out.succ Hx.out hin⟩
    ·rw[hin] at hcon;have hge:(0:Int)<=Lib.indexByte chars.data.toList x:=of_decide_eq_true hcon.symm;clear hcon
     go_wp2_with (go_at_fn (ρ.f 152);refine(Any.strings_IndexRune_ascii {L with} _ _ _ (by omega) (by omega)).mono ?_;rintro e w' ⟨rfl,hw⟩;rw[hw,hback])
     go_ret
     exact⟨by rw[Lib.indexAny_hit HN.out Hx.out hin];rfl,HW.out.2⟩
   ·obtain⟨c,k,hd,hc,hk1,hk2,hk3⟩:=lDZ s i hi (by rw[hx];omega);obtain⟨W1,hW1,hW2,hW3⟩:=step k;have hnx:=fun ty=>gvZ (P:=P) wr w.heap.size s i c k ty hit hi hd;rw[<-hW1] at hnx;have HW:Aside (W1.heap[w.heap.size]? =some (.stringIter s (i+k))/\Fwd w W1):=⟨hW2,hW3⟩;have HK:Aside (∀j (hj:j<s.size),i<=j->j<i+k->128<=(s[j]'hj).toNat):=hk3;clear hxl hx hW1 hW2 hW3 step hit hk3 hd
    go_wp2_with (go_at_fn (ρ.f 152);refine(l1Z {L with} _ _ _ (by omega) h2 HA.out).mono ?_;rintro e w' ⟨rfl,hw⟩)
    go_roundg g
    case measure=>omega
    case rel=>
     have hgl1:w.heap.size<W1.heap.size:=(Array.getElem?_eq_some_iff.1 HW.out.1).1;refine⟨i+k,by omega,hk2,by rw[hw.1.block _ hgl1];exact HW.out.1,HW.out.2.trans hw,NoAny.skip HN.out HA.out fun j b h1 h3 hb=> ?_⟩;have hj:j<s.size:=by omega
     have:=HK.out j hj h1 h3;have hb2:s.data.toList[j]? =some (s[j]'hj):=Lib.data_getElem? s j hj;rw[hb] at hb2;injection hb2 with hb2;rw[hb2];exact this
  ·obtain rfl:i=s.size:=by omega
   have hnx:=fun ty=>geZ (P:=P) wr w.heap.size s s.size ty hit hi
   go_wp2
   go_ret
   exact⟨by rw[Lib.indexAny_none (by rw[<-Lib.size_eq];exact HN.out)];rfl,HF.out⟩
theorem r5Z(L:Lays.n153 P ρ)(R:(P.info? (ρ.t 116)).map (λi=>(i.zero,i.size))=some (some (.agg (Array.replicate 256 (.bool false))),256))(s chars)(w)(h2:chars.size=2)(hs:s.size<4294967281)(aa:∀(j:Nat) b,chars.data.toList[j]? =some b->b.toNat<128):
 Calls P (ρ.f 153) #[.string s,.string chars] w λe w'=>e= .returned (.int .i64 (Lib.indexAny s.data.toList chars.data.toList))/\Fwd w w':=by
 by_cases h8:s.size<=8
 .grind[lZZ]
 .refine(Any.strings_IndexAny_long L (zero_of_info R).1 (zero_of_info R).2 s chars w (by omega) (by omega) hs (by omega) aa).mono λe w' ⟨h1,h2⟩=>⟨h1,?_⟩;rw[h2];exact(Fwd.alloc _ _).trans (Fwd.alloc _ _)
set_option maxHeartbeats 1000000 in
theorem gEZ(L:Lays.n150 P ρ)(ab:(P.info? (ρ.t 116)).map (λi=>(i.zero,i.size))=some (some (.agg (Array.replicate 256 (.bool false))),256))(s R:ByteArray)(w:World)(h2:R.size=2)(hs:s.size<4294967281)(ac:∀(j:Nat) b,R.data.toList[j]? =some b->b.toNat<128):
 Calls P (ρ.f 150) #[.string s,.string R] w λe w'=>e= .returned (.bool (Lib.containsAny s.data.toList R.data.toList))/\Fwd w w':=by
 have c:=r5Z {L with} ab s R w h2 hs ac;have t3:=L.t3;have a3:=L.a3;have z3:=L.z3;have v3:=L.v3;have t4:=L.t4;have a4:=L.a4;have z4:=L.z4;have v4:=L.v4;have t9:=L.t9;have a9:=L.a9;have z9:=L.z9;have v9:=L.v9;have ad:∀aa w,(callFunc (ρ.f 153) aa).run P w= .ok (.enter (ρ.f 153) aa) w:=enters_of L.f153 (by kernel_rfl) rfl
 go_enter L.f150,Body.n150_ntmps ρ
 go_wp2_with (go_at_fn (ρ.f 153);refine c.mono ?_;rintro e w' ⟨rfl,hw⟩)
 go_ret
 exact⟨rfl,hw⟩
end Go.Proofs
namespace Go.Ab
open Go.Proofs Go.Shelf
def caS(t:List UInt8×List UInt8):Option Bool:=
 bO (Nat.beq t.2.length 2&&t.2.all (λb=>Nat.blt b.toNat 128)&&Nat.blt t.1.length 4294967281) (some (Go.Lib.containsAny t.1 t.2))
theorem f0Z{P}{R}(L:Lays.n150 P R)(aa:(P.info? (R.t 116)).map (λi=>(i.zero,i.size))=some (some (.agg (Array.replicate 256 (.bool false))),256))
 (ab:∃fn c,P.funcs[R.f 150]? =some fn/\fn.body=some c/\(fn.name== "runtime.NumGoroutine")=false):
 eZ P ⟨R.f 150,⟨.cons (.p .str) (.cons (.p .str) .nil),[]⟩,[⟨.cons (.p .bool) .nil,[]⟩],caS⟩:=by
 refine eZ.of ab λt r hr z vals hH hv hD=> ?_;obtain⟨⟨s,c⟩,rfl⟩:∃t':List UInt8×List UInt8,t'=t:=⟨t,rfl⟩;have hr:=hr;unfold caS at hr
 let⟨hc,hr⟩:=aeZ.1 hr
 cases hr;simp only[ZAE,ZBd,afZ,ZCP] at hc
 let⟨⟨ac,ad⟩,ae⟩:=hc
 have hv:=hv
 let⟨h1,h2⟩:=hv
 match vals,h1,h2 with
 |[a,b],_,h2=>
  have k1:=h2 0 _ a rfl rfl;have k2:=h2 1 _ b rfl rfl;obtain rfl:=k1.v.str;obtain rfl:=k2.v.str;refine(gEZ L aa ⟨⟨s⟩⟩ ⟨⟨c⟩⟩ z.w (by simpa[ByteArray.size] using ac) (by simpa[ByteArray.size] using ae) (λj b hj=>ad b (ZAI hj))).mono ?_;rintro en w' ⟨rfl,hw⟩
  let z':={z with w:=w'}
  have af:bI z' []:=⟨λid e h=>(by rw[ckZ] at h;cases h),λi i' e e' g sz n g' ag n' _ h=>(by rw[ckZ] at h;cases h),hH.fresh,hH.sub,λi x h=>by simp[bG] at h,λi h=>by simp[bM] at h,λi _ h=>by simp[bM] at h,hH.nos⟩;have hN:Nx z z':=⟨hw.1.os,⟨hw.1.tape,hw.2⟩,hw.1.output,hw.1.size,λb hb _=>hw.1.block b hb,λ_ h=>.inl h,λ_ h=>.inl h,λ_ _ h _=>h,λ_ _=>rfl,rfl⟩;exact⟨_,z',rfl,rfl,hN,λk hk=>absurd hk (hD k),af,.p _ _ _ ⟨[.bool (Go.Lib.containsAny s c)],rfl,rfl⟩⟩
theorem hlZ{P}{f}{fn}(hf:P.funcs[f]? =some fn)(R:(fn.name== "runtime.NumGoroutine")=false)(hb:fn.body.isNone=true)(hn:(Extern.findNext fn).isNone=true)(he:Extern.find fn=some Extern.BytealgCompare.compare):
 eZ P ⟨f,⟨.cons (.p .str) (.cons (.p .str) .nil),[]⟩,[⟨.cons (.p (.int .i64)) .nil,[]⟩],λt:List UInt8×List UInt8=>some (Go.Lib.compareBytes t.1 t.2)⟩:=by
 refine⟨λt r hr z vals hH hv hD=>.inr ?_⟩;obtain⟨⟨l,c⟩,rfl⟩:∃t',t'=t:=⟨t,rfl⟩;cases hr
 let⟨h1,h2⟩:=hv
 match vals,h1,h2 with
 |[a,b],_,h2=>
  have k1:=h2 0 _ a rfl rfl;have k2:=h2 1 _ b rfl rfl;obtain rfl:=k1.v.str;obtain rfl:=k2.v.str;refine⟨.int .i64 (Go.Lib.compareBytes l c),z.w,?_,_,z,rfl,rfl,Nx.refl z,λk hk=>absurd hk (hD k),hH,.p _ _ _ ⟨[.int .i64 (Go.Lib.compareBytes l c)],rfl,rfl⟩⟩;have aa:=by simpa using hn
  rw[run_callFunc_extern hf R hb aa he,Go.Lib.run_compareString]
  rfl
open Go.Proofs Go.Shelf Go.Sort
section
variable {α : Type} [Inhabited α]
def nI(v:α->Int×Int)(a:α):List Value:=oV (v a)
def pL(R:α->α->Bool)(l:List α):List α:=(pdq R l.toArray 0 l.toArray.size (Lib.bitLen l.toArray.size) true true).toList
theorem h3Z{R}(hO:SWO R)(l:List α):PermIn 0 l.toArray.size l.toArray (pdq R l.toArray 0 l.toArray.size (Lib.bitLen l.toArray.size) true true)/\SortedIn R 0 l.toArray.size (pdq R l.toArray 0 l.toArray.size (Lib.bitLen l.toArray.size) true true):=
 pdq_sorts R hO l.toArray 0 l.toArray.size (Lib.bitLen l.toArray.size) true true (ZBG _) (ZAN _) (Or.inl rfl)
theorem fvZ{R}(hO:SWO R)(l:List α):(pL R l).length=l.length:=by
 have:=(h3Z hO l).1.1
 simp_all[pL]
variable {P : Program} {ρr : Ren}
theorem v7Z(v)(l:List α){i j}{x}{w}(hx:l[i]? =some x)(hv:(oV (v x))[j]? =some w):i*2+j<l.length*2/\(flatK (nI v) 2 l.toArray)[i*2+j]! =w:=by
 have hi:=(ZAB.1 hx).1;have hj:j<2:=(ZAB.1 hv).1;have R:i*2+j<l.length*2:=by omega
 refine⟨R,?_⟩;rw[get_flatK _ _ _ _ (by simpa using R)];have h1:(i*2+j)/2=i:=by omega
 have h2:(i*2+j)%2=j:=by omega
 rw[h1,h2];have h3:l.toArray[i]! =x:=by simp[hx]
 rw[h3];show(oV (v x))[j]! =w;simp[hv]
theorem lQZ(v){g}(aa:vG P g){cf:α->α->Int}{R}
 (hc:eZ P ⟨g,⟨.cons (.p rI) (.cons (.p rI) .nil),[]⟩,[⟨.cons (.p (.int .i64)) .nil,[]⟩],R⟩)(ab:∀x y,R (v x,v y)=some (cf x y))(blk off size)(w):
 CmpLays P g #[] (nI v) 2 cf blk off size w:=by
 intro m os dk _ x y;generalize sortWorldK (nI v) 2 w blk off m dk os=W;have h:=hc.spec (v x,v y) (cf x y) (ab x y) ⟨W,λ_=>False,λ_=>False,λ_=>.no,λ_=>False⟩ [.agg (oV (v x)).toArray,.agg (oV (v y)).toArray]
  ⟨λid e h=>absurd ((ckZ id).symm.trans h) (λh=>by cases h),λi i' e e' g sz n g' ac n' _ h=>absurd ((ckZ i).symm.trans h) (λh=>by cases h),λid _=>.inl rfl,λg h=>h,λi x h=>by simp_all[Shp.emb,kV,bG],λi h=>by simp_all[Shp.emb,kV,bM],λ_ _ _ h=>h,λ_ _ _=>rfl⟩
  ⟨rfl,λi a vv h1 h2=>by
   match i with
   |0=>
    have h2:=h2;injection h1 with h1;injection h2 with h2;subst h1;subst h2;exact vyZ (v x)
   |1=>
    have h1:=h1;have h2:=h2;injection h1 with h1;injection h2 with h2;subst h1;subst h2;exact vyZ (v y)
   |i+2=>simp at h2⟩ (λ_ h=>h)
 refine(h.calls aa).mono ?_;rintro en w' ⟨vr,z',rfl,rfl,hn,_,ho⟩
 let⟨_,ho⟩:=ho
 have ho:bE z' (.p (.int .i64) (cf x y)) vr:=ho;refine⟨by rw[ho.v.int],sbZ hn.os hn.tape.1 hn.tape.2 hn.output hn.size λb hb=>hn.block b hb λh=>h⟩
theorem nTZ(v){lift:List (Int×Int)->Option (List α)}(hl:∀l t,lift l=some t->t.map v=l)(L:SlLaysF0.n6 P ρr)(aE:∀w,(isAgg (ρr.t 24)).run P w= .ok true w)(zE:∀w,(Go.sizeOf (ρr.t 24)).run P w= .ok 2 w){g}{e}{cf}{cspec}
 (hO:SWO (ltOf cf))(hcb:vG P g)(hc:eZ P ⟨g,⟨.cons (.p rI) (.cons (.p rI) .nil),[]⟩,[⟨.cons (.p (.int .i64)) .nil,[]⟩],cspec⟩)(hcs:∀x y,cspec (v x,v y)=some (cf x y))
 (hent:∃fn c,P.funcs[ρr.f 6]? =some fn/\fn.body=some c/\(fn.name== "runtime.NumGoroutine")=false)(eg:∀args w,(callFunc g args).run P w= .ok (.enter g args) w):
 eZ P ⟨ρr.f 6,⟨.cons (.slf 2 0) (.cons (.fn g .nil .nil) .nil),[(0,false,.rows e rI)]⟩,[⟨.nil,[(0,false,.rows e rI)]⟩],fun l=>bO (Nat.blt (List.length (α:=Int×Int) l) 4611686018427387904) ((lift l).map fun t=>(pL (ltOf cf) t).map v)⟩:=by
 refine eZ.of hent fun t r hr z vals hH hv hD=> ?_;obtain⟨t,rfl⟩:∃t',t'=t:=⟨t,rfl⟩;have hr:=hr;obtain⟨hr0,hr⟩:=aeZ.1 hr;rw[ZBd] at hr0;obtain⟨t',hlt',hr2⟩:=ZAH.1 hr;obtain rfl:=hl _ _ hlt';subst hr2;clear hlt' hr;generalize t'=t at*;rw[ZAs] at hr0;have hH:bI z [(0,some ⟨false,.rows e rI (t.map v)⟩)]:=hH;have hv:bQ z [.slf 2 0,.fn g [] []] vals:=hv;obtain⟨v1,v2,rfl,h1,h2⟩:=wcZ hv;have hg:bG [(0,some (⟨false,.rows e rI (t.map v)⟩:Ent))] 0=some ⟨false,.rows e rI (t.map v)⟩:=rfl;cases h2 with
 |fn _ _ _ va vc ha hc' _ _=>
 have ha:va=#[]:=ZBr ha;have hc':vc=#[]:=ZBr hc';subst ha;subst hc';have htup:∀z',bE z' (.tup []) (.tuple #[]):=fun z'=>.tup [] #[] rfl fun i x v h=>by grind
 cases h1 with
 |slfV _ _ A hρ=>
  have hB:t=[]:=List.map_eq_nil_iff.1 (hH.virt hg hρ).1;subst hB;refine(AnyF.slices_SortFunc_none L A 0 (.func (.func g) #[] #[]) z.w).mono ?_;rintro en w' ⟨rfl,rfl⟩;refine⟨_,z,rfl,rfl,Nx.refl z,fun k hk=>absurd hk (hD k),?_⟩;have e0:pL (ltOf cf) ([]:List α)=[]:=ZAY (fvZ hO []);show bI z [(0,some ⟨false,.rows e rI ((pL (ltOf cf) ([]:List α)).map v)⟩)]/\bE z (.tup []) _
  simp_all
 |slf _ _ g0 sz n c hρ hn hs hm=>
  obtain⟨hlt,hC,_,cs,fr,b1,b2,b3,b4,b5,b6,b7⟩:=hH.real hg hρ;have hC:=hC rfl;have b4:t.length=n:=by have:=b4;rw[ZAs] at this;exact this
  have b5:t.length*2<=sz:=by have:=b5;rw[ZAs] at this;exact this
  have hrow:∀(i) x,t[i]? =some x->∀(j) w,(oV (v x))[j]? =some w->cs[i*2+j]? =some w:=fun i x hx j w hv=>by
   obtain⟨u,q1,q2⟩:=b7 i (v x) (by rw[ZAW,hx];rfl);rw[clII.1 q1] at q2;exact q2 j w hv
  have hcell:∀k,k<t.length*2->cs[k]? =some ((flatK (nI v) 2 t.toArray)[k]!):=fun k hk=>by
   have hi:k/2<t.length:=by omega
   have h1:t[k/2]? =some t[k/2]:=ZAC hi;have h2:(oV (v t[k/2]))[k%2]? =some ((oV (v t[k/2]))[k%2]'(by show k%2<2;omega)):=ZAC _;have e1:=hrow _ _ h1 _ _ h2;have e2:=(v7Z v t h1 h2).2;have e3:k/2*2+k%2=k:=by omega
   rw[e3] at e1 e2;rw[e1,e2]
  have hHolds:HoldsK (nI v) 2 z.w g0 0 t.toArray:=by
   intro j hj;rw[size_flatK] at hj;have hj:j<t.length*2:=by simpa using hj
   refine⟨?_,?_⟩
   ·simp only[World.cell?,b1,ZA1];exact hcell j hj
   ·simp only[World.frozen?,b1,ZA1];have hjs:j<cs.size:=by omega
    rcases b2.f with h|h
    ·rw[h];simp only[ZB8,ZBA];omega
    ·simp only[ZB8,ZBA];left;omega
  have hsz:t.toArray.size<4611686018427387904:=by
   simpa using hr0
  have hS:=AnyQ.slices_SortFunc_eq L 2 aE zE (nI v) (fun _=>rfl) (fun x w hv=>by simp[nI,oV] at hv;rcases hv with rfl|rfl<;>rfl) cf hO g #[] g0 0 c t.toArray z.w eg (lQZ v hcb hc hcs g0 0 t.toArray.size z.w) hHolds hlt hsz
  rw[show t.toArray.size=n by simpa using b4] at hS;refine hS.mono ?_;rintro en w' ⟨rfl,m,os,rfl⟩;have hlen:(pL (ltOf cf) t).length=t.length:=fvZ hO t;have hsort:pdq (ltOf cf) t.toArray 0 n (Lib.bitLen n) true true=(pL (ltOf cf) t).toArray:=by
   unfold pL;rw[show t.toArray.size=n by simpa using b4]
  rw[hsort];generalize pL (ltOf cf) t=l' at hlen⊢;have hw1:∀b,b<z.w.heap.size->(sortWorldK (nI v) 2 z.w g0 0 m l'.toArray os).heap[b]? =if b=g0 then some (.cells (putCells id 0 (flatK (nI v) 2 l'.toArray) cs) e fr) else z.w.heap[b]? :=fun b hb=>by
   show((putRowK (nI v) 2 (Sort.ahead z.w m) g0 0 l'.toArray).heap++os)[b]? =_;have hs1:b<(putRowK (nI v) 2 (Sort.ahead z.w m) g0 0 l'.toArray).heap.size:=by
    show b<(Sort.putRow id (Sort.ahead z.w m) g0 0 _).heap.size;rw[Go.Sort.size_putRow];exact hb
   rw[ZBO hs1];show(z.w.heap.modify g0 (onCells (putCells id 0 (flatK (nI v) 2 l'.toArray))))[b]? =_;rw[ZB7];by_cases h:b=g0
   ·subst h;rw[ZAM rfl,ZAM rfl,b1];rfl
   ·rw[ZAK (ZBj h),ZAK h]
  have hw2:z.w.heap.size<=(sortWorldK (nI v) 2 z.w g0 0 m l'.toArray os).heap.size:=by
   show _<=((Sort.putRow id (Sort.ahead z.w m) g0 0 _).heap++os).size;rw[ZBU,Go.Sort.size_putRow];exact ZCg _ _
  have hw3:(sortWorldK (nI v) 2 z.w g0 0 m l'.toArray os).os=z.w.os/\(sortWorldK (nI v) 2 z.w g0 0 m l'.toArray os).tape=z.w.tape/\(sortWorldK (nI v) 2 z.w g0 0 m l'.toArray os).output=z.w.output/\(sortWorldK (nI v) 2 z.w g0 0 m l'.toArray os).drawn=z.w.drawn+m:=⟨rfl,rfl,rfl,rfl⟩;generalize sortWorldK (nI v) 2 z.w g0 0 m l'.toArray os=w' at*;have hM:z.M g0:=hH.sub _ hC;have hnx:Nx z {z with w:=w'}:=⟨hw3.1,⟨hw3.2.1,by show _<=w'.drawn;rw[hw3.2.2.2];exact ZCg _ _⟩,hw3.2.2.1,hw2,fun b hb hcb=>by
   show w'.heap[b]? =_;rw[hw1 b hb,ZAK (fun h=>by subst h;exact hcb hC)],fun _ h=>.inl h,fun _ h=>.inl h,fun _ _ h _=>h,fun _ _=>rfl,rfl⟩
  have hkp:=hnx.kp hH.sub;refine⟨_,{z with w:=w'},rfl,rfl,hnx,fun k hk=>absurd hk (hD k),?_⟩;show bI {z with w:=w'} [(0,some ⟨false,.rows e rI (l'.map v)⟩)]/\bE _ (.tup []) _;refine⟨⟨fun id e' he=> ?_,fun i i' e1 e2 a sa na a' sa' na' hii h1 h2=> ?_,fun id hid=> ?_,hH.sub,fun i x h=> ?_,hH.key,hH.dyn,hH.nos⟩,htup _⟩
  ·by_cases hid:id=0
   ·subst hid;rw[fQZ,ZAM rfl] at he;injection he with he;subst he;unfold eW;show match z.ρ 0 with|.no=>False|.virt=>_|.real g sz n=>_
    rw[hρ];refine⟨Nat.lt_of_lt_of_le hlt hw2,fun _=>hC,(fun h=>by cases h),putCells id 0 (flatK (nI v) 2 l'.toArray) cs,fr,?_,?_,?_,?_,?_,b6,fun i x hx=>⟨oV x,clII.2 rfl,fun j w hv=> ?_⟩⟩
    ·show w'.heap[g0]? =_;rw[hw1 g0 hlt,ZAM rfl]
    ·unfold okR at b2⊢;simpa[putCells] using b2
    ·simpa[putCells] using b3
    ·rw[ZAs];exact hlen.trans b4
    ·show(l'.map v).length*2<=sz;rw[ZAs,hlen];exact b5
    ·rw[ZAW] at hx;obtain⟨y,hy,rfl⟩:=ZAH.1 hx;obtain⟨q1,q2⟩:=v7Z v l' hy hv;show(putCells id 0 (flatK (nI v) 2 l'.toArray) cs)[i*2+j]? =some w;rw[kjZ (by rw[b3];omega),ZAM (by rw[size_flatK];simpa using q1),q2]
   ·rw[fQZ,ZAK hid] at he;cases he
  ·have key:∀j ee,bP [(0,some (⟨false,.rows e rI (l'.map v)⟩:Ent))] j=some ee->j=0:=fun j ee h=>by
    by_cases hj:j=0
    ·exact hj
    ·rw[fQZ,ZAK hj] at h;cases h
   exact absurd ((key i _ h1).trans (key i' _ h2).symm) hii
  ·refine hH.fresh id ?_;have h0:=eIZ;by_cases hd:bC<=id
   ·have hne:∀l,bG [(0,some (⟨false,.rows e rI l⟩:Ent))] (rt id)=none:=fun l=>by
     have:=(bNZ hd).1;have hf:0<bA:=by simp[bA]
     simp only[bG,ahZ (show 0≠rt id by omega)];rfl
    rw[ayZ hd,hne] at hid;rw[ayZ hd];rw[hne];exact hid
   ·unfold dU at hid⊢;rw[ZAK hd] at hid⊢;split
    ·rfl
    ·rename_i hf;rw[ZAK hf] at hid;exact hid
  ·by_cases hi:i=0
   ·subst hi;have h:some (⟨false,.rows e rI (l'.map v)⟩:Ent)=some x:=h;injection h with h;subst h;show 0<bA;simp[bA]
   ·simp only[bG,ahZ (ZBj hi)] at h;cases h
end
def okP(x:Int×Int):Bool:=decide (-4611686018427387904<=x.1/\x.1<=4611686018427387903)
abbrev xX:={x:Int×Int//okP x=true}
instance:Inhabited xX:=⟨⟨(0,0),by decide⟩⟩
def DN(l:List (Int×Int)):Option (List xX):=if h:∀x∈l,okP x=true then some (l.attach.map λx=>⟨x.1,h x.1 x.2⟩) else none
theorem mJZ(l)(t)(h:DN l=some t):t.map (λx=>x.1)=l:=by
 unfold DN at h;split at h
 .cases h;rw[List.map_map];exact List.attach_map_subtype_val l
 grind
def cfP(x y:xX):Int:=x.1.1-y.1.1
theorem swoP:SWO (ltOf cfP) where
 irrefl x:=by
  refine ZAF ?_
  simp_all[cfP]
 trans x y z h1 h2:=by
  have h1:=of_decide_eq_true h1;have h2:=of_decide_eq_true h2;refine ZAJ ?_
  grind[cfP]
 ntrans x y z h1 h2:=by
  have h1:=ZCp h1;have h2:=ZCp h2;refine ZAF ?_
  grind[cfP]
def xY(l:List (Int×Int)):Option (List (Int×Int)):=(DN l).map λt=>(pL (ltOf cfP) t).map λx=>x.1
end Go.Ab
