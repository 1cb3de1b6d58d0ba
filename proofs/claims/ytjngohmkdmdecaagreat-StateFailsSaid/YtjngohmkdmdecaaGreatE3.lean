/- An evaluator; it is sound. -/
import Derived.Test.YtjngohmkdmdecaaGreatE2
import Derived.Orders
import Derived.Laws.IdiomRangeMap
import Derived.LoopN
set_option linter.all false
namespace Go.Ab
theorem ZA3:type_of% @List.pairwise_cons:=@List.pairwise_cons
theorem ZBP:type_of% @Array.getElem?_append_left:=@Array.getElem?_append_left
theorem ZBW:type_of% @Bool.or_eq_false_iff:=@Bool.or_eq_false_iff
theorem ZBa:type_of% @List.mem_append_left:=@List.mem_append_left
theorem ZBu:type_of% @List.pairwise_append:=@List.pairwise_append
theorem ZBv:type_of% @List.filter_cons_of_pos:=@List.filter_cons_of_pos
theorem ZBz:type_of% @List.filter_eq_self:=@List.filter_eq_self
theorem ZB7:type_of% @Bool.and_eq_false_iff:=@Bool.and_eq_false_iff
theorem ZCN:type_of% @List.length_cons:=@List.length_cons
theorem ZCO:type_of% @List.mem_range:=@List.mem_range
theorem ZCU:type_of% @List.mem_append_right:=@List.mem_append_right
theorem ZCe:type_of% @Option.getD_some:=@Option.getD_some
theorem ZCh:type_of% @List.filter_append:=@List.filter_append
theorem ZCi:type_of% @List.mem_filter:=@List.mem_filter
section
variable {P : Program} {β γ : Type} {H : Hp} {F : γ → Option β}
theorem auZ{R}{x:Option R}{f}{g}(h:∀a,f a=(g a).bind F):x.ob f=(x.ob g).bind F:=by
 cases x with
 |none=>rfl
 |some a=>exact h a
theorem a7Z{R:Type}{x:Option R}{f}{g}(h:∀a,f a=(g a).bind F):x.bind f=(x.bind g).bind F:=by
 cases x<;>grind
theorem akZ{b}{f}{g}(h:f=g.bind F):need b f=(need b g).bind F:=by
 cases b
 .rfl
 .exact h
theorem aJZ{b}{f R}{g g':Option γ}(h:f=g.bind F)(h':R=g'.bind F):bq b f R=(bq b g g').bind F:=by
 cases b<;>simp_all
theorem c3Z{t u}{f}{R}{g}{g'}(h:∀e,f e=(g e).bind F)(h':R=g'.bind F):dq t u f R=(dq t u g g').bind F:=by
 unfold dq;split<;>grind
theorem mvZ{δ}{R}{fb}(hf:∀c (k) (k':δ->Option γ),(∀x,k x=(k' x).bind F)->R c k=(fb c k').bind F)(c):
 ∀(n) (cs) {k} {k'},(∀x,k x=(k' x).bind F)->asmN R c n cs k=(asmN fb c n cs k').bind F
 |0,cs,k,k',h=>h _
 |n+1,cs,k,k',h=>hf _ _ _ λx=>mvZ hf c n _ λl=>h _
theorem hEZ:(t:Ty)->{cs:List AV}->{k:t.den->Option β}->{k':t.den->Option γ}->(∀x,k x=(k' x).bind F)->asm t cs k=(asm t cs k').bind F
 |.byte,cs,k,k',h=>auZ λn=>a7Z h
 |.one t,cs,k,k',h=>hEZ t h
 |.pair a b,cs,k,k',h=>hEZ a λx=>hEZ b λy=>h _
 |.arr n t,cs,k,k',h=>mvZ (λc _ _ h=>hEZ t (cs:=c) h) t.cells n cs h
 |.int _,cs,k,k',h|.bool,cs,k,k',h|.str,cs,k,k',h|.opq,cs,k,k',h|.nat,cs,k,k',h|.sl _,cs,k,k',h|.ref _ _,cs,k,k',h=>auZ h
 |.ptr t,cs,k,k',h=>by
  simp[asm]
  grind[c3Z,a7Z,auZ]
theorem v9Z{u}{a}{k}{k'}(h:∀x,k x=(k' x).bind F):asC u a k=(asC u a k').bind F:=
 auZ λ_=>akZ (hEZ u h)
theorem bHZ{u}{a}{k}{k'}(h:∀x,k x=(k' x).bind F):asA u a k=(asA u a k').bind F:=by
 unfold asA
 grind[c3Z,v9Z]
theorem mJZ:(t:Ty)->{x:t.den}->{o:Nat}->{u:Ty}->{k:u.den->Option β}->{k':u.den->Option γ}->(∀x,k x=(k' x).bind F)->sub t x o u k=(sub t x o u k').bind F
 |.one t,x,o,u,k,k',h=>c3Z (λ_=>aJZ (h _) rfl) (mJZ t h)
 |.pair a b,x,o,u,k,k',h=>c3Z (λ_=>aJZ (h _) rfl) (aJZ (mJZ a h) (mJZ b h))
 |.int _,x,o,u,k,k',h|.bool,x,o,u,k,k',h|.byte,x,o,u,k,k',h|.str,x,o,u,k,k',h|.opq,x,o,u,k,k',h|.nat,x,o,u,k,k',h|.ptr _,x,o,u,k,k',h|.sl _,x,o,u,k,k',h|.arr _ _,x,o,u,k,k',h|.ref _ _,x,o,u,k,k',h=>c3Z (λ_=>aJZ (h _) rfl) rfl
theorem hCZ:(t:Ty)->{x:t.den}->{o:Nat}->{u:Ty}->{y:u.den}->{k:t.den->Option β}->{k':t.den->Option γ}->(∀x,k x=(k' x).bind F)->upd t x o u y k=(upd t x o u y k').bind F
 |.one t,x,o,u,y,k,k',h=>c3Z (λ_=>aJZ (h _) rfl) (hCZ t h)
 |.pair a b,x,o,u,y,k,k',h=>c3Z (λ_=>aJZ (h _) rfl) (aJZ (hCZ a λ_=>h _) (hCZ b λ_=>h _))
 |.int _,x,o,u,y,k,k',h|.bool,x,o,u,y,k,k',h|.byte,x,o,u,y,k,k',h|.str,x,o,u,y,k,k',h|.opq,x,o,u,y,k,k',h|.nat,x,o,u,y,k,k',h|.ptr _,x,o,u,y,k,k',h|.sl _,x,o,u,y,k,k',h|.arr _ _,x,o,u,y,k,k',h|.ref _ _,x,o,u,y,k,k',h=>c3Z (λ_=>aJZ (h _) rfl) rfl
theorem iRZ:(t:Ty)->{x:t.den}->{o:Nat}->{u:Ty}->{k:AV->Option β}->{k':AV->Option γ}->(∀x,k x=(k' x).bind F)->subR t x o u k=(subR t x o u k').bind F
 |.one t,x,o,u,k,k',h=>aJZ (h _) (iRZ t h)
 |.pair a b,x,o,u,k,k',h=>aJZ (h _) (aJZ (iRZ a h) (iRZ b h))
 |.int _,x,o,u,k,k',h|.bool,x,o,u,k,k',h|.byte,x,o,u,k,k',h|.str,x,o,u,k,k',h|.opq,x,o,u,k,k',h|.nat,x,o,u,k,k',h|.ptr _,x,o,u,k,k',h|.sl _,x,o,u,k,k',h|.arr _ _,x,o,u,k,k',h|.ref _ _,x,o,u,k,k',h=>aJZ (h _) rfl
theorem iuZ:(t:Ty)->{x:t.den}->{o:Nat}->{u:Ty}->{v:AV}->{k:t.den->Option β}->{k':t.den->Option γ}->(∀x,k x=(k' x).bind F)->updR t x o u v k=(updR t x o u v k').bind F
 |.one t,x,o,u,v,k,k',h=>aJZ (bHZ h) (iuZ t h)
 |.pair a b,x,o,u,v,k,k',h=>aJZ (bHZ h) (aJZ (iuZ a λ_=>h _) (iuZ b λ_=>h _))
 |.int _,x,o,u,v,k,k',h|.bool,x,o,u,v,k,k',h|.byte,x,o,u,v,k,k',h|.str,x,o,u,v,k,k',h|.opq,x,o,u,v,k,k',h|.nat,x,o,u,v,k,k',h|.ptr _,x,o,u,v,k,k',h|.sl _,x,o,u,v,k,k',h|.arr _ _,x,o,u,v,k,k',h|.ref _ _,x,o,u,v,k,k',h=>aJZ (bHZ h) rfl
section
variable {k : AV → Option β} {k' : AV → Option γ}
theorem mNZ{u}{t}{x}{j}(h:∀x,k x=(k' x).bind F):rdRow P u t x j k=(rdRow P u t x j k').bind F:=auZ λ_=>aJZ (mJZ u λ_=>h _) (iRZ u h)
theorem fTZ{u}{t}{l}{i j}(h:∀x,k x=(k' x).bind F):rdRows P t u l i j k=(rdRows P t u l i j k').bind F:=by
 grind[rdRows,aJZ,akZ,a7Z,mNZ]
theorem qNZ{t}{c}{j}(h:∀x,k x=(k' x).bind F):rdVars P t c j k=(rdVars P t c j k').bind F:=aJZ (akZ (h _)) (aJZ (auZ h) rfl)
theorem r4Z{t}{a}(h:∀x,k x=(k' x).bind F):evLoad P t a H k=(evLoad P t a H k').bind F:=by
 unfold evLoad;split
 .grind[qNZ,aJZ,fTZ]
 .exact fTZ h
 .grind[a7Z,akZ,fTZ]
 .rfl
theorem psZ{t}{c a b}(h:∀x,k x=(k' x).bind F):evPick P t c a b k=(evPick P t c a b k').bind F:=by
 grind[evPick,auZ,akZ,aJZ]
theorem nJZ{t}{R}(h:∀x,k x=(k' x).bind F):evBuild P t R k=(evBuild P t R k').bind F:=by
 grind[evBuild,auZ]
theorem s2Z{R}{kk}{a b}(h:∀x,k x=(k' x).bind F):evInt R kk a b k=(evInt R kk a b k').bind F:=by
 unfold evInt
 grind[akZ]
theorem ssZ{R}{a b}(h:∀x,k x=(k' x).bind F):evStr R a b k=(evStr R a b k').bind F:=by
 unfold evStr
 grind[akZ]
theorem uUZ{R}{t}{a}(h:∀x,k x=(k' x).bind F):evUn P R t a k=(evUn P R t a k').bind F:=by
 unfold evUn
 grind[auZ]
theorem ghZ{u}{a}{k}{k'}(h:∀x,k x=(k' x).bind F):rowsOf H u a k=(rowsOf H u a k').bind F:=by
 unfold rowsOf;split
 .grind[c3Z,auZ]
 .grind[c3Z,aJZ]
 .grind[c3Z,aJZ]
 .rfl
theorem foZ{s d}{a}(h:∀x,k x=(k' x).bind F):evConvert P s d a H k=(evConvert P s d a H k').bind F:=by
 unfold evConvert
 grind[auZ,aJZ,ghZ]
theorem d7Z{es id}{k}{k'}(h:∀u x,k u x=(k' u x).bind F):ownRows H es id k=(ownRows H es id k').bind F:=by
 unfold ownRows
 grind[aJZ]
theorem tTZ{a}{k}{k'}(h:∀x,k x=(k' x).bind F):lenS H a k=(lenS H a k').bind F:=by
 unfold lenS
 grind[d7Z]
theorem uIZ{a}{k}{k'}(h:∀x,k x=(k' x).bind F):lenM H a k=(lenM H a k').bind F:=by
 unfold lenM
 grind
theorem u3Z{t}{a}{k}{k'}(h:∀x,k x=(k' x).bind F):lenT P t H a k=(lenT P t H a k').bind F:=by
 grind[lenT,auZ,tTZ,uIZ]
theorem hwZ{s}{a}{f}(h:∀x,k x=(k' x).bind F):evFieldAddr P s a f k=(evFieldAddr P s a f k').bind F:=by
 unfold evFieldAddr
 grind
theorem gKZ{a}{d m}{k}{k'}(h:∀x,k x=(k' x).bind F):optI a d m k=(optI a d m k').bind F:=by
 unfold optI
 grind[auZ,a7Z]
theorem mqZ{R}{l}{lo hi}{k}{k':List R->Option γ}(h:∀x,k x=(k' x).bind F):cutL l lo hi k=(cutL l lo hi k').bind F:=by
 unfold cutL;split
 .exact h _
 .exact auZ λ_=>a7Z λ_=>h _
 .exact auZ λ_=>a7Z λ_=>h _
 grind[auZ,a7Z]
theorem nZZ{t}{a}{lo hi}(h:∀x,k x=(k' x).bind F):evSlice P t a lo hi H k=(evSlice P t a lo hi H k').bind F:=by
 unfold evSlice;split
 .grind[auZ,mqZ]
 .split
  .grind[aJZ,d7Z,gKZ]
  .grind[aJZ,gKZ]
  .grind[aJZ,mqZ]
  .grind[akZ,gKZ]
  .grind[aJZ,gKZ]
  .rfl
 .grind[aJZ,d7Z,akZ,gKZ,mqZ]
 .rfl
theorem meZ{t}{a hi R}{lo}(h:∀x,k x=(k' x).bind F):evSlice3 P t a lo hi R k=(evSlice3 P t a lo hi R k').bind F:=by
 unfold evSlice3;split
 .split
  .refine aJZ (auZ λ_=>a7Z λ_=>auZ λ_=>a7Z λ_=> ?_) rfl;split
   .exact h _
   .exact auZ λ_=>a7Z λ_=>h _
  .rfl
 .rfl
theorem nGZ{t}{a R}(h:∀x,k x=(k' x).bind F):evIndex P t a R k=(evIndex P t a R k').bind F:=by
 refine auZ λx=> ?_;split
 .grind[auZ,a7Z]
 .exact auZ λ_=>bHZ λ_=>a7Z λ_=>a7Z λ_=>h _
 .rfl
theorem hpZ{t}{a R}(h:∀x,k x=(k' x).bind F):evIndexAddr P t a R H k=(evIndexAddr P t a R H k').bind F:=by
 refine auZ λx=> ?_;split
 .refine akZ ?_;split<;>first|rfl|grind[aJZ,a7Z]
 .refine akZ ?_;split
  .refine aJZ ?_ rfl;split
   .exact a7Z λ_=>h _
   .exact d7Z λ_ _=>a7Z λ_=>h _
  .exact aJZ (a7Z λ_=>h _) rfl
  .exact aJZ (a7Z λ_=>h _) rfl
  .exact aJZ (a7Z λ_=>a7Z λ_=>h _) rfl
  .rfl
 .rfl
theorem ovZ{s}{a}{f}(h:∀x,k x=(k' x).bind F):evField P s a f k=(evField P s a f k').bind F:=by
 unfold evField
 grind[aJZ,akZ,auZ,mNZ]
theorem kgZ{R:Ty}{x}{k}{k'}(h:∀x,k x=(k' x).bind F):∀l:List (R.den×AV),fchain l x k=(fchain l x k').bind F
 |[]=>h _
 |(_,_)::r=>aJZ (h _) (kgZ h r)
theorem lGZ{t}{m R}{c}(h:∀x,k x=(k' x).bind F):evLookup P t m R c H k=(evLookup P t m R c H k').bind F:=by
 unfold evLookup;split
 .split
  .exact akZ (bHZ λ_=>h _)
  .grind[akZ,bHZ,kgZ]
  .rfl
 .split
  .exact auZ λ_=>auZ λ_=>akZ (bHZ λ_=>h _)
  .rfl
 .rfl
theorem tUZ{t}{a b}{k}{k'}(R:natBin P t=true)(h:∀x,k x=(k' x).bind F):evEq P t a b H k=(evEq P t a b H k').bind F:=by
 unfold evEq
 grind[auZ,natBin,akZ,bHZ]
theorem sAZ{R}{t u}{a b}(hn:natBin P t=true)(h:∀x,k x=(k' x).bind F):evBin P R t u a b H k=(evBin P R t u a b H k').bind F:=by
 unfold evBin;split
 .split
  .exact auZ λ_=>auZ λ_=>akZ (s2Z h)
  .rfl
 .exact auZ λ_=>auZ λ_=>ssZ h
 grind[tUZ]
theorem vqZ{o}{r}(R:natR P o=true)(h:∀x,k x=(k' x).bind F):evR P o r H k=(evR P o r H k').bind F:=by
 unfold evR;unfold natR at R;split
 .grind
 .grind
 .exact psZ h
 .exact nJZ h
 .exact r4Z h
 .grind[akZ]
 .grind[sAZ]
 .exact lGZ h
 .exact uUZ h
 .exact foZ h
 .grind
 .exact nZZ h
 .exact meZ h
 .exact hwZ h
 .exact ovZ h
 .exact hpZ h
 .exact nGZ h
 .grind[auZ]
 .grind[u3Z,auZ]
 .rfl
end
section
variable {k : AV → Hp → Option β} {k' : AV → Hp → Option γ}
theorem aVZ{id}{b}{k}{k'}(h:∀H,k H=(k' H).bind F):newAt H id b k=(newAt H id b k').bind F:=aJZ rfl (h _)
theorem nQZ{t}{id}(h:∀x H,k x H=(k' x H).bind F):evAlloc P t id H k=(evAlloc P t id H k').bind F:=by
 grind[evAlloc,auZ,akZ,aVZ]
theorem suZ{t}{v}{id}(h:∀x H,k x H=(k' x H).bind F):evBox P t v id H k=(evBox P t v id H k').bind F:=by
 unfold evBox;split
 .exact auZ λ_=>auZ λ_=>bHZ λ_=>akZ (aVZ λ_=>h _ _)
 grind[auZ,aVZ]
theorem ldZ{t}{id}(h:∀x H,k x H=(k' x H).bind F):evAlloc1 P t id H k=(evAlloc1 P t id H k').bind F:=
 auZ λ_=>akZ (aVZ λ_=>h _ _)
theorem qKZ{t}{v}{id}(h:∀x H,k x H=(k' x H).bind F):evBox1 P t v id H k=(evBox1 P t v id H k').bind F:=
 auZ λ_=>auZ λ_=>bHZ λ_=>aVZ λ_=>h _ _
theorem rAZ{t e}{u}{l}{i j id}{v}(h:∀x H,k x H=(k' x H).bind F):wrRows P t e u l i j id v H k=(wrRows P t e u l i j id v H k').bind F:=by
 unfold wrRows;split
 .grind[aJZ,akZ,bHZ,a7Z,hCZ]
 .grind[bHZ,a7Z,hCZ]
 .rfl
theorem paZ{t}{a v}(h:∀x H,k x H=(k' x H).bind F):evStore P t a v H k=(evStore P t a v H k').bind F:=by
 unfold evStore;split
 .split
  .grind[auZ,akZ]
  .exact aJZ (aJZ (auZ λ_=>akZ (rAZ h)) (auZ λ_=>auZ λ_=>auZ λ_=>auZ λ_=>akZ (a7Z λ_=>iuZ _ λ_=>h _ _))) rfl
  .rfl
 .refine auZ λ_=>auZ λ_=> ?_;split
  .exact akZ (a7Z λ_=>akZ (bHZ λ_=>a7Z λ_=>hCZ _ λ_=>h _ _))
  .rfl
 .rfl
theorem iUZ{s d}{a}{id}(h:∀x H,k x H=(k' x H).bind F):evConvertW P s d a id H k=(evConvertW P s d a id H k').bind F:=by
 unfold evConvertW
 grind[aJZ,auZ,akZ,aVZ]
theorem pBZ{t}{l c}{id}(h:∀x H,k x H=(k' x H).bind F):evMake P t l c id H k=(evMake P t l c id H k').bind F:=by
 unfold evMake;split
 .exact auZ λ_=>auZ λ_=>a7Z λ_=>a7Z λ_=>auZ λ_=>akZ (aVZ λ_=>h _ _)
 .rfl
theorem jRZ{t}{q}{R}{id}(h:∀x H,k x H=(k' x H).bind F):evMakeMap P t q R id H k=(evMakeMap P t q R id H k').bind F:=by
 unfold evMakeMap;split
 .grind[auZ,akZ,aJZ,aVZ]
 .rfl
theorem gVZ{t}{m key x}(h:∀x H,k x H=(k' x H).bind F):evMapUpd P t m key x H k=(evMapUpd P t m key x H k').bind F:=by
 unfold evMapUpd;split
 .split
  .exact akZ (bHZ λ_=>akZ (auZ λ_=>akZ (h _ _)))
  .refine auZ λ_=> ?_;split
   .exact akZ (bHZ λ_=>bHZ λ_=>h _ _)
   .rfl
 .rfl
theorem goZ{t}{n}{ps}{vs}{rb}{id}(h:∀x H,k x H=(k' x H).bind F):evBuildSlice P t n ps vs rb id H k=(evBuildSlice P t n ps vs rb id H k').bind F:=by
 unfold evBuildSlice;simp[eMZ];split
 .exact auZ λ_=>auZ λu=>akZ (auZ λ_=>aJZ (akZ (aVZ λ_=>h _ _))<|auZ λ_=>mvZ (λc _ _ h=>hEZ (rowTy _ rb u) (cs:=c) h) _ _ _ λ_=>aVZ λ_=>h _ _)
 .rfl
theorem lSZ{t}{s x}{id}(h:∀x H,k x H=(k' x H).bind F):evAppend P t s x id H k=(evAppend P t s x id H k').bind F:=by
 unfold evAppend;split
 .refine auZ λ_=>ghZ λ_=> ?_;split
  .exact akZ (aVZ λ_=>h _ _)
  .split
   .exact c3Z (λ_=>akZ (aVZ λ_=>h _ _)) (c3Z (λ_=>akZ (aVZ λ_=>h _ _)) rfl)
   .rfl
  .split
   .exact c3Z (λ_=>akZ (aVZ λ_=>h _ _)) rfl
   .rfl
  .rfl
 .rfl
theorem kcZ{t}{s x}{id}(h:∀x H,k x H=(k' x H).bind F):evAppendZ P t s x id H k=(evAppendZ P t s x id H k').bind F:=by
 unfold evAppendZ;split
 .refine auZ λ_=>akZ (auZ λ_=>a7Z λ_=> ?_)
  grind[akZ,aVZ,c3Z]
 .rfl
theorem rFZ{t}{s x}(h:∀x H,k x H=(k' x H).bind F):evCopy P t s x H k=(evCopy P t s x H k').bind F:=by
 unfold evCopy;split
 .refine auZ λ_=>ghZ λ_=> ?_;split
  .split
   .exact c3Z (λ_=>akZ (h _ _)) rfl
   .rfl
  .split
   .exact c3Z (λ_=>akZ (h _ _)) rfl
   .rfl
  .refine akZ ?_;split
   .exact c3Z (λ_=>c3Z (λ_=>a7Z λ_=>h _ _) rfl) rfl
   .rfl
  .rfl
 .rfl
theorem n5Z{t}{d}(h:∀x H,k x H=(k' x H).bind F):evClear P t d H k=(evClear P t d H k').bind F:=by
 unfold evClear;split
 .refine auZ λ_=>akZ ?_;split
  .exact h _ _
  .split
   .exact c3Z (λ_=>akZ (h _ _)) rfl
   .rfl
  .split
   .exact c3Z (λ_=>akZ (h _ _)) rfl
   .rfl
  .rfl
 .rfl
theorem OutS.on_nt:∀{l} {x} {k} {k':(s:Shp)->s.D->Option γ},(∀s t,k s t=(k' s t).bind F)->OutS.on l x k=(OutS.on l x k').bind F
 |[],x,_,_,_=>Empty.elim x
 |[s],x,k,k',h=>h s x
 |s::t::r,.inl y,k,k',h=>h s y
 |s::t::r,.inr y,k,k',h=>OutS.on_nt (x:=y) h
mutual
theorem co_nt:(q:Kd)->{r:List Ty}->{a:AV}->{x:HL r}->{k:HL (q.lv r)->Option β}->{k':HL (q.lv r)->Option γ}->(∀y,k y=(k' y).bind F)->co q r a x k=(co q r a x k').bind F
 |.p t,r,a,x,k,k',h=>bHZ (u:=t) (k:=λy=>k (y,x)) (k':=λy=>k' (y,x)) λy=>h _
 |.pt t,r,a,x,k,k',h=>auZ λ_=>h _
 |.own es id i j,r,a,x,k,k',h=>akZ (h _)
 |.ownx es id j,r,a,x,k,k',h=>auZ λ_=>h _
 |.sl es id,r,a,x,k,k',h=>auZ λ_=>h _
 |.slf es id,r,a,x,k,k',h=>akZ (h _)
 |.mp id,r,a,x,k,k',h=>akZ (h _)
 |.any,r,a,x,k,k',h=>h _
 |.fn f R kc,r,a,x,k,k',h=>auZ λ_=>akZ (g8Z kc λ_=>g8Z R h)
 |.agg l,r,a,x,k,k',h=>auZ λ_=>akZ (g8Z l h)
 |.tup l,r,a,x,k,k',h=>auZ λ_=>akZ (g8Z l h)
 |.nilp v,r,a,x,k,k',h=>akZ (h _)
theorem g8Z:(q:KdL)->{r:List Ty}->{c:List AV}->{x:HL r}->{k:HL (q.lv r)->Option β}->{k':HL (q.lv r)->Option γ}->(∀y,k y=(k' y).bind F)->coL q r c x k=(coL q r c x k').bind F
 |.nil,r,c,x,k,k',h=>h _
 |.cons q l,r,c,x,k,k',h=>g8Z l λ_=>co_nt q h
end
theorem vIZ{q}{r}{b}{x}{k}{k'}(h:∀y,k y=(k' y).bind F):coB q r b x k=(coB q r b x k').bind F:=by
 cases q with
 |vars l=>exact auZ λ_=>g8Z l h
 |rows e t=>exact auZ λ_=>h _
 |map R vt=>exact auZ λ_=>h _
 |fam e s=>exact auZ λ_=>h _
theorem txZ:(R:HK)->{r:List Ty}->{x:HL r}->{k:HL (hkLv R r)->Option β}->{k':HL (hkLv R r)->Option γ}->(∀y,k y=(k' y).bind F)->coH R r H x k=(coH R r H x k').bind F
 |[],r,x,k,k',h=>h _
 |(_,_,q)::l,r,x,k,k',h=>auZ λ_=>txZ l λ_=>vIZ h
theorem Shp.co_nt{s:Shp}{vs}{k}{k'}(h:∀y,k y=(k' y).bind F):s.co vs H k=(s.co vs H k').bind F:=
 akZ (txZ s.hs λ_=>g8Z s.ks λ_=>h _)
theorem Shp.rco_nt{s:Shp}{vs}{R}{k}{k'}(h:∀y,k y=(k' y).bind F):s.rco vs H R k=(s.rco vs H R k').bind F:=
 akZ (Shp.co_nt h)
theorem r5Z{e}{R}{an}(h:∀x H,k x H=(k' x H).bind F):evCall P e R an H k=(evCall P e R an H k').bind F:=by
 unfold evCall;rw[dpZ,dpZ];exact auZ λ_=>akZ (Shp.rco_nt λ_=>a7Z λ_=>OutS.on_nt λ_ _=>by
  grind[Shp.embC_eq,akZ])
theorem vaZ{T}{o}{R}{r}(h:∀x H,k x H=(k' x H).bind F):evW P T o R r H k=(evW P T o R r H k').bind F:=by
 unfold evW;split
 .grind[aJZ,nQZ,ldZ]
 .grind[aJZ,suZ,qKZ]
 .exact goZ h
 .exact paZ h
 .grind[foZ,iUZ]
 .exact pBZ h
 .exact jRZ h
 .exact gVZ h
 .exact gVZ h
 .split
  .grind[kcZ,lSZ]
  .grind[rFZ]
  .grind[n5Z]
  .grind[auZ,r5Z]
  .rfl
 .rfl
theorem ujZ{o}{r}{k}{R:β}(hn:natR P o=true)(h:evR P o r H k=some R):∃x,evR P o r H some=some x/\k x=some R:=by
 have e:evR P o r H k=(evR P o r H some).bind k:=vqZ hn λ_=>rfl
 simp_all[ZAG]
theorem ucZ{T}{o}{an}{r}{k}{R:β}(h:evW P T o an r H k=some R):∃x H',evW P T o an r H (λx H'=>some (x,H'))=some (x,H')/\k x H'=some R:=by
 have e:evW P T o an r H k=(evW P T o an r H λx H'=>some (x,H')).bind λp=>k p.1 p.2:=vaZ λ_ _=>rfl
 simp_all[ZAG]
end
end
theorem awZ{H}{id}(h:hkey H id=false):hget H id=none:=by
 cases hg:hget H id<;>grind[aiZ]
section
variable {z z' : Z} {H : Hp}
theorem ARep.live{a}{v}(h:ARep z a v):∀id∈AV.ids a,z.ρ id≠.no:=by
 have hL:∀{l},(∀(i:Nat) (x),l[i]? =some x->∀id∈AV.ids x,z.ρ id≠.no)->∀id∈AV.idsL l,z.ρ id≠.no:=by
  intro l;induction l with
  |nil=>intro _ id h;cases h
  |cons a l ih=>
   intro h id hi;simp[AV.idsL] at hi;rcases hi with hi|hi
   .exact h 0 a rfl id hi
   .exact ih (λi x hx=>h (i+1) x hx) id hi
 induction h with
 |p t x v h=>intro id h;cases h
 |pt t l i j b off h1 h2 h3=>intro id h;cases h
 |own es id i j g sz n h=>intro k hk;simp[AV.ids] at hk;subst hk;rw[h];intro h;cases h
 |rp f es k' i j g sz n h=>intro k hk;cases hk
 |slV es id off A h=>intro k hk;simp[AV.ids] at hk;subst hk;rw[h];intro h;cases h
 |slE es id off g sz m o h=>intro k hk;simp[AV.ids] at hk;subst hk;rw[h];intro h;cases h
 |sl es id off n g sz m c h hn hs hm=>intro k hk;simp[AV.ids] at hk;subst hk;rw[h];intro h;cases h
 |slfV es id A h=>intro k hk;simp[AV.ids] at hk;subst hk;rw[h];intro h;cases h
 |slf es id g sz n c h hn hs hm=>intro k hk;simp[AV.ids] at hk;subst hk;rw[h];intro h;cases h
 |mp id g sz n h=>intro k hk;simp[AV.ids] at hk;subst hk;rw[h];intro h;cases h
 |fn f a c va vc ha hc h1 h2 aa ab=>
  intro k hk;simp[AV.ids] at hk;rcases hk with hk|hk
  .refine hL (λi x hx=> ?_) k hk;have R:i<va.size:=by rw[ha];exact(ZAB.1 hx).1
   exact aa i x va[i] hx (ZBD R)
  .refine hL (λi x hx=> ?_) k hk;have R:i<vc.size:=by rw[hc];exact(ZAB.1 hx).1
   exact ab i x vc[i] hx (ZBD R)
 |agg l cs hs h1 h ih=>
  intro k hk;refine hL (λi x hx=> ?_) k hk;have R:i<cs.size:=by rw[hs];exact(ZAB.1 hx).1
  exact ih i x cs[i] hx (ZBD R)
 |tup l vs hs h ih=>
  intro k hk;refine hL (λi x hx=> ?_) k hk;have R:i<vs.size:=by rw[hs];exact(ZAB.1 hx).1
  exact ih i x vs[i] hx (ZBD R)
 |junk v=>intro k hk;cases hk
theorem BRep.ren'{g sz n}{b}{f}{aa}(h:BRep z g sz n b)(hd:SameDyn z.ρ aa)(hf:∀{id k},z.ρ id≠.no->f id=some k->aa k=z.ρ id):BRep {z with ρ:=aa} g sz n (b.ren f):=by
 cases b with
 |vars c=>
  let⟨cs,e,fr,a1,a2,R,⟨a4,an⟩,a5,a6⟩:=h
  refine⟨cs,e,fr,a1,a2,R,⟨by simp_all[crZ],an⟩,λi a v p1 p2=> ?_,a6⟩;rw[cQZ] at p1;obtain⟨y,p3,rfl⟩:=ZAH.1 p1;exact(a5 i y v p3 p2).ren rfl rfl (.inl hd) λid k hi hk=>hf ((a5 i y v p3 p2).live id hi) hk
 |rows e t l=>
  let⟨cs,fr,a1,a2,R,a4,a5,a6,a7⟩:=h
  refine⟨cs,fr,a1,a2,R,a4,a5,a6,λi x hx=> ?_⟩
  let⟨u,b1,b2⟩:=a7 i x hx
  exact⟨u,b1.dyn hd,b2⟩
 |map kt vt m=>
  let⟨es,a1,a2,R,a4⟩:=h
  exact⟨es,a1,a2,λi x e q1 q2=>⟨(R i x e q1 q2).1.dyn hd,(R i x e q1 q2).2.1.dyn hd,(R i x e q1 q2).2.2⟩,a4⟩
 |fmap kt l=>
  let⟨es,ab,a1,a2,R⟩:=h
  refine⟨es,ab,a1,by simp[a2],λi x e q1 q2=> ?_⟩;rw[ZAY] at q1;obtain⟨y,q3,rfl⟩:=ZAH.1 q1
  let⟨b1,b2⟩:=R i y e q3 q2
  exact⟨b1.dyn hd,b2.ren rfl rfl (.inl hd) λid k hi hk=>hf (b2.live id hi) hk⟩
 |fam e s ms=>exact h.elim
def Z.foc(z:Z)(H:Hp)(F:Nat->Bool):Z:=
 {z with C:=λg=>∃id e sz n,F (rt id)=true/\hgetX H id=some e/\e.fz=false/\z.ρ id= .real g sz n,D:=λid=>z.D id\/(hkeyX H id=true/\F (rt id)=false)}
theorem vpZ{H1}{F:Nat->Bool}(hH:HRep z H)(h1:∀id,hget H1 id=if F id then hget H id else none)(h2:∀id,hkey H1 id=(F id&&hkey H id)):HRep (z.foc H F) H1:=by
 have q:∀id e,hgetX H1 id=some e->F (rt id)=true/\hgetX H id=some e:=λid e h=>by
  cases hF:F (rt id)
  .exfalso;have e1:hget H1 (rt id)=none:=by rw[h1,hF];rfl
   have:hgetX H1 id=none:=by
    by_cases hd:dynBase<=id
    .rw[a8Z hd,e1];rfl
    .rw[baZ (by omega)] at e1;unfold hgetX;rw[ZAM hd,e1,ite_self]
   rw[this] at h;cases h
  grind[czZ]
 refine⟨λid e h=> ?_,λid id' e e' g sz n g' sz' n' hii p1 p2 m1 m2 p3 p4=> ?_,λid h=> ?_,λg ⟨id,e,sz,n,q1,q2,q3,q4⟩=> ?_,λid x h=> ?_,λid h=> ?_,λid hd h=> ?_,hH.nos⟩
 .obtain⟨a1,a2⟩:=q id e h;exact(hH.ent _ _ a2).rho rfl rfl (.inl (.eq rfl)) rfl (λ_ _=>rfl) λg sz n hr hf _=>⟨id,e,sz,n,a1,a2,hf,hr⟩
 .exact hH.inj id id' e e' g sz n g' sz' n' hii (q _ _ p1).2 (q _ _ p2).2 m1 m2 p3 p4
 .cases hF:F (rt id)
  .cases hk:hkeyX H id
   .exact(hH.fresh id hk).imp (λh=>h) .inl
   .exact .inr (.inr ⟨hk,hF⟩)
  .rw[dBZ (show hget H1 (rt id)=hget H (rt id) by simp_all) (by simp_all)] at h;exact(hH.fresh id h).imp (λh=>h) .inl
 .exact hH.sub _ ((hH.realX q2 q4).2.1 q3)
 .rw[h1] at h;split at h
  .exact hH.fam id x h
  grind
 .rw[h2,ZAF] at h;exact hH.key id h.2
 .rw[h2,ZAF] at h;rintro(hD|⟨_,hD⟩)
  .exact hH.dyn id hd h.2 hD
  simp_all
theorem merge_ok{H2 H3}{F}{z2}(hH:HRep z H)(hn:Nx (z.foc H F) z2)(h2:HRep z2 H2)(hF:∀id,hkey H2 id=true->F id=true)
 (h3:∀id,hget H3 id=if hkey H2 id then hget H2 id else if F id then none else hget H id)(h4:∀id,hkey H2 id=true\/hkey H id=true->hkey H3 id=true)(h5:∀id,hkey H3 id=true->hkey H2 id=true\/hkey H id=true\/(id<dynBase/\∀x,rt x=id->¬z.D x)):
 ∃z3,z3.w=z2.w/\z3.M=z2.M/\z3.ρ=z2.ρ/\HRep z3 H3/\Nx z z3:=by
 let z3:Z:={z2 with C:=λg=>z2.C g\/(z.C g/\¬(z.foc H F).C g/\g<z.w.heap.size),D:=z.D}
 have hC1:∀g,(z.foc H F).C g->z.C g:=λg ⟨id,e,sz,n,_,q2,q3,q4⟩=>(hH.realX q2 q4).2.1 q3;have hN:Nx z z3:=⟨hn.os,hn.tape,hn.output,hn.size,λb hb hc=>hn.block b hb λh=>hc (hC1 b h),hn.subM,λg hg=>by
  rcases hg with hg|hg
  .rcases hn.subC g hg with h|h
   .exact .inl (hC1 g h)
   .exact .inr h
  simp_all,λg hg hM hC=>hn.keepM g hg hM λh=>hC (hC1 g h),hn.ext,rfl⟩
 have hkp:=hN.kp hH.sub;have key:∀id e,hgetX H3 id=some e->(hgetX H2 id=some e)\/(F (rt id)=false/\hgetX H id=some e):=λid e h=>by
  have h3':=h3 (rt id);cases hk:hkey H2 (rt id)
  .rw[hk] at h3';simp only[ZBJ,ZCc] at h3';cases hf:F (rt id)
   .rw[hf] at h3';exact .inr ⟨rfl,by rw[<-czZ (H':=H3) (H:=H) h3'];exact h⟩
   .exfalso;rw[hf] at h3';have e1:hget H3 (rt id)=none:=h3';have:hgetX H3 id=none:=by
     by_cases hd:dynBase<=id
     .rw[a8Z hd,e1];rfl
     .rw[baZ (by omega)] at e1;unfold hgetX;rw[ZAM hd,e1,ite_self]
    rw[this] at h;cases h
  grind[czZ]
 have hout:∀id e g sz n,F (rt id)=false->hgetX H id=some e->z.ρ id= .real g sz n->¬(z.foc H F).C g:=by
  rintro id e g sz n hf hg hr ⟨id',e',sz',n',a1,a2,a3,a4⟩;have hne:id≠id':=λh=>by simp_all
  exact hH.ne hne hg a2 a3 hr a4 (λh=>by rw[h.1.rt,<-h.2.rt,a1] at hf;grind) rfl
 have houtρ:∀id e,F (rt id)=false->hgetX H id=some e->z.ρ id≠.no:=λid e _ hg hr=>by
  have:=hH.ent _ _ hg
  simp_all[ERep]
 refine⟨z3,rfl,rfl,rfl,⟨λid e h=> ?_,λid id' e e' g sz n g' sz' n' hii p1 p2 m1 m2 p3 p4=> ?_,λid h=> ?_,λg hg=> ?_,λid x h=> ?_,λid h=> ?_,λid hd h=> ?_,h2.nos⟩,hN⟩
 .rcases key id e h with h|⟨hf,h⟩
  .exact(h2.ent _ _ h).rho rfl rfl (.inl (.eq rfl)) rfl (λ_ _=>rfl) λg _ _ _ _ hC=>.inl hC
  .refine(hH.ent _ _ h).kp hkp λg sz n hr=>⟨hn.block g (hH.realX h hr).1 (hout id e g sz n hf h hr),λhC=>.inr ⟨hC,hout id e g sz n hf h hr,(hH.realX h hr).1⟩⟩
 .have cross:∀i i' ee ee' gg ssz nn gg' ssz' nn',hgetX H2 i=some ee->F (rt i')=false->hgetX H i'=some ee'->ee.fz=false->z2.ρ i= .real gg ssz nn->z2.ρ i'= .real gg' ssz' nn'->gg≠gg':=by
   rintro i i' ee ee' gg ssz nn gg' ssz' nn' a1 a2 a3 a4 a5 a6 rfl;have hr':z.ρ i'= .real gg ssz' nn':=by rw[<-hN.ext i' (houtρ i' ee' a2 a3)];exact a6
   have hlt:=(hH.realX a3 hr').1;rcases hn.subC gg ((h2.realX a1 a5).2.1 a4) with h|h
   .exact hout i' ee' gg ssz' nn' a2 a3 hr' h
   .exact ZBO.2 hlt h
  rcases key id e p1 with q1|⟨f1,q1⟩<;>rcases key id' e' p2 with q2|⟨f2,q2⟩
  .exact h2.inj id id' e e' g sz n g' sz' n' hii q1 q2 m1 m2 p3 p4
  .exact λ_=>cross id id' e e' g sz n g' sz' n' q1 f2 q2 m1 p3 p4
  .exact λ_ h=>cross id' id e' e g' sz' n' g sz n q2 f1 q1 m2 p4 p3 h.symm
  .have r1:z.ρ id= .real g sz n:=by rw[<-hN.ext id (houtρ id e f1 q1)];exact p3
   have r2:z.ρ id'= .real g' sz' n':=by rw[<-hN.ext id' (houtρ id' e' f2 q2)];exact p4
   exact hH.inj id id' e e' g sz n g' sz' n' hii q1 q2 m1 m2 r1 r2
 ·
  have h0:=eGZ;by_cases hfr:famBase<=id/\id<dynBase
  .exact .inl (h2.nos id hfr.1 hfr.2)
  have hlk:∀(H:Hp),(dynBase<=id->hkeyX H id=(match hget H (rt id) with|some e=>e.has ((id-dynBase)/16)|none=>hkey H (rt id)))/\(¬dynBase<=id->hkeyX H id=hkey H (rt id)):=λH=>
   ⟨λhd=>ayZ hd,λhd=>by rw[aDZ (by omega),baZ (by omega)]⟩
  have k2:hkeyX H2 id=false:=by
   by_cases hd:dynBase<=id
   .rw[(hlk H2).1 hd];rw[(hlk H3).1 hd] at h;cases hk:hkey H2 (rt id)
    .rw[awZ hk]
    .have h3':=h3 (rt id);rw[hk] at h3';rw[ZAN rfl] at h3';rw[h3'] at h;cases hg:hget H2 (rt id) with
     |none=>
      rw[hg] at h;have h:hkey H3 (rt id)=false:=h;rw[h4 (rt id) (.inl hk)] at h;cases h
     |some e=>rw[hg] at h;exact h
   .rw[(hlk H2).2 hd];rw[(hlk H3).2 hd] at h;cases hk:hkey H2 (rt id)
    .rfl
    .rw[h4 (rt id) (.inl hk)] at h;cases h
  have k1:F (rt id)=false->hkeyX H id=false:=λhf=>by
   have hk2:hkey H2 (rt id)=false:=by
    cases hk:hkey H2 (rt id)
    .rfl
    .have:=hF _ hk;rw[hf] at this;cases this
   by_cases hd:dynBase<=id
   .rw[(hlk H).1 hd];rw[(hlk H3).1 hd] at h;have h3':=h3 (rt id);rw[hk2,hf] at h3';simp only[ZBJ,ZCc] at h3';rw[h3'] at h;cases hg:hget H (rt id) with
    |none=>
     rw[hg] at h;have h:hkey H3 (rt id)=false:=h;show hkey H (rt id)=false;cases hk:hkey H (rt id)
     .rfl
     .rw[h4 (rt id) (.inr hk)] at h;cases h
    |some e=>rw[hg] at h;exact h
   .rw[(hlk H).2 hd];rw[(hlk H3).2 hd] at h;cases hk:hkey H (rt id)
    .rfl
    .rw[h4 (rt id) (.inr hk)] at h;cases h
  rcases h2.fresh id k2 with h0|h0
  .exact .inl h0
  .rw[hn.dom] at h0;rcases h0 with h0|⟨h0,hf⟩
   .exact .inr h0
   .rw[k1 hf] at h0;cases h0
 .rcases hg with hg|⟨hg,hng,hlt⟩
  .exact h2.sub g hg
  .exact hn.keepM g hlt (hH.sub g hg) hng
 .rw[h3] at h;split at h
  .exact h2.fam id x h
  .split at h
   .cases h
   .exact hH.fam id x h
 .rcases h5 id h with h|h|h
  .exact h2.key id h
  .exact hH.key id h
  .exact h.1
 .rcases h5 _ h with h|h|h
  .have:=h2.dyn id hd h;rw[hn.dom] at this;exact λhD=>this (.inl hD)
  .exact hH.dyn id hd h
  .exact h.2 id rfl
def frzE(e:Ent):Ent:=
 match e.b with
 |.fam e' s R=>⟨e.fz,.fam e' s (R.map frz1)⟩
 |_=>e
theorem d4Z:∀(H) (id),hget (frzF H) id=(hget H id).map frzE/\hkey (frzF H) id=hkey H id
 |[],id=>⟨rfl,rfl⟩
 |(i,none)::H,id=>by
  let⟨h1,h2⟩:=d4Z H id
  simp[frzF,hget,hkey];cases Nat.beq i id
  .exact⟨h1,h2⟩
  .exact⟨rfl,rfl⟩
 |(i,some ⟨fz,b⟩)::H,id=>by
  let⟨h1,h2⟩:=d4Z H id
  cases b<;>simp[frzF,hget,hkey]<;>cases Nat.beq i id<;>first|exact⟨h1,h2⟩|exact⟨rfl,rfl⟩
theorem smZ(k)(e):pick k (frzE e)=(pick k e).map λx=>⟨true,x.b⟩:=by
 let⟨fz,b⟩:=e
 cases b with
 |fam e s R=>
  simp[frzE,pick];cases hm:R[k]? with
  |none=>rfl
  |some m=>
   let⟨st,l⟩:=m
   simp[frz1];by_cases h:st=0
   .subst h;rfl
   simp_all[ahZ]
 |_=>rfl
theorem s3Z(e)(k):(frzE e).has k=e.has k:=by
 grind[frzE,Ent.has]
theorem t0Z(R:HRep z H)(id):hgetX (frzF H) id=(hgetX H id).map (λx=>⟨x.fz||decide (dynBase<=id),x.b⟩)/\hkeyX (frzF H) id=hkeyX H id:=by
 let⟨h1,h2⟩:=d4Z H (rt id)
 by_cases hd:dynBase<=id
 .rw[a8Z hd,a8Z hd,ayZ hd,ayZ hd,h1];refine⟨?_,?_⟩
  .cases hget H (rt id) with
   |none=>rfl
   |some e=>
    simp[smZ,hd,Bool.or_true]
  grind[ZCI,s3Z]
 .rw[baZ (by omega)] at h1 h2;by_cases hf:famBase<=id
  .unfold hgetX hkeyX
   grind
  .rw[aqZ (by omega),aqZ (by omega),aDZ (by omega),aDZ (by omega),h1,h2];refine⟨?_,rfl⟩;cases hg:hget H id with
   |none=>rfl
   |some e=>
    have:=R.fam id e hg
    let⟨fz,b⟩:=e
    cases b<;>first|grind[frzE]|(have:=this.1;omega)
theorem uiZ(hH:HRep z H):∃z',z'.w=z.w/\HRep z' (frzF H)/\Nx z z'/\z'.ρ=z.ρ:=by
 let mem:=λg=>∃id e sz n,dynBase<=id/\hgetX H id=some e/\e.fz=false/\z.ρ id= .real g sz n
 let z':={z with M:=λx=>z.M x/\¬mem x,C:=λx=>z.C x/\¬mem x}
 have hmC:∀g,mem g->z.C g:=λg ⟨id,e,sz,n,_,q1,q2,q3⟩=>(hH.realX q1 q3).2.1 q2;have hn:Nx z z':=⟨rfl,⟨rfl,ZAL _⟩,rfl,ZAL _,λ_ _ _=>rfl,λx hx=>.inl hx.1,λx hx=>.inl hx.1,λx _ hM hx=>⟨hM,λh=>hx (hmC x h)⟩,λ_ _=>rfl,rfl⟩;have hkp:=hn.kp hH.sub;have hX:=λid=>(t0Z hH id).1;have hK:=λid=>(t0Z hH id).2;refine⟨z',rfl,⟨λi e hi=> ?_,λi i' e e' a sa na a' sa' na' hii h1 h2 m1 m2 h3 h4=> ?_,λi hi=> ?_,λx hx=>⟨hH.sub x hx.1,hx.2⟩,λi x h=> ?_,λi h=>hH.key i (by simp_all[d4Z]),λi hd h=>hH.dyn i hd (by simp_all[d4Z]),hH.nos⟩,hn,rfl⟩
 .rw[hX] at hi;obtain⟨e0,q1,rfl⟩:=ZAH.1 hi;have h0:=hH.ent _ _ q1;unfold ERep at h0⊢;show match z.ρ i with|.no=>False|.virt=>_|.real g sz n=>_
  cases hρ:z.ρ i with
  |no=>simp_all
  |virt=>simp_all
  |real g sz n=>
   rw[hρ] at h0
   let⟨b1,b2,b3,b4⟩:=h0
   refine⟨b1,λhf=> ?_,λhf hm=> ?_,b4.kp hkp rfl⟩
   .simp only[ZBW,ZBA] at hf;refine⟨b2 hf.1,?_⟩;rintro⟨id',e',sz',n',p1,p2,p3,p4⟩;exact hH.inj i id' _ _ _ _ _ _ _ _ (λh=>hf.2 (h▸p1)) q1 p2 hf.1 p3 hρ p4 (λh=>hf.2 h.1.1) rfl
   .simp[ZAs] at hf;cases he:e0.fz
    .rw[he] at hf;exact hm.2 ⟨i,e0,sz,n,hf.resolve_left (by simp),q1,he,hρ⟩
    .exact b3 he hm.1
 .rw[hX] at h1 h2;obtain⟨e1,q1,rfl⟩:=ZAH.1 h1;obtain⟨e2,q2,rfl⟩:=ZAH.1 h2;simp at m1 m2;exact hH.inj i i' e1 e2 _ _ _ _ _ _ hii q1 q2 m1.1 m2.1 h3 h4
 .rw[hK] at hi;exact hH.fresh i hi
 .rw[(d4Z H i).1] at h;obtain⟨e0,q1,rfl⟩:=ZAH.1 h;have:=hH.fam i e0 q1
  let⟨fz,b⟩:=e0
  cases b<;>exact this
theorem lrZ{H}{f}{s}:∀{n} {R},fmAt f s (fmsFrom H n)=some R->∃fz e,hget H (famId f)=some ⟨fz,.fam e s R⟩
 |0,R,h=>by cases h
 |n+1,R,h=>by
  simp[fmsFrom] at h;split at h
  .rename_i fz e s' aa hg;simp[fmAt] at h;cases hb:Nat.beq n (f%16)<;>rw[hb] at h<;>simp[bq_false] at h
   .exact lrZ h
   .rw[afZ] at hb;subst hb;rcases aQZ h with⟨hs,h⟩|h
    .subst hs;have:=ZAf h;subst this;exact⟨fz,e,hg⟩
    .cases h
  .exact lrZ h
theorem vBZ(hH:HRep z H){f}{s}{ms}(h:fmAt f s (fmsOf H)=some ms){k st}{l}(hm:ms[k]? =some (st,l))(R:2<=st):∃e,ERep z (enc f k) ⟨true,.rows e s l⟩:=by
 let⟨fz,e,hg⟩:=lrZ h
 have:=g3Z hg hm (by omega);have h2:=hH.ent _ _ this;rw[show(fz||Nat.ble 2 st)=true by rw[ZAh R,Bool.or_true]] at h2
 grind
theorem djZ(hH:HRep z H):{t:Ty}->{x:t.den}->{y:t.unref.den}->{vs:List Value}->unrefD (fmsOf H) t x=some y->Cl z.w z.M z.ρ t x vs->Cl z.w z.M z.ρ t.unref y vs
 |.one t,x,y,vs,h,hc=>djZ hH (t:=t) h hc
 |.pair a b,x,y,vs,h,hc=>by
  obtain⟨u,v,rfl,h1,h2⟩:=hc
  let⟨p,h3,h4⟩:=ZAG.1 h
  obtain⟨q,h5,rfl⟩:=ZAH.1 h4;exact⟨u,v,rfl,djZ hH h3 h1,djZ hH h5 h2⟩
 |.ref f t,.inl l,y,vs,h,hc=>by
  obtain rfl:=ZAf h;exact hc
 |.ref f t,.inr none,y,vs,h,hc=>by
  obtain rfl:=ZAf h;obtain rfl:vs=[.slice none 0 0]:=hc;exact⟨none,0,rfl,ZAL _,by omega,λ_=>rfl,λh=>absurd rfl h⟩
 |.ref f t,.inr (some (k,off,n)),y,vs,h,hc=>by
  let⟨ms,h1,h2⟩:=agZ.1 h
  unfold memb at h2;split at h2
  .rename_i st l hm;cases hb:(Nat.ble 2 st&&Nat.ble (off+n) l.length)<;>rw[hb] at h2<;>simp only[bq_true,bq_false] at h2
   .cases h2
   simp[ZAl] at hb
   let⟨ab,hn⟩:=hb
   obtain rfl:(l.drop off).take n=y:=ZAf h2
   let⟨e,hE⟩:=vBZ hH h1 hm ab
   have R:((l.drop off).take n).length=n:=by rw[ZAS,ZAu];omega
   unfold ERep at hE;rcases hc with⟨A,aa,rfl,rfl⟩|⟨g,sz,m,c,aa,h3,h4,h5,rfl⟩
   .refine⟨A,0,?_,?_,by unfold maxLen;omega,λ_=>rfl,λh=>absurd R h⟩
    .rw[(R)]
    .rw[(R)];omega
   .rw[aa] at hE
    let⟨q1,_,q2,q3⟩:=hE
    refine⟨some ⟨g,off*t.cells,none⟩,c,?_,?_,h5,(λh=>by cases h),λ_=>⟨g,off*t.cells,rfl,q2 rfl,q1,?_⟩⟩
    .rw[(R)]
    .rw[(R)];exact h3
    .have:=q3.rowAt.sub off n;rwa [ZAz] at this
  simp_all
 |.int _,x,y,vs,h,hc|.byte,x,y,vs,h,hc|.bool,x,y,vs,h,hc|.str,x,y,vs,h,hc|.opq,x,y,vs,h,hc|.nat,x,y,vs,h,hc|.ptr _,x,y,vs,h,hc|.sl _,x,y,vs,h,hc|.arr _ _,x,y,vs,h,hc=>by
  obtain rfl:=ZAf h;exact hc
theorem ieZ{α γ}{g}:∀{l:List α} {R:List γ},unrefL g l=some R->R.length=l.length/\∀(i:Nat) y,R[i]? =some y->∃x,l[i]? =some x/\g x=some y
 |[],R,h=>by
  obtain rfl:=ZAf h<;>grind
 |x::l,R,h=>by
  let⟨y,h1,h2⟩:=ZAG.1 h
  obtain⟨l1,h3,rfl⟩:=ZAH.1 h2
  let⟨q1,q2⟩:=ieZ h3
  refine⟨by simp[q1],λi y' hi=> ?_⟩
  match i with
  |0=>simp at hi;subst hi;exact⟨x,rfl,h1⟩
  |i+1=>exact q2 i y' (by simpa using hi)
theorem nbZ{t}{g}(hg:∀{x} {y} {vs},g x=some y->Cl z.w z.M z.ρ t x vs->Cl z.w z.M z.ρ t.unref y vs){l}{l'}{v}(h:unrefL g l=some l')(hv:VRep z.w z.M z.ρ (.sl t) l v):VRep z.w z.M z.ρ (.sl t.unref) l' v:=by
 obtain⟨A,c,rfl,h1,h2,h3,h4⟩:=hv.sl
 let⟨q1,q2⟩:=ieZ h
 refine .mkSc ⟨A,c,?_,?_,h2,h3,λh0=> ?_⟩ rfl
 .simp_all
 .omega
 .rw[(q1)] at h0
  let⟨b,off,p1,p2,p3,p4⟩:=h4 h0
  refine⟨b,off,p1,p2,p3,λi e he=> ?_⟩
  let⟨x,hx,R⟩:=q2 i e he
  let⟨u,r1,r2⟩:=p4 i x hx
  exact⟨u,hg R r1,by rw[a4Z];exact r2⟩
theorem VRep.unref{t}{x}{y}{v}(hv:VRep z.w z.M z.ρ t x v)(h:∀vs,Cl z.w z.M z.ρ t x vs->Cl z.w z.M z.ρ t.unref y vs):VRep z.w z.M z.ρ t.unref y v:=by
 let⟨vs,h1,h2⟩:=hv
 exact⟨vs,h vs h1,by simp_all[gzZ]⟩
section
variable {β : Type}
theorem kCZ(hH:HRep z H){a}{K}{r:β}{v}(h:unref1 (fmsOf H) a K=some r)(R:ARep z a v):∃x,ARep z x v/\K x=some r:=by
 unfold unref1 at h;split at h
 .rename_i t l;cases hn:t.noRef<;>rw[hn] at h<;>simp[bq_false] at h
  .let⟨l',h1,h2⟩:=ZAG.1 h
   exact⟨_,.p _ _ _ (nbZ (λh hc=>djZ hH h hc) h1 R.v),h2⟩
  .exact⟨_,R,h⟩
 .rename_i t x _;cases hn:t.noRef<;>rw[hn] at h<;>simp[bq_false] at h
  .let⟨y,h1,h2⟩:=ZAG.1 h
   exact⟨_,.p _ _ _ (R.v.unref λvs hc=>djZ hH h1 hc),h2⟩
  .exact⟨_,R,h⟩
 .exact⟨_,R,(acZ.1 h).2⟩
 grind
theorem h9Z(hH:HRep z H):∀{l} {K} {r:β} {vs},unref1L (fmsOf H) l K=some r->AReps z l vs->∃R,AReps z R vs/\K R=some r
 |[],K,r,vs,h,hv=>⟨[],hv,h⟩
 |a::l,K,r,[],h,hv=>by have:=hv.1;simp_all
 |a::l,K,r,v::vs,h,hv=>by
  let⟨x,h1,h2⟩:=kCZ hH h hv.head
  let⟨R,h3,h4⟩:=h9Z hH h2 hv.tail
  exact⟨x::R,.cons h1 h3,h4⟩
theorem rtZ{a}{K}{r:β}{v}(h:low1 a K=some r)(R:ARep z a v):∃x,ARep z x v/\K x=some r:=by
 unfold low1 at h;split at h
 .rename_i t l;cases hn:t.noRef<;>rw[hn] at h<;>simp[bq_false] at h
  .let⟨l',h1,h2⟩:=ZAG.1 h
   exact⟨_,.p _ _ _ (nbZ (λh hc=>gpZ h hc) h1 R.v),h2⟩
  .exact⟨_,R,h⟩
 .rename_i t x _;cases hn:t.noRef<;>rw[hn] at h<;>simp[bq_false] at h
  .let⟨y,h1,h2⟩:=ZAG.1 h
   exact⟨_,.p _ _ _ (R.v.unref λvs hc=>gpZ h1 hc),h2⟩
  .exact⟨_,R,h⟩
 grind
theorem m1Z:∀{l} {K} {r:β} {vs},low1L l K=some r->AReps z l vs->∃R,AReps z R vs/\K R=some r
 |[],K,r,vs,h,hv=>⟨[],hv,h⟩
 |a::l,K,r,[],h,hv=>by have:=hv.1;simp_all
 |a::l,K,r,v::vs,h,hv=>by
  let⟨x,h1,h2⟩:=rtZ h hv.head
  let⟨R,h3,h4⟩:=m1Z h2 hv.tail
  exact⟨x::R,.cons h1 h3,h4⟩
theorem tDZ{l}{cs}(ha:ARep z (.agg l) (.agg cs)){z'}{R}(h:AReps z' R cs.toList):ARep z' (.agg R) (.agg cs):=by
 cases ha with|agg _ _ hs h1 h2=>
 exact .agg _ _ (by have:=h.1;simp_all) h1 λi x v p1 p2=>h.2 i x v p1 (by simp_all)
theorem tkZ{a}{K}{r:β}{v}(h:lowAK a K=some r)(R:ARep z a v):∃x,ARep z x v/\K x=some r:=by
 unfold lowAK at h;split at h
 .cases hv:v<;>rw[hv] at R<;>first|(cases R;done)|skip
  let⟨l',h1,h2⟩:=m1Z h R.reps
  exact⟨_,tDZ R h1,h2⟩
 grind[rtZ]
theorem oOZ{a}{K}{r:β}{v}(hH:HRep z H)(h:unrefAK H a K=some r)(R:ARep z a v):∃x H' z',z'.w=z.w/\HRep z' H'/\Nx z z'/\z'.ρ=z.ρ/\ARep z' x v/\K x H'=some r:=by
 let⟨z',q1,q2,q3,q4⟩:=uiZ hH
 have kp:=q3.kp hH.sub;unfold unrefAK at h;split at h
 .rename_i l;cases hb:anyRefL l<;>rw[hb] at h<;>simp[bq_false] at h
  .grind[Nx.refl]
  .cases hv:v<;>rw[hv] at R<;>first|(cases R;done)|skip;rename_i cs
   let⟨l',h1,h2⟩:=h9Z q2 h (R.reps.kp kp)
   exact⟨_,_,z',q1,q2,q3,q4,tDZ R h1,h2⟩
 .cases hb:a.anyRef<;>rw[hb] at h<;>simp[bq_false] at h
  .grind[Nx.refl]
  .let⟨x,h1,h2⟩:=kCZ q2 h (R.kp kp)<;>grind
theorem fFZ{a R}{H'}{v}(hH:HRep z H)(h:pureF H a=some (R,H'))(ha:ARep z a v):
 ∃z',z'.w=z.w/\HRep z' H'/\Nx z z'/\z'.ρ=z.ρ/\ARep z' R v:=by
 let⟨⟨x,H1⟩,h1,h2⟩:=agZ.1 h
 let⟨z1,p1,p2,p3,p4,p5⟩:=bVZ hH h1 ha
 let⟨y,H2,z2,q1,q2,q3,q4,q5,q6⟩:=oOZ p2 h2 p5
 obtain⟨rfl,rfl⟩:=Prod.mk.inj (ZAf q6);exact⟨z2,q1.trans p1,q2,p3.trans q3,q4.trans p4,q5⟩
end
end
section
variable {P : Program} {z : Z} {H : Hp} {β : Type}
theorem aOZ(H):∀(K) (id),hget (setAll H K) id=if hkey K id then hget K id else hget H id
 |[],id=>by simp[setAll,hkey]
 |(i,e)::K,id=>by
  simp only[setAll,apZ,hkey,hget];by_cases h:id=i
  .subst h;simp
  .simp[ahZ (ZBh h),h,aOZ H K id]
theorem aIZ(H):∀(K) (id),hkey (setAll H K) id=(hkey K id||hkey H id)
 |[],id=>by simp[setAll,hkey]
 |(i,e)::K,id=>by
  simp[setAll,asZ,hkey];by_cases h:id=i
  .subst h;simp
  .simp[ahZ (ZBh h),h,aIZ H K id]
theorem bbZ:∀(l) (H) (id),hget (killAll H l) id=if memN id l then none else hget H id
 |[],H,id=>by simp[killAll,memN]
 |i::l,H,id=>by
  rw[killAll,bbZ l,apZ];simp only[memN];by_cases h:id=i
  .subst h;simp
  .simp[ahZ (ZBh h),h]
theorem aNZ:∀(l) (H) (id),hkey (killAll H l) id=(memN id l||hkey H id)
 |[],H,id=>by simp[killAll,memN]
 |i::l,H,id=>by
  rw[killAll,aNZ l,asZ];simp[memN];by_cases h:id=i
  .subst h;simp
  .simp[ahZ (ZBh h),h]
theorem bUZ(H):∀(l) (id),hget (hsub H l) id=(if memN id l then hget H id else none)/\hkey (hsub H l) id=(memN id l&&hkey H id)
 |[],id=>by grind[hsub,memN,hget,hkey]
 |i::l,id=>by
  let⟨h1,h2⟩:=bUZ H l id
  simp[hsub,memN];cases hk:hkey H i
  .simp;rw[h1,h2];by_cases h:i=id
   .subst h;simp only[hk,Bool.and_false,ZBi];rw[awZ hk];split<;>rfl
   grind[ahZ]
  .simp[hget,hkey]
   grind[afZ,ahZ]
theorem etZ:∀{H} {id},hkey H id=true↔id∈hkeys H
 |[],id=>by simp[hkey,hkeys]
 |(i,e)::H,id=>by
  simp[hkey,hkeys];by_cases h:i=id
  .subst h;simp
  simp_all[etZ,ZBh]
theorem eHZ{id}:∀{l},id∈nubN l↔id∈l
 |[]=>by simp[nubN]
 |i::l=>by
  simp[nubN];cases hm:memN i l
  .simp[eHZ]
  .simp only[bq_true,eHZ];exact⟨.inr,λh=>h.elim (λe=>e▸ajZ.1 hm) λh=>h⟩
theorem mbZ:∀{l r},eqN l r=true↔l=r
 |[],[]=>by simp[eqN]
 |[],_::_=>by simp[eqN]
 |_::_,[]=>by simp[eqN]
 |i::l,k::r=>by simp[eqN,mbZ]
theorem ARep.less{z'}{a}{v}(h:ARep z a v)(R:z'.w=z.w)(hr:z'.ρ=z.ρ)(hM:∀g,z'.M g->z.M g):ARep z' a v:=
 h.kp ⟨by simp_all,λ_ _ _=>by rw[R],λg hg=>.inl (hM g hg),λ_ _=>by rw[hr]⟩
theorem AReps.less{z'}{l}{vs}(h:AReps z l vs)(R:z'.w=z.w)(hr:z'.ρ=z.ρ)(hM:∀g,z'.M g->z.M g):AReps z' l vs:=
 ⟨h.1,λi a v h1 h2=>(h.2 i a v h1 h2).less R hr hM⟩
theorem pxZ{R}(f)(ms)(l)(y:List R×List (Nat×List R)):openF f ms (.inl l)≠some y:=by
 unfold openF;cases nro f<;>exact λh=>by cases h
theorem qpZ{α}{f}{ms R}{l:List α}(h:openF f ms (.inr none)=some (l,R)):[]=l/\ms=R:=by
 unfold openF at h;cases hn:nro f<;>rw[hn] at h
 .cases h
 .exact Prod.mk.inj (ZAf h)
theorem qZZ{α}{f k off n}{ms R}{l':List α}(h:openF f ms (.inr (some (k,off,n)))=some (l',R)):
 ∃l,ms[k]? =some (1,l)/\0=off/\n<=l.length/\l.take n=l'/\R.length=ms.length/\∀k' m',R[k']? =some m'->m'.1≠0->ms[k']? =some m'/\k'≠k/\nro f=true:=by
 unfold openF at h;cases hn:nro f<;>rw[hn] at h
 .obtain⟨⟨st,l⟩,h3,h4⟩:=ZAG.1 ((h));obtain⟨h5,h6⟩:=acZ.1 h4;simp only[ZAF,afZ,ZAl] at h5
  grind
 .obtain⟨⟨st,l⟩,h3,h4⟩:=ZAG.1 ((h));obtain⟨h5,h6⟩:=acZ.1 h4;simp only[ZAF,afZ,ZAl] at h5
  grind
theorem pEZ{m}{a a'}{H'}{v}(hH:HRep z H)(hmd:m<4\/¬z.D (m+100000))(h:argM P H m a=some (a',H'))(ha:ARep z a v):
 ∃z1 Mf,z1.w=z.w/\HRep z1 H'/\Nx z z1/\(∀g,Mf g->z1.M g)/\ARep {z1 with M:=Mf} a' v/\(m≠2->Mf=z1.M):=by
 unfold argM at h;split at h
 .simp only[ZAV,ZA1] at h;obtain⟨rfl,rfl⟩:=h;exact⟨z,z.M,rfl,hH,Nx.refl z,λ_ h=>h,ha,λ_=>rfl⟩
 .obtain⟨z',q1,q2,q3,q4,q5⟩:=fFZ hH h ha;exact⟨z',z'.M,q1,q2,q3,λ_ h=>h,q5,λ_=>rfl⟩
 .obtain⟨⟨x,H1⟩,h1,h2⟩:=ZAH.1 h;simp only[ZA1] at h2;obtain⟨rfl,rfl⟩:=h2;obtain⟨z',q1,q2,q3,q4,q5⟩:=fFZ hH h1 ha;refine⟨z,λg=>z.M g/\z'.M g,rfl,hH,Nx.refl z,λ_ h=>h.1,?_,λh=>absurd rfl h⟩;exact q5.less q1.symm q4.symm λg h=>h.2
 .obtain⟨x,h1,h2⟩:=tkZ h ha;obtain⟨rfl,rfl⟩:=Prod.mk.inj (ZAf h2);exact⟨z,z.M,rfl,hH,Nx.refl z,λ_ h=>h,h1,λ_=>rfl⟩
 .rename_i m' h0 h1 h2 h3';have hmm:=by
   refine hmd.resolve_left λhm=> ?_;have:m=0\/m=1\/m=2\/m=3:=by omega
   rcases this with rfl|rfl|rfl|rfl
   .simp_all
   .simp_all
   .simp_all
   .simp_all
  clear h0 h1 h2 h3' hmd;split at h
  .rename_i f s x;split at h
   .rename_i e s' ms hg;rcases aQZ h with⟨hs,hh⟩|hh
    .clear h;subst hs;obtain⟨hb,h⟩:=acZ.1 hh;simp only[ZAF,afZ,ZBb,ZAj] at hb;obtain⟨⟨rfl,hk⟩,hlow⟩:=hb;obtain⟨⟨l',ms'⟩,h1,h2⟩:=ZAG.1 h;obtain⟨rfl,rfl⟩:=Prod.mk.inj (ZAf h2);have hfo:=hH.fam _ _ hg;have hD:=hmm;have hne:famId f≠m+100000:=by have:=(bSZ f).1;omega
     clear h2 hh h;have hv:=ha.v.scal rfl rfl
     match x,h1,hv with
     |.inl l,h1,hv=>exact absurd h1 (pxZ f ms l _)
     |.inr none,h1,hv=>
      obtain⟨rfl,rfl⟩:=qpZ h1;have hv:[v]=[Value.slice none 0 0]:=hv;simp only[ZBS,ZBi] at hv;subst hv;have hsame:HRep z (hset H (famId f) (some ⟨false,.fam ((m-10)%5000) s' ms⟩)):=by
       refine hH.same (λid=> ?_) λid=> ?_
       .rw[apZ];by_cases hi:id=famId f
        .rw[ZAN hi,hi];exact hg.symm
        .rw[ZAM hi]
       .rw[asZ];by_cases hi:id=famId f
        .rw[hi,aiZ hg];simp
        .simp[hi]
      obtain⟨z1,p1,p2,p3,p4⟩:=hsame.newV ⟨by rw[asZ,hk];simp[ZBh hne],hlow⟩ hD (b:=.rows ((m-10)%5000) s' []) ⟨rfl,hfo.2.2.2.1⟩;exact⟨z1,z1.M,p1,p2,p3,λ_ h=>h,.slfV _ _ _ p4,λ_=>rfl⟩
     |.inr (some (k,off,n)),h1,hv=>
      obtain⟨l,h3,rfl,hn,rfl,hlen,hms⟩:=qZZ h1;have hgX:=g3Z hg h3 (by simp);obtain⟨h1H,hX,hk1⟩:=hH.cut hg hlen λk' m' q1 q2=>(hms k' m' q1 q2).1;have hX1:∀i e,hgetX (hset H (famId f) (some ⟨false,.fam ((m-10)%5000) s' ms'⟩)) i=some e->hgetX H i=some e/\i≠enc f k/\¬(Ro i/\Ro (enc f k)):=λi e h=>by
       obtain⟨q1,q2⟩:=hX i e h;refine⟨q1,λhi=> ?_,λhr=> ?_⟩
       .obtain⟨m',r1,r2⟩:=q2 k hi;exact(hms k m' r1 r2).2.1 rfl
       .obtain⟨k',hk'⟩:=jaZ hr.1.1 (by rw[hr.1.rt,famId,rfZ.1 hr.2]);obtain⟨m',r1,r2⟩:=q2 k' hk';exact l6Z (hms _ _ r1 r2).2.2 hr.2
      have hkn:hkey (hset H (famId f) (some ⟨false,.fam ((m-10)%5000) s' ms'⟩)) (m+100000)=false:=by rw[hk1];exact hk
      rcases hv with⟨A,hρ,rfl,hv⟩|⟨g,sz,m',c,hρ,h7,h8,h9,hv⟩
      .simp only[ZBS,ZBi] at hv;subst hv;have hE:=hH.ent _ _ hgX;unfold ERep at hE;rw[hρ] at hE;obtain⟨z1,p1,p2,p3,p4⟩:=h1H.newV ⟨hkn,hlow⟩ hD (b:=.rows ((m-10)%5000) s' (l.take 0)) ⟨by simp,hfo.2.2.2.1⟩;exact⟨z1,z1.M,p1,p2,p3,λ_ h=>h,.slfV _ _ _ p4,λ_=>rfl⟩
      .simp only[ZBS,ZBi] at hv;subst hv;obtain⟨z1,p1,p2,p3,p4⟩:=hH.moveX (n':=n) (b:=.rows ((m-10)%5000) s' (l.take n)) hgX hρ h1H hX1 ⟨hkn,hlow⟩ hD rfl ⟨rfl,ZAL _⟩ rfl rfl (λ_ _=>rfl) (λz1 hw kp=>by
        have hB:=(hH.realX hgX hρ).2.2.2;obtain⟨cs,fr,a1,a2,a3,a4,a5,a6,a7⟩:=hB.kp kp (by rw[hw]);refine⟨cs,fr,a1,a2,a3,by rw[ZAS];omega,?_,a6,λi x hx=> ?_⟩
        .rw[ZAS];exact ZBB (ZAe _ (Nat.min_le_right _ _)) a5
        .rw[ZAn] at hx;split at hx
         .exact a7 i x hx
         .cases hx)
       refine⟨z1,z1.M,p1,p2,p3,λ_ h=>h,?_,λ_=>rfl⟩;rw[ZBm];exact .slf _ _ _ _ _ _ p4 h7 (by rw[ZAz] at h8;exact h8) h9
    .cases hh
   grind
  .obtain⟨u,h3,h4⟩:=agZ.1 h;cases hk:(hkey H (m+100000)||Nat.ble famBase (m+100000))<;>rw[hk] at h4<;>simp only[bq_true,bq_false] at h4
   .simp only[ZAV,ZA1] at h4;obtain⟨rfl,rfl⟩:=h4;simp only[ZBW] at hk;have hlow:m+100000<famBase:=ZBO.1 λh=>by rw[ZAh h] at hk;cases hk.2
    obtain⟨z1,p1,p2,p3,p4⟩:=hH.newV ⟨hk.1,hlow⟩ (hmm) (b:=.rows ((m-10)%5000) u []) ⟨rfl,(cWZ h3).2.1⟩;obtain rfl:=ha.v.opq.1;exact⟨z1,z1.M,p1,p2,p3,λ_ h=>h,.slfV _ _ _ p4,λ_=>rfl⟩
   simp_all
  .rename_i es old n;split at h
   .rename_i e t l hg;cases hb:(Nat.beq es t.cells&& !hkey H (m+100000)&&Nat.blt (m+100000) famBase&&Nat.ble n l.length)<;>rw[hb] at h<;>simp only[bq_true,bq_false] at h
    .cases h
    simp only[ZAF,afZ,ZAl,ZBb,ZAj] at hb;obtain⟨⟨⟨rfl,hk⟩,hlow⟩,hn⟩:=hb;simp only[ZAV,ZA1] at h;obtain⟨rfl,rfl⟩:=h;have hk':hkey (hset H old none) (m+100000)=false:=by
     rw[asZ,hk];have:m+100000≠old:=λh=>by simp_all[aiZ]
     simp[this]
    have hD:=hmm;have hvirt:z.ρ old= .virt->∃z1,z1.w=z.w/\HRep z1 (hset (hset H old none) (m+100000) (some ⟨false,.rows e t (l.take n)⟩))/\Nx z z1/\z1.ρ (m+100000)= .virt:=λhρ=>by
     obtain⟨rfl,hc⟩:=hH.virt hg hρ;exact(hH.kill (aiZ hg)).newV ⟨hk',hlow⟩ hD ⟨by simp,hc⟩
    have hreal:∀g sz k,z.ρ old= .real g sz k->∃z1,z1.w=z.w/\HRep z1 (hset (hset H old none) (m+100000) (some ⟨false,.rows e t (l.take n)⟩))/\Nx z z1/\z1.ρ (m+100000)= .real g sz n:=λg sz k hρ=>by
     refine hH.move (w':=z.w) hg hρ ⟨hk',hlow⟩ hD rfl ⟨rfl,ZAL _⟩ rfl rfl (λ_ _=>rfl) λz1 hw kp=> ?_;have hB:=(hH.real hg hρ).2.2.2;obtain⟨cs,fr,a1,a2,a3,a4,a5,a6,a7⟩:=hB.kp kp (by rw[hw]);refine⟨cs,fr,a1,a2,a3,by rw[ZAS];omega,?_,a6,λi x hx=> ?_⟩
     .rw[ZAS];exact ZBB (ZAe _ (Nat.min_le_right _ _)) a5
     grind
    cases ha with
    |slV _ _ _ A hρ=>
     obtain⟨z1,p1,p2,p3,p4⟩:=hvirt hρ;exact⟨z1,z1.M,p1,p2,p3,λ_ h=>h,.slfV _ _ _ p4,λ_=>rfl⟩
    |slE _ _ _ g sz k o hρ=>
     obtain⟨_,_,_,cs,fr,a1,a2,a3,a4,a5,a6,a7⟩:=hH.real hg hρ;obtain⟨z1,p1,p2,p3,p4⟩:=(hH.kill (aiZ hg)).newV ⟨hk',hlow⟩ hD (b:=.rows e t (l.take 0)) ⟨by simp,a6⟩;exact⟨z1,z1.M,p1,p2,p3,λ_ h=>h,.slfV _ _ _ p4,λ_=>rfl⟩
    |sl _ _ _ _ g sz k c hρ hnc hs hm=>
     obtain⟨z1,p1,p2,p3,p4⟩:=hreal g sz k hρ;refine⟨z1,z1.M,p1,p2,p3,λ_ h=>h,?_,λ_=>rfl⟩;rw[ZBm];exact .slf _ _ _ _ _ _ p4 hnc (by simp_all) hm
   .simp only[ZAV,ZA1] at h;obtain⟨rfl,rfl⟩:=h;exact⟨z,z.M,rfl,hH,Nx.refl z,λ_ h=>h,ha,λ_=>rfl⟩
  .simp only[ZAV,ZA1] at h;obtain⟨rfl,rfl⟩:=h;exact⟨z,z.M,rfl,hH,Nx.refl z,λ_ h=>h,ha,λ_=>rfl⟩
theorem i5Z:∀{as} {ms} {as'} {z} {H H'} {vs},HRep z H->(∀m∈ms,m<4\/¬z.D (m+100000))->argsM P H ms as=some (as',H')->AReps z as vs->
 ∃z1 Mf,z1.w=z.w/\HRep z1 H'/\Nx z z1/\(∀g,Mf g->z1.M g)/\AReps {z1 with M:=Mf} as' vs/\(memN 2 ms=false->Mf=z1.M)
 |[],ms,as',z,H,H',vs,hH,hmd,h,hr=>by
  obtain⟨rfl,rfl⟩:=h;exact⟨z,z.M,rfl,hH,Nx.refl z,λ_ h=>h,hr,λ_=>rfl⟩
 |a::as,ms,as',z,H,H',vs,hH,hmd,h,hr=>by
  let⟨⟨x,H1⟩,h1,h2⟩:=agZ.1 h
  let⟨⟨y,H2⟩,h3,h4⟩:=ZAH.1 h2
  simp at h4;obtain⟨rfl,rfl⟩:=h4
  match vs,hr with
  |[],hr=>have:=hr.1;simp_all
  |v::vs,hr=>
   have e1:ms.headD 0<4\/¬z.D (ms.headD 0+100000):=by cases ms with|nil=>exact .inl (by simp)|cons m ms=>exact hmd m (by simp)
   let⟨z1,Mf,q1,q2,q3,q4,q5,q6⟩:=pEZ hH e1 h1 hr.head
   have e2:∀m∈ms.tail,m<4\/¬z1.D (m+100000):=λm hm=>(hmd m (List.mem_of_mem_tail hm)).imp_right λh=>by rw[q3.dom];exact h
   let⟨z2,Mg,p1,p2,p3,p4,p5,p6⟩:=i5Z q2 e2 h3 (hr.tail.kp (q3.kp hH.sub))
   have k:=p3.kp q2.sub;refine⟨z2,λg=>Mg g/\(Mf g\/z1.w.heap.size<=g),p1.trans q1,p2,q3.trans p3,λg h=>p4 g h.1,.cons ?_ (p5.less rfl rfl λg h=>h.1),λhm=> ?_⟩
   .have kk:Kp {z1 with M:=Mf} {z2 with M:=λg=>Mg g/\(Mf g\/z1.w.heap.size<=g)}:=⟨k.size,λb _ _=>by show z2.w.heap[b]? =z1.w.heap[b]?;rw[p1],λg h=>h.2,k.ext⟩;exact q5.kp kk
   .have m1:ms.headD 0≠2/\memN 2 ms.tail=false:=by
     cases ms with
     |nil=>exact⟨by simp,rfl⟩
     |cons m ms=>
      simp[memN] at hm;cases hb:Nat.beq m 2<;>rw[hb] at hm<;>simp at hm;exact⟨λh=>by simp at h;rw[h] at hb;simp at hb,hm⟩
    have a1:=q6 m1.1;have a2:=p6 m1.2;subst a1;subst a2;funext g;refine propext ⟨λh=>h.1,λh=>⟨h,?_⟩⟩;exact k.subM g h
end
section
variable {P : Program} {z : Z} {H : Hp} {β : Type}
theorem Cl.scal{w w'}{M M'}{ρ aa}:{t:Ty}->{x:t.den}->{vs:List Value}->t.scal=true->Cl w M ρ t x vs->Cl w' M' aa t x vs
 |.int _,_,_,_,h|.byte,_,_,_,h|.bool,_,_,_,h|.str,_,_,_,h=>h
 |.nat,_,_,_,h=>h.elim
 |.opq,_,_,R,_=>by cases R
 |.sl _,_,_,R,_=>by cases R
 |.ref _ _,_,_,R,_=>by cases R
 |.one t,_,_,R,h=>Cl.scal (t:=t) R h
 |.pair a b,_,_,R,h=>by
  obtain⟨u,v,rfl,h1,h2⟩:=h;simp[Ty.scal] at R;exact⟨u,v,rfl,Cl.scal R.1 h1,Cl.scal R.2 h2⟩
 |.arr n t,l,_,R,h=>by
  obtain⟨hn,css,h1,rfl,h2⟩:=h;exact⟨hn,css,h1,rfl,λi e u he hu=>Cl.scal R (h2 i e u he hu)⟩
mutual
theorem qDZ:(k:Kd)->{r:List Ty}->allScal (k.lv r)=true->allScal r=true
 |.p _,r,h|.pt _,r,h|.ownx _ _ _,r,h=>by simp only[Kd.lv,allScal,ZAF] at h;exact h.2
 |.sl _ _,r,h=>by simp only[Kd.lv,allScal,ZAF] at h;exact h.2.2
 |.own _ _ _ _,r,h|.slf _ _,r,h|.mp _,r,h|.any,r,h|.nilp _,r,h=>h
 |.fn _ a c,r,h=>d6Z c (d6Z a h)
 |.agg l,r,h=>d6Z l h
 |.tup l,r,h=>d6Z l h
theorem d6Z:(k:KdL)->{r:List Ty}->allScal (k.lv r)=true->allScal r=true
 |.nil,r,h=>h
 |.cons k l,r,h=>d6Z l (qDZ k h)
end
mutual
theorem m5Z{fs:List Nat}:(k:Kd)->{r:List Ty}->allFamIn fs (k.lv r)=true->allFamIn fs r=true
 |.p _,r,h|.pt _,r,h|.ownx _ _ _,r,h=>by simp only[Kd.lv,allFamIn,ZAF] at h;exact h.2
 |.sl _ _,r,h=>by simp only[Kd.lv,allFamIn,ZAF] at h;exact h.2.2
 |.own _ _ _ _,r,h|.slf _ _,r,h|.mp _,r,h|.any,r,h|.nilp _,r,h=>h
 |.fn _ a c,r,h=>bJZ c (bJZ a h)
 |.agg l,r,h=>bJZ l h
 |.tup l,r,h=>bJZ l h
theorem bJZ{fs:List Nat}:(k:KdL)->{r:List Ty}->allFamIn fs (k.lv r)=true->allFamIn fs r=true
 |.nil,r,h=>h
 |.cons k l,r,h=>bJZ l (m5Z k h)
end
mutual
theorem reZ{fs:List Nat}:(k:Kd)->{r:List Ty}->(y:HL (k.lv r))->allFamIn fs (k.lv r)=true->(emb k r y).1.famInT fs=true
 |.p t,r,y,h|.pt t,r,y,h=>by
  simp only[Kd.lv,allFamIn,ZAF] at h;exact h.1
 |.own _ _ _ _,r,y,h|.ownx _ _ _,r,y,h|.sl _ _,r,y,h|.slf _ _,r,y,h|.mp _,r,y,h|.any,r,y,h|.nilp _,r,y,h=>rfl
 |.fn g a c,r,y,h=>by
  simp only[emb,AV.famInT,ZAF];exact⟨bvZ a (r:=c.lv r) y h,bvZ c (r:=r) _ (bJZ a h)⟩
 |.agg l,r,y,h=>bvZ l (r:=r) y h
 |.tup l,r,y,h=>bvZ l (r:=r) y h
theorem bvZ{fs:List Nat}:(k:KdL)->{r:List Ty}->(y:HL (k.lv r))->allFamIn fs (k.lv r)=true->AV.famInTL fs (embL k r y).1=true
 |.nil,r,y,h=>rfl
 |.cons k l,r,y,h=>by
  simp only[embL,AV.famInTL,ZAF];exact⟨reZ k (r:=l.lv r) y h,bvZ l (r:=r) _ (m5Z k h)⟩
end
theorem hGZ{fs}:(R:HK)->{r:List Ty}->(y:HL (hkLv R r))->allFamIn fs (hkLv R r)=true->∀id e,hget (embH R r y).1 id=some e->e.b.famInT fs=true
 |[],r,y,h,id,e,he=>by simp_all[embH,hget]
 |(j,fz,k)::R,r,y,h,id,e,he=>by
  have hb:(embB k (hkLv R r) y).1.famInT fs=true/\allFamIn fs (hkLv R r)=true:=by
   cases k with
   |vars l=>exact⟨bvZ l y h,bJZ l h⟩
   |rows e t=>
    simp[hkLv,BKd.lv,allFamIn,Ty.famIn] at h;exact⟨h.1,h.2⟩
   |map kt vt=>
    simp only[hkLv,BKd.lv,allFamIn,ZAF,Ty.famIn] at h;exact⟨by simp[embB,Blk.famInT];exact⟨h.1.1.1.1,h.1.1.1.2⟩,h.2⟩
   |fam e s=>
    simp only[hkLv,BKd.lv,allFamIn,ZAF,Ty.famIn] at h;exact⟨by simp[Blk.famInT];exact h.1.2,h.2⟩
  simp[embH,hget] at he;cases aa:Nat.beq j id<;>rw[aa] at he<;>simp[ZAD] at he
  .exact hGZ R _ hb.2 id e he
  grind
variable {z' : Z} {f : Nat → Option Nat}
mutual
theorem snZ(hf:∀id,f id=none):(k:Kd)->{r:List Ty}->{y:HL (k.lv r)}->{v:Value}->allScal (k.lv r)=true->ARep z (emb k r y).1 v->ARep z' (AV.ren f (emb k r y).1) v
 |.p t,r,y,v,R,h=>by
  simp only[Kd.lv,allScal,ZAF] at R;obtain⟨vs,h1,h2⟩:=h.v;exact .p _ _ _ ⟨vs,Cl.scal R.1 h1,h2⟩
 |.pt t,r,y,v,R,h=>by simp[Kd.lv,allScal,Ty.scal] at R
 |.own _ _ _ _,r,y,v,R,h|.ownx _ _ _,r,y,v,R,h|.sl _ _,r,y,v,R,h|.slf _ _,r,y,v,R,h|.mp _,r,y,v,R,h=>by
  simp only[emb,AV.ren,hf];exact .junk v
 |.any,r,y,v,R,h=>.junk v
 |.fn g a c,r,y,v,R,h=>by
  simp only[emb,AV.ren];simp only[emb] at h;cases h with|fn _ _ _ va vc e1 e2 e3 e4=>
  have p1:=c8Z hf a (r:=c.lv r) (y:=y) (vs:=va.toList) R ⟨by simp[e1],λi x v q1 q2=>e3 i x v q1 (by simpa using q2)⟩;have p2:=c8Z hf c (r:=r) (y:=(embL a (c.lv r) y).2) (vs:=vc.toList) (d6Z a R) ⟨by simp[e2],λi x v q1 q2=>e4 i x v q1 (by simpa using q2)⟩;exact .fn _ _ _ _ _ (by have:=p1.1;simpa using this.symm) (by have:=p2.1;simpa using this.symm) (λi x v q1 q2=>p1.2 i x v q1 (by simpa using q2)) (λi x v q1 q2=>p2.2 i x v q1 (by simpa using q2))
 |.agg l,r,y,v,R,h=>by
  simp only[emb,AV.ren];simp only[emb] at h;cases h with|agg _ cs e1 e2 e3=>
  have p1:=c8Z hf l (r:=r) (y:=y) (vs:=cs.toList) R ⟨by simp[e1],λi x v q1 q2=>e3 i x v q1 (by simpa using q2)⟩;exact .agg _ _ (by have:=p1.1;simpa using this.symm) e2 λi x v q1 q2=>p1.2 i x v q1 (by simpa using q2)
 |.tup l,r,y,v,R,h=>by
  simp only[emb,AV.ren];simp only[emb] at h;cases h with|tup _ cs e1 e3=>
  have p1:=c8Z hf l (r:=r) (y:=y) (vs:=cs.toList) R ⟨by simp[e1],λi x v q1 q2=>e3 i x v q1 (by simpa using q2)⟩;exact .tup _ _ (by have:=p1.1;simpa using this.symm) λi x v q1 q2=>p1.2 i x v q1 (by simpa using q2)
 |.nilp u,r,y,v,R,h=>by
  obtain⟨vs,h1,h2⟩:=h.v;exact .p _ _ _ ⟨vs,h1,h2⟩
theorem c8Z(hf:∀id,f id=none):(k:KdL)->{r:List Ty}->{y:HL (k.lv r)}->{vs:List Value}->allScal (k.lv r)=true->AReps z (embL k r y).1 vs->AReps z' (AV.renL f (embL k r y).1) vs
 |.nil,r,y,vs,R,h=>⟨h.1,λi a v h1 h2=>by simp[embL,AV.renL] at h1⟩
 |.cons k l,r,y,[],R,h=>by have:=h.1;simp[embL] at this
 |.cons k l,r,y,v::vs,R,h=>by
  simp only[embL] at h;simp only[embL,AV.renL];exact .cons (snZ hf k R h.head) (c8Z hf l (qDZ k R) h.tail)
end
theorem sYZ(l):AV.ren f (tupA l)=tupA (AV.renL f l):=by
 match l with
 |[]=>simp[tupA,AV.ren,AV.renL]
 |[a]=>simp[tupA,AV.renL]
 |a::b::l=>simp[tupA,AV.ren,AV.renL]
theorem rJZ{l}{v}(h:ARep z (tupA l) v):∃vs,AReps z l vs/\∀{z'} {R},AReps z' R vs->R.length=l.length->ARep z' (tupA R) v:=by
 match l with
 |[a]=>exact⟨[v],.cons h .nil,λ{z' R} h' hl=>by
    match R,hl with
    |[b],_=>exact h'.head⟩
 |[]=>
  obtain⟨vs,rfl,h1,h2⟩:=i3Z rfl h;refine⟨vs.toList,⟨by grind,λi a v h=>by grind⟩,λ{z' R} h' hl=> ?_⟩
  match R,hl with
  |[],_=>exact .tup _ _ (by omega) λi x v q1 q2=>h'.2 i x v q1 (by simp_all)
 |a::b::l=>
  obtain⟨vs,rfl,h1,h2⟩:=i3Z rfl h;refine⟨vs.toList,⟨by grind,λi a v q1 q2=>h2 i a v q1 (by simp_all)⟩,λ{z' R} h' hl=> ?_⟩
  match R,hl with
  |c::d::R,_=>exact .tup _ _ (by omega) λi x v q1 q2=>h'.2 i x v q1 (by simp_all)
def Bodied(P:Program)(f:FuncId):Prop:=∃fn c,P.funcs[f]? =some fn/\fn.body=some c/\(fn.name== "runtime.NumGoroutine")=false
def Does(P:Program)(f:FuncId)(aa:Array Value)(w:World)(R:Ending->World->Prop):Prop:=
 (Bodied P f/\Calls P f aa w R)\/∃v w',(callFunc f aa).run P w= .ok (.value v) w'/\R (.returned v) w'
theorem Does.mono{P}{f}{aa}{w}{R R'}(h:Does P f aa w R)(hr:∀e w',R e w'->R' e w'):Does P f aa w R':=by
 rcases h with⟨h1,h2⟩|⟨v,w',h1,h2⟩
 .exact .inl ⟨h1,h2.mono hr⟩
 .exact .inr ⟨v,w',h1,hr _ _ h2⟩
theorem Does.calls{P}{f}{aa}{w}{R}(h:Does P f aa w R)(hb:Bodied P f):Calls P f aa w R:=by
 rcases h with⟨_,h⟩|⟨v,w',h,_⟩
 .exact h
 .let⟨fn,c,h1,h2,h3⟩:=hb
  unfold callFunc at h
  simp_all
structure Told (P:Program) (e:FnT):Prop where
 spec:∀t r,e.spec t=some r->∀(z:Z) (vals:List Value),HRep z (e.i.emb t).2->AReps z (e.i.emb t).1 vals->(∀id,¬z.D id)->
  Does P e.f vals.toArray z.w fun en w'=>∃v z',en= .returned v/\z'.w=w'/\Nx z {z' with D:=z.D}/\(∀k,z'.D k->k∈hkKeys e.i.hs)/\OutS.on e.os r fun o x=>HRep z' (o.emb x).2/\ARep z' (tupA (o.emb x).1) v
theorem Told.of{P}{e}(ent:Bodied P e.f)(spec:∀t r,e.spec t=some r->∀(z) (vals),HRep z (e.i.emb t).2->AReps z (e.i.emb t).1 vals->(∀id,¬z.D id)->
 Calls P e.f vals.toArray z.w λen w'=>∃v z',en= .returned v/\z'.w=w'/\Nx z {z' with D:=z.D}/\(∀k,z'.D k->k∈hkKeys e.i.hs)/\OutS.on e.os r λo x=>HRep z' (o.emb x).2/\ARep z' (tupA (o.emb x).1) v):Told P e:=
 ⟨λt r h z vals h1 h2 h3=>.inl ⟨ent,spec t r h z vals h1 h2 h3⟩⟩
theorem OutS.on_both:∀{l} {x} {K} {Q} {R:β},OutS.on l x K=some R->OutS.on l x Q->∃o y,o∈l/\K o y=some R/\Q o y
 |[],x,_,_,_,_,_=>Empty.elim x
 |[s],x,K,Q,R,h,hq=>⟨s,x,by simp,h,hq⟩
 |s::t::r,.inl y,K,Q,R,h,hq=>⟨s,y,by simp,h,hq⟩
 |s::t::r,.inr y,K,Q,R,h,hq=>by
  let⟨o,x,h1,h2,h3⟩:=OutS.on_both (x:=y) h hq
  exact⟨o,x,ZAc _ h1,h2,h3⟩
theorem bKZ{H}{f}:∀{R},(sndN R).Nodup->∀k,hget (renH H f R) k=(idOf R k).bind (λid=>(hget H id).map (Ent.ren f))/\(hkey (renH H f R) k=true↔∃id e,idOf R k=some id/\hget H id=some e)
 |[],_,k=>⟨rfl,by simp[renH,hkey,idOf]⟩
 |(i,j)::R,h,k=>by
  simp[sndN] at h;obtain⟨q1,q2⟩:=bKZ h.2 k;have aa:j=k->idOf R k=none:=λhj=>by
   cases hk:idOf R k with
   |none=>rfl
   |some id=>exact absurd (dDZ (aLZ hk)) (hj▸h.1)
  cases hg:hget H i with
  |none=>
   simp only[renH,hg,idOf];by_cases hj:j=k
   .rw[(afZ j k).2 hj,ZAK];rw[aa hj] at q1 q2;refine⟨by rw[q1];simp[hg],⟨λh=> ?_,λ⟨id,e,h1,h2⟩=> ?_⟩⟩
    .let⟨id,e,h1,_⟩:=q2.1 h;cases h1
    .simp at h1;subst h1;rw[hg] at h2;cases h2
   simp_all[ahZ]
  |some e=>
   simp only[renH,hg,idOf,hget,hkey]
   grind
theorem mOZ:∀{a b},b.length<=a.length->sndN (zipN a b)=b/\∀i k,(i,k)∈zipN a b->i∈a
 |[],[],_=>⟨rfl,λi k h=>by cases h⟩
 |[],_::_,h=>by grind
 |_::_,[],_=>⟨rfl,λi k h=>by cases h⟩
 |x::a,y::b,h=>by
  obtain⟨R,q2⟩:=mOZ (by simpa using h);refine⟨by simp[zipN,sndN,R],λi k hm=> ?_⟩;simp[zipN,ZA1] at hm;rcases hm with⟨rfl,_⟩|hm
  .simp
  .exact ZAc _ (q2 i k hm)
theorem h0Z:∀(n k),(rangeN k n).length=n
 |0,k=>rfl
 |n+1,k=>by simp[rangeN,h0Z n]
theorem jcZ:∀{a b} {i k},(i,k)∈zipN a b->∃n:Nat,a[n]? =some i/\b[n]? =some k
 |[],_,i,k,h=>by cases h
 |_::_,[],i,k,h=>by cases h
 |x::a,y::b,i,k,h=>by
  simp[zipN,ZA1] at h;rcases h with⟨rfl,rfl⟩|h
  .exact⟨0,rfl,rfl⟩
  .let⟨n,h1,h2⟩:=jcZ h
   exact⟨n+1,h1,h2⟩
theorem mnZ:∀{a b} {n i k:Nat},a[n]? =some i->b[n]? =some k->(i,k)∈zipN a b
 |[],_,n,i,k,h,_=>by grind
 |_::_,[],n,i,k,_,h=>by grind
 |x::a,y::b,0,i,k,h1,h2=>by simp_all[zipN]
 |x::a,y::b,n+1,i,k,h1,h2=>by
  simp[zipN];exact .inr (mnZ (by simpa using h1) (by simpa using h2))
theorem jMZ:∀{n k m},m<n->(rangeN k n)[m]? =some (k+m)
 |0,k,m,h=>by omega
 |n+1,k,0,h=>rfl
 |n+1,k,m+1,h=>by
  simp[rangeN];rw[jMZ (by omega)];congr 1;omega
theorem oIZ{n k m i}(h:(rangeN k n)[m]? =some i):i=k+m/\m<n:=by
 grind[ZAB,h0Z,jMZ,ZAf]
end
section
variable {P : Program} {z : Z} {H : Hp} {β : Type}
theorem fwZ{H}:∀{l},freshAll H l=true->∀id∈l,hkey H id=false
 |[],_,id,h=>by cases h
 |i::l,h,id,hm=>by
  simp[freshAll,ZAj] at h;rcases ZAi.1 hm with rfl|hm
  .exact h.1
  .exact fwZ h.2 id hm
def offF(fs:List Nat)(k:Nat):Prop:=dynBase<=k/\memN ((k-dynBase)%16) fs=false
instance (fs:List Nat) (k:Nat):Decidable (offF fs k):=inferInstanceAs (Decidable (_/\_))
theorem slZ{fs}{f k}:offF fs (enc f k)↔memN (f%16) fs=false:=by
 simp_all[enc,offF]
def Z.clean(fs:List Nat)(z:Z):Z:={z with ρ:=λk=>if offF fs k then .no else z.ρ k,D:=λk=>z.D k/\¬offF fs k}
theorem Z.clean_at{z:Z}{fs}{k}(h:k<dynBase):(z.clean fs).ρ k=z.ρ k:=ZAM λh'=>ZBO.2 h h'.1
theorem Z.clean_on{z:Z}{fs}{f k}(h:memN (f%16) fs=true):(z.clean fs).ρ (enc f k)=z.ρ (enc f k):=ZAM λh'=>by simp_all[slZ]
theorem HRep.clean{fs}(hH:HRep z H)(hs:∀id,offF fs id->hkey H (rt id)=false)(hn:∀id e,hgetX H id=some e->e.b.famInT fs=true/\∀i∈e.ids,i<dynBase):HRep (z.clean fs) H:=by
 have hon:SameOn fs z.ρ (z.clean fs).ρ:=λf k hf _=>Z.clean_on hf;have hat:∀id e,hgetX H id=some e->(z.clean fs).ρ id=z.ρ id:=λid e h=>by
  refine ZAM λho=> ?_;have:=hs id ho;rw[a8Z ho.1,awZ this] at h;cases h
 refine⟨λid e h=>(hH.ent id e h).rho rfl rfl (.on hon (hn id e h).1) (hat id e h) (λi hi=>Z.clean_at ((hn id e h).2 i hi)) λ_ _ _ _ _ h=>h,
  λid id' e e' g sz n g' sz' n' hii h1 h2 m1 m2 p3 p4=> ?_,λid h=> ?_,hH.sub,hH.fam,hH.key,λid hd h hD=>hH.dyn id hd h hD.1,λid h1 h2=>by rw[Z.clean_at h2];exact hH.nos id h1 h2⟩
 .rw[hat id e h1] at p3;rw[hat id' e' h2] at p4;exact hH.inj id id' e e' g sz n g' sz' n' hii h1 h2 m1 m2 p3 p4
 .by_cases hd:offF fs id
  .exact .inl (ZAN hd)
  .rcases hH.fresh id h with h|h
   .exact .inl (by rw[show(z.clean fs).ρ id=z.ρ id from ZAM hd];exact h)
   .exact .inr ⟨h,hd⟩
theorem eNZ:∀{l} {f},(∀i∈l,i<dynBase)->f<16->(memN f (famNs l)=true↔famBase+f∈l)
 |[],f,_,_=>by simp[famNs,memN]
 |i::l,f,hl,hf=>by
  have ih:=eNZ (λi h=>hl i (ZAc _ h)) hf;simp[famNs];by_cases hb:famBase<=i
  .rw[ZAh hb,ZAK];simp only[memN];by_cases h:i-famBase=f
   .rw[(afZ _ _).2 h]
    grind
   .rw[ahZ h,ZAD]
    grind
  .have:Nat.ble famBase i=false:=by
    cases hc:Nat.ble famBase i
    .rfl
    .exact absurd (ZBM hc) hb
   grind
theorem i8Z{l}(hl:∀i∈l,i<dynBase){k}:offF (famNs l) k↔dynBase<=k/\rt k∉l:=by
 constructor
 .rintro⟨h1,h2⟩;refine⟨h1,λhm=> ?_⟩;unfold rt at hm
  grind[eNZ,ZCm]
 .rintro⟨h1,h2⟩;refine⟨h1,?_⟩;cases hc:memN ((k-dynBase)%16) (famNs l)
  .rfl
  simp_all[rt,eNZ,ZCm]
theorem k8Z{s:Shp}{t}{fs}(hn:allFamIn fs s.tys=true){z}(hH:HRep z (s.emb t).2){id}{e}(h:hgetX (s.emb t).2 id=some e):e.b.famInT fs=true:=by
 have h1:=λid e he=>hGZ s.hs (embL s.ks (hkLv s.hs []) (untidy s.tys t)).2 (bJZ s.ks hn) id e he;by_cases hd:dynBase<=id
 .rw[a8Z hd] at h
  let⟨e0,p1,R⟩:=ZAG.1 h
  have p3:=h1 _ _ p1;unfold pick at R;split at R
  .rename_i e' s' ms hb;split at R
   .split at R
    .cases R
    .simp at R;subst R;rw[hb] at p3;exact p3
   .cases R
  simp_all
 .by_cases hf:famBase<=id
  .simp_all[hgetX,ZAN]
  .rw[aqZ (by omega)] at h;exact h1 _ _ h
theorem rLZ{e x}{k}(h:pick k e=some x):x.ids=[]:=(e2Z h some).2
theorem mwZ{s:Shp}{t:s.D}{zc0:Z}{vals:List Value}(hn:allFamIn (famNs (hkKeys s.hs)) s.tys=true)(k4:HRep zc0 (s.emb t).2)(k5:AReps zc0 (s.emb t).1 vals)(hst:∀k,memN k (hkKeys s.hs)=true->k<dynBase)
 (hid:∀i,i∈s.ks.ids\/i∈hkIds s.hs->i∈hkKeys s.hs):
 ∃zc:Z,zc.w=zc0.w/\zc.M=zc0.M/\HRep zc (s.emb t).2/\AReps zc (s.emb t).1 vals/\(∀k,k<dynBase\/rt k∈hkKeys s.hs->zc.ρ k=zc0.ρ k)/\zc.C=zc0.C/\(∀k,zc.D k->zc0.D k/\(k<dynBase\/rt k∈hkKeys s.hs))/\∀k,dynBase<=k->rt k∉hkKeys s.hs->zc.ρ k= .no:=by
 have hg:=λid=>cxZ s.hs (embL s.ks (hkLv s.hs []) (untidy s.tys t)).2 id;have hl:∀i∈hkKeys s.hs,i<dynBase:=λi hi=>hst i (ajZ.2 hi);have hlt:∀i,i∈s.ks.ids\/i∈hkIds s.hs->i<dynBase:=λi hi=>hst i (ajZ.2 (hid i hi));have hon:SameOn (famNs (hkKeys s.hs)) zc0.ρ (zc0.clean (famNs (hkKeys s.hs))).ρ:=λf k hf _=>Z.clean_on hf;refine⟨zc0.clean (famNs (hkKeys s.hs)),rfl,rfl,k4.clean (λid ho=> ?_) (λid e he=>⟨k8Z hn k4 he,λi hi=> ?_⟩),?_,λk hk=> ?_,rfl,λk h=>⟨h.1,?_⟩,λk h1 h2=>ZAN ((i8Z hl).2 ⟨h1,h2⟩)⟩
 .have:=((i8Z hl).1 ho).2;rw[show hkey (s.emb t).2 (rt id)=memN (rt id) (hkKeys s.hs) from(hg _).1]
  grind[ajZ]
 .by_cases hd:dynBase<=id
  .grind[a8Z,ZAG,rLZ]
  .by_cases hf:famBase<=id
   .unfold hgetX at he;rw[ZAM hd,ZAN hf] at he;cases he
   .rw[aqZ (by omega)] at he;exact hlt i (.inr ((hg id).2.2 e he i hi))
 .refine k5.rho rfl rfl (.on hon (bvZ s.ks (r:=hkLv s.hs []) _ hn)) λi hi=>Z.clean_at (hlt i (.inl ?_));rw[<-c0Z s.ks (r:=hkLv s.hs []) (untidy s.tys t)];exact hi
 .refine ZAM λho=> ?_;have:=(i8Z hl).1 ho;rcases hk with hk|hk
  .exact ZBO.2 hk this.1
  .exact this.2 hk
 .by_cases hk:k<dynBase
  .exact .inl hk
  .right;by_cases hm:rt k∈hkKeys s.hs
   .exact hm
   .exact absurd ((i8Z hl).2 ⟨Nat.not_lt.1 hk,hm⟩) h.2
theorem ftZ{a b:Nat}(h:¬a<=b):Nat.ble a b=false:=by
 cases hc:Nat.ble a b
 .rfl
 simp_all[ZBM]
theorem aMZ:∀(l) (n),(shKeys n l).length=l.length
 |[],_=>rfl
 |i::l,n=>by
  simp[shKeys];by_cases h:famBase<=i
  .rw[ZAh h];simp[aMZ l]
  .rw[ftZ h];simp[aMZ l]
theorem ceZ:∀{l} {n m k id:Nat},(shKeys n l)[m]? =some k->l[m]? =some id->(famBase<=id/\k=id)\/(id<famBase/\n<=k/\k<n+l.length)
 |[],n,m,k,id,h,_=>by simp_all
 |i::l,n,m,k,id,h,R=>by
  simp[shKeys] at h;by_cases hi:famBase<=i
  .rw[ZAh hi] at h
   match m with
   |0=>simp_all
   |m+1=>
    rcases ceZ (by simpa using h) (by simpa using R) with h|⟨h1,h2,h3⟩
    .exact .inl h
    grind
  .rw[ftZ hi] at h
   match m with
   |0=>simp_all
   |m+1=>
    rcases ceZ (by simpa using h) (by simpa using R) with h|⟨h1,h2,h3⟩
    .exact .inl h
    grind
theorem fmZ:∀(l r) (n),∃m,n<=m/\m<=n+l.length/\shKeys n (l++r)=shKeys n l++shKeys m r
 |[],r,n=>⟨n,ZAL _,by simp,rfl⟩
 |i::l,r,n=>by
  by_cases h:famBase<=i
  .let⟨m,h1,h2,R⟩:=fmZ l r n
   refine⟨m,h1,by simp;omega,?_⟩
   simp_all[shKeys,ZAh]
  .let⟨m,h1,h2,R⟩:=fmZ l r (n+1)
   refine⟨m,by omega,by simp;omega,?_⟩
   simp_all[shKeys,ftZ]
theorem okZ{l}{n m id:Nat}(h:l[m]? =some id):∃k,(shKeys n l)[m]? =some k:=by
 grind[aMZ,ZAB,ZAC]
theorem eRZ:∀{l} {n m R k:Nat},l.Nodup->n+l.length<=famBase->(shKeys n l)[m]? =some k->(shKeys n l)[R]? =some k->m=R
 |[],n,m,R,k,_,_,h,_=>by grind[shKeys]
 |i::l,n,m,R,k,hn,hb,h,h'=>by
  simp only[List.nodup_cons] at hn;simp only[ZCN] at hb;have q:∀(n' m k),(shKeys n' l)[m]? =some k->∃id,l[m]? =some id/\((famBase<=id/\k=id)\/(id<famBase/\n'<=k/\k<n'+l.length)):=λn' m k h=>by
   have aa:=by have:=(ZAB.1 h).1;rwa [aMZ] at this
   exact⟨_,ZAC aa,ceZ h (ZAC aa)⟩
  simp only[shKeys] at h h';by_cases hi:famBase<=i
  .rw[ZAh hi,ZAK] at h h';have no:∀{m:Nat},(shKeys n l)[m]?≠some i:=λ{m} h=>by
    grind
   match m,R with
   |0,0=>rfl
   |0,R+1=>simp_all
   |m+1,0=>simp_all
   |m+1,R+1=>exact congrArg (·+1) (eRZ (n:=n) hn.2 (by omega) (by simpa using h) (by simpa using h'))
  .rw[ftZ hi,ZAD] at h h';have no:∀{m},(shKeys (n+1) l)[m]?≠some n:=λ{m} h=>by
    let⟨id,h1,h2⟩:=q (n+1) _ _ h
    rcases h2 with⟨h2,h3⟩|⟨_,h2,h3⟩
    .omega
    .omega
   match m,R with
   |0,0=>rfl
   |0,R+1=>simp at h;subst h;exact absurd (by simpa using h') no
   |m+1,0=>simp at h';subst h';exact absurd (by simpa using h) no
   |m+1,R+1=>exact congrArg (·+1) (eRZ (n:=n+1) hn.2 (by omega) (by simpa using h) (by simpa using h'))
theorem dnZ:∀{a b},a.length=b.length->fstN (zipN a b)=a
 |[],[],_=>rfl
 |[],_::_,h=>by grind
 |_::_,[],h=>by grind
 |x::a,y::b,h=>by simp[zipN,fstN,dnZ (by simpa using h)]
theorem tNZ{z1 zc zd}{H1 Hd}{sh ids}{fs}(hH:HRep z1 H1)(hfr:∀id∈ids,hkey H1 id=false)(hsh:∀id∈sh,hkey H1 id=true)(hst:∀id∈ids,id<dynBase)(hd:∀id,rt id∈ids->¬z1.D id)(hnd:(sh++ids).Nodup)(hlen:sh.length+ids.length<=famBase)
 (hw:zc.w=z1.w)(hM:zc.M=z1.M)(hC:∀g,zc.C g->∃id e sz n,rt id∈sh/\hgetX H1 id=some e/\e.fz=false/\z1.ρ id= .real g sz n)
 (hρ:∀(m:Nat) k id,(shKeys 0 sh)[m]? =some k->sh[m]? =some id->zc.ρ k=z1.ρ id/\(id<famBase->zc.ρ k≠.no))(hρd:∀id,dynBase<=id->rt id∈sh->zc.ρ id=z1.ρ id)(hDd:∀k,zd.D k->k<dynBase/\k∈shKeys 0 sh)(hn:Nx zc {zd with D:=zc.D})(hHd:HRep zd Hd)(hlive:∀k,hkey Hd k=true->∃e,hget Hd k=some e)(hnr:∀k e,hgetX Hd k=some e->e.b.famInT fs=true)
 (hfs:∀f,memN (f%16) fs=true->famId f∈sh++ids)
 (hk:allIn (hkeys Hd) (fstN (zipN (shKeys 0 (sh++ids)) (sh++ids)))=true):
 ∃z3,z3.w=zd.w/\HRep z3 (setAll (killAll H1 sh) (renH Hd (noOf (zipN (shKeys 0 (sh++ids)) (sh++ids))) (zipN (shKeys 0 (sh++ids)) (sh++ids))))/\Nx z1 z3/\
  ∀a v,a.famInT fs=true->ARep zd a v->ARep z3 (AV.ren (noOf (zipN (shKeys 0 (sh++ids)) (sh++ids))) a) v:=by
 have h0:=eGZ;have hkl:=aMZ (sh++ids) 0;obtain⟨ms,_,_,happ⟩:=fmZ sh ids 0;have hkin:∀m k id,(shKeys 0 (sh++ids))[m]? =some k->(sh++ids)[m]? =some id->(famBase<=id/\k=id)\/(id<famBase/\k<famBase):=λm k id h1 h2=>by
  rcases ceZ h1 h2 with h|⟨h,_,h3⟩<;>grind
 have hkinj:∀m m' k,(shKeys 0 (sh++ids))[m]? =some k->(shKeys 0 (sh++ids))[m']? =some k->m=m':=λm m' k=>eRZ hnd (by simp_all);have hlow:∀m k id,(shKeys 0 (sh++ids))[m]? =some k->(sh++ids)[m]? =some id->m<sh.length->(shKeys 0 sh)[m]? =some k/\sh[m]? =some id:=λm k id h1 h2 h3=>by
  grind[ZAR,aMZ]
 have hkeysOf:∀k,k∈shKeys 0 sh->∃m,(shKeys 0 (sh++ids))[m]? =some k/\m<sh.length:=λk hk=>by
  obtain⟨m,hm⟩:=ZAQ hk;have hlt:m<sh.length:=by have:=(ZAB.1 hm).1;rwa [aMZ] at this
  exact⟨m,by rw[happ,ZAR (by rw[aMZ];exact hlt)];exact hm,hlt⟩
 generalize hall:sh++ids=all at*;generalize hsk:shKeys 0 all=sk at*;generalize hback:zipN sk all=back at*;have hat:∀k id,(k,id)∈back↔∃m,sk[m]? =some k/\all[m]? =some id:=λk id=>by
  rw[<-hback];exact⟨λh=>jcZ h,λ⟨m,h1,h2⟩=>mnZ h1 h2⟩
 have hfix:∀k id,(k,id)∈back->(famBase<=id/\k=id)\/(id<famBase/\k<famBase):=λk id h=>by
  obtain⟨m,h1,h2⟩:=(hat k id).1 h;exact hkin m k id h1 h2
 have hsnd:sndN back=all:=by rw[<-hback];exact(mOZ (by omega)).1
 have hfst:fstN back=sk:=by rw[<-hback];exact dnZ hkl
 have hsn:(sndN back).Nodup:=by rw[hsnd];exact hnd
 have hid:∀k id,(k,id)∈back->idOf back id=some k:=λk id h=>eZZ hsn h;have hallm:∀id,id∈all->∃k,(k,id)∈back:=λid h=>by
  obtain⟨m,hm⟩:=ZAQ h;have hlt:m<sk.length:=by rw[hkl];exact(ZAB.1 hm).1
  exact⟨_,(hat _ id).2 ⟨m,ZAC hlt,hm⟩⟩
 have hbm:∀k id,(k,id)∈back->id∈all:=λk id h=>by
  obtain⟨m,h1,h2⟩:=(hat k id).1 h;exact ZAI h2
 have hfamb:∀id,famBase<=id->id∈all->(id,id)∈back:=λid h1 h2=>by
  obtain⟨k,hk⟩:=hallm id h2;rcases hfix k id hk with⟨_,rfl⟩|h
  .exact hk
  .omega
 have hinj:∀k k' id,(k,id)∈back->(k',id)∈back->k=k':=λk k' id h h'=>ZAf ((hid k id h).symm.trans (hid k' id h'));have hinj2:∀k id id',(k,id)∈back->(k,id')∈back->id=id':=λk id id' h h'=>by
  obtain⟨m,h1,h2⟩:=(hat k id).1 h;obtain⟨m',h3,h4⟩:=(hat k id').1 h';have:=hkinj m m' k h1 h3;subst this;rw[h2] at h4;exact ZAf h4
 have halld:∀id∈all,id<dynBase:=λid h=>by
  rw[<-hall] at h;rcases ZAg.1 h with h|h
  .exact hH.key id (hsh id h)
  .exact hst id h
 have hddyn:∀k,dynBase<=k->¬zd.D k:=λk h h'=>by have:=(hDd k h').1;omega
 let F:Nat->Bool:=λid=>memN id all
 have hF:∀id,F id=true↔id∈all:=λid=>ajZ
 let z2:Z:={w:=zd.w,M:=zd.M,ρ:=λid=>match idOf back id with|some k=>zd.ρ k|none=>if dynBase<=id/\rt id∈all then zd.ρ id else z1.ρ id,
            C:=λg=>∃k e sz n,hgetX Hd k=some e/\e.fz=false/\zd.ρ k= .real g sz n,D:=(z1.foc H1 F).D}
 have hρ2:∀k id,(k,id)∈back->z2.ρ id=zd.ρ k:=λk id h=>by
  show(match idOf back id with|some k=>zd.ρ k|none=>_)=_;rw[hid k id h]
 have hno:∀id,id∉all->idOf back id=none:=λid h=>by
  cases hk:idOf back id with
  |none=>rfl
  |some k=>exact absurd (hbm k id (aLZ hk)) h
 have hρ2d:∀id,dynBase<=id->rt id∈all->z2.ρ id=zd.ρ id:=λid h1 h2=>by
  show(match idOf back id with|some k=>zd.ρ k|none=>_)=_;rw[hno id λh=>by have:=halld id h;omega];exact ZAN ⟨h1,h2⟩
 have hρ2n:∀id,id∉all->¬(dynBase<=id/\rt id∈all)->z2.ρ id=z1.ρ id:=λid h1 h2=>by
  show(match idOf back id with|some k=>zd.ρ k|none=>_)=_;rw[hno id h1];exact ZAM h2
 have hρX:∀k id,OfX back k id->z2.ρ id=zd.ρ k:=λk id h=>by
  rcases h with⟨h,_,_⟩|⟨rfl,h1,h2⟩
  .exact hρ2 k id h
  .exact hρ2d k h1 (hbm _ _ h2)
 have hC1:∀g,zc.C g->(z1.foc H1 F).C g:=λg h=>by
  obtain⟨id,e,sz,n,a1,a2,a3,a4⟩:=hC g h;exact⟨id,e,sz,n,ajZ.2 (by rw[<-hall];exact ZBa _ a1),a2,a3,a4⟩
 have hCd:∀g,zd.C g->(z1.foc H1 F).C g\/z1.w.heap.size<=g:=λg hg=>by
  rcases hn.subC g hg with h|h
  .exact .inl (hC1 g h)
  .rw[hw] at h;exact .inr h
 have hC2:∀g,z2.C g->zd.C g:=λg ⟨k,e,sz,n,a2,a3,a4⟩=>(hHd.realX a2 a4).2.1 a3;have hN:Nx (z1.foc H1 F) z2:=by
  refine⟨hn.os.trans (by rw[hw];rfl),⟨hn.tape.1.trans (by rw[hw];rfl),by have:=hn.tape.2;rw[hw] at this;exact this⟩,hn.output.trans (by rw[hw];rfl),by have:=hn.size;rw[hw] at this;exact this,λb hb hc=> ?_,λg hg=> ?_,λg hg=>hCd g (hC2 g hg),λg hg hm hc=> ?_,λid hne=> ?_,rfl⟩
  .have:=hn.block b (by rw[hw];exact hb) λh=>hc (hC1 b h);rw[hw] at this;exact this
  .have:=hn.subM g hg;rw[hw,hM] at this;exact this
  .exact hn.keepM g (by rw[hw];exact hg) (by rw[hM];exact hm) λh=>hc (hC1 g h)
  .have hne:z1.ρ id≠.no:=hne;show z2.ρ id=z1.ρ id;have hnf:¬(famBase<=id/\id<dynBase):=λh=>hne (hH.nos id h.1 h.2);by_cases hm:id∈all
   .obtain⟨k,hk⟩:=hallm id hm;rw[hρ2 k id hk];obtain⟨m,h1,h2⟩:=(hat k id).1 hk;have hlid:=halld id hm;by_cases hlt:m<sh.length
    .obtain⟨b1,b2⟩:=hlow m k id h1 h2 hlt;obtain⟨b3,b4⟩:=hρ m k id b1 b2;rw[hn.ext k (b4 (by omega)),b3]
    .rw[<-hall,ZAU (by omega)] at h2;have hmi:=ZAI h2;exact absurd ((hH.fresh id (by rw[aDZ (by omega)];exact hfr id hmi)).resolve_right (hd id (by rw[baZ hlid];exact hmi))) hne
   .by_cases hdd:dynBase<=id/\rt id∈all
    .rw[hρ2d id hdd.1 hdd.2];rw[<-hall] at hdd;rcases ZAg.1 hdd.2 with h|h
     .have e1:=hρd id hdd.1 h;rw[<-e1] at hne⊢;exact hn.ext id hne
     .exfalso;refine hne ((hH.fresh id ?_).resolve_right (hd id h));rw[ayZ hdd.1,awZ (hfr _ h)];exact hfr _ h
    .exact hρ2n id hm hdd
 have hent0:∀id e',hget (renH Hd (noOf back) back) id=some e'->∃k e,(k,id)∈back/\hget Hd k=some e/\e'=e.ren (noOf back):=λid e' h=>by
  rw[(bKZ hsn id).1] at h;obtain⟨k,q1,q2⟩:=ZAG.1 h;obtain⟨e,q3,q4⟩:=ZAH.1 q2;exact⟨k,e,aLZ q1,q3,q4.symm⟩
 generalize hH2:setAll (killAll [] sh) (renH Hd (noOf back) back)=H2;have hg2:∀id,hget H2 id=if hkey (renH Hd (noOf back) back) id then hget (renH Hd (noOf back) back) id else none:=λid=>by
  rw[<-hH2,aOZ,bbZ];split
  .rfl
  .split<;>rfl
 have hk2:∀id,hkey H2 id=(hkey (renH Hd (noOf back) back) id||memN id sh):=λid=>by
  rw[<-hH2,aIZ,aNZ];simp[hkey]
 have hgs:∀id e',hget H2 id=some e'->hget (renH Hd (noOf back) back) id=some e':=λid e' h=>by
  rw[hg2] at h;split at h
  .exact h
  .cases h
 have hentX:∀id e',hgetX H2 id=some e'->∃k e,OfX back k id/\hgetX Hd k=some e/\e'=e.ren (noOf back):=λid e' h=>by
  by_cases hdy:dynBase<=id
  .rw[a8Z hdy] at h;obtain⟨e0,q1,q2⟩:=ZAG.1 h;obtain⟨k,e1,q3,q4,rfl⟩:=hent0 _ _ (hgs _ _ q1);have:k=rt id:=by
    rcases hfix k _ q3 with⟨_,h⟩|⟨h,_⟩
    .exact h
    .have:=(bIZ hdy).1;omega
   subst this;rw[(ffZ e1 _ _).2 (ZAL _)] at q2;exact⟨id,e',.inr ⟨rfl,hdy,q3⟩,by rw[a8Z hdy,q4];exact q2,(e2Z q2 _).1.symm⟩
  .by_cases hf:famBase<=id
   .unfold hgetX at h;rw[ZAM hdy,ZAN hf] at h;cases h
   .rw[aqZ (by omega)] at h;obtain⟨k,e1,q3,q4,rfl⟩:=hent0 _ _ (hgs _ _ h);have hkf:k<famBase:=by
     rcases hfix k _ q3 with⟨h,_⟩|⟨_,h⟩
     .omega
     .exact h
    exact⟨k,e1,.inl ⟨q3,hkf,by omega⟩,by rw[aqZ hkf];exact q4,rfl⟩
 have hon:SameOn fs zd.ρ z2.ρ:=λf k hf _=>hρ2d (enc f k) (cgZ f k) (by rw[dVZ];exact hfs f hf);have hR:HRep z2 H2:=by
  refine⟨λid e' h=> ?_,λi i' e e' g sz n g' sz' n' hii p1 p2 m1 m2 p3 p4=> ?_,λid h=> ?_,λg h=>hHd.sub g (hC2 g h),λid x h=> ?_,λid h=> ?_,λid hdy h=> ?_,λid h1 h2=> ?_⟩
  .obtain⟨k,e,q1,q2,rfl⟩:=hentX id e' h;have h0:=hHd.ent _ _ q2;unfold ERep at h0⊢;rw[hρX k id q1];cases hr:zd.ρ k with
   |no=>rw[hr] at h0;exact h0.elim
   |virt=>
    rw[hr] at h0;obtain⟨fz,b⟩:=e;cases b<;>first|exact h0.elim|exact h0
   |real g sz n=>
    rw[hr] at h0;obtain⟨a1,a2,a3,a4⟩:=h0;exact⟨a1,λhf=>⟨k,e,sz,n,q2,hf,hr⟩,a3,a4.ren (fz:=e.fz) rfl rfl (.on hon (hnr k e q2)) λid' k' _ hk'=>hρ2 id' k' (d5Z hk')⟩
  .obtain⟨k,e1,q1,q2,rfl⟩:=hentX i e p1;obtain⟨k',e2,q3,q4,rfl⟩:=hentX i' e' p2;rw[hρX k i q1] at p3;rw[hρX k' i' q3] at p4;have hkk:k≠k':=λh=>by
    subst h;rcases q1 with⟨a1,a2,_⟩|⟨rfl,a1,_⟩<;>rcases q3 with⟨b1,b2,_⟩|⟨rfl,b1,_⟩
    .exact hii (hinj2 k i i' a1 b1)
    .omega
    .omega
    .exact hii rfl
   exact λp5=>hHd.inj k k' e1 e2 g sz n g' sz' n' hkk q2 q4 m1 m2 p3 p4 λh=>p5 ⟨OfX.ro q1 h.1,OfX.ro q3 h.2⟩
  .by_cases hdy:dynBase<=id
   .by_cases hm:rt id∈all
    .left;rw[hρ2d id hdy hm];have hbk:=hfamb _ (bIZ hdy).1 hm;refine(hHd.fresh id ?_).resolve_right (hddyn id hdy);rw[ayZ hdy] at h⊢;cases hg:hget Hd (rt id) with
     |some e0=>
      have hkr:=((bKZ (H:=Hd) (f:=noOf back) hsn (rt id)).2).2 ⟨_,e0,hid _ _ hbk,hg⟩;rw[hg2,ZAN hkr,(bKZ hsn (rt id)).1,hid _ _ hbk] at h;simp only[ZAA,hg,ZCI] at h;rw[(ffZ e0 _ _).1] at h;exact h
     |none=>
      show hkey Hd (rt id)=false;cases hkd:hkey Hd (rt id)
      .rfl
      .obtain⟨e,he⟩:=hlive _ hkd;rw[he] at hg;cases hg
    .rw[hρ2n id (λh=>by have:=halld id h;omega) λh=>hm h.2];cases hk1:hkeyX H1 id
     .exact(hH.fresh id hk1).imp (λh=>h) .inl
     .refine .inr (.inr ⟨hk1,?_⟩);cases hF':F (rt id)
      .rfl
      .exact absurd ((hF _).1 hF') hm
   .by_cases hf:famBase<=id
    .left;by_cases hm:id∈all
     .rw[hρ2 id id (hfamb id hf hm)];exact hHd.nos id hf (by omega)
     .rw[hρ2n id hm λh=>hdy h.1];exact hH.nos id hf (by omega)
    .rw[aDZ (by omega),hk2] at h;simp only[ZBW] at h;obtain⟨h,hshm⟩:=h;by_cases hm:id∈all
     .obtain⟨k,hb⟩:=hallm id hm;have hkf:k<famBase:=by
       rcases hfix k id hb with⟨h,_⟩|⟨_,h⟩
       .omega
       .exact h
      left;rw[hρ2 k id hb];have hkd:hkey Hd k=false:=by
       cases hkd:hkey Hd k
       .rfl
       .obtain⟨e,he⟩:=hlive k hkd;rw[((bKZ (H:=Hd) (f:=noOf back) hsn id).2).2 ⟨k,e,hid k id hb,he⟩] at h;cases h
      refine(hHd.fresh k (by rw[aDZ hkf];exact hkd)).resolve_right λhdk=> ?_;obtain⟨m',h1,h2⟩:=hkeysOf k (hDd k hdk).2;obtain⟨m,h3,h4⟩:=(hat k id).1 hb;have:=hkinj m m' k h3 h1;subst this;have h5:=(hlow m k id h3 h4 h2).2;rw[ajZ.2 (ZAI h5)] at hshm;cases hshm
     .rw[hρ2n id hm λh=>hdy h.1];cases hk1:hkeyX H1 id
      .exact(hH.fresh id hk1).imp (λh=>h) .inl
      .refine .inr (.inr ⟨hk1,?_⟩);cases hF':F (rt id)
       .rfl
       .rw[baZ (by omega)] at hF';exact absurd ((hF _).1 hF') hm
  .obtain⟨k,e1,q3,q4,rfl⟩:=hent0 _ _ (hgs _ _ h);have hfo:=hHd.fam k e1 q4;obtain⟨fz,b⟩:=e1;cases b with
   |fam e s ms=>
    have:k=id:=by
     rcases hfix k id q3 with⟨_,h⟩|⟨_,h⟩
     .exact h
     .have:=hfo.1;omega
    subst this;exact hfo
   |_=>
    have hkf:k<famBase:=hfo;show id<famBase;rcases hfix k id q3 with⟨h,h'⟩|⟨h,_⟩
    .omega
    .exact h
  .rw[hk2] at h;simp only[ZA6] at h;refine halld id ?_;rcases h with h|h
   .obtain⟨k,e,h1,_⟩:=((bKZ hsn id).2).1 h;exact hbm k id (aLZ h1)
   .rw[<-hall];exact ZBa _ (ajZ.1 h)
  .have hm:rt id∈all:=by
    rw[hk2] at h;simp only[ZA6] at h;rcases h with h|h
    .obtain⟨k,e,h1,_⟩:=((bKZ hsn (rt id)).2).1 h;exact hbm k _ (aLZ h1)
    .rw[<-hall];exact ZBa _ (ajZ.1 h)
   rintro(hD|⟨_,hD⟩)
   .rw[<-hall] at hm;rcases ZAg.1 hm with h'|h'
    .exact hH.dyn id hdy (hsh _ h') hD
    .exact hd id h' hD
   .rw[(hF _).2 hm] at hD;cases hD
  .by_cases hm:id∈all
   .rw[hρ2 id id (hfamb id h1 hm)];exact hHd.nos id h1 h2
   .rw[hρ2n id hm λh=>by omega];exact hH.nos id h1 h2
 obtain⟨z3,r1,r2,r3,r4,r5⟩:=merge_ok (H3:=setAll (killAll H1 sh) (renH Hd (noOf back) back)) hH hN hR (λid h=>by
  rw[hk2] at h;simp only[ZA6] at h;rcases h with h|h
  .obtain⟨k,e,h1,_⟩:=((bKZ hsn id).2).1 h;exact ajZ.2 (hbm k id (aLZ h1))
  .exact ajZ.2 (by rw[<-hall];exact ZBa _ (ajZ.1 h))) (λid=>by
  rw[aOZ,bbZ,hk2,hg2];by_cases h2:hkey (renH Hd (noOf back) back) id=true
  .simp[h2]
  .simp only[h2,ZBJ,ZCc,Bool.false_or];by_cases hs:memN id sh=true
   .simp[hs]
   .simp only[hs,ZBJ,ZCc];by_cases hF':F id=true
    .rw[ZAN hF'];have:=ajZ.1 hF';rw[<-hall] at this;rcases ZAg.1 this with h|h
     .exact absurd (ajZ.2 h) hs
     .exact awZ (hfr id h)
    .rw[ZAM hF']) (λid h=>by
  rw[hk2] at h;rw[aIZ,aNZ];rcases h with h|h
  .simp only[ZA6] at h;rcases h with h|h
   .simp[h]
   .simp[h]
  .simp[h]) (λid h=>by
  rw[aIZ,aNZ] at h;rw[hk2];simp only[ZA6] at h⊢;rcases h with h|h|h
  .exact .inl (.inl h)
  .exact .inl (.inr h)
  .exact .inr (.inl h))
 refine⟨z3,r1,r4,r5,λa v hna ha=> ?_⟩;exact(ha.ren (z':=z2) rfl rfl (.on hon hna) λid k _ hk=>hρ2 id k (d5Z hk)).less r1 r3 λg h=>by rw[<-r2];exact h
theorem ozZ{fs}{l}(h:AV.famInTL fs l=true):(tupA l).famInT fs=true:=by
 match l with
 |[]=>rfl
 |[a]=>
  simp only[AV.famInTL,ZAF] at h;exact h.1
 |a::b::l=>exact h
theorem cfZ(id):hgetX [] id=none:=by
 unfold hgetX;split
 .rfl
 .split<;>rfl
theorem lVZ{H}{l}(h:liveAll H l=true):∀id∈l,hkey H id=true:=λid R=>by
 grind[eoZ,aiZ]
theorem pDZ{e}{an}{args}{vals}{K}{res:β}(hT:Told P e)(h:evCall P e args an H K=some res)(hH:HRep z H)(hd:∀id,rt id∈an.ids->¬z.D id)
 (hmd:∀m∈an.md,m<4\/¬z.D (m+100000))(ha:AReps z args vals):
 Does P e.f vals.toArray z.w λen w'=>∃v x H' z',en= .returned v/\z'.w=w'/\HRep z' H'/\Nx z z'/\ARep z' x v/\K x H'=some res:=by
 have hb0:=eGZ;unfold evCall at h;rw[dpZ] at h;obtain⟨⟨as',H1⟩,h1,h2⟩:=agZ.1 h;obtain⟨h3,h4⟩:=acZ.1 h2;simp only[ZAF,mbZ,ZAl] at h3;obtain⟨⟨⟨⟨⟨f1,f2⟩,f3⟩,f4⟩,f5,f6⟩,f7,f8⟩:=h3;obtain⟨z1,Mf,q1,q2,q3,q4,q5,q6⟩:=i5Z hH hmd h1 ha;have hno:=λo ho=>(ZCM.1 f6) o ho;simp only at h4;by_cases hm:memN 2 an.md=true
 .rw[hm] at f4;simp only[ZAO,Bool.false_or,ZAF,afZ,ZCM] at f4;obtain⟨⟨g1,g2⟩,g3⟩:=f4;have e1:=ZAX g2;have e2:=ZAX g3;rw[e1,e2] at h4;rw[e1] at f3
  let z1e:={z1 with M:=Mf,C:=λ_=>False,D:=λ_=>True}
  have hHe:HRep z1e []:=⟨λid e h=>(by rw[cfZ] at h;cases h),λi i' e e' g sz n g' sz' n' _ h=>(by rw[cfZ] at h;cases h),λid _=>.inr trivial,λg h=>h.elim,λi x h=>by simp[hget] at h,λi h=>by simp[hkey] at h,λi _ h=>by simp[hkey] at h,q2.nos⟩;obtain⟨t,zc0,k1,k2',k3',k4',k5',k6',k7,k8',k9',k10',k11,k12,k13,k14⟩:=Shp.rco_ok (H:=[]) (λ_=>.no) (λ_ _ _=>rfl) h4 hHe (q5.less rfl rfl λg h=>h);obtain⟨zc,x1,x2,k4,k5,x3,x4,x5,x6⟩:=mwZ f5 k4' k5' k13 k14;have k2:=x1.trans k2';have k3:=x2.trans k3';have k8:=λg h=>k8' g (by rw[<-x4];exact h);have hDc:∀id,¬zc.D id:=λid h=>by
   obtain⟨y1,y2⟩:=x5 id h;rw[k10'] at y1;rcases y1.2 with h|h
   .rcases y2 with y2|y2
    .omega
    .have:=ajZ.2 y2;rw[this] at y1;cases y1.1
   .exact h rfl
  obtain⟨r,r1,r2⟩:=ZAG.1 k1;have hw:zc.w=z.w:=k2.trans q1;have hcall:=hT.spec t r r1 zc vals k4 k5 hDc;rw[hw] at hcall;refine hcall.mono ?_;rintro en w' ⟨v,zd,rfl,rfl,hn,hDd,ho⟩;obtain⟨o,y,m1,m2,m3,m4⟩:=OutS.on_both r2 ho;rw[Shp.embC_eq] at m2;obtain⟨p1,p2⟩:=acZ.1 m2;have hCf:∀g,¬zc.C g:=λg h=>k8 g h
  let z3:Z:={z1 with w:=zd.w}
  have hN:Nx z1 z3:=by
   refine⟨hn.os.trans (by rw[k2]),⟨hn.tape.1.trans (by rw[k2]),by have:=hn.tape.2;rw[k2] at this;exact this⟩,hn.output.trans (by rw[k2]),by have:=hn.size;rw[k2] at this;exact this,λb hb _=> ?_,λg h=>.inl h,λg h=>.inl h,λ_ _ h _=>h,λ_ _=>rfl,rfl⟩;have:=hn.block b (by rw[k2];exact hb) (hCf b);rw[k2] at this;exact this
  have hH3:HRep z3 H1:=by
   refine⟨λid e he=>(q2.ent id e he).kp (hN.kp q2.sub) λg sz n hr=>⟨?_,λh=>h⟩,λi i' e e' g sz n g' sz' n' hii h1 h2 f1 f2 h3 h4=>q2.inj i i' e e' g sz n g' sz' n' hii h1 h2 f1 f2 h3 h4,λid hid=>q2.fresh id hid,λg hg=>q2.sub g hg,q2.fam,q2.key,q2.dyn,q2.nos⟩;have:=hn.block g (by rw[k2];exact(q2.realX he hr).1) (hCf g);rw[k2] at this;exact this
  obtain⟨vs,b1,b2⟩:=rJZ m4;have hsc:=g1 o m1;have hren:AReps z3 (AV.renL (noOf []) (o.emb y).1) vs:=c8Z (z:=zd) (λid=>rfl) o.ks hsc b1;refine⟨v,_,_,z3,rfl,rfl,hH3,q3.trans hN,?_,p2⟩;show ARep z3 (AV.ren (noOf []) (tupA (o.emb y).1)) v;rw[sYZ];exact b2 hren (crZ _ _)
 .have hM:=q6 (by simpa using hm);subst hM;have hlive:liveAll H1 (fstN (zipN an.sh (shKeys 0 an.sh)))=true:=by
   unfold Shp.rco at h4;have:=(acZ.1 h4).1;simp only[ZAF] at this;exact this.2
  rw[dnZ (by rw[aMZ])] at hlive;obtain⟨t,zc0,k1,k2',k3',k4',k5',k6',k7,k8',k9',k10',k11,k12,k13,k14⟩:=Shp.rco_ok (λ_=>.no) (λ_ _ _=>rfl) h4 q2 q5;obtain⟨zc,x1,x2,k4,k5,x3,x4,x5,x6⟩:=mwZ f5 k4' k5' k13 k14;have k2:=x1.trans k2';have k3:=x2.trans k3';have k8:∀g,zc.C g->_:=λg h=>k8' g (by rw[<-x4];exact h);have k9:∀g,zc.C g->_:=λg h=>k9' g (by rw[<-x4];exact h);have hDc:∀id,¬zc.D id:=λid h=>by
   obtain⟨y1,y2⟩:=x5 id h;rw[k10'] at y1;rcases y1.2 with h|h
   .rcases y2 with y2|y2
    .omega
    .have:=ajZ.2 y2;rw[this] at y1;cases y1.1
   .exact h rfl
  obtain⟨r,r1,r2⟩:=ZAG.1 k1;have hw:zc.w=z.w:=k2.trans q1;have hcall:=hT.spec t r r1 zc vals k4 k5 hDc;rw[hw] at hcall;refine hcall.mono ?_;rintro en w' ⟨v,zd,rfl,rfl,hn,hDd,ho⟩;obtain⟨o,y,m1,m2,m3,m4⟩:=OutS.on_both r2 ho;rw[Shp.embC_eq] at m2;obtain⟨p1,p2⟩:=acZ.1 m2;simp only[ZAF] at p1;have hkm:∀id,id∈hkKeys e.i.hs->id<dynBase:=λid h=>k13 id (ajZ.2 h);have hshn:∀(m) k id,(shKeys 0 an.sh)[m]? =some k->an.sh[m]? =some id->zc.ρ k=z1.ρ id/\(id<famBase->zc.ρ k≠.no):=λm k id hk1 hk2=>by
   have hmem:k∈hkKeys e.i.hs:=by rw[f3];exact ZAI hk1
   have hkd:=hkm k hmem;obtain⟨id',a1,a2⟩:=k6' k (ajZ.2 hmem);have hnd:(sndN (zipN an.sh (shKeys 0 an.sh))).Nodup:=by
    unfold Shp.rco at h4;have:=(acZ.1 h4).1;simp only[ZAF] at this;exact cCZ.1 this.1.2.1
   have hid:id'=id:=by
    have e1:=eZZ hnd a1;have e2:=eZZ hnd (mnZ hk2 hk1);rw[e1] at e2;exact ZAf e2
   subst hid;have hρ:zc.ρ k=z1.ρ id':=(x3 k (.inl hkd)).trans a2;refine⟨hρ,λhlow hno=> ?_⟩;obtain⟨ee,he⟩:=(cxZ e.i.hs (embL e.i.ks (hkLv e.i.hs []) (untidy e.i.tys t)).2 k).2.1 (ajZ.2 hmem);have hkf:k<famBase:=by
    rcases ceZ hk1 hk2 with⟨h,_⟩|⟨_,_,h⟩
    .omega
    .omega
   have hee:=k4.ent k ee (by rw[aqZ hkf];exact he);unfold ERep at hee;rw[hno] at hee;exact hee
  have hshd:∀id,dynBase<=id->rt id∈an.sh->zc.ρ id=z1.ρ id:=λid hdy hmem=>by
   have h1:=(bIZ hdy).1;have hmk:rt id∈hkKeys e.i.hs:=by
    rw[f3];obtain⟨m,hm⟩:=ZAQ hmem;obtain⟨k,hk⟩:=okZ (n:=0) hm;rcases ceZ hk hm with⟨_,rfl⟩|⟨h,_⟩
    .exact ZAI hk
    .omega
   rw[x3 id (.inr hmk),k7 id,ZAN hdy];cases hc:memN id (hkKeys e.i.hs)
   .rfl
   .have:=hkm id (ajZ.1 hc);omega
  have hokeys:∀k∈hkKeys o.hs,k∈shKeys 0 (an.sh++an.ids):=λk hk=>by
   have:=(caZ.1 p1.2) k (etZ.1 (by rw[show hkey (o.emb y).2 k=memN k (hkKeys o.hs) from(cxZ o.hs (embL o.ks (hkLv o.hs []) (untidy o.tys y)).2 k).1];exact ajZ.2 hk));rwa [dnZ (by rw[aMZ])] at this
  obtain⟨z3,c1,c2,c3,c4⟩:=tNZ (sh:=an.sh) (ids:=an.ids) (fs:=famNs (hkKeys o.hs)) q2 (fwZ f1) (lVZ hlive) (λid hid=>bGZ f7 hid) (λid hid=>by rw[q3.dom];exact hd id hid) (cCZ.1 p1.1.1) f8 k2 k3
   (λg hg=>by
    obtain⟨id,ee,sz,n,a1,a2,a3,a4⟩:=k9 g hg;rw[dnZ (by rw[aMZ])] at a1;exact⟨id,ee,sz,n,a1,a2,a3,a4⟩) hshn hshd (λk hk=>by
    have:=hDd k hk;rw[f3] at this;exact⟨hkm k (by rw[f3];exact this),this⟩) hn m3
   (λk hk=>by
    have hg:=cxZ o.hs (embL o.ks (hkLv o.hs []) (untidy o.tys y)).2 k;exact hg.2.1 (by rw[<-hg.1];exact hk)) (λk ee he=>k8Z (hno o m1) m3 he) (λf hf=>by
    have hod:∀i∈hkKeys o.hs,i<dynBase:=λi hi=>m3.key i (by rw[show hkey (o.emb y).2 i=memN i (hkKeys o.hs) from(cxZ o.hs (embL o.ks (hkLv o.hs []) (untidy o.tys y)).2 i).1];exact ajZ.2 hi);have hmk:=hokeys _ ((eNZ hod (ZCm f (by omega))).1 hf);obtain⟨m,hm1⟩:=ZAQ hmk;have hlt:m<(an.sh++an.ids).length:=by have:=(ZAB.1 hm1).1;rwa [aMZ] at this
    rcases ceZ hm1 (ZAC hlt) with⟨_,h⟩|⟨_,_,h⟩
    .show famBase+f%16∈_;rw[h];exact ZBK hlt
    .rw[ZAd] at h;omega) p1.2
  exact⟨v,_,_,z3,rfl,c1,c2,q3.trans c3,c4 _ _ (ozZ (bvZ o.ks (r:=hkLv o.hs []) _ (hno o m1))) m4,p2⟩
end
theorem Tr.get_put:∀(t:Tr) (k) (a) (k'),(k'≠k->(t.put k a).get k'=t.get k')/\((t.put k a).get k=a\/(t.put k a).get k= .junk)
 |.lf,k,a,k'=>⟨λ_=>rfl,.inr rfl⟩
 |.nd l v r,k,a,k'=>by
  by_cases h0:k=0
  .subst h0;simp[Tr.put,Tr.get]
   simp_all[ahZ]
  .have e0:=ahZ h0;by_cases h1:k%2=1
   .have e1:=(afZ _ _).2 h1;simp[Tr.put,e0,e1,Tr.get]
    let⟨q1,R⟩:=Tr.get_put l (k/2) a (k'/2)
    refine⟨λh=> ?_,R⟩;by_cases g0:k'=0
    .simp_all
    .rw[ahZ g0,ZAD];by_cases g1:k'%2=1
     .rw[(afZ _ _).2 g1,ZAK];exact q1 (by omega)
     simp_all[ahZ]
   .have e1:=ahZ h1;simp[Tr.put,e0,e1,Tr.get]
    let⟨q1,R⟩:=Tr.get_put r (k/2-1) a (k'/2-1)
    refine⟨λh=> ?_,R⟩;by_cases g0:k'=0
    .simp_all
    .by_cases g1:k'%2=1
     .rw[(afZ _ _).2 g1,ZAK,ZAK]
     grind
section
variable {P : Program} {T : Tbl} {z : Z} {H : Hp} {β : Type} {all : List Oper} {ops : Array Oper}
def Le(a b:AV):Prop:=∀(z) v,ARep z a v->ARep z b v
theorem Le.refl(a):Le a a:=λ_ _ h=>h
theorem Le.trans{a b c}(h:Le a b)(k:Le b c):Le a c:=λz v x=>k z v (h z v x)
theorem Le.junk(a):Le a .junk:=λ_ v _=>.junk v
theorem Le.bool{a}{t}(h:a.bool? =some t):Le a (.b t):=λz v hv=>by
 rw[bTZ h hv];exact .mkB t
theorem sZZ(v):ARep z (AV.lit v) v:=by
 cases v<;>first|exact .mkI _ _|exact .mkB _|exact .junk _|exact .p _ _ _ ⟨_,⟨rfl,rfl⟩,rfl⟩|skip;rename_i s;exact .mkS s.data.toList
theorem gWZ:∀{l},oneCells l=true->∀v∈l,v.oneCell'=true
 |[],_,v,h=>by cases h
 |u::l,h,v,hv=>by
  have R:u.oneCell'=true/\oneCells l=true:=by
   cases u<;>first|exact⟨rfl,h⟩|cases h
  rcases ZAi.1 hv with rfl|hv
  .exact R.1
  .exact gWZ R.2 v hv
def opOf(t:Nat):Operand:=if t<1048576 then .tmp t else .global (t-1048576)
theorem fiZ{t}(h:t<1048576):opOf t= .tmp t:=ZAN h
theorem qxZ(g):opOf (1048576+g)= .global g:=by simp_all[opOf,ZA5]
theorem dXZ{st:St}{a:Act}(h:∀t,ARep z (st.tm.get t) (a.eval (opOf t)))(x):ARep z (st.opnd x) (a.eval x):=by
 cases x with
 |tmp t=>
  simp[St.opnd];cases hb:Nat.blt t 1048576
  .exact .junk _
  .rw[ZBb] at hb;have:=h t
   simp_all[fiZ]
 |const v=>
  by_cases hv:∃cs,v= .agg cs
  .obtain⟨cs,rfl⟩:=hv;simp only[St.opnd];cases R:oneCells cs.toList
   .exact .junk _
   .have h1:=gWZ R;refine .agg _ _ (by simp) (λv hv=>h1 v (ZBF.2 hv)) λi x v e1 e2=> ?_;have e2:=e2;rw[ZAY] at e1
    grind[ZAH,ZA7,ZAf,tBZ,ZAI]
  .have:st.opnd (.const v)= .lit v:=by
    cases v<;>first|rfl|simp_all
   rw[this];exact sZZ v
 |global g=>have:=h (1048576+g);rw[qxZ] at this;exact this
 |func f=>exact .fn f [] [] #[] #[] rfl rfl (λi x v h=>by grind) (λi x v h=>by grind)
theorem ukZ{a}{x}{v}(h:a.fnv? =some x)(ha:ARep z a v):∃R vc,v= .func (.func x.1) R vc/\AReps z x.2.1 R.toList/\AReps z x.2.2 vc.toList:=by
 unfold AV.fnv? at h;split at h
 .simp at h;subst h;cases ha with|fn _ _ _ R vc h1 h2 h3 h4=>
  exact⟨R,vc,rfl,⟨by simp[h1],λi x v p1 p2=>h3 i x v p1 (by simpa using p2)⟩,⟨by simp[h2],λi x v p1 p2=>h4 i x v p1 (by simpa using p2)⟩⟩
 .rename_i f l c;cases hb:(Nat.beq l.size 0&&Nat.beq c.size 0)<;>rw[hb] at h<;>simp only[bq_true,bq_false] at h
  .cases h
  simp[afZ] at hb;simp at h;subst h;obtain rfl:=ha.v.opq.1;exact⟨l,c,rfl,⟨by simp[hb.1],λi a v h=>by simp at h⟩,⟨by simp[hb.2],λi a v h=>by simp at h⟩⟩
 grind
theorem nfZ{f}:∀{T} {e},findF f T=some e->e∈T/\e.f=f
 |[],e,h=>by cases h
 |x::T,e,h=>by
  unfold findF at h;cases hb:Nat.beq x.f f<;>rw[hb] at h
  .let⟨h1,h2⟩:=nfZ h
   exact⟨ZAc _ h1,h2⟩
  simp_all
theorem szZ{T}{n}{f}{e}(h:tblAt T n f=some e):e∈T/\e.f=f:=by
 unfold tblAt at h;split at h
 .rename_i x hx;cases hb:Nat.beq x.f f<;>rw[hb] at h
  .exact nfZ h
  .simp[ZAV] at h;subst h;exact⟨ZAI hx,(afZ _ _).1 hb⟩
 grind
theorem twZ{o}{an}{r}{a}{K}{ad:β}{next}{Q}(hT:∀e∈T,Told P e)
 (h:evW P T o an r H K=some ad)(hH:HRep z H)(ae:∀id,rt id∈an.ids->¬z.D id)(ag:mkOp P o=true->¬z.D (an.ids.headD 0))(ah:∀m∈an.md,m<4\/¬z.D (m+100000))(hr:∀x,ARep z (r x) (a.eval x))
 (hk:∀x v H' z',HRep z' H'->Nx z z'->ARep z' x v->K x H'=some ad->next (a.put o.dst v) z'.w):o.wp P a z.w next Q:=by
 unfold Oper.wp;cases hc:isCall o
 .let⟨x,H',z',nx,h1,h2,h3,h4,h5⟩:=vwZ h hH ag hr hc
  rw[h1];rcases h4 with⟨v,rfl,hv⟩|⟨rfl,rfl⟩
  .exact hk x v H' z' h2 h3 hv h5
  .exact hk .junk undef H' z' h2 h3 (.junk _) h5
 .unfold isCall at hc;split at hc
  .rename_i c ho;split at hc
   .rename_i f ac;unfold evW at h;simp only[ho,ac] at h
    let⟨x,h1,h2⟩:=agZ.1 h
    let⟨va,vc,hv,q1,q2⟩:=ukZ h1 (hr f)
    split at h2
    .rename_i e he
     let⟨ai,hb⟩:=szZ he
     have aj:=hT e ai;have R:=pDZ aj h2 hH ae ah (.append (.append q1 (.map hr)) q2);have ab:va++c.args.map a.eval++vc=(va.toList++c.args.toList.map a.eval++vc.toList).toArray:=by
      apply ZBx;simp
     rcases R with⟨⟨fn,cd,e1,e2,e3⟩,R⟩|⟨v,w',af,v',x',H',z',ak,rfl,p1,p2,p3,p4⟩
     rotate_left
     .have aa:(execOp a.eval o).run P z.w= .ok (.value v) z'.w:=by
       unfold execOp;simp only[ho,resolve,ac,hv,Deferred.ofValue,Sem.run_bind,Sem.run_pure,Result.andThen_ok,invoke];rw[<-hb,ab];exact af
      rw[aa];cases ak;exact hk x' v H' z' p1 p2 p3 p4
     have aa:(execOp a.eval o).run P z.w= .ok (.enter e.f (va.toList++c.args.toList.map a.eval++vc.toList).toArray) z.w:=by
      have al:fn.body.isNone=false:=by rw[e2];rfl
      have ab:va++c.args.map a.eval++vc=(va.toList++c.args.toList.map a.eval++vc.toList).toArray:=by
       apply ZBx;simp
      unfold execOp;simp only[ho,resolve,ac,hv,Deferred.ofValue,Sem.run_bind,Sem.run_pure,Result.andThen_ok,invoke,callFunc,run_program];rw[<-hb] at*;simp only[e1,e3,al,ab]
      rfl
     rw[aa];show Calls P e.f _ z.w _;refine R.mono ?_;rintro en w' ⟨v,x',H',z',rfl,rfl,p1,p2,p3,p4⟩;exact hk x' v H' z' p1 p2 p3 p4
    .cases h2
   .cases hc
  simp_all
theorem t1Z{o}{r}{a}{K}{R:β}{next}{Q}(h:evR P o r H K=some R)(hH:HRep z H)(hr:∀x,ARep z (r x) (a.eval x))
 (hk:∀x v,ARep z x v->K x=some R->next (a.put o.dst v) z.w):o.wp P a z.w next Q:=by
 unfold Oper.wp
 let⟨x,v,h1,h2,h3⟩:=vjZ h hH hr
 rw[h1];exact hk x v h2 h3
def Inv(R:Z)(N:Nat)(L:List (Nat×AV))(st:St)(a:Act)(w:World):Prop:=
 ∃z,z.w=w/\Nx R z/\(∀id,¬z.D id)/\HRep z st.hp/\(∀t,ARep z (st.tm.get t) (a.eval (opOf t)))/\(∀p∈L,ARep z p.2 (a.eval (opOf p.1)))/\a.defers=[]/\(st.nt<=N/\a.tmps.size=N)/\∀id,id<dynBase->R.ρ id≠.no->id<st.n0
theorem iqZ{a:Act}{d}{v}(h:d<a.tmps.size):(a.put (some d) v).eval (.tmp d)=v:=by
 simp[Act.eval,Act.put,h]
theorem dSZ{a:Act}{d}{v}(h:d<a.tmps.size)(hb:d<1048576):(a.put (some d) v).eval (opOf d)=v:=by
 simp_all[fiZ,iqZ]
theorem dcZ{a:Act}{o:Option Tmp}{t:Nat}{v}(h:o≠some t):(a.put o v).eval (opOf t)=a.eval (opOf t):=by
 cases o with
 |none=>rfl
 |some d=>
  have:d≠t:=λe=>h (by rw[e]);by_cases ht:t<1048576
  .rw[fiZ ht];simp[Act.eval,Act.put,Array.getElem?_setIfInBounds_ne this]
  .rw[opOf,ZAM ht]
   rfl
theorem put_ok{R}{nt}{a:Act}{o:Option Tmp}{x}{v}(h:∀t,ARep z (R.get t) (a.eval (opOf t)))(hd:dstOk nt o=true)(hn:nt<=a.tmps.size)(hx:ARep z x v):
 ∀t,ARep z ((St.putO ⟨R,nt,0,[]⟩ o x).tm.get t) ((a.put o v).eval (opOf t)):=by
 intro t;cases o with
 |none=>exact h t
 |some d=>
  simp[dstOk,ZBb] at hd;simp[St.putO];by_cases ht:t=d
  .subst ht;rw[dSZ (by omega) hd.2];rcases(Tr.get_put R t x t).2 with e|e<;>rw[e]
   .exact hx
   .exact .junk _
  simp_all[Tr.get_put,dcZ,ZBh]
theorem dbZ(st:St)(o)(x):(st.putO o x).tm=(St.putO ⟨st.tm,st.nt,0,[]⟩ o x).tm/\(st.putO o x).nt=st.nt/\(st.putO o x).n0=st.n0/\(st.putO o x).hp=st.hp:=by
 cases o<;>exact⟨rfl,rfl,rfl,rfl⟩
theorem fGZ(a:Act)(o)(v):(a.put o v).tmps.size=a.tmps.size/\(a.put o v).defers=a.defers:=by
 cases o<;>simp[Act.put]
theorem Inv.put{z0 z'}{N}{L:List (Nat×AV)}{st:St}{a:Act}{o:Option Tmp}{x:AV}{v:Value}{H':Hp}(hn:Nx z0 z')(hD:∀id,¬z'.D id)(hH:HRep z' H')(hs:∀t,ARep z' (st.tm.get t) (a.eval (opOf t)))
 (hL:∀p∈L,ARep z' p.2 (a.eval (opOf p.1)))(ad:∀p∈L,o≠some p.1)(aa:a.defers=[])(R:st.nt<=N/\a.tmps.size=N)(h0:∀id,id<dynBase->z0.ρ id≠.no->id<st.n0)(hd:dstOk st.nt o=true)(hx:ARep z' x v):
 Inv z0 N L {st.putO o x with hp:=H'} (a.put o v) z'.w:=by
 obtain⟨e1,e2,e3,e4⟩:=dbZ st o x;refine⟨z',rfl,hn,hD,hH,?_,λp hp=> ?_,(fGZ a o v).2.trans aa,⟨by show(st.putO o x).nt<=N;rw[e2];exact R.1,by rw[(fGZ a o v).1];exact R.2⟩,λid ab ac=>by show id<(st.putO o x).n0;rw[e3];exact h0 id ab ac⟩
 .show∀t,ARep z' ((st.putO o x).tm.get t) _;rw[e1];exact put_ok hs hd (by rw[R.2];exact R.1) hx
 grind[dcZ]
theorem vfZ{o}{an}{z0}{N}{L}{st}{a}{w}{K}{R:β}{next}{Q}(hT:∀e∈T,Told P e)
 (h:ev1 P T o an st K=some R)(hd:dstOk st.nt o.dst=true)(hi:Inv z0 N L st a w)(hL:∀p∈L,o.dst≠some p.1)(hk:∀aa a' w',K aa=some R->Inv z0 N L aa a' w'->next a' w'):o.wp P a w next Q:=by
 obtain⟨z,rfl,hn,hD,hH,hs,ab,ac,ad,h0⟩:=hi;unfold ev1 at h;cases hR:isR P o<;>rw[hR] at h<;>simp[bq_false] at h
 .refine twZ hT h hH (λid _=>hD id) (λ_=>hD _) (λ_ _=>.inr (hD _)) (dXZ hs) λx v H' z' h1 h2 h3 h4=> ?_;have kp:=h2.kp hH.sub;exact hk _ _ _ h4 (.put (hn.trans h2) (λid=>by rw[h2.dom];simp_all) h1 (λt=>(hs t).kp kp) (λp hp=>(ab p hp).kp kp) hL ac ad h0 hd h3)
 .refine t1Z h hH (dXZ hs) λx v h1 h2=> ?_;have:=Inv.put hn hD hH hs ab hL ac ad h0 hd h1;refine hk _ _ _ h2 ?_;have e:({st.putO o.dst x with hp:=st.hp}:St)=st.putO o.dst x:=by cases o.dst<;>rfl
  simp_all
def GuardIs(all:List Oper)(o:Oper)(aa:Nat->AV)(b:Bool):Prop:=
 (o.guard=none/\b=true)\/∃j R d,o.guard=some (j,R)/\(all[j]?).bind (·.dst)=some d/\d<1048576/\((aa d= .tup []/\b=false)\/∃t,(aa d).bool? =some t/\b=(t==R))
theorem GuardIs.wanted{o}{aa}{b}{a:Act}(h:GuardIs ops.toList o aa b)(hs:∀j R d,o.guard=some (j,R)->(ops.toList[j]?).bind (·.dst)=some d->ARep z (aa d) (a.eval (opOf d))):
 Region.wanted o (yielded ops a.tmps)=b:=by
 rcases h with⟨h1,rfl⟩|⟨j,R,d,h1,h2,ab,h3⟩
 .simp[Region.wanted,h1]
 .have hd:=hs j R d h1 h2;rw[fiZ ab] at hd;have e:(ops[j]?).bind (·.dst)=some d:=by rw[<-Array.getElem?_toList];exact h2
  simp[Region.wanted,h1,yielded,e];simp only[Act.eval] at hd;rcases h3 with⟨h3,rfl⟩|⟨t,h3,rfl⟩
  .rw[h3] at hd;cases hv:a.tmps[d]? with
   |none=>rfl
   |some v=>
    have e2:a.tmps.getD d undef=v:=by simp[hv]
    rw[e2] at hd;cases hd
    rfl
  .have hb:=bTZ h3 hd;cases hv:a.tmps[d]? with
   |none=>
    have e2:a.tmps.getD d undef=undef:=by simp[hv]
    rw[e2] at hb;cases hb
   |some v=>
    have e2:a.tmps.getD d undef=v:=by simp[hv]
    rw[e2] at hb;subst hb;cases t<;>cases R<;>rfl
theorem tzZ{o}{st}{go skip}{ab:β}(h:evG all o st go skip=some ab):
 dstOk st.nt o.dst=true/\∃aa b,aa.hp=st.hp/\aa.nt=st.nt/\aa.n0=st.n0/\(∀t,Le (st.tm.get t) (aa.tm.get t))/\GuardIs all o st.tm.get b/\((b=true/\go aa=some ab)\/(b=false/\skip (aa.skip o)=some ab)):=by
 unfold evG at h;cases hd:dstOk st.nt o.dst<;>rw[hd] at h<;>simp only[bq_true,bq_false] at h
 .cases h
 refine⟨rfl,?_⟩;split at h
 .rename_i hg;exact⟨st,true,rfl,rfl,rfl,λ_=>.refl _,.inl ⟨hg,rfl⟩,.inl ⟨rfl,h⟩⟩
 .rename_i j R hg
  let⟨d,h1,h2⟩:=agZ.1 h
  let⟨oj,h3,h4⟩:=agZ.1 h1
  let⟨ac,h2⟩:=acZ.1 h2
  rw[ZBb] at ac;have hj:(all[j]?).bind (·.dst)=some d:=by rw[h3];exact h4
  split at h2
  .rename_i ht;exact⟨st,false,rfl,rfl,rfl,λ_=>.refl _,.inr ⟨j,R,d,hg,hj,ac,.inl ⟨ht,rfl⟩⟩,.inr ⟨rfl,h2⟩⟩
  .rename_i ht
   let⟨t,h5,h6⟩:=agZ.1 h2
   have ad:∀k,Le (st.tm.get k) ((st.tm.put d (.b t)).get k):=λk=>by
    by_cases hk:k=d
    .subst hk;rcases(Tr.get_put st.tm k (.b t) k).2 with e|e<;>rw[e]
     .exact .bool h5
     .exact .junk _
    .rw[(Tr.get_put st.tm d (.b t) k).1 hk];exact .refl _
   refine⟨{st with tm:=st.tm.put d (.b t)},t==R,rfl,rfl,rfl,ad,.inr ⟨j,R,d,hg,hj,ac,.inr ⟨t,h5,rfl⟩⟩,?_⟩;cases t<;>cases R<;>simp[bq_false] at h6
   .exact .inl ⟨rfl,h6⟩
   .exact .inr ⟨rfl,h6⟩
   .exact .inr ⟨rfl,h6⟩
   .exact .inl ⟨rfl,h6⟩
theorem nzZ:ARep z (.tup []) undef:=.tup [] #[] rfl λi x v h=>by grind
theorem Inv.le{z0}{N}{L}{st R}{a}{w}(hi:Inv z0 N L st a w)(h1:R.hp=st.hp)(h2:R.nt=st.nt)(h3:R.n0=st.n0)(h4:∀t,Le (st.tm.get t) (R.tm.get t)):Inv z0 N L R a w:=by
 obtain⟨z,rfl,hn,hD,hH,hs,aa,ab,ac,h0⟩:=hi;exact⟨z,rfl,hn,hD,by simp_all,λt=>h4 t _ _ (hs t),aa,ab,by omega,by simp_all⟩
theorem Inv.skip{z0}{N}{L}{st}{a}{w}{o:Oper}(hi:Inv z0 N L st a w)(hd:dstOk st.nt o.dst=true)(hL:∀p∈L,o.dst≠some p.1):Inv z0 N L (st.skip o) (a.put o.dst undef) w:=by
 obtain⟨z,rfl,hn,hD,hH,hs,R,aa,ab,h0⟩:=hi;have:=Inv.put hn hD hH hs R hL aa ab h0 hd (nzZ);have e:({st.putO o.dst (.tup []) with hp:=st.hp}:St)=st.skip o:=by unfold St.skip;cases o.dst<;>rfl
 simp_all
theorem guZ{z0}{N}{L}{K}{res:β}{Q}(hT:∀e∈T,Told P e){tail}(hk:∀st' a' w',K st'=some res->Inv z0 N L st' a' w'->wpOps P ops Q tail a' w'):
 ∀(l:List (Oper×Ann)) (k),(∀(i) x,l[i]? =some x->ops[k+i]? =some x.1)->(∀x∈l,∀p∈L,x.1.dst≠some p.1)->∀(st) (a) (w),evOps P T l ops.toList st K=some res->Inv z0 N L st a w->
  wpOps P ops Q (List.range' k l.length++tail) a w
 |[],k,_,_,st,a,w,h,hi=>hk st a w h hi
 |(o,an)::l,k,hl,hL,st,a,w,h,hi=>by
  simp[evOps] at h
  let⟨hd,st1,b,e1,e2,e3,e4,hg,hb⟩:=tzZ h
  have ho:=by have:=hl 0 (o,an) rfl;simpa using this
  have hrest:∀(i) x,l[i]? =some x->ops[k+1+i]? =some x.1:=λi x hx=>by
   have:=hl (i+1) x hx
   grind
  have hLo:=hL (o,an) (by simp);have hw:Region.wanted o (yielded ops a.tmps)=b:=by
   let⟨z,_,_,_,_,hs,_⟩:=hi
   exact hg.wanted λj want d _ _=>hs d
  have hi1:=hi.le e1 e2 e3 e4;simp[List.range'_succ,wpOps,ho,hw];rcases hb with⟨rfl,hgo⟩|⟨rfl,hsk⟩
  .simp[ZCn];refine .inl (vfZ hT hgo (by rw[e2];exact hd) hi1 hLo λst' a' w' h' hi'=> ?_);exact guZ hT hk l (k+1) hrest (λx hx=>hL x (by simp[hx])) st' a' w' h' hi'
  .simp only[ZBJ,ZCc];exact guZ hT hk l (k+1) hrest (λx hx=>hL x (by simp[hx])) _ _ w hsk (hi1.skip (by rw[e2];exact hd) hLo)
theorem s5Z{z0}{N}{L}{K}{R:β}{Q}(hT:∀e∈T,Told P e)(hk:∀aa a' w',K aa=some R->Inv z0 N L aa a' w'->Q .normal a' w')
 (l:List (Oper×Ann))(k)(h1:∀(i) x,l[i]? =some x->ops[k+i]? =some x.1)(h2:∀x∈l,∀p∈L,x.1.dst≠some p.1)(st)(a)(w)(h:evOps P T l ops.toList st K=some R)(hi:Inv z0 N L st a w):
  wpOps P ops Q (List.range' k l.length) a w:=by
 have:=guZ (tail:=[]) hT hk l k h1 h2 st a w h hi
 simp_all
end
section
variable {P : Program} {T : Tbl} {z : Z} {H : Hp} {β : Type} {all : List Oper} {ops : Array Oper}
theorem bWZ{R β:Type}{f g:R->β}{l:List R}(h:∀x∈l,f x=g x):l.map f=l.map g:=ZCg h
theorem qEZ{o}{r R}{K:AV->Option β}(h:∀x∈o.op.operands,r x=R x):evR P o r H K=evR P o R H K:=by
 let⟨ad,op,ac,pos,aa,ab⟩:=o
 cases op<;>simp[Op.operands] at h<;>simp[evR]
 case build t ps=>
  grind[bWZ,ZBf]
 case makeFunc f a c=>
  have e1:a.toList.map r=a.toList.map R:=bWZ λx hx=>h x (by simp[ZBF.1 hx]);have e2:c.toList.map r=c.toList.map R:=bWZ λx hx=>h x (by simp[ZBF.1 hx])
  grind
 case slice t x lo hi mx=>cases lo<;>cases hi<;>cases mx<;>simp_all
 case call c=>
  have e1:c.args.toList.map r=c.args.toList.map R:=bWZ λx hx=>h x (by simp[Call.operands,ZBF.1 hx]);have e2:∀a,c.args.toList=[a]->r a=R a:=λa ha=>by
   rw[ha] at e1;simpa using e1
  rw[e1];split<;>grind
 all_goals simp_all
theorem rgZ{o}{an}{r R}{K:AV->Hp->Option β}(h:∀x∈o.op.operands,r x=R x):evW P T o an r H K=evW P T o an R H K:=by
 let⟨ad,op,ac,pos,aa,ab⟩:=o
 cases op<;>simp[Op.operands] at h<;>simp[evW]
 case buildSlice t n ps=>
  grind[bWZ,ZBf]
 case makeMap t q=>cases q<;>simp_all
 case call c=>
  have e1:c.args.toList.map r=c.args.toList.map R:=bWZ λx hx=>h x (by simp[Call.operands,ZBF.1 hx]);have e2:∀a b,c.args.toList=[a,b]->r a=R a/\r b=R b:=λa b ha=>by
   simp_all
  split
  .grind
  .grind
  .grind
  .rename_i f hc;rw[e1,h f (by simp[Call.operands,hc])]
  .rfl
 all_goals simp_all
structure Rc where
 i:Nat
 o:Oper
 an:Ann
 pre:Nat->AV
 st:St
 go:Bool
 x:AV
 H2:Option Hp
def Rc.ft(r:Rc):List Nat:=foot r.o r.an r.st.opnd
def Rc.wr(r:Rc):List Nat:=wrIds r.st.hp r.ft
theorem dtZ(H)(id):∀l,memN id (fzIds H l)=(memN id l&&isFz H id)/\memN id (wrIds H l)=(memN id l&& !isFz H id)
 |[]=>⟨rfl,rfl⟩
 |i::l=>by
  let⟨h1,h2⟩:=dtZ H id l
  unfold fzIds wrIds;by_cases h:id=i
  .subst h;cases hf:isFz H id<;>simp[memN,h1,h2,hf]
  .have e:=ahZ (ZBh h);cases hf:isFz H i<;>simp[memN,h1,h2,e]
theorem lQZ{H}{i}(h:isFz H i=true):i<famBase/\∃b,hget H i=some ⟨true,b⟩:=by
 unfold isFz at h;rw[ZAF,ZBb] at h
 grind
def Rc.tmE(t:Nat)(r:Rc):Option AV:=if r.o.dst=some t then some r.x else none
def Rc.hpE(id:Nat)(r:Rc):Option (Bool×Option Ent):=
 match r.H2 with
 |some H2=>if memN id r.wr=true then some (true,if hkey H2 id=true then hget H2 id else none) else none
 |none=>none
def layF{R:Type}(f:Rc->Option R):List Rc->R->R
 |[],b=>b
 |r::l,b=>layF f l ((f r).getD b)
def hpAt(H:Hp)(id:Nat):Bool×Option Ent:=(hkey H id,hget H id)
structure Rc.Ok (P:Program) (T:Tbl) (all:List Oper) (r:Rc):Prop where
 dst:dstOk r.st.nt r.o.dst=true
 grd:GuardIs all r.o r.pre r.go
 le:∀t,Le (r.pre t) (r.st.tm.get t)
 no:r.go=false->r.x= .tup []/\r.H2=none
 yes:r.go=true->(isR P r.o=true/\evR P r.o r.st.opnd (hsub r.st.hp r.ft) some=some r.x/\r.H2=none)\/
  (isR P r.o=false/\(mkOp P r.o=true->r.an.ids≠[])/\mdIn r.an.md r.ft=true/\∃Hr,r.H2=some Hr/\evW P T r.o r.an r.st.opnd (hsub r.st.hp r.ft) (fun x H=>some (x,H))=some (r.x,Hr)/\(allIn (hkeys Hr) r.ft=true/\statN r.ft=true))
def fpsOf(P:Program):List Rc->List Fp
 |[]=>[]
 |r::l=>if r.go=true then⟨r.i,r.ft,bq (isR P r.o) [] r.wr⟩::fpsOf P l else fpsOf P l
theorem lwZ{t}:∀{l} {a b},Le a b->Le (layF (Rc.tmE t) l a) (layF (Rc.tmE t) l b)
 |[],a,b,h=>h
 |r::l,a,b,h=>lwZ (l:=l) (by
   cases r.tmE t with
   |none=>exact h
   |some x=>exact .refl _)
theorem njZ:∀(l) (st) (fs) {K} {ae:β},evOpsD P T l all st fs K=some ae->
 ∃(aa:List Rc) (ab:St),aa.map (λr=>(r.i,r.o))=l.map (λx=>(x.1,x.2.1))/\(∀r∈aa,r.Ok P T all)/\K ab ((fpsOf P aa).reverse++fs)=some ae/\
  (∀l1 r l2,aa=l1++r::l2->(∀t,Le (layF (Rc.tmE t) l1 (st.tm.get t)) (r.pre t))/\(∀id,layF (Rc.hpE id) l1 (hpAt st.hp id)=hpAt r.st.hp id)/\r.st.nt=st.nt)/\
  (∀t,Le (layF (Rc.tmE t) aa (st.tm.get t)) (ab.tm.get t))/\(∀id,layF (Rc.hpE id) aa (hpAt st.hp id)=hpAt ab.hp id)/\ab.nt=st.nt/\ab.n0=st.n0
 |[],st,fs,K,ae,h=>⟨[],st,rfl,λr h=>(by cases h),h,λl1 r l2 h=>(by simp_all),λt=>.refl _,λid=>rfl,rfl,rfl⟩
 |(i,o,an)::l,st,fs,K,ae,h=>by
  simp[evOpsD] at h
  let⟨hd,R,b,e1,e2,e3,e4,hg,hb⟩:=tzZ h
  generalize hA:an.at R.hp=an' at hb;have step:∃(r:Rc) (ac:St) (ah:List Fp),r.i=i/\r.o=o/\r.pre=st.tm.get/\r.st=R/\r.Ok P T all/\evOpsD P T l all ac ah K=some ae/\(∀t,Le ((r.tmE t).getD (st.tm.get t)) (ac.tm.get t))/\
   (∀id,(r.hpE id).getD (hpAt st.hp id)=hpAt ac.hp id)/\ac.nt=st.nt/\ac.n0=st.n0/\ah=fpsOf P [r]++fs:=by
   have ad:∀(x) t,Le ((if o.dst=some t then some x else none:Option AV).getD (st.tm.get t)) ((R.putO o.dst x).tm.get t):=λx t=>by
    cases ho:o.dst with
    |none=>simp[St.putO];exact e4 t
    |some d=>
     simp[St.putO];by_cases ai:d=t
     .subst ai;rw[ZAN rfl];rcases(Tr.get_put R.tm d x d).2 with e|e<;>rw[e]
      .exact .refl _
      .exact .junk _
     .rw[ZAM ai,(Tr.get_put R.tm d x t).1 (ZBh ai)];exact e4 t
   rcases hb with⟨rfl,af⟩|⟨rfl,ak⟩
   .unfold ev1D at af;cases hR:isR P o<;>rw[hR] at af<;>simp[bq_false] at af
    .let⟨h1,h2⟩:=acZ.1 af
     let⟨x,Hr,h3,h4⟩:=ucZ h2
     let⟨h5,h6⟩:=acZ.1 h4
     simp[ZAj] at h1
     let r:Rc:=⟨i,o,an',st.tm.get,R,true,x,some Hr⟩
     have ag:r.Ok P T all:=⟨by show dstOk R.nt o.dst=true;rw[e2];exact hd,hg,e4,λh=>(by cases h),λ_=>.inr ⟨hR,λhm al=>(by
      rcases h1.1 with h|h
      .rw[hm] at h;cases h
      .rw[(al)] at h;cases h),h1.2,Hr,rfl,h3,Bool.and_eq_true_iff.1 h5⟩⟩
     refine⟨r,_,_,rfl,rfl,rfl,rfl,ag,h6,λt=>ad x t,λid=> ?_,?_,?_,?_⟩
     .show(Rc.hpE id r).getD (hpAt st.hp id)=hpAt (setAll (setAll (killAll R.hp (foot o an' R.opnd)) Hr) (hsub R.hp (fzIds R.hp (foot o an' R.opnd)))) id;unfold hpAt;rw[aIZ,aOZ,aIZ,aOZ,aNZ,bbZ,(bUZ _ _ id).1,(bUZ _ _ id).2,(dtZ R.hp id _).1,<-e1];simp only[Rc.hpE,Rc.ft,Rc.wr,r,(dtZ R.hp id _).2];by_cases hm:memN id (foot o an' R.opnd)=true
      .cases hz:isFz R.hp id
       .simp[hm]
       .let⟨_,b,hb⟩:=lQZ hz
        simp[hm,aiZ hb]
      .have hk:hkey Hr id=false:=by
        cases hk:hkey Hr id
        .rfl
        .exact absurd (ajZ.2 (caZ.1 (Bool.and_eq_true_iff.1 h5).1 id (etZ.1 hk))) hm
       simp[hm,hk]
     .show(R.putO o.dst x).nt=st.nt;rw[(dbZ R o.dst x).2.1,e2]
     .show(R.putO o.dst x).n0=st.n0;rw[(dbZ R o.dst x).2.2.1,e3]
     .simp[fpsOf,r,Rc.ft,Rc.wr,hR,e1]
    .let⟨h1,h2⟩:=acZ.1 af
     let⟨x,h3,h4⟩:=ujZ h1 h2
     let r:Rc:=⟨i,o,an',st.tm.get,R,true,x,none⟩
     have ag:r.Ok P T all:=⟨by show dstOk R.nt o.dst=true;rw[e2];exact hd,hg,e4,λh=>(by cases h),λ_=>.inl ⟨hR,h3,rfl⟩⟩;refine⟨r,_,_,rfl,rfl,rfl,rfl,ag,h4,λt=>ad x t,λid=> ?_,?_,?_,?_⟩
     .show hpAt st.hp id=hpAt (R.putO o.dst x).hp id;rw[(dbZ R o.dst x).2.2.2,e1]
     .rw[(dbZ R o.dst x).2.1,e2]
     .rw[(dbZ R o.dst x).2.2.1,e3]
     .simp[fpsOf,r,Rc.ft,hR]
   .let r:Rc:=⟨i,o,an',st.tm.get,R,false,.tup [],none⟩
    have ag:r.Ok P T all:=⟨by show dstOk R.nt o.dst=true;rw[e2];exact hd,hg,e4,λ_=>⟨rfl,rfl⟩,λh=>(by cases h)⟩;refine⟨r,_,_,rfl,rfl,rfl,rfl,ag,ak,λt=>ad (.tup []) t,λid=> ?_,?_,?_,?_⟩
    .show hpAt st.hp id=hpAt (R.putO o.dst (.tup [])).hp id;rw[(dbZ R o.dst (.tup [])).2.2.2,e1]
    .show(R.putO o.dst (.tup [])).nt=st.nt;rw[(dbZ R o.dst (.tup [])).2.1,e2]
    .show(R.putO o.dst (.tup [])).n0=st.n0;rw[(dbZ R o.dst (.tup [])).2.2.1,e3]
    .simp[fpsOf,r]
  let⟨r,ac,ah,r1,r2,r4,r5,r6,r7,r8,r9,aj,am,ao⟩:=step
  let⟨aa,ab,q1,q2,q3,q4,q5,q6,q7,q8⟩:=njZ l ac ah r7
  refine⟨r::aa,ab,by simp[r1,r2,q1],λx hx=> ?_,?_,λl1 r' l2 he=> ?_,λt=> ?_,λid=> ?_,q7.trans aj,q8.trans am⟩
  .rcases ZAi.1 hx with rfl|hx
   .exact r6
   .exact q2 x hx
  .rw[ao] at q3;have:(fpsOf P (r::aa)).reverse++fs=(fpsOf P aa).reverse++(fpsOf P [r]++fs):=by
    simp only[fpsOf];split<;>simp
   rw[this];exact q3
  .cases l1 with
   |nil=>
    simp only[ZBX,ZBS] at he;obtain⟨rfl,rfl⟩:=he;exact⟨λt=>by rw[r4];exact .refl _,λid=>by rw[r5,e1];rfl,by rw[r5];exact e2⟩
   |cons r0 l1=>
    simp only[List.cons_append,ZBS] at he;obtain⟨rfl,he⟩:=he
    let⟨a1,a2,a3⟩:=q4 l1 r' l2 he
    refine⟨λt=> ?_,λid=> ?_,a3.trans aj⟩
    .exact(lwZ (r8 t)).trans (a1 t)
    .simp only[layF];rw[r9];exact a2 id
  .exact(lwZ (r8 t)).trans (q5 t)
  .simp only[layF];rw[r9];exact q6 id
theorem g9Z{cl}:∀{l},pairsOk cl l=true->l.Pairwise λb a=>pairOk cl a b=true
 |[],_=>.nil
 |b::l,h=>by
  simp[pairsOk,ZCM] at h;exact .cons h.1 (g9Z h.2)
theorem jzZ{a}:∀{l},nmAll a l=true->∀b∈l,memN a.i b.cl=true\/apartN a b=true
 |[],_,b,h=>by cases h
 |c::l,h,b,hb=>by
  simp[nmAll,ZA6] at h;rcases ZAi.1 hb with rfl|hb
  .exact h.1
  .exact jzZ h.2 b hb
theorem kvZ:∀{l},nmsOk l=true->l.Pairwise λa b=>memN a.i b.cl=true\/apartN a b=true
 |[],_=>.nil
 |a::l,h=>by
  simp[nmsOk] at h;exact .cons (jzZ h.1) (kvZ h.2)
def Rc.nm(cl:List (Nat×List Nat))(all:List Oper)(r:Rc):Nm:=⟨r.i,(cl.lookup r.i).getD [],guardOf all r.o++tmpsOf r.o.op.operands.toList,r.o.dst⟩
theorem t8Z{cl}:∀{R:List Rc} {l:List (Oper×Ann)} {k},R.map (λr=>(r.i,r.o))=(numb k l).map (λx=>(x.1,x.2.1))->nms cl all k (l.map (·.1))=R.map (Rc.nm cl all)
 |[],[],k,_=>rfl
 |[],_::_,k,h=>by grind[numb]
 |_::_,[],k,h=>by grind[numb]
 |r::R,(o,an)::l,k,h=>by
  simp[numb,ZA1] at h;obtain⟨⟨rfl,rfl⟩,h⟩:=h;simp[nms,t8Z h]
  rfl
theorem pVZ{R}:∀{l:List R} {k},(numb k l).Pairwise λa b=>a.1<b.1
 |[],k=>.nil
 |a::l,k=>.cons (λb hb=>by
   have:∀{l} {k} {b:Nat×R},b∈numb k l->k<=b.1:=λ{l}=>by
    induction l with
    |nil=>intro k b h;cases h
    |cons a l ih=>
     intro k b h;rcases ZAi.1 h with rfl|h
     .exact ZAL _
     .exact Nat.le_of_succ_le (ih h)
   grind) pVZ
theorem inZ{R}:∀{l:List R} {k i},(numb k l)[i]? =(l[i]?).map λa=>(k+i,a)
 |[],k,i=>by simp[numb]
 |a::l,k,0=>by simp[numb]
 |a::l,k,i+1=>by
  simp[numb,inZ];congr 1;rw[show k+1+i=k+(i+1) by omega]
def edgesIn(all:List Oper)(S:Nat->Prop)(j:Nat):Prop:=∀o,all[j]? =some o->∀e∈o.after,Region.binds .any e=true->S e.on
theorem iLZ{done}:∀{es} {k},k∈closN done es->∃e∈es,Region.binds .any e=true/\(k=e.on\/k∈(done.lookup e.on).getD [])
 |[],k,h=>by cases h
 |e::es,k,h=>by
  simp[closN] at h;cases hb:Region.binds .any e<;>rw[hb] at h<;>simp only[bq_true,bq_false] at h
  .let⟨e',h1,h2⟩:=iLZ h
   exact⟨e',ZAc _ h1,h2⟩
  .rcases ZAi.1 h with rfl|h
   .exact⟨e,ZAo,hb,.inl rfl⟩
   .rcases ZAg.1 h with h|h
    .exact⟨e,ZAo,hb,.inr h⟩
    .let⟨e',h1,h2⟩:=iLZ h
     exact⟨e',ZAc _ h1,h2⟩
theorem r0Z{S}(hc:∀j,S j->edgesIn all S j):∀(l) (k) (done),(∀i,l[i]? =all[k+i]?)->(∀j,edgesIn all S j->∀m∈(done.lookup j).getD [],S m)->
 ∀j,edgesIn all S j->∀m∈((clos k l done).lookup j).getD [],S m
 |[],k,done,_,hd=>hd
 |o::l,k,done,hl,hd=>by
  refine r0Z hc l (k+1) _ (λi=>by have:=hl (i+1);grind) λj R m hm=> ?_;simp[List.lookup_cons] at hm;cases hk:(j==k)
  .grind
  .have:=by simpa using hk
   subst this;simp[eHZ] at hm
   let⟨e,h1,h2,h3⟩:=iLZ hm
   have he:=R o (by have:=hl 0;simpa using this.symm) e (ZBF.1 h1) h2
   grind
end
section
variable {P : Program} {T : Tbl} {β : Type} {ops : Array Oper}
theorem eeZ{ν}{f}{S:Nat->Bool}:∀{l} {b:ν},(∀r∈l,(f r).isSome=true->S r.i=true)->layF f (l.filter λr=>S r.i) b=layF f l b
 |[],b,_=>rfl
 |r::l,b,h=>by
  have h':=λx hx=>h x (ZAc _ hx);cases R:S r.i
  .rw[List.filter_cons_of_neg (by simp[R])];have hn:f r=none:=by
    cases hf:f r with
    |none=>rfl
    |some v=>have:=h r ZAo (by rw[hf];rfl);rw[R] at this;cases this
   rw[eeZ h'];simp[layF,hn]
  .rw[ZBv (by simp[R])];exact eeZ h'
theorem eLZ{ν}{f}{S:Nat->Bool}:∀{l:List Rc} {b:ν},(∀r∈l,(f r).isSome=true->S r.i=false)->layF f (l.filter λr=>S r.i) b=b
 |[],b,_=>rfl
 |r::l,b,h=>by
  have h':=λx hx=>h x (ZAc _ hx);cases R:S r.i
  .rw[List.filter_cons_of_neg (by simp[R])];exact eLZ h'
  .rw[ZBv (by simp[R])];have hn:f r=none:=by
    cases hf:f r with
    |none=>rfl
    |some v=>have:=h r ZAo (by rw[hf];rfl);rw[R] at this;cases this
   simp[layF,hn];exact eLZ h'
theorem cbZ{R}{f}:∀{l m} {b:R},layF f (l++m) b=layF f m (layF f l b)
 |[],m,b=>rfl
 |r::l,m,b=>by simp[layF];exact cbZ
theorem kFZ{ν}{f}{S:Nat->Bool}{l1 R}{r}{b:ν}(hr:S r.i=false)(h1:∀x∈l1,(f x).isSome=true->S x.i=true)(h2:∀x∈R,(f x).isSome=true->S x.i=false):
 layF f ((l1++r::R).filter λr=>S r.i) b=layF f l1 b:=by
 simp_all[cbZ,eeZ,eLZ]
theorem gRZ{ν}{f}{S S':Nat->Bool}{l1 R}{r}{b:ν}(hr:S r.i=false)(hS:S' r.i=true)(aa:∀x∈l1,S' x.i=S x.i)(ab:∀x∈R,S' x.i=S x.i):
 (∀v,f r=some v->(∀x∈R,(f x).isSome=true->S x.i=false)->layF f ((l1++r::R).filter λr=>S' r.i) b=v)/\
 (f r=none->layF f ((l1++r::R).filter λr=>S' r.i) b=layF f ((l1++r::R).filter λr=>S r.i) b):=by
 have e1:(l1.filter λr=>S' r.i)=l1.filter λr=>S r.i:=List.filter_congr λx hx=>by simp_all
 have e2:(R.filter λr=>S' r.i)=R.filter λr=>S r.i:=List.filter_congr λx hx=>by simp_all
 refine⟨λv hv h2=> ?_,λhv=> ?_⟩
 .rw[ZCh,ZBv (by simp[hS]),cbZ,e2]
  simp_all[layF,eLZ]
 .rw[ZCh,ZBv (by simp[hS]),cbZ,ZCh,cbZ]
  simp_all[layF]
theorem gLZ:∀{l} {k},edgesOk k l=true->∀(i) o,l[i]? =some o->(∀e∈o.after,Region.binds .any e=true->e.on<k+i)/\∀cs b,o.op≠.select cs b
 |[],k,_,i,o,h=>by grind
 |x::l,k,h,i,o,R=>by
  simp[edgesOk] at h
  let⟨⟨h1,h2⟩,h3⟩:=h
  cases i with
  |zero=>
   simp[ZAV] at R;subst R;refine⟨λe he hb=> ?_,λcs b hs=>by simp_all⟩;have:∀{es},edgesLt k es=true->∀e∈es,Region.binds .any e=true->e.on<k:=λ{es}=>by
    induction es with
    |nil=>simp_all
    |cons e0 es ih=>
     intro h e he hb;simp[edgesLt,ZBb] at h
     grind
   exact this h1 e (ZBF.2 he) hb
  |succ i=>
   have:=gLZ h3 i o (by simpa using R);rwa [show k+1+i=k+(i+1) by omega] at this
def slotOf:Operand->Option Nat
 |.tmp t=>some t
 |.global g=>some (1048576+g)
 |_=>none
theorem hyZ{t}{x}(hx:slotOf x=some t):∀{l},x∈l->t∈tmpsOf l
 |[],h=>by cases h
 |y::l,h=>by
  rcases ZAi.1 h with rfl|h
  .cases x<;>cases hx<;>exact ZAo
  .have:=hyZ hx h;cases y<;>first|exact this|exact ZAc _ this
theorem sFZ{z}{st:St}{a:Act}(x)(h:∀t,slotOf x=some t->ARep z (st.tm.get t) (a.eval (opOf t))):ARep z (st.opnd x) (a.eval x):=by
 cases x with
 |tmp t=>
  simp[St.opnd];cases hb:Nat.blt t 1048576
  .exact .junk _
  .have:=h t rfl
   simp_all[fiZ]
 |const v=>
  have e:st.opnd (.const v)=({st with tm:=.lf}:St).opnd (.const v):=by cases v<;>rfl
  rw[e];exact dXZ (λt=>.junk _) (.const v)
 |global g=>have:=h _ rfl;rw[qxZ] at this;exact this
 |func f=>exact dXZ (st:={st with tm:=.lf}) (λt=>.junk _) (.func f)
theorem gYZ{n}{listed:Array Bool}{i}(hs:listed.size=n)(hi:listed.getD i true=false):
 ((List.range n).filter λj=> !listed.getD j true).length=((List.range n).filter λj=> !(listed.setIfInBounds i true).getD j true).length+1:=by
 have hlt:i<n:=by
  rcases ZBw i listed.size with h|h
  .omega
  .simp[Array.getElem?_eq_none h] at hi
 have hmem:i∈(List.range n).filter λj=> !listed.getD j true:=by
  rw[ZCi];exact⟨ZCO.2 hlt,by rw[hi];rfl⟩
 have hnd:((List.range n).filter λj=> !listed.getD j true).Nodup:=List.Pairwise.sublist List.filter_sublist List.nodup_range;have he:((List.range n).filter λj=> !(listed.setIfInBounds i true).getD j true)=((List.range n).filter λj=> !listed.getD j true).erase i:=by
  rw[List.Nodup.erase_eq_filter hnd,List.filter_filter];refine List.filter_congr λj hj=> ?_;by_cases hij:i=j
  .subst hij;simp[show i<listed.size by omega]
  .have:(j !=i)=true:=by simp;exact λh=>hij h.symm
   rw[this,getD_set_ne true hij];simp
 grind
theorem HRep.lay{z}{H}(R:HRep z H){i}{e}(hi:i<famBase)(he:ERep z i e)(hf:e.fz=true)(ad:famOk i e):HRep z (hset H i (some e)):=by
 have ae:famBase<dynBase:=by unfold famBase dynBase;omega
 refine⟨λid e' h=> ?_,λid aa e1 e2 g sz n g' ab n' ac h1 h2 f1 f2=> ?_,λid h=> ?_,R.sub,λid e' h=> ?_,λid h=> ?_,λid hd h=> ?_,R.nos⟩
 .rw[a9Z hi] at h;split at h
  .simp_all
  .exact R.ent id e' h
 .rw[a9Z hi] at h1 h2;split at h1
  .simp_all
  .split at h2
   .simp_all
   .exact R.inj id aa e1 e2 g sz n g' ab n' ac h1 h2 f1 f2
 .rw[buZ hi] at h;exact R.fresh id (by simp_all)
 .rw[apZ] at h;split at h
  .simp_all
  .exact R.fam id e' h
 .rw[asZ] at h;by_cases af:id=i
  .omega
  .exact R.key id (by simp_all)
 .rw[asZ] at h;have:rt id≠i:=by
   unfold rt;rw[ZAN hd];omega
  exact R.dyn id hd (by simp_all)
theorem HRep.refz{z z3}{H H1 H3}(kp:Kp z z3)(R:HRep z H)(h3:HRep z3 H3):∀{F},(∀i∈F,∃b,i<famBase/\hget H1 i=some ⟨true,b⟩/\hget H i=some ⟨true,b⟩)->HRep z3 (setAll H3 (hsub H1 F))
 |[],_=>h3
 |i::F,h=>by
  have ih:=HRep.refz kp R h3 λj hj=>h j (ZAc _ hj)
  let⟨b,q1,q2,q3⟩:=h i ZAo
  unfold hsub;rw[aiZ q2];rw[q2];refine ih.lay q1 ?_ rfl (R.fam i _ q3);have he:=R.ent i ⟨true,b⟩ (by simp_all[aqZ]);refine he.kp kp λg sz n aa=> ?_;unfold ERep at he;rw[aa] at he;exact⟨kp.block g he.1 (he.2.2.1 rfl),λhC=>absurd (R.sub g hC) (he.2.2.1 rfl)⟩
def J(z0:Z)(N:Nat)(L:List (Nat×AV))(ab:Array Oper)(aa:List Rc)(st:St)(R:Array Bool)(a:Act)(w:World):Prop:=
 ∃z H,z.w=w/\Nx z0 z/\(∀id,¬z.D id)/\HRep z H/\(∀id,layF (Rc.hpE id) (aa.filter λr=>R.getD r.i false) (hpAt st.hp id)=hpAt H id)/\
  (∀t,ARep z (layF (Rc.tmE t) (aa.filter λr=>R.getD r.i false) (st.tm.get t)) (a.eval (opOf t)))/\(∀p∈L,ARep z p.2 (a.eval (opOf p.1)))/\a.defers=[]/\(st.nt<=N/\a.tmps.size=N)/\
  R.size=ab.size/\(∀j,R.getD j false=true->edgesIn ab.toList (λj=>R.getD j false=true) j)
theorem nmZ:∀{R l},mdIn R l=true↔∀m∈R,m<4\/m+100000∈l
 |[],l=>by simp[mdIn]
 |m::R,l=>by
  simp only[mdIn,ZAF,ZA6,ajZ,nmZ]
  simp_all
theorem sHZ{z0}{N}{L:List (Nat×AV)}{st}{a}{w}{K:St->Option β}{res}{Q}{opsA:List (Oper×Ann)}(hT:∀e∈T,Told P e)(hops:opsA.map (·.1)=ops.toList)
 (hL:∀x∈opsA,∀p∈L,x.1.dst≠some p.1)(hk:∀st' a' w',K st'=some res->Inv z0 N L st' a' w'->Q .normal a' w')
 (hed:edgesOk 0 ops.toList=true)(hnm:nmsOk (nms (clos 0 ops.toList []) ops.toList 0 ops.toList)=true)
 (h:evOpsD P T (numb 0 opsA) ops.toList st [] (λst' fs=>need (pairsOk (clos 0 ops.toList []) fs) (K st'))=some res)(hi:Inv z0 N L st a w):
 wpAny P .any ops Q ops.size (Array.replicate ops.size false) a w:=by
 obtain⟨recs,st',t1,t2,t3,t4,t5,t6,t7,t8⟩:=njZ _ _ _ h;obtain⟨hpair,hK⟩:=acZ.1 t3;have hi0:=hi;obtain⟨_,_,_,_,_,_,_,_,_,hn0⟩:=hi0;rw[ZAp] at hpair;generalize hcl:clos 0 ops.toList []=cl at*;have hnames:recs.Pairwise λa b=>memN a.i ((cl.lookup b.i).getD [])=true\/apartN (a.nm cl ops.toList) (b.nm cl ops.toList)=true:=by
  have:=kvZ hnm;have e:=t8Z (cl:=cl) (all:=ops.toList) t1;rw[hops] at e;rw[e,List.pairwise_map] at this;exact this
 have hfp:(fpsOf P recs).Pairwise λa b=>pairOk cl a b=true:=by
  have:=g9Z hpair;rwa [List.pairwise_reverse] at this
 have hrec:recs.Pairwise λr1 r2=>r1.go=true->r2.go=true->memN r1.i ((cl.lookup r2.i).getD [])=true\/clash ⟨r1.i,r1.ft,bq (isR P r1.o) [] r1.wr⟩ ⟨r2.i,r2.ft,bq (isR P r2.o) [] r2.wr⟩=false:=by
  clear t1 t2 t3 t4 t5 t6 hpair hnames;have mem:∀{l:List Rc} {r:Rc},r∈l->r.go=true->(⟨r.i,r.ft,bq (isR P r.o) [] r.wr⟩:Fp)∈fpsOf P l:=λ{l}=>by
   induction l with
   |nil=>simp_all
   |cons x l ih=>
    intro r h hg;simp only[fpsOf]
    grind
  induction recs with
  |nil=>exact .nil
  |cons x l ih=>
   simp only[fpsOf] at hfp;refine .cons (λy hy hx hy'=> ?_) (ih ?_)
   .rw[ZAN hx] at hfp;have:=(ZA3.1 hfp).1 _ (mem hy hy');simp only[pairOk,ZA6,ZAj] at this;exact this.symm
   grind
 have hat:∀(i:Nat) r,recs[i]? =some r->r.i=i/\ops[i]? =some r.o:=λi r hr=>by
  have e:(recs.map λr=>(r.i,r.o))[i]? =some (r.i,r.o):=by rw[ZAY,hr];rfl
  rw[t1,ZAY,inZ,Option.map_map] at e;obtain⟨x,hx,hxe⟩:=ZAH.1 e;simp only[Function.comp,ZA1] at hxe;obtain⟨h1,h2⟩:=hxe;refine⟨by omega,?_⟩;have h3:(opsA.map (·.1))[i]? =some r.o:=by rw[ZAY,hx,<-h2];rfl
  simp_all
 have hlen:recs.length=ops.size:=by
  have h1:(recs.map λr=>(r.i,r.o)).length=opsA.length:=by
   rw[t1,ZAq];have:∀{α:Type} (l:List α) k,(numb k l).length=l.length:=λl=>by
    induction l<;>grind[numb]
   exact this _ _
  have h2:=congrArg List.length hops;simp at h1 h2;omega
 have hlt:∀{l1:List Rc} {r l2},recs=l1++r::l2->(∀x∈l1,x.i≠r.i)/\(∀x∈l2,x.i≠r.i):=λ{l1 r l2} he=>by
  have hp:recs.Pairwise λa b=>a.i<b.i:=by
   have:=pVZ (l:=opsA) (k:=0);have h2:((numb 0 opsA).map λx=>(x.1,x.2.1)).Pairwise λa b=>a.1<b.1:=List.pairwise_map.2 this;rw[<-t1,List.pairwise_map] at h2;exact h2
  grind[ZBu,Nat.ne_of_lt,ZAo,ZA3]
 have main:∀(fuel:Nat) (listed:Array Bool) (a:Act) (w:World),fuel=((List.range ops.size).filter λj=> !listed.getD j true).length->J z0 N L ops recs st listed a w->wpAny P .any ops Q fuel listed a w:=by
  have fin:∀(listed:Array Bool) (a:Act) (w:World),Region.ready .any ops listed=[]->J z0 N L ops recs st listed a w->Q .normal a w:=by
   rintro listed a w hr ⟨z,H,rfl,hn,hD,hH,hhp,htm,hLs,hdf,hnt,hsz,hcs⟩;have hall:∀i,i<ops.size->listed.getD i false=true:=by
    intro i;induction i using Nat.strongRecOn with
    |_ i ih=>
     intro hi;cases hb:listed.getD i false
     .exfalso;have hb':listed.getD i true=false:=by
       have:i<listed.size:=by omega
       simp[this] at hb⊢;exact hb
      have:i∈Region.ready .any ops listed:=by
       rw[mem_ready];refine⟨hb',ops[i],ZBD hi,λe he hbd=> ?_⟩;have:=(gLZ hed i ops[i] (by rw[ZA7];exact ZBD hi)).1 e he hbd;rw[ZAz] at this;exact ih e.on this (by omega)
      grind
     .rfl
   have hfil:(recs.filter λr=>listed.getD r.i false)=recs:=by
    rw[ZBz];intro r hr';obtain⟨i,hi⟩:=ZAQ hr';obtain⟨h1,h2⟩:=hat i r hi;rw[h1];exact hall i (ZBH.1 h2).1
   rw[hfil] at hhp htm;refine hk st' a z.w hK ⟨z,rfl,hn,hD,hH.same (λid=> ?_) (λid=> ?_),λt=>t5 t _ _ (htm t),hLs,hdf,by omega,by grind⟩
   .have:=(t6 id).symm.trans (hhp id);exact congrArg Prod.snd this
   .have:=(t6 id).symm.trans (hhp id);exact congrArg Prod.fst this
  have step:∀(listed:Array Bool) (a:Act) (w:World) (i:Nat) (next:Act->World->Prop),i∈Region.ready .any ops listed->J z0 N L ops recs st listed a w->
   (∀a' w',J z0 N L ops recs st (listed.setIfInBounds i true) a' w'->next a' w')->wpOp P ops Q i next a w:=by
   rintro listed a w i next hr ⟨z,H,rfl,hn,hD,hH,hhp,htm,hLs,hdf,hnt,hsz,hcs⟩ hnext;obtain⟨hun,o,ho,hedge⟩:=mem_ready.1 hr;have hilt:i<ops.size:=(ZBH.1 ho).1;obtain⟨r,hri⟩:∃r,recs[i]? =some r:=⟨_,ZAC (by omega)⟩;obtain⟨hr1,hr2⟩:=hat i r hri;rw[ho] at hr2;simp only[ZAV] at hr2;subst hr2;obtain⟨l1,l2,hsplit⟩:=List.append_of_mem (ZAI hri);have hmem:=ZAI hri;have hok:=t2 r hmem;obtain⟨u1,u2,u3⟩:=t4 l1 r l2 hsplit;have hSi:listed.getD r.i false=false:=by
    rw[hr1];have:i<listed.size:=by omega
    simp[this] at hun⊢;exact hun
   have hclS:∀j,edgesIn ops.toList (λj=>listed.getD j false=true) j->∀m∈(cl.lookup j).getD [],listed.getD m false=true:=λj hj m hm=>by
    rw[<-hcl] at hm;exact r0Z (S:=λj=>listed.getD j false=true) hcs ops.toList 0 [] (λi=>by rw[ZAz]) (λj _ m hm=>by simp at hm) j hj m hm
   have hA:∀m∈(cl.lookup r.i).getD [],listed.getD m false=true:=hclS r.i λo' ho' e he hb=>by
    rw[hr1,ZA7,ho] at ho';simp only[ZAV] at ho';subst ho';exact hedge e he hb
   have hB:∀x,r.i∈(cl.lookup x).getD []->listed.getD x false=false:=λx hx=>by
    cases hb:listed.getD x false
    .rfl
    .have:=hclS x (hcs x hb) r.i hx;rw[hSi] at this;cases this
   rw[hsplit] at hnames hrec;have hn1:=ZBu.1 hnames;have hf1:=ZBu.1 hrec;have slot1:∀t,(t∈(r.nm cl ops.toList).rd\/r.o.dst=some t)->∀x∈l1,(x.tmE t).isSome=true->listed.getD x.i false=true:=λt ht x hx hs=>by
    rcases hn1.2.2 x hx r ZAo with h|h
    .exact hA _ (ajZ.1 h)
    .exfalso;have hxd:x.o.dst=some t:=by
      unfold Rc.tmE at hs;split at hs
      .assumption
      .cases hs
     simp only[apartN,ZAF,ZAj,Rc.nm,hxd,hasN,sameO] at h;rcases ht with ht|ht
     .have ht':memN t (guardOf ops.toList r.o++tmpsOf r.o.op.operands.toList)=true:=ajZ.2 ht;rw[ht'] at h;exact absurd h.1.1 (by simp)
     .rw[ht] at h;simp[Nat.beq_refl,afZ] at h
   have slot2:∀t,(t∈(r.nm cl ops.toList).rd\/r.o.dst=some t)->∀x∈l2,(x.tmE t).isSome=true->listed.getD x.i false=false:=λt ht x hx hs=>by
    rcases(ZA3.1 hn1.2.1).1 x hx with h|h
    .exact hB _ (ajZ.1 h)
    .exfalso;have hxd:x.o.dst=some t:=by
      unfold Rc.tmE at hs;split at hs
      .assumption
      .cases hs
     simp only[apartN,ZAF,ZAj,Rc.nm,hxd,hasN,sameO] at h;rcases ht with ht|ht
     .have ht':memN t (guardOf ops.toList r.o++tmpsOf r.o.op.operands.toList)=true:=ajZ.2 ht;rw[ht'] at h;exact absurd h.1.2 (by simp)
     .rw[ht] at h;simp[afZ] at h
   have hslot:∀t∈(r.nm cl ops.toList).rd,ARep z (r.pre t) (a.eval (opOf t)):=λt ht=>by
    have:=htm t;rw[hsplit,kFZ (f:=Rc.tmE t) (S:=λi=>listed.getD i false) hSi (slot1 t (.inl ht)) (slot2 t (.inl ht))] at this;exact u1 t _ _ this
   have hwant:Region.wanted r.o (yielded ops a.tmps)=r.go:=hok.grd.wanted λj want d h1 h2=>hslot d (by
    obtain⟨x,h3,h4⟩:=ZAG.1 h2;simp[Rc.nm,guardOf,h1,h3,h4])
   have hopn:∀x∈r.o.op.operands,ARep z (r.st.opnd x) (a.eval x):=λx hx=>sFZ x λt ht=>by
    exact hok.le t _ _ (hslot t (by
     simp only[Rc.nm,ZAg];exact .inr (hyZ ht (ZBF.2 hx))))
   have hS':(listed.setIfInBounds i true).getD r.i false=true:=by rw[hr1];simp[show i<listed.size by omega]
   have hSo:∀x,x≠i->(listed.setIfInBounds i true).getD x false=listed.getD x false:=λx hx=>getD_set_ne false (ZBh hx);obtain⟨v1,v2⟩:=hlt hsplit;have hS1:∀x∈l1,(listed.setIfInBounds i true).getD x.i false=listed.getD x.i false:=λx hx=>hSo _ (by rw[<-hr1];exact v1 x hx);have hS2:∀x∈l2,(listed.setIfInBounds i true).getD x.i false=listed.getD x.i false:=λx hx=>hSo _ (by rw[<-hr1];exact v2 x hx);have hcs':∀j,(listed.setIfInBounds i true).getD j false=true->edgesIn ops.toList (λj=>(listed.setIfInBounds i true).getD j false=true) j:=λj hj o' ho' e he hb=>by
    refine getD_set_true ?_;by_cases hji:j=i
    .subst hji;rw[ZA7,ho] at ho';simp only[ZAV] at ho';subst ho';exact hedge e he hb
    .rw[hSo j hji] at hj;exact hcs j hj o' ho' e he hb
   have hLr:∀p∈L,r.o.dst≠some p.1:=by
    have h3:(recs.map λr=>(r.i,r.o))[i]? =some (r.i,r.o):=by rw[ZAY,hri];rfl
    rw[t1,ZAY,inZ,Option.map_map] at h3;obtain⟨x,hx,hxe⟩:=ZAH.1 h3;simp only[Function.comp,ZA1] at hxe;have:=hL x (ZAI hx);rw[hxe.2] at this;exact this
   have hdst:=hok.dst;rw[u3] at hdst;have put:∀(z3:Z) (H3:Hp) (v:Value),Nx z z3->HRep z3 H3->ARep z3 r.x v->(∀id,layF (Rc.hpE id) (recs.filter λr=>(listed.setIfInBounds i true).getD r.i false) (hpAt st.hp id)=hpAt H3 id)->
    J z0 N L ops recs st (listed.setIfInBounds i true) (a.put r.o.dst v) z3.w:=λz3 H3 v k1 k2 k3 k4=>by
    have kp:=k1.kp hH.sub;refine⟨z3,H3,rfl,hn.trans k1,λid=>by rw[k1.dom];exact hD id,k2,k4,λt=> ?_,λp hp=> ?_,(fGZ _ _ _).2.trans hdf,by rw[(fGZ _ _ _).1];exact hnt,by simpa using hsz,hcs'⟩
    .by_cases ht:r.o.dst=some t
     .rw[hsplit,(gRZ (f:=Rc.tmE t) (S:=λi=>listed.getD i false) (S':=λj=>(listed.setIfInBounds i true).getD j false) hSi hS' hS1 hS2).1 r.x (by simp[Rc.tmE,ht]) (slot2 t (.inr ht)),ht,dSZ (by
       rw[ht] at hdst;simp only[dstOk,ZAF,ZBb] at hdst;omega) (by
       rw[ht] at hdst;simp only[dstOk,ZAF,ZBb] at hdst;exact hdst.2)]
      exact k3
     .rw[hsplit,(gRZ (f:=Rc.tmE t) (S:=λi=>listed.getD i false) (S':=λj=>(listed.setIfInBounds i true).getD j false) hSi hS' hS1 hS2).2 (by simp[Rc.tmE,ht]),dcZ ht,<-hsplit];exact(htm t).kp kp
    .rw[dcZ (hLr p hp)];exact(hLs p hp).kp kp
   have same:r.H2=none->∀id,layF (Rc.hpE id) (recs.filter λr=>(listed.setIfInBounds i true).getD r.i false) (hpAt st.hp id)=hpAt H id:=λh2 id=>by
    rw[hsplit,(gRZ (f:=Rc.hpE id) (S:=λi=>listed.getD i false) (S':=λj=>(listed.setIfInBounds i true).getD j false) hSi hS' hS1 hS2).2 (by simp[Rc.hpE,h2]),<-hsplit];exact hhp id
   unfold wpOp;simp only[ho,hwant];cases hgo:r.go
   .simp only[ZBJ,ZCc];obtain⟨x1,x2⟩:=hok.no hgo;exact hnext _ _ (put z H undef (Nx.refl z) hH (by rw[x1];exact nzZ) (same x2))
   .simp only[ZCn];refine .inl ?_;have foot1:∀id∈r.ft,∀x∈l1,(x.hpE id).isSome=true->listed.getD x.i false=true:=λid hid x hx hs=>by
     have hxt:=t2 x (by rw[hsplit];exact ZBa _ hx);have hxg:x.go=true:=by
      cases hxg:x.go
      .have:=(hxt.no hxg).2;simp[Rc.hpE,this] at hs
      .rfl
     have hxw:isR P x.o=false/\memN id x.wr=true:=by
      rcases hxt.yes hxg with⟨_,_,y⟩|⟨y,_⟩
      .simp[Rc.hpE,y] at hs
      .refine⟨y,?_⟩;unfold Rc.hpE at hs;split at hs
       .split at hs
        .assumption
        .cases hs
       .cases hs
     rcases hf1.2.2 x hx r ZAo hxg hgo with h|h
     .exact hA _ (ajZ.1 h)
     .exfalso;have hmt:meetN x.wr r.ft=true:=by
       have:∀{l:List Nat},id∈l->meetN l r.ft=true:=λ{l}=>by
        induction l with
        |nil=>intro h;cases h
        |cons y l ih=>
         intro h;simp only[meetN,ZA6];rcases ZAi.1 h with rfl|h
         .exact .inl (ajZ.2 hid)
         .exact .inr (ih h)
       exact this (ajZ.1 hxw.2)
      simp[clash,hxw.1,hmt] at h
    have foot2:∀id∈r.ft,∀x∈l2,(x.hpE id).isSome=true->listed.getD x.i false=false:=λid hid x hx hs=>by
     have hxt:=t2 x (by rw[hsplit];exact ZCU _ (ZAc _ hx));have hxg:x.go=true:=by
      cases hxg:x.go
      .have:=(hxt.no hxg).2;simp[Rc.hpE,this] at hs
      .rfl
     have hxw:isR P x.o=false/\memN id x.wr=true:=by
      rcases hxt.yes hxg with⟨_,_,y⟩|⟨y,_⟩
      .simp[Rc.hpE,y] at hs
      .refine⟨y,?_⟩;unfold Rc.hpE at hs;split at hs
       .split at hs
        .assumption
        .cases hs
       .cases hs
     rcases(ZA3.1 hf1.2.1).1 x hx hgo hxg with h|h
     .exact hB _ (ajZ.1 h)
     .exfalso;have hmt:meetN x.wr r.ft=true:=by
       have:∀{l:List Nat},id∈l->meetN l r.ft=true:=λ{l}=>by
        induction l with
        |nil=>intro h;cases h
        |cons y l ih=>
         intro h;simp only[meetN,ZA6];rcases ZAi.1 h with rfl|h
         .exact .inl (ajZ.2 hid)
         .exact .inr (ih h)
       exact this (ajZ.1 hxw.2)
      simp[clash,hxw.1,hmt] at h
    have hfoot:∀id∈r.ft,hpAt H id=hpAt r.st.hp id:=λid hid=>by
     rw[<-hhp id,hsplit,kFZ (f:=Rc.hpE id) (S:=λi=>listed.getD i false) hSi (foot1 id hid) (foot2 id hid)];exact u2 id
    let F:Nat->Bool:=λid=>memN id r.ft
    have hfoc:HRep (z.foc H F) (hsub r.st.hp r.ft):=vpZ hH (λid=>by
     rw[(bUZ _ _ id).1];show _=if memN id r.ft=true then _ else _;split
     .rename_i hm;exact(congrArg Prod.snd (hfoot id (ajZ.1 hm))).symm
     .rfl) (λid=>by
     rw[(bUZ _ _ id).2];show _=(memN id r.ft&&_);cases hm:memN id r.ft
     .rfl
     .rw[show hkey r.st.hp id=hkey H id from(congrArg Prod.fst (hfoot id (ajZ.1 hm))).symm])
    classical
    let r':Operand->AV:=λx=>if x∈r.o.op.operands then r.st.opnd x else .junk
    have hr':∀x∈r.o.op.operands,r.st.opnd x=r' x:=λx hx=>(ZAN hx).symm;have hrep:∀x,ARep (z.foc H F) (r' x) (a.eval x):=λx=>by
     by_cases hx:x∈r.o.op.operands
     .rw[<-hr' x hx];exact(hopn x hx).less rfl rfl λg h=>h
     .show ARep _ (if x∈r.o.op.operands then r.st.opnd x else .junk) _;rw[ZAM hx];exact .junk _
    rcases hok.yes hgo with⟨_,y1,y2⟩|⟨_,y1,y2,Hr,y3,y4,y5'⟩
    .rw[qEZ hr'] at y1;refine t1Z (z:=z.foc H F) y1 hfoc hrep λx v q1 q2=> ?_;simp only[ZAV] at q2;subst q2;exact hnext _ _ (put z H v (Nx.refl z) hH (q1.less rfl rfl λg h=>h) (same y2))
    .have y5:=y5'.1;rw[rgZ hr'] at y4;have hidF:∀id,rt id∈r.an.ids->¬(z.foc H F).D id:=λid hid hd=>by
      rcases hd with hd|⟨_,hd⟩
      .exact hD id hd
      .have:F (rt id)=true:=ajZ.2 (by
        unfold Rc.ft foot;rw[eHZ];exact ZBa _ (ZCU _ hid))
       rw[this] at hd;cases hd
     refine twZ (z:=z.foc H F) hT y4 hfoc hidF (λhm hdd=>by
      have hmem:r.an.ids.headD 0∈r.an.ids:=by
       cases hids:r.an.ids with
       |nil=>exact absurd hids (y1 hm)
       |cons x l=>simp
      rcases hdd with hdd|⟨hkx,hdd⟩
      .exact hD _ hdd
      .have hst:=bGZ y5'.2 (show r.an.ids.headD 0∈r.ft from by
        unfold Rc.ft foot;rw[eHZ];exact ZBa _ (ZCU _ hmem))
       exact hidF _ (by rw[baZ hst];exact hmem) (.inr ⟨hkx,hdd⟩)) (λm hm=>by
      rcases nmZ.1 y2 m hm with h4|h4
      .exact .inl h4
      .refine .inr λhdd=> ?_;rcases hdd with hdd|⟨_,hdd⟩
       .exact hD _ hdd
       .have hst:=bGZ y5'.2 h4;rw[baZ hst] at hdd;have:F (m+100000)=true:=ajZ.2 h4;rw[this] at hdd;cases hdd) hrep λx v H' z' q1 q2 q3 q4=> ?_
     simp only[ZAV,ZA1] at q4;obtain⟨rfl,rfl⟩:=q4;have hkF:∀id,hkey H' id=true->F id=true:=λid hkk=>ajZ.2 (caZ.1 y5 id (etZ.1 hkk));obtain⟨z3,m1,m2,m3,m4,m5⟩:=merge_ok (H3:=setAll (killAll H r.ft) H') hH q2 q1 hkF (λid=>by
      rw[aOZ,bbZ]) (λid hh=>by
      rw[aIZ,aNZ];rcases hh with hh|hh<;>simp[hh]) (λid hh=>by
      rw[aIZ,aNZ] at hh;simp only[ZA6] at hh;rcases hh with hh|hh|hh
      .exact .inl hh
      .exact .inr (.inr ⟨bGZ y5'.2 (ajZ.1 hh),λx _=>hD x⟩)
      .exact .inr (.inl hh))
     rw[<-m1];have m6:=HRep.refz (F:=fzIds r.st.hp r.ft) (m5.kp hH.sub) hH m4 (H1:=r.st.hp) λi hi=>by
      have hi2:=ajZ.2 hi;rw[(dtZ r.st.hp i _).1,ZAF] at hi2;obtain⟨q5,b,q6⟩:=lQZ hi2.2;exact⟨b,q5,q6,by rw[<-q6];exact congrArg Prod.snd (hfoot i (ajZ.1 hi2.1))⟩
     refine hnext _ _ (put z3 _ v m5 m6 (q3.less m1 m3 λg h=>by rw[<-m2];exact h) λid=> ?_);by_cases hm:memN id r.wr=true
     .have hm':=hm;rw[show r.wr=wrIds r.st.hp r.ft from rfl,(dtZ r.st.hp id _).2,ZAF,ZAj] at hm';rw[hsplit,(gRZ (f:=Rc.hpE id) (S:=λi=>listed.getD i false) (S':=λj=>(listed.setIfInBounds i true).getD j false) hSi hS' hS1 hS2).1 (true,if hkey H' id=true then hget H' id else none) (by simp[Rc.hpE,y3,hm]) (foot2 id (ajZ.1 hm'.1))];unfold hpAt;rw[aIZ,aOZ,aIZ,aOZ,aNZ,bbZ,(bUZ _ _ id).1,(bUZ _ _ id).2,(dtZ r.st.hp id _).1];simp[hm'.1,hm'.2]
     .rw[hsplit,(gRZ (f:=Rc.hpE id) (S:=λi=>listed.getD i false) (S':=λj=>(listed.setIfInBounds i true).getD j false) hSi hS' hS1 hS2).2 (by simp[Rc.hpE,y3,hm]),<-hsplit];rw[hhp id];have hm':=Bool.eq_false_iff.2 hm;rw[show r.wr=wrIds r.st.hp r.ft from rfl,(dtZ r.st.hp id _).2] at hm';unfold hpAt;rw[aIZ,aOZ,aIZ,aOZ,aNZ,bbZ,(bUZ _ _ id).1,(bUZ _ _ id).2,(dtZ r.st.hp id _).1];cases hft:memN id r.ft
      .have hk0:hkey H' id=false:=by
        cases hk0:hkey H' id
        .rfl
        .have:=hkF id hk0;rw[show F id=memN id r.ft from rfl,hft] at this;cases this
       simp[hk0]
      .rw[hft] at hm';have hz:isFz r.st.hp id=true:=by simpa using hm'
       obtain⟨_,b,hb⟩:=lQZ hz;have hh:=hfoot id (ajZ.1 hft);simp only[hpAt,ZA1] at hh;simp[hz,aiZ hb,hh.1,hh.2,hb]
  intro fuel;induction fuel with
  |zero=>
   intro listed a w hf hj;have hr:Region.ready .any ops listed=[]:=by
    cases hr:Region.ready .any ops listed with
    |nil=>rfl
    |cons i l=>
     have hi:i∈Region.ready .any ops listed:=by rw[hr];exact ZAo
     obtain⟨h1,o,h2,_⟩:=mem_ready.1 hi;have:i∈(List.range ops.size).filter λj=> !listed.getD j true:=by
      rw[ZCi];exact⟨ZCO.2 (ZBH.1 h2).1,by rw[h1];rfl⟩
     have:=List.length_pos_of_mem this;omega
   exact⟨hr,fin listed a w hr hj⟩
  |succ fuel ih=>
   intro listed a w hf hj;refine⟨λhr=>fin listed a w hr hj,λi hi=> ?_⟩;refine step listed a w i _ hi hj λa' w' hj'=>ih _ a' w' ?_ hj';obtain⟨_,_,_,_,_,_,_,_,_,_,_,hsz,_⟩:=hj;have:=gYZ hsz (mem_ready.1 hi).1;omega
 obtain⟨z,rfl,hn,hD,hH,hs,hLs,hdf,hnt,_⟩:=hi;have hempty:(recs.filter λr=>(Array.replicate ops.size false).getD r.i false)=[]:=by
  rw[List.filter_eq_nil_iff];intro r _;simp[Array.getElem?_replicate];split<;>rfl
 refine main ops.size _ a z.w ?_ ⟨z,st.hp,rfl,hn,hD,hH,λid=>by rw[hempty];rfl,λt=>by rw[hempty];exact hs t,hLs,hdf,hnt,by simp,λj hj=> ?_⟩
 .have:((List.range ops.size).filter λj=> !(Array.replicate ops.size false).getD j true)=List.range ops.size:=by
   rw[ZBz];intro j hj;simp[ZCO.1 hj]
  rw[this];simp
 .exfalso;simp[Array.getElem?_replicate] at hj;split at hj<;>simp at hj
end
theorem hTZ(H):∀(n id),hget (fillN H n) id=hget H id/\hkey (fillN H n) id=(hkey H id||(decide (id<n)&&decide (id<famBase)))
 |0,id=>by simp[fillN]
 |n+1,id=>by
  let⟨q1,q2⟩:=hTZ H n id
  have key:hkey H n=true\/famBase<=n->(hkey H id||(decide (id<n)&&decide (id<famBase)))=(hkey H id||(decide (id<n+1)&&decide (id<famBase))):=λh=>by
   by_cases hi:id=n
   .subst hi;rcases h with h|h
    .simp[h]
    .simp[show¬id<famBase by omega]
   .have:(id<n+1)↔id<n:=by omega
    simp[this]
  simp[fillN];cases hk:hkey H n
  .cases hb:Nat.ble famBase n
   .have R:=ZBO.1 λh=>by rw[ZAh h] at hb;cases hb
    simp[hget,hkey];by_cases h:n=id
    .subst h;simp[hk];refine⟨(awZ hk).symm,?_⟩;simp[R]
    .simp only[ahZ h,ZAD,q1,q2];have:(id<n+1)↔id<n:=by omega
     simp[this]
   .simp only[Bool.or_true,ZAK,q1,q2];exact⟨trivial,key (.inr (ZBM hb))⟩
  simp_all
theorem cTZ{id}:∀{l},id∈famK l↔id∈l/\famBase<=id
 |[]=>by simp[famK]
 |i::l=>by
  simp only[famK];by_cases h:famBase<=i
  .rw[ZAh h,ZAK,ZAi,cTZ]
   grind
  .rw[ftZ h,ZAD,cTZ]
   grind
theorem g2Z{id}:∀{l},id∈statK l↔id∈l/\id<famBase
 |[]=>by simp[statK]
 |i::l=>by
  simp only[statK];by_cases h:famBase<=i
  .rw[ZAh h,ZAK,g2Z]
   grind
  .rw[ftZ h,ZAD,ZAi,g2Z]
   grind
theorem gIZ{i k}:∀{l},(i,k)∈diagN l↔i=k/\k∈l
 |[]=>by simp[diagN]
 |x::l=>by
  simp[diagN,gIZ];constructor
  .rintro(⟨rfl,rfl⟩|⟨rfl,h⟩)
   .exact⟨rfl,.inl rfl⟩
   .exact⟨rfl,.inr h⟩
  .rintro⟨rfl,rfl|h⟩
   .exact .inl ⟨rfl,rfl⟩
   .exact .inr ⟨rfl,h⟩
theorem vCZ{sh:LShp}{H}{vs}{i k}(h:(i,k)∈sh.ps H vs):k∈hkKeys sh.s.hs:=by
 rcases ZAg.1 h with h|h
 .let⟨n,_,q⟩:=jcZ h
  exact(g2Z.1 (ZAI q)).1
 simp_all[cTZ,gIZ]
theorem qGZ{n}:∀{R},fixN n R=true->∀i k,(i,k)∈R->i=k\/(n<=i/\n<=k)
 |[],_,i,k,h=>by cases h
 |(a,b)::R,h,i,k,hm=>by
  simp[fixN,ZAl] at h;rcases ZAi.1 hm with hm|hm
  .simp_all
  .exact qGZ h.2 i k hm
theorem q2Z{z}{f}:∀{ks} {vs} {t},(∀k,ARep z (t.get k) (f k))->AReps z vs (ks.map f)->∀k,ARep z ((unTm ks vs t).get k) (f k)
 |[],vs,t,h,_,k=>by cases vs<;>exact h k
 |k0::ks,[],t,h,_,k=>h k
 |k0::ks,a::vs,t,h,hv,k=>by
  refine q2Z (λj=> ?_) hv.tail k;by_cases R:j=k0
  .subst R;rcases(Tr.get_put t j a j).2 with e|e<;>rw[e]
   .exact hv.head
   .exact .junk _
  .rw[(Tr.get_put t k0 a j).1 R];exact h j
theorem jrZ:∀(t:Tr) (k),t.keep.get k= .junk\/(t.keep.get k=t.get k/\(t.get k).noRef=true)
 |.lf,k=>.inl rfl
 |.nd l v r,k=>by
  simp[Tr.keep,Tr.get];by_cases h0:k=0
  .subst h0;simp[ZAK];cases hv:v.noRef
   .exact .inl rfl
   .exact .inr ⟨rfl,rfl⟩
  .simp[ahZ h0];by_cases h1:k%2=1
   .simp[(afZ _ _).2 h1];exact jrZ l _
   .simp[ahZ h1];exact jrZ r _
theorem jmZ:∀(l) (t:Tr) (k),(k∈l->(t.junk l).get k= .junk)/\(k∉l->(t.junk l).get k=t.get k)
 |[],t,k=>⟨λh=>(by cases h),λ_=>rfl⟩
 |i::l,t,k=>by
  let⟨h1,h2⟩:=jmZ l (t.put i .junk) k
  simp only[Tr.junk];refine⟨λh=> ?_,λh=> ?_⟩
  .by_cases hk:k∈l
   .exact h1 hk
   .rw[h2 hk];have:=(ZAi.1 h).resolve_right hk;subst this;rcases(Tr.get_put t k .junk k).2 with e|e<;>exact e
  .rw[ZAi,not_or] at h;rw[h2 h.2,(Tr.get_put t i .junk k).1 h.1]
theorem i1Z:∀(t:Tr),∃n,∀k,n<=k->t.get k= .junk
 |.lf=>⟨0,λ_ _=>rfl⟩
 |.nd l v r=>by
  let⟨R,hl⟩:=i1Z l
  let⟨nr,hr⟩:=i1Z r
  refine⟨2*(R+nr)+3,λk hk=> ?_⟩;have h0:k≠0:=by omega
  simp[Tr.get,ahZ h0];by_cases h1:k%2=1
  .simp[(afZ _ _).2 h1];exact hl _ (by omega)
  .simp[ahZ h1];exact hr _ (by omega)
theorem pCZ{a}(h:a.noRef=true):AV.ids a=[]:=by
 cases a<;>first|rfl|simp_all[AV.noRef]
theorem uaZ{p:Nat->Prop}(h:∃n,p n):∃n,p n/\∀m,p m->n<=m:=by
 let⟨n,R⟩:=h
 induction n using Nat.strongRecOn<;>grind
section
variable {P : Program} {T : Tbl} {β : Type} {z0 : Z} {N : Nat} {L : List (Nat × AV)}
theorem Inv.sub{L'}{st}{a}{w}(hi:Inv z0 N L' st a w)(h:∀p∈L,p∈L'):Inv z0 N L st a w:=by
 obtain⟨z,rfl,hn,hD,hH,hs,R,aa,ab,h0⟩:=hi;exact⟨z,rfl,hn,hD,hH,hs,λp hp=>R p (h p hp),aa,ab,h0⟩
theorem m4Z:∀{R} {i i' k},(sndN R).Nodup->(i,k)∈R->(i',k)∈R->i=i'
 |(a,b)::R,i,i',k,hn,h,h'=>by
  simp[sndN] at hn;have hm:∀{R} {x},(x,k)∈R->k∈sndN R:=λ{R}=>by
   induction R with
   |nil=>intro x h;cases h
   |cons p R ih=>
    intro x h;rcases ZAi.1 h with rfl|h
    .exact ZAo
    .exact ZAc _ (ih h)
  rcases ZAi.1 h with e|q<;>rcases ZAi.1 h' with e'|q'
  .injection e with e1 e2;injection e' with e3 e4;rw[e1,e3]
  .injection e with e1 e2;exact absurd (e2▸hm q') hn.1
  .injection e' with e1 e2;exact absurd (e2▸hm q) hn.1
  .exact m4Z hn.2 q q'
theorem u0Z{st:St}{sh}{K}{r:β}{a:Act}{base:Tr}{nt n0:Nat}{z:Z}(h:st.prj sh K=some r)(hn:Nx z0 z)(hD:∀id,¬z.D id)(hH:HRep z st.hp)(hs:∀t,ARep z (st.tm.get t) (a.eval (opOf t)))(hLs:∀p∈L,ARep z p.2 (a.eval (opOf p.1)))
 (h0':∀id,id<dynBase->z0.ρ id≠.no->id<st.n0)(hLn:∀p∈L,AV.ids p.2=[])
 (hb:∀k,base.get k= .junk\/(k,base.get k)∈L)(h0:∀id,id<dynBase->z0.ρ id≠.no->id<n0):∃t z2,K t=some r/\z2.w=z.w/\Nx z0 z2/\(∀id,¬z2.D id)/\HRep z2 (sh.inj base nt n0 t).hp/\(∀k,ARep z2 ((sh.inj base nt n0 t).tm.get k) (a.eval (opOf k)))/\(∀p∈L,ARep z2 p.2 (a.eval (opOf p.1)))/\
  z2.M=z.M/\(∀g,z2.C g->z.C g)/\∀i k,pairIs (sh.ps st.hp (sh.live.map st.tm.get)) i k=true->z2.ρ k=z.ρ i:=by
 unfold St.prj at h;obtain⟨h1,h2⟩:=acZ.1 h;simp only[ZAF] at h1;have hfix:=qGZ h1.1;have hb0:=eGZ;have hall:=caZ.1 h1.2;have hdyn:∀id,dynBase<=id->memN (rt id) (hkKeys sh.s.hs)=false->z.ρ id= .no:=λid hd hm=>by
  have hk:hkey st.hp (rt id)=false:=by
   cases hk:hkey st.hp (rt id)
   .rfl
   .have:=(cTZ.1 (hall _ (cTZ.2 ⟨etZ.1 hk,(bIZ hd).1⟩))).1;rw[ajZ.2 this] at hm;cases hm
  refine(hH.fresh id ?_).resolve_right (hD id)
  simp_all[ayZ,awZ]
 obtain⟨t,z',k1,k2,k3,k4,k5,k6,k7,k8,k9,k10,k11,k12,k13,k14⟩:=Shp.rco_ok (vals:=sh.live.map λk=>a.eval (opOf k)) (λk=>if k<n0 then z.ρ k else .no) (λk h1 h2=>by rw[hH.nos k h1 h2,ite_self]) h2 hH ⟨by simp,λi x v e1 e2=>by
  grind⟩
 have hρ:∀id,z0.ρ id≠.no->z'.ρ id=z0.ρ id:=λid hid=>by
  cases hk:memN id (hkKeys sh.s.hs)
  .rw[k7 id hk];by_cases hdy:dynBase<=id
   .rw[ZAN hdy];exact hn.ext id hid
   .rw[ZAM hdy,ZAN (h0 id (by omega) hid)];exact hn.ext id hid
  .obtain⟨id',q1,q2⟩:=k6 id hk;rcases hfix id' id q1 with rfl|⟨_,q4⟩
   .rw[q2];exact hn.ext id' hid
   .have:=h0' id (k13 id hk) hid;omega
 let z2:Z:={z' with D:=λ_=>False}
 have hn2:Nx z0 z2:=⟨by show z'.w.os=_;rw[k2];exact hn.os,⟨by show z'.w.tape=_;rw[k2];exact hn.tape.1,by show _<=z'.w.drawn;rw[k2];exact hn.tape.2⟩,by show z'.w.output=_;rw[k2];exact hn.output,by show _<=z'.w.heap.size;rw[k2];exact hn.size,
  λb hb hc=>by show z'.w.heap[b]? =_;rw[k2];exact hn.block b hb hc,λg hg=>hn.subM g (by rw[<-k3];exact hg),λg hg=>hn.subC g (k8 g hg),λg hg hm hc=>by show z'.M g;rw[k3];exact hn.keepM g hg hm hc,hρ,by
   funext id;have h1:¬z.D id:=hD id;rw[hn.dom] at h1;exact propext ⟨λh=>h.elim,λh=>h1 h⟩⟩
 have hL2:∀p∈L,ARep z2 p.2 (a.eval (opOf p.1)):=λp hp=>(hLs p hp).rho (z':=z2) k2 k3 (.inl k12) λid hid=>by rw[hLn p hp] at hid;cases hid
 refine⟨t,z2,k1,k2,hn2,λ_ h=>h,?_⟩;rw[LShp.inj_eq];refine⟨?_,?_,hL2,k3,k8,λi k hp=> ?_⟩
 .have eq:=hTZ (sh.s.emb t).2 n0;have eqX:∀id,hgetX (fillN (sh.s.emb t).2 n0) id=hgetX (sh.s.emb t).2 id:=λid=>czZ (eq _).1;refine⟨λid e' he=> ?_,λi i' e e' g sz n g' sz' n' hii p1 p2 m1 m2 p3 p4=> ?_,λid hid=> ?_,k4.sub,λi x h=>k4.fam i x (by rw[<-(eq i).1];exact h),λi h=> ?_,λi _ _ h=>h,k4.nos⟩
  .rw[eqX id] at he;exact(k4.ent id e' he).rho rfl rfl (.inl (.eq rfl)) rfl (λ_ _=>rfl) λ_ _ _ _ _ h=>h
  .rw[eqX i] at p1;rw[eqX i'] at p2;exact k4.inj i i' _ _ g sz n g' sz' n' hii p1 p2 m1 m2 p3 p4
  .left;show z'.ρ id= .no;by_cases hdy:dynBase<=id
   .have hr:=(bIZ hdy).1;have hkk:hkey (fillN (sh.s.emb t).2 n0) (rt id)=hkey (sh.s.emb t).2 (rt id):=by
     rw[(eq (rt id)).2];simp[show¬rt id<famBase by omega]
    rw[dBZ (H:=(sh.s.emb t).2) (eq _).1 hkk] at hid;cases hm:memN (rt id) (hkKeys sh.s.hs)
    .have hmi:memN id (hkKeys sh.s.hs)=false:=by
      cases hc:memN id (hkKeys sh.s.hs)
      .rfl
      .have:=k13 id hc;omega
     rw[k7 id hmi,ZAN hdy];exact hdyn id hdy hm
    .refine(k4.fresh id hid).resolve_right λhD'=> ?_;rw[k10,hm] at hD';cases hD'.1
   .by_cases hf:famBase<=id
    .exact k4.nos id hf (by omega)
    .rw[aDZ (by omega),(eq id).2] at hid;simp only[ZBW,ZB7,ZBA] at hid;rw[k11] at hid;rw[k7 id hid.1,ZAM hdy,ZAM (by omega)]
  .rw[(eq i).2] at h;simp only[ZA6,ZAF,ZAs] at h;rcases h with h|h
   .exact k4.key i h
   .omega
 .refine q2Z (z:=z2) (f:=λk=>a.eval (opOf k)) (λk=> ?_) (k5.less rfl rfl λg h=>h);rcases hb k with e|e
  .rw[e];exact .junk _
  .exact hL2 _ e
 .unfold pairIs at hp;split at hp
  .rename_i j hj;rw[afZ] at hp;subst hp;have hm:=d5Z hj;have hk:memN j (hkKeys sh.s.hs)=true:=ajZ.2 (vCZ hm);obtain⟨id',q1,q2⟩:=k6 j hk;have hnd:(sndN (sh.ps st.hp (sh.live.map st.tm.get))).Nodup:=by
    unfold Shp.rco at h2;have:=(acZ.1 h2).1;simp only[ZAF] at this;exact cCZ.1 this.1.2.1
   rw[show z2.ρ j=z'.ρ j from rfl,q2,m4Z hnd q1 hm]
  .cases hp
theorem kZZ{st}{sh}{K}{r:β}{a}{w}{R}{nt n0}(h:st.prj sh K=some r)(hi:Inv z0 N L st a w)(ab:∀p∈L,AV.ids p.2=[])
 (hb:∀k,R.get k= .junk\/(k,R.get k)∈L)(ac:nt<=N)(h0:∀id,id<dynBase->z0.ρ id≠.no->id<n0):∃t,K t=some r/\Inv z0 N L (sh.inj R nt n0 t) a w:=by
 obtain⟨z,rfl,hn,hD,hH,hs,ad,ae,aa,af⟩:=hi;obtain⟨t,z2,k1,k2,k3,k4,k5,k6,k7,_⟩:=u0Z h hn hD hH hs ad af ab hb h0;refine⟨t,k1,z2,k2,k3,k4,k5,k6,k7,ae,?_,?_⟩
 .rw[LShp.inj_eq];exact⟨ac,aa.2⟩
 simp_all[LShp.inj_eq]
theorem Out.on_inl{γ}{ac}{nt n0}:∀{rt} {l} {i} {st} {K} {r:γ} {a} {w},Out.mk st rt l i K=some r->Inv z0 N L st a w->(∀p∈L,AV.ids p.2=[])->
 (∀k,ac.get k= .junk\/(k,ac.get k)∈L)->nt<=N->(∀id,id<dynBase->z0.ρ id≠.no->id<n0)->∃o,K o=some r/\∀(X) (R:β->Option β),∃ad,Inv z0 N L ad a w/\Out.on ac nt n0 rt l o X R=X i ad
 |rt,[],i,st,K,r,a,w,h,_,_,_,_,_=>by cases rt<;>cases h
 |true,[(j,s)],i,st,K,r,a,w,h,hi,aa,hb,ab,h0=>by
  simp[Out.mk] at h;cases hj:Nat.beq j i<;>rw[hj] at h<;>simp only[bq_true,bq_false] at h
  .cases h
  rw[afZ] at hj;subst hj
  let⟨t,h1,h2⟩:=kZZ h hi aa hb ab h0
  exact⟨.inl t,h1,λX R=>⟨_,h2,rfl⟩⟩
 |false,[(j,s)],i,st,K,r,a,w,h,hi,aa,hb,ab,h0=>by
  simp[Out.mk] at h;cases hj:Nat.beq j i<;>rw[hj] at h<;>simp only[bq_true,bq_false] at h
  .cases h
  rw[afZ] at hj;subst hj
  let⟨t,h1,h2⟩:=kZZ h hi aa hb ab h0
  exact⟨t,h1,λX R=>⟨_,h2,rfl⟩⟩
 |rt,(j,s)::o::l,i,st,K,r,a,w,h,hi,aa,hb,ab,h0=>by
  have h':bq (Nat.beq j i) (st.prj s λt=>K (.inl t)) (Out.mk st rt (o::l) i λx=>K (.inr x))=some r:=by cases rt<;>exact h
  cases hj:Nat.beq j i<;>rw[hj] at h'<;>simp[bq_false] at h'
  .let⟨x,h1,h2⟩:=Out.on_inl h' hi aa hb ab h0
   refine⟨.inr x,h1,λX R=> ?_⟩
   let⟨ad,h3,h4⟩:=h2 X R
   exact⟨ad,h3,by cases rt<;>exact h4⟩
  .rw[afZ] at hj;subst hj
   let⟨t,h1,h2⟩:=kZZ h' hi aa hb ab h0
   exact⟨.inl t,h1,λX R=>⟨_,h2,by cases rt<;>rfl⟩⟩
theorem Out.on_ret{aa}{nt n0}{b}{X}{R:β->Option β}:∀{l},Out.on aa nt n0 true l (Out.ret l b) X R=R b
 |[]=>rfl
 |[(_,_)]=>rfl
 |(_,_)::o::l=>Out.on_ret (l:=o::l)
theorem Tr.ren_get(f):∀(t:Tr) (k),(t.ren f).get k=AV.ren f (t.get k)
 |.lf,k=>rfl
 |.nd l v r,k=>by
  simp[Tr.ren,Tr.get];cases Nat.beq k 0
  .cases Nat.beq (k%2) 1
   .exact Tr.ren_get f r _
   .exact Tr.ren_get f l _
  .rfl
theorem cDZ(f):∀(H) (id),hget (mapHp f H) id=(hget H id).map (Ent.ren f)/\hkey (mapHp f H) id=hkey H id
 |[],id=>⟨rfl,rfl⟩
 |(i,none)::H,id=>by
  let⟨h1,h2⟩:=cDZ f H id
  simp[mapHp,hget,hkey];cases Nat.beq i id
  .exact⟨h1,h2⟩
  .exact⟨rfl,rfl⟩
 |(i,some e)::H,id=>by
  let⟨h1,h2⟩:=cDZ f H id
  simp[mapHp,hget,hkey];cases Nat.beq i id
  .exact⟨h1,h2⟩
  .exact⟨rfl,rfl⟩
theorem uHZ{R aa id k}(h:renF R aa id=some k):(id=R/\k=aa)\/(id≠R/\k=id):=by
 unfold renF at h
 grind[afZ,bq_true,ZAf,ahZ,bq_false]
theorem swZ{z}{H}{aa R}{e}(hH:HRep z H)(hg:hget H aa=some e)(hk:hkey H R=false)(ad:R<famBase)(ab:aa<famBase)(hd:¬z.D R):
 ∃z',z'.w=z.w/\HRep z' (hset (hset (mapHp (renF aa R) H) aa none) R (some (e.ren (renF aa R))))/\Nx z z'/\∀a v,ARep z a v->ARep z' (AV.ren (renF aa R) a) v:=by
 have ar:=(hH.fresh R (by simp_all[aDZ])).resolve_right hd;have as:R≠aa:=λh=>by simp_all[aiZ]
 let z':={z with ρ:=λi=>if i=R then z.ρ aa else z.ρ i}
 have e1:∀i,i≠R->z'.ρ i=z.ρ i:=λi hi=>ZAM hi;have e2:z'.ρ R=z.ρ aa:=ZAN rfl;have hn:Nx z z':=⟨rfl,⟨rfl,ZAL _⟩,rfl,ZAL _,λ_ _ _=>rfl,λ_ h=>.inl h,λ_ h=>.inl h,λ_ _ h _=>h,λi hi=>e1 i (by grind),rfl⟩;have hf:∀{id k},z.ρ id≠.no->renF aa R id=some k->z'.ρ k=z.ρ id:=λ{id k} hl h=>by
  grind[uHZ]
 have au:∀i ee,hget H i=some ee->i≠R:=λi ee h hi=>by simp_all[aiZ]
 have af:∀i ee,ERep z i ee->∀k,z'.ρ k=z.ρ i->ERep z' k (ee.ren (renF aa R)):=λi ee h k ak=>by
  unfold ERep at h⊢;rw[ak];cases hr:z.ρ i with
  |no=>simp_all
  |virt=>
   rw[hr] at h;obtain⟨fz,b⟩:=ee;cases b<;>first|exact h.elim|exact h
  |real g sz n=>
   rw[hr] at h;obtain⟨a1,a2,a3,a4⟩:=h;refine⟨a1,a2,a3,a4.ren' (.of hn.ext) ?_⟩;omega
 have ag:∀i,hgetX (mapHp (renF aa R) H) i=(hgetX H i).map (Ent.ren (renF aa R))/\hkeyX (mapHp (renF aa R) H) i=hkeyX H i:=λi=>by
  obtain⟨q1,q2⟩:=cDZ (renF aa R) H (rt i);by_cases hd:dynBase<=i
  .rw[a8Z hd,a8Z hd,ayZ hd,ayZ hd,q1,q2];cases hget H (rt i) with
   |none=>simp_all
   |some e0=>
    simp only[ZCI,ZAA];rw[(ffZ e0 _ _).2 (ZAL _),(ffZ e0 _ _).1];refine⟨?_,rfl⟩
    grind[pick,dynBase,ZCI,e2Z]
  .unfold hgetX hkeyX;rw[ZAM hd,ZAM hd,ZAM hd,ZAM hd];by_cases hf:famBase<=i
   .rw[ZAN hf,ZAN hf,ZAN hf,ZAN hf];exact⟨rfl,rfl⟩
   simp_all[ZAM,baZ]
 have key:∀i ee,hgetX (hset (hset (mapHp (renF aa R) H) aa none) R (some (e.ren (renF aa R)))) i=some ee->∃j e0,hgetX H j=some e0/\ee=e0.ren (renF aa R)/\((i=R/\j=aa)\/(i≠R/\i≠aa/\j=i)):=λi ee h=>by
  rw[a9Z ad] at h;by_cases hi:i=R
  .rw[ZAN hi] at h;exact⟨aa,e,by rw[aqZ ab];exact hg,(ZAf h).symm,.inl ⟨hi,rfl⟩⟩
  .rw[ZAM hi,a9Z ab] at h;by_cases ho:i=aa
   .rw[ZAN ho] at h;cases h
   .rw[ZAM ho,(ag i).1] at h;obtain⟨e0,h1,h2⟩:=ZAH.1 h;exact⟨i,e0,h1,h2.symm,.inr ⟨hi,ho,rfl⟩⟩
 have av:=eGZ;have ah:∀(i) (x),Ab.famOk i x->Ab.famOk i (x.ren (renF aa R)):=λi x h=>by
  obtain⟨fz,b⟩:=x;cases b<;>exact h
 have ac:∀i j,((i=R/\j=aa)\/(i≠R/\i≠aa/\j=i))->z'.ρ i=z.ρ j:=λi j h=>by
  rcases h with⟨rfl,rfl⟩|⟨h1,_,rfl⟩
  .exact e2
  .exact e1 _ h1
 refine⟨z',rfl,⟨λi ee h=> ?_,λi i' ee al g sz n g' am n' ai p1 p2 m1 m2 p3 p4=> ?_,λi h=> ?_,hH.sub,λi x h=> ?_,λi h=> ?_,λi aj h=> ?_,λi h1 h2=>by rw[e1 i (by omega)];exact hH.nos i h1 h2⟩,hn,λa v h=>h.ren rfl rfl (.inl (.of hn.ext)) λid k hi hk=>hf (h.live id hi) hk⟩
 .obtain⟨j,e0,q1,rfl,q3⟩:=key i ee h;exact af j e0 (hH.ent _ _ q1) i (ac i j q3)
 .obtain⟨j,e0,q1,rfl,q3⟩:=key i ee p1;obtain⟨j',an,ao,rfl,ae⟩:=key i' al p2;rw[ac i j q3] at p3;rw[ac i' j' ae] at p4;have ap:j≠j':=by
   rcases q3 with⟨rfl,rfl⟩|⟨h1,h2,rfl⟩<;>rcases ae with⟨rfl,rfl⟩|⟨aw,aq,rfl⟩
   .exact absurd rfl ai
   .exact ZBh aq
   .exact h2
   .exact ai
  have rr:∀{i j},((i=R/\j=aa)\/(i≠R/\i≠aa/\j=i))->Ro j->Ro i:=λh hr=>by
   rcases h with⟨_,rfl⟩|⟨_,_,rfl⟩
   .exact absurd hr (bOZ ab)
   .exact hr
  exact λp5=>hH.inj j j' e0 an g sz n g' am n' ap q1 ao m1 m2 p3 p4 λh=>p5 ⟨rr q3 h.1,rr ae h.2⟩
 .rw[buZ ad,buZ ab,(ag i).2] at h;simp only[ZBW,ZBA] at h;rw[e1 i h.1];exact hH.fresh i h.2.2
 .rw[apZ] at h;by_cases hi:i=R
  .rw[ZAN hi] at h;injection h with h;subst h;subst hi;exact ah _ _ ((hH.fam aa e hg).other ab i ad e.fz)
  .rw[ZAM hi,apZ] at h;by_cases ho:i=aa
   .rw[ZAN ho] at h;cases h
   .rw[ZAM ho,(cDZ _ H i).1] at h;obtain⟨e0,h1,rfl⟩:=ZAH.1 h;exact ah _ _ (hH.fam i e0 h1)
 .rw[asZ,asZ,(cDZ _ H i).2] at h;simp only[ZA6,ZAs] at h;rcases h with rfl|rfl|h
  .omega
  .omega
  .exact hH.key i h
 .rw[asZ,asZ,(cDZ _ H _).2] at h;simp only[ZA6,ZAs] at h;have:=(bIZ aj).1;refine hH.dyn i aj ?_;rcases h with h|h|h
  .omega
  .omega
  .exact h
theorem HRep.reent{z}{H}{id}{b0 b}(R:HRep z H)(aa:id<famBase)(hg:hget H id=some ⟨false,b0⟩)(hb:ERep z id ⟨false,b0⟩->ERep z id ⟨false,b⟩)(hf:Ab.famOk id ⟨false,b⟩):HRep z (hset H id (some ⟨false,b⟩)):=by
 have hu:=Upd.stat aa hg hf;have ac:hgetX H id=some ⟨false,b0⟩:=by rw[aqZ aa];exact hg
 refine⟨λi e hi=> ?_,λi i' e e' a sa na a' ae af ad h1 h2 m1 m2 h3 h4=> ?_,λi hi=>R.fresh i (hu.K i hi),R.sub,λi x h=>(hu.fam i x h).elim (R.fam i x) λh=>h,λi h=>R.key i (hu.key i h),λi hd h=>R.dyn i hd (hu.key _ h),R.nos⟩
 .rw[hu.X] at hi;by_cases h:i=id
  .subst h;rw[ZAN rfl] at hi;cases hi;exact hb (R.ent _ _ ac)
  .rw[ZAM h] at hi;exact R.ent _ _ hi
 .rw[hu.X] at h1 h2;have q:∀j ee,(if j=id then some (⟨false,b⟩:Ent) else hgetX H j)=some ee->ee.fz=false->∃ab,hgetX H j=some ab/\ab.fz=false:=λj ee hj hf=>by
   grind
  let⟨e1,q1,f1⟩:=q _ _ h1 m1
  let⟨e2,q2,f2⟩:=q _ _ h2 m2
  exact R.inj i i' _ _ _ _ _ _ _ _ ad q1 q2 f1 f2 h3 h4
theorem poZ{t:Ty}(h:t.unref= .byte):t= .byte:=by
 cases t<;>simp[Ty.unref] at h⊢
theorem p6Z{z}{id}{e}{t}{l}(h:ERep z id ⟨false,.rows e t.unref l⟩):ERep z id ⟨false,.rows e t (l.map (liftT t))⟩:=by
 unfold ERep at h⊢;cases R:z.ρ id with
 |no=>simp_all
 |virt=>
  rw[R] at h;obtain⟨rfl,h2⟩:=h;rw[a4Z] at h2;exact⟨rfl,h2⟩
 |real g sz n=>
  rw[R] at h
  let⟨h1,h2,h3,cs,fr,a1,a2,a3,a4,a5,a6,a7⟩:=h
  rw[a4Z] at a5 a6;refine⟨h1,h2,h3,cs,fr,a1,a2.imp (λh=>h) (λh=>⟨poZ h.1,h.2⟩),a3,by rw[ZAq];exact a4,by rw[ZAq];exact a5,a6,λi x hx=> ?_⟩;rw[ZAY] at hx;obtain⟨y,hy,rfl⟩:=ZAH.1 hx
  let⟨u,b1,b2⟩:=a7 i y hy
  rw[a4Z] at b2;exact⟨u,ePZ b1,b2⟩
theorem HRep.newFam{z}{H}{f}{e}{s}(R:HRep z H)(hD:∀id,¬z.D id)(hk:hkey H (famId f)=false)(hs:s.noRef=true)(hc:0<s.cells):HRep z (hset H (famId f) (some ⟨false,.fam e s []⟩)):=by
 have hX:∀i,hgetX (hset H (famId f) (some ⟨false,.fam e s []⟩)) i=hgetX H i:=λi=>by
  by_cases hi:∃k,i=enc f k
  .obtain⟨k,rfl⟩:=hi;rw[(bFZ H f _ 0).1 k,cFZ,awZ hk]
   rfl
  simp_all[bFZ]
 refine⟨λi ee h=>R.ent i ee (by simp_all),λi i' ee aa g sz n g' ab n' ac p1 p2 m1 m2 p3 p4=>R.inj i i' ee aa g sz n g' ab n' ac (by simp_all) (by simp_all) m1 m2 p3 p4,λi h=> ?_,R.sub,λi x h=> ?_,λi h=> ?_,λi _ _=>hD i,R.nos⟩
 .by_cases hi:∃k,i=enc f k
  .obtain⟨k,rfl⟩:=hi;refine R.fresh _ ?_
   simp_all[ayZ,cgZ,dVZ,awZ]
  .rw[(coZ H f _ i).2 λk h=>hi ⟨k,h⟩] at h;exact R.fresh i h
 .rw[apZ] at h;by_cases hi:i=famId f
  .rw[ZAN hi] at h;injection h with h;subst h;rw[hi];exact⟨(bSZ f).1,(bSZ f).2,hs,hc,rfl⟩
  .rw[ZAM hi] at h;exact R.fam i x h
 .rw[asZ] at h;simp only[ZA6,ZAs] at h;rcases h with rfl|h
  .grind[bSZ]
  .exact R.key i h
theorem fWZ{β}{g}{st}{K}{r:β}(h:ghostK P g st K=some r):∃R,ghost P g st=some R/\K R=some r:=by
 cases g with
 |pureCell b o=>
  unfold ghostK at h;unfold ghost;dsimp at h⊢;split at h
  .split at h
   .rw[glZ] at h
    let⟨⟨x,H'⟩,h1,h2⟩:=agZ.1 h
    rw[h1];simp at h2⊢;split at h2
    .exact⟨_,rfl,h2⟩
    .cases h2
   .exact⟨_,rfl,h⟩
  .exact⟨_,rfl,h⟩
 |opn k m=>
  unfold ghostK at h;unfold ghost;dsimp at h⊢;cases hb:Nat.blt m 10<;>rw[hb] at h<;>simp only[bq_true,bq_false] at h⊢
  .rw[mWZ] at h
   let⟨x,h1,h2⟩:=agZ.1 h
   rw[h1];exact⟨_,rfl,h2⟩
  .cases h
 |_=>exact agZ.1 h
theorem m8Z{g}{st aj}{a}{w}(h:ghost P g st=some aj)(hi:Inv z0 N L st a w)(ap:∀k,((∃e id,g= .ownNil k e id)\/g= .pure k)->∀p∈L,p.1≠k)(aq:∀p∈L,AV.ids p.2=[]):Inv z0 N L aj a w:=by
 obtain⟨z,rfl,hn,hD,hH,hs,R,aa,ab,h0⟩:=hi;unfold ghost at h;split at h
 .rename_i ak ag;split at h
  .rename_i e hg;cases hk:(hkey st.hp ag||Nat.ble famBase ag||Nat.ble famBase ak)<;>rw[hk] at h<;>simp only[bq_true,bq_false] at h
   .simp only[ZAV] at h;subst h;simp only[ZBW] at hk;have ad:∀{n},Nat.ble famBase n=false->n<famBase:=λ{n} h=>ZBO.1 λh'=>by rw[ZAh h'] at h;cases h
    obtain⟨z',q1,q2,q3,q4⟩:=swZ hH hg hk.1.1 (ad hk.1.2) (ad hk.2) (hD ag);have kp:=q3.kp hH.sub;refine⟨z',q1,hn.trans q3,λid=>by rw[q3.dom];exact hD id,q2,λt=> ?_,λp hp=>(R p hp).kp kp,aa,ab,h0⟩;show ARep z' ((st.tm.ren (renF ak ag)).get t) _;rw[Tr.ren_get];exact q4 _ _ (hs t)
   .cases h
  grind
 .rename_i k;obtain⟨⟨x,H'⟩,h1,h2⟩:=ZAH.1 h;subst h2;obtain⟨z',q1,q2,q3,q4,q5⟩:=fFZ hH h1 (hs k);have kp:=q3.kp hH.sub;refine⟨z',q1,hn.trans q3,λid=>by rw[q3.dom];simp_all,q2,λt=> ?_,λp hp=>(R p hp).kp kp,aa,ab,h0⟩;show ARep z' ((st.tm.put k x).get t) _;by_cases ht:t=k
  .subst ht;rcases(Tr.get_put st.tm t x t).2 with e|e<;>rw[e]
   .omega
   .exact .junk _
  .rw[(Tr.get_put st.tm k x t).1 ht];exact(hs t).kp kp
 .rename_i k;simp only[ZAV] at h;subst h;obtain⟨z',q1,q2,q3,q4⟩:=pFZ (st.tm.get k) hH;have kp:=q3.kp hH.sub;exact⟨z',q1,hn.trans q3,λid=>by rw[q3.dom];simp_all,q2,λt=>(hs t).kp kp,λp hp=>(R p hp).kp kp,aa,ab,h0⟩
 .rename_i id;simp only[ZAV] at h;subst h;obtain⟨z',q1,q2,q3,q4⟩:=mGZ id hH;have kp:=q3.kp hH.sub;exact⟨z',q1,hn.trans q3,λid=>by rw[q3.dom];simp_all,q2,λt=>(hs t).kp kp,λp hp=>(R p hp).kp kp,aa,ab,h0⟩
 .rename_i b o;split at h
  .rename_i c hg;split at h
   .rename_i x hc;split at h
    .rename_i y H' hp;split at h
     .rename_i c' ao;simp only[ZAV] at h;subst h;have af:=hH.fam b _ hg;have ac:=hH.ent b _ (by rw[aqZ af];exact hg);unfold ERep at ac;cases ae:z.ρ b with
      |no=>rw[ae] at ac;exact ac.elim
      |virt=>rw[ae] at ac;exact ac.elim
      |real g sz n=>
       rw[ae] at ac;obtain⟨_,_,_,cs,e',fr,a1,a2,a3,⟨a4,an⟩,a5,a6⟩:=ac;have ho:=(ZAB.1 hc).1;obtain⟨v,hv⟩:∃v,cs[o]? =some v:=⟨_,ZBD (by omega)⟩;obtain⟨z1,p1,p2,p3,p4,p5⟩:=fFZ hH hp (a5 o x v hc hv);have kp:=p3.kp hH.sub;have al:z1.ρ b= .real g sz n:=by rw[p4];exact ae
       obtain⟨r1,r2⟩:=p2.write (b:=.vars (c.set o y)) ao al rfl ⟨rfl,ZAL _⟩ rfl rfl (λ_ _=>rfl) (λ_=>by
        refine⟨cs,e',fr,by rw[p1];exact a1,a2,a3,⟨by simpa using a4,an⟩,λi x' v' q1 q2=> ?_,a6⟩;rw[List.getElem?_set] at q1;split at q1
        .rename_i ah;subst ah;rw[hv] at q2;simp only[ZAV] at q2;subst q2;have:=by simpa[ho] using q1
         subst this;exact p5
        .exact(a5 i x' v' q1 q2).kp kp)
       exact⟨z1,p1,hn.trans p3,λid=>by rw[p3.dom];exact hD id,r1,λt=>(hs t).kp kp,λp hp=>(R p hp).kp kp,aa,ab,h0⟩
     grind
    .simp only[ZAV] at h;subst h;exact⟨z,rfl,hn,hD,hH,hs,R,aa,ab,h0⟩
   .simp only[ZAV] at h;subst h;exact⟨z,rfl,hn,hD,hH,hs,R,aa,ab,h0⟩
  .simp only[ZAV] at h;subst h;exact⟨z,rfl,hn,hD,hH,hs,R,aa,ab,h0⟩
 .rename_i k e id;split at h
  .rename_i hq;obtain⟨u,h1,h2⟩:=agZ.1 h;cases hk:(hkey st.hp id||Nat.ble famBase id)<;>rw[hk] at h2<;>simp only[bq_true,bq_false] at h2
   .simp only[ZAV] at h2;subst h2;simp only[ZBW] at hk;have ad:=ZBO.1 λh'=>by rw[ZAh h'] at hk;cases hk.2
    obtain⟨z1,p1,p2,p3,p4⟩:=hH.newV ⟨hk.1,ad⟩ (hD id) (b:=.rows e u []) ⟨rfl,(cWZ h1).2.1⟩;have kp:=p3.kp hH.sub;have hv:=hs k;rw[hq] at hv;have hv:=hv.v.opq.1;refine⟨z1,p1,hn.trans p3,λid=>by rw[p3.dom];exact hD id,p2,λt=> ?_,λp hp=>(R p hp).kp kp,aa,ab,h0⟩;by_cases ht:t=k
    .subst ht;show ARep z1 ((st.tm.put t (.slf u.cells id)).get t) _;rcases(Tr.get_put st.tm t (.slf u.cells id) t).2 with e|e<;>rw[e]
     .rw[hv];exact .slfV _ _ _ p4
     .exact .junk _
    .show ARep z1 ((st.tm.put k (.slf u.cells id)).get t) _;rw[(Tr.get_put st.tm k (.slf u.cells id) t).1 ht];exact(hs t).kp kp
   simp_all
  .simp only[ZAV] at h;subst h;exact⟨z,rfl,hn,hD,hH,hs,R,aa,ab,h0⟩
 .rename_i b o e id;split at h
  .rename_i c hg;split at h
   .rename_i hc;obtain⟨u,h1,h2⟩:=agZ.1 h;cases hk:(hkey st.hp id||Nat.ble famBase id)<;>rw[hk] at h2<;>simp only[bq_true,bq_false] at h2
    .simp only[ZAV] at h2;subst h2;simp only[ZBW] at hk;have ad:=ZBO.1 λh'=>by rw[ZAh h'] at hk;cases hk.2
     replace hk:=hk.1
     obtain⟨z1,p1,p2,p3,p4⟩:=hH.newV ⟨hk,ad⟩ (hD id) (b:=.rows e u []) ⟨rfl,(cWZ h1).2.1⟩;have kp:=p3.kp hH.sub;have am:b≠id:=λh=>by subst h;rw[aiZ hg] at hk;cases hk
     have hg1:hget (hset st.hp id (some ⟨false,.rows e u []⟩)) b=some ⟨false,.vars c⟩:=by rw[apZ,ZAM am];exact hg
     have af:b<famBase:=hH.fam b _ hg;have ac:=p2.ent b _ (by rw[aqZ af];exact hg1);have ai:∀H1 H2,H1=hset (hset st.hp b (some ⟨false,.vars (c.set o (.slf u.cells id))⟩)) id (some ⟨false,.rows e u []⟩)->H2=hset (hset st.hp id (some ⟨false,.rows e u []⟩)) b (some ⟨false,.vars (c.set o (.slf u.cells id))⟩)->
      (∀i,hget H1 i=hget H2 i)/\∀i,hkey H1 i=hkey H2 i:=by
      rintro _ _ rfl rfl;refine⟨λi=> ?_,λi=> ?_⟩
      .simp only[apZ];by_cases h1:i=id
       .subst h1;simp[ZBh am]
       .simp[h1]
      .simp only[asZ];cases decide (i=id)<;>cases decide (i=b)<;>rfl
     obtain⟨s1,s2⟩:=ai _ _ rfl rfl;unfold ERep at ac;cases ae:z1.ρ b with
     |no=>rw[ae] at ac;exact ac.elim
     |virt=>rw[ae] at ac;exact ac.elim
     |real g sz n=>
      rw[ae] at ac;obtain⟨_,_,_,cs,e',fr,a1,a2,a3,⟨a4,an⟩,a5,a6⟩:=ac;obtain⟨r1,r2⟩:=p2.write (w':=z1.w) (b:=.vars (c.set o (.slf u.cells id))) hg1 ae rfl ⟨rfl,ZAL _⟩ rfl rfl (λ_ _=>rfl) (λ_=>by
       refine⟨cs,e',fr,a1,a2,a3,⟨by simpa using a4,an⟩,λi x v q1 q2=> ?_,a6⟩;rw[List.getElem?_set] at q1;split at q1
       .rename_i ah;subst ah;split at q1
        .simp only[ZAV] at q1;subst q1;have:=a5 o _ v hc q2;obtain rfl:=this.v.opq.1;exact .slfV _ _ _ p4
        .cases q1
       .exact a5 i x v q1 q2)
      exact⟨z1,p1,hn.trans p3,λid=>by rw[p3.dom];exact hD id,r1.same s1 s2,λt=>(hs t).kp kp,λp hp=>(R p hp).kp kp,aa,ab,h0⟩
    .cases h2
   .simp only[ZAV] at h;subst h;exact⟨z,rfl,hn,hD,hH,hs,R,aa,ab,h0⟩
  .simp only[ZAV] at h;subst h;exact⟨z,rfl,hn,hD,hH,hs,R,aa,ab,h0⟩
 .rename_i f e s;cases hk:(hkey st.hp (famId f)|| !s.noRef||Nat.beq s.cells 0)<;>rw[hk] at h<;>simp only[bq_true,bq_false] at h
  .simp only[ZAV] at h;subst h;simp only[ZBW,Bool.not_eq_false'] at hk;have hc:0<s.cells:=Nat.pos_of_ne_zero λh=>by rw[(afZ _ _).2 h] at hk;cases hk.2
   exact⟨z,rfl,hn,hD,hH.newFam hD hk.1.1 hk.1.2 hc,hs,R,aa,ab,h0⟩
  .cases h
 .rename_i k f;split at h
  .rename_i e s ms hg;obtain⟨⟨x,H'⟩,h1,h2⟩:=ZAH.1 h;subst h2;obtain⟨z',q1,q2,q3,q5⟩:=ljZ hH h1 (hs k);have kp:=q3.kp hH.sub;refine⟨z',q1,hn.trans q3,λid=>by rw[q3.dom];exact hD id,q2,λt=> ?_,λp hp=>(R p hp).kp kp,aa,ab,h0⟩;show ARep z' ((st.tm.put k x).get t) _;by_cases ht:t=k
   .subst ht;rcases(Tr.get_put st.tm t x t).2 with e|e<;>rw[e]
    .exact q5
    .exact .junk _
   .rw[(Tr.get_put st.tm k x t).1 ht];exact(hs t).kp kp
  .cases h
 .rename_i k m;cases hb:Nat.blt m 10<;>rw[hb] at h<;>simp only[bq_true,bq_false] at h
  .obtain⟨⟨x,H'⟩,h1,h2⟩:=ZAH.1 h;subst h2;have hm:¬m<10:=λhc=>by rw[show Nat.blt m 10=true from ZAh hc] at hb;cases hb
   obtain⟨z',Mf,q1,q2,q3,q4,q5,q6⟩:=pEZ hH (.inr (hD _)) h1 (hs k);have q6:=q6 (by omega);subst q6;have kp:=q3.kp hH.sub;refine⟨z',q1,hn.trans q3,λid=>by rw[q3.dom];exact hD id,q2,λt=> ?_,λp hp=>(R p hp).kp kp,aa,ab,h0⟩;show ARep z' ((st.tm.put k x).get t) _;by_cases ht:t=k
   .subst ht;rcases(Tr.get_put st.tm t x t).2 with e|e<;>rw[e]
    .exact q5
    .exact .junk _
   .rw[(Tr.get_put st.tm k x t).1 ht];exact(hs t).kp kp
  .cases h
 .rename_i id t;split at h
  .rename_i e u l hg;rcases aQZ h with⟨hu,h'⟩|h'
   .subst hu;have:=ZAf h';subst this;exact⟨z,rfl,hn,hD,hH.reent (hH.fam id _ hg) hg p6Z (show id<famBase from hH.fam id _ hg),hs,R,aa,ab,h0⟩
   .cases h'
  .cases h
def AC.of:AC->Code->Prop
 |.skip,c=>c= .skip
 |.ret,c=>c= .ret
 |.exit i,c=>c= .exit i
 |.seq a b,c=>∃x y,c= .seq x y/\a.of x/\b.of y
 |.cond o a b,c=>∃x y,c= .cond o x y/\a.of x/\b.of y
 |.block i a,c=>∃x,c= .block i x/\a.of x
 |.loop _ _ _ a,c=>∃x,c= .loop x/\a.of x
 |.region i R d,c=>∃arr,c= .region i arr d/\R.map (·.1)=arr.toList
 |.join _ _ _ a,c=>a.of c
 |.pre _ a,c=>a.of c
 |.sel _ a b,c=>a.of c/\b.of c
 |.post _ a,c=>a.of c
 |.round a r,c=>∃x,c= .loop x/\a.of x/\r.of c
 |.bad _,_=>True
theorem eVZ(l):∀(k) (R),(annOps l k R).map (·.1)=R
 |_,[]=>rfl
 |k,o::r=>by simp[annOps,eVZ l (k+1) r]
theorem byZ:(c:Code)->(plain c).of c
 |.ret=>rfl
 |.exit i=>rfl
 |.seq a b=>⟨a,b,rfl,byZ a,byZ b⟩
 |.cond o a b=>⟨a,b,rfl,byZ a,byZ b⟩
 |.block i a=>⟨a,rfl,byZ a⟩
 |.region i R d=>⟨R,rfl,eVZ _ _ _⟩
 |.skip=>rfl
 |.loop _|.rangeFunc _ _ _ _|.scope _|.label _|.goto _|.refuse _=>trivial
theorem bjZ:(ov:Ov)->(c:Code)->(build ov c).of c
 |.join sh rt R x,c=>bjZ x c
 |.pre g x,c=>bjZ x c
 |.sel q x y,c=>⟨bjZ x c,bjZ y c⟩
 |.post g x,c=>bjZ x c
 |.round x y,c=>by cases c<;>first|exact⟨_,rfl,bjZ x _,bjZ y _⟩|exact byZ _
 |.one x,c=>by cases c<;>first|exact⟨_,rfl,bjZ x _⟩|exact byZ _
 |.two x y,c=>by cases c<;>first|exact⟨_,_,rfl,bjZ x _,bjZ y _⟩|exact byZ _
 |.loop sh rt R x,c=>by cases c<;>first|exact⟨_,rfl,bjZ x _⟩|exact byZ _
 |.reg l,c=>by cases c<;>first|exact⟨_,rfl,eVZ _ _ _⟩|exact byZ _
 |.leaf,c=>byZ c
theorem Inv.drew{st}{a}{w}(hi:Inv z0 N L st a w):Inv z0 N L st a {w with drawn:=w.drawn+1}:=by
 obtain⟨z,rfl,hn,hD,hH,hs,hLs,hdf,hnt,h0⟩:=hi
 let z1:={z with w:={z.w with drawn:=z.w.drawn+1}}
 have hn1:Nx z z1:=⟨rfl,⟨rfl,ZBY _⟩,rfl,ZAL _,λ_ _ _=>rfl,λ_ h=>.inl h,λ_ h=>.inl h,λ_ _ h _=>h,λ_ _=>rfl,rfl⟩;have kp:=hn1.kp hH.sub;exact⟨z1,rfl,hn.trans hn1,hD,⟨λid e he=>(hH.ent id e he).kp kp λ_ _ _ _=>⟨rfl,λh=>h⟩,hH.inj,hH.fresh,hH.sub,hH.fam,hH.key,hH.dyn,hH.nos⟩,λt=>(hs t).kp kp,λp hp=>(hLs p hp).kp kp,hdf,hnt,h0⟩
end
section
variable {P : Program} {T : Tbl} {N fu : Nat}
theorem r2Z{z0}{L}{st}{a}{w}(hi:Inv z0 N L st a w)(aa:∀p∈L,AV.ids p.2=[])(wr)(ag:∀p∈L,p.1∉wr):
 ∃L',(∀p∈L,p∈L')/\Inv z0 N L' st a w/\(∀p∈L',AV.ids p.2=[])/\(∀k,((st.tm.keep).junk wr).get k= .junk\/(k,((st.tm.keep).junk wr).get k)∈L')/\∀p∈L',p.1∉wr:=by
 let⟨n,hn⟩:=i1Z ((st.tm.keep).junk wr)
 have hget:∀k,k∉wr->((st.tm.keep).junk wr).get k= .junk\/(((st.tm.keep).junk wr).get k=st.tm.get k/\(st.tm.get k).noRef=true):=λk hk=>by
  rw[(jmZ wr st.tm.keep k).2 hk];exact jrZ st.tm k
 let ex:=(List.range n).filterMap λk=>if memN k wr=true then none else some (k,((st.tm.keep).junk wr).get k)
 have R:∀p∈ex,p.1∉wr/\p.2=((st.tm.keep).junk wr).get p.1:=λp hp=>by
  let⟨k,_,h⟩:=List.mem_filterMap.1 hp
  split at h
  .cases h
  .rename_i hm;simp at h;subst h;exact⟨λh=>hm (ajZ.2 h),rfl⟩
 refine⟨L++ex,λp hp=>ZBa _ hp,?_,λp hp=> ?_,λk=> ?_,λp hp=> ?_⟩
 .obtain⟨z,rfl,ab,hD,hH,hs,ac,ad,ae,h0⟩:=hi;refine⟨z,rfl,ab,hD,hH,hs,λp hp=> ?_,ad,ae,h0⟩;rcases ZAg.1 hp with hp|hp
  .exact ac p hp
  .let⟨h1,h2⟩:=R p hp
   rw[h2];rcases hget p.1 h1 with e|⟨e,_⟩<;>rw[e]
   .exact .junk _
   .exact hs p.1
 .rcases ZAg.1 hp with hp|hp
  .exact aa p hp
  .let⟨h1,h2⟩:=R p hp
   rw[h2];rcases hget p.1 h1 with e|⟨e,h3⟩<;>rw[e]
   .rfl
   .exact pCZ h3
 .by_cases hk:k∈wr
  .exact .inl ((jmZ wr st.tm.keep k).1 hk)
  .by_cases af:k<n
   .right;refine ZCU _ (List.mem_filterMap.2 ⟨k,ZCO.2 af,?_⟩);rw[ZAM λh=>hk (ajZ.1 h)]
   .exact .inl (hn k (by omega))
 grind
theorem rbZ{β γ}{rt}{aa}{b}{K}{r:γ}(h:Out.retO rt aa b K=some r):
 ∃o,K o=some r/\∀(ab) (nt n0) (X) (R:β->Option β),Out.on ab nt n0 rt aa o X R=R b:=by
 cases rt with
 |false=>cases h
 |true=>exact⟨_,h,λbase nt n0 X R=>Out.on_ret⟩
def AC.nr:AC->Nat
 |.round _ r=>r.nr+1
 |_=>0
def Gl(P:Program)(ac:AC)(c:Code)(Q:Exit->Act->World->Prop)(a:Act)(w:World):Prop:=
 match ac with
 |.round x r=>∃R,c= .loop R/\Code.rounds P R Q (AC.nr (.round x r)) a w
 |_=>c.wp P Q a w
theorem Gl.wp{R}{c}{Q}{a}{w}(h:Gl P R c Q a w):c.wp P Q a w:=by
 cases R
 case round x y=>
  obtain⟨cx,rfl,h⟩:=h;exact wp_loop_rounds _ h
 all_goals exact h
theorem cwZ(hT:∀e∈T,Told P e)(hm:P.follows .mixedOrders=true):(ac:AC)->{z0:Z}->{β:Type}->{st:St}->{K:St->Option β}->{X:Nat->St->Option β}->{R:St->Option β}->{res:β}->{c:Code}->{L:List (Nat×AV)}->{a:Act}->{w:World}->
 {Q:Exit->Act->World->Prop}->evS P T fu ac st K X R=some res->ac.of c->Inv z0 N L st a w->(∀p∈L,AV.ids p.2=[])->(∀p∈L,p.1∉ac.wr)->
 (∀st' a' w',K st'=some res->Inv z0 N L st' a' w'->Q .normal a' w')->(∀i st' a' w',X i st'=some res->Inv z0 N L st' a' w'->Q (.exit i) a' w')->
 (∀st' a' w',R st'=some res->Inv z0 N L st' a' w'->Q .ret a' w')->Gl P ac c Q a w
 |.skip,z0,β,st,K,X,R,res,c,L,a,w,Q,h,hc,hi,hLn,hLw,hK,hX,hR=>by
  obtain rfl:=hc;exact wp_skip (hK _ _ _ h hi)
 |.ret,z0,β,st,K,X,R,res,c,L,a,w,Q,h,hc,hi,hLn,hLw,hK,hX,hR=>by
  obtain rfl:=hc;exact wp_ret (hR _ _ _ h hi)
 |.exit i,z0,β,st,K,X,R,res,c,L,a,w,Q,h,hc,hi,hLn,hLw,hK,hX,hR=>by
  obtain rfl:=hc;exact wp_exit (hX _ _ _ _ h hi)
 |.seq x y,z0,β,st,K,X,R,res,c,L,a,w,Q,h,hc,hi,hLn,hLw,hK,hX,hR=>by
  obtain⟨cx,cy,rfl,h1,h2⟩:=hc;simp only[AC.wr,ZAg,not_or] at hLw;refine wp_seq (Gl.wp (cwZ hT hm x h h1 hi hLn (λp hp=>(hLw p hp).1) (λst' a' w' h' hi'=> ?_) hX hR));exact Gl.wp (cwZ hT hm y h' h2 hi' hLn (λp hp=>(hLw p hp).2) hK hX hR)
 |.cond o x y,z0,β,st,K,X,R,res,c,L,a,w,Q,h,hc,hi,hLn,hLw,hK,hX,hR=>by
  obtain⟨cx,cy,rfl,h1,h2⟩:=hc;simp only[AC.wr,ZAg,not_or] at hLw;obtain⟨t,h3,h4⟩:=agZ.1 h;have hb:a.eval o= .bool t:=by
   obtain⟨z,_,_,_,_,hs,_⟩:=hi;exact bTZ h3 (dXZ hs o)
  cases t
  .exact wp_cond_false hb (Gl.wp (cwZ hT hm y h4 h2 hi hLn (λp hp=>(hLw p hp).2) hK hX hR))
  .exact wp_cond_true hb (Gl.wp (cwZ hT hm x h4 h1 hi hLn (λp hp=>(hLw p hp).1) hK hX hR))
 |.block i x,z0,β,st,K,X,R,res,c,L,a,w,Q,h,hc,hi,hLn,hLw,hK,hX,hR=>by
  obtain⟨cx,rfl,h1⟩:=hc;refine wp_block (Gl.wp (cwZ hT hm x h h1 hi hLn hLw hK (λj st' a' w' h' hi'=> ?_) hR));show if j=i then Q .normal a' w' else Q (.exit j) a' w';by_cases hj:j=i
  .rw[(afZ j i).2 hj,bq_true] at h'
   grind
  .rw[ahZ hj,bq_false] at h'
   grind
 |.region i opsA d,z0,β,st,K,X,R,res,c,L,a,w,Q,h,hc,hi,hLn,hLw,hK,hX,hR=>by
  obtain⟨arr,rfl,h1⟩:=hc;have hLd:∀x∈opsA,∀p∈L,x.1.dst≠some p.1:=λx hx p hp he=>hLw p hp (by
   grind[AC.wr])
  have hsz:=by
   have:=congrArg List.length h1;simpa using this
  have h:bq d (need (edgesOk 0 (opsA.map (·.1))&&nmsOk (nms (clos 0 (opsA.map (·.1)) []) (opsA.map (·.1)) 0 (opsA.map (·.1))))<|evOpsD P T (numb 0 opsA) (opsA.map (·.1)) st [] λst' fs=>need (pairsOk (clos 0 (opsA.map (·.1)) []) fs)<|K st') (evOps P T opsA (opsA.map (·.1)) st K)=some res:=h
  rw[h1] at h;cases d
  .rw[bq_false] at h;refine wp_region ?_;have:=s5Z hT hK opsA 0 (λi x hx=>by
    have e:(opsA.map (·.1))[i]? =some x.1:=by rw[ZAY,hx];rfl
    rw[h1] at e;rw[ZAz,<-Array.getElem?_toList];exact e) hLd st a w h hi
   simp_all[List.range_eq_range']
  .rw[bq_true] at h;obtain⟨h2,h3⟩:=acZ.1 h;simp only[ZAF] at h2;exact wp_region_any hm (sHZ hT h1 hLd hK h2.1 h2.2 h3 hi.drew)
 |.join sh rt outs x,z0,β,st,K,X,R,res,c,L,a,w,Q,h,hc,hi,hLn,hLw,hK,hX,hR=>by
  obtain⟨o,h1,h2⟩:=ZAG.1 h;obtain⟨L',q1,q2,q3,q4,q5⟩:=r2Z hi hLn x.wr hLw;obtain⟨_,_,_,_,_,_,_,_,hnt,h0⟩:=hi;refine Gl.wp (cwZ hT hm x h1 hc q2 q3 q5 (λst' a' w' h' hi'=> ?_) (λi st' a' w' h' hi'=> ?_) (λst' a' w' h' hi'=> ?_))
  .obtain⟨o',e1,e2⟩:=Out.on_inl h' hi' q3 q4 hnt.1 h0;simp only[ZAV] at e1;subst e1;obtain⟨st1,e3,e4⟩:=e2 (λi st''=>match i with|0=>K st''|i+1=>X i st'') some
   exact hK st1 a' w' (e4.symm.trans h2) (e3.sub q1)
  .obtain⟨o',e1,e2⟩:=Out.on_inl h' hi' q3 q4 hnt.1 h0;simp only[ZAV] at e1;subst e1;obtain⟨st1,e3,e4⟩:=e2 (λi st''=>match i with|0=>K st''|i+1=>X i st'') some
   exact hX i st1 a' w' (e4.symm.trans h2) (e3.sub q1)
  .obtain⟨b,e1,e2⟩:=agZ.1 h';obtain⟨o',e3,e4⟩:=rbZ e2;simp only[ZAV] at e3;subst e3;have:some b=some res:=(e4 _ _ _ _ _).symm.trans h2;exact hR st' a' w' (e1.trans this) (hi'.sub q1)
 |.pre g x,z0,β,st,K,X,R,res,c,L,a,w,Q,h,hc,hi,hLn,hLw,hK,hX,hR=>by
  obtain⟨st1,h1,h2⟩:=fWZ h;have hg:Inv z0 N L st1 a w:=m8Z h1 hi (λk he p hp hk=>hLw p hp (by
   rcases he with⟨e,id,he⟩|he
   .subst he;simp[AC.wr,hk]
   .subst he;simp[AC.wr,hk])) hLn
  refine Gl.wp (cwZ hT hm x h2 hc hg hLn (λp hp hmem=>hLw p hp ?_) hK hX hR);cases g with
  |ownNil k e id=>exact ZAc _ hmem
  |pure k=>exact ZAc _ hmem
  |mem k f=>exact ZAc _ hmem
  |opn k m=>exact ZAc _ hmem
  |_=>exact hmem
 |.sel q x y,z0,β,st,K,X,R,res,c,L,a,w,Q,h,hc,hi,hLn,hLw,hK,hX,hR=>by
  simp only[AC.wr,ZAg,not_or] at hLw;have h:bq (Cn.holds st q) (evS P T fu x st K X R) (evS P T fu y st K X R)=some res:=h;cases hf:Cn.holds st q<;>rw[hf] at h
  .exact Gl.wp (cwZ hT hm y h hc.2 hi hLn (λp hp=>(hLw p hp).2) hK hX hR)
  .exact Gl.wp (cwZ hT hm x h hc.1 hi hLn (λp hp=>(hLw p hp).1) hK hX hR)
 |.bad c',z0,β,st,K,X,R,res,c,L,a,w,Q,h,hc,hi,hLn,hLw,hK,hX,hR=>by cases h
 |.post g x,z0,β,st,K,X,R,res,c,L,a,w,Q,h,hc,hi,hLn,hLw,hK,hX,hR=>by
  refine Gl.wp (cwZ hT hm x h hc hi hLn (λp hp hmem=>hLw p hp ?_) (λst' a' w' h' hi'=> ?_) hX hR)
  .cases g with
   |ownNil k e id=>exact ZAc _ hmem
   |pure k=>exact ZAc _ hmem
   |mem k f=>exact ZAc _ hmem
   |opn k m=>exact ZAc _ hmem
   |_=>exact hmem
  .obtain⟨st1,h1,h2⟩:=fWZ h';refine hK st1 a' w' h2 (m8Z h1 hi' (λk he p hp hk=>hLw p hp ?_) hLn);rcases he with⟨e,id,he⟩|he
   .subst he;simp[AC.wr,hk]
   .subst he;simp[AC.wr,hk]
 |.round x y,z0,β,st,K,X,R,res,c,L,a,w,Q,h,hc,hi,hLn,hLw,hK,hX,hR=>by
  obtain⟨cx,rfl,h1,h2⟩:=hc;simp only[AC.wr,ZAg,not_or] at hLw;obtain⟨h3,h4⟩:=acZ.1 h;refine⟨cx,rfl,Gl.wp (cwZ hT hm x h4 h1 hi hLn (λp hp=>(hLw p hp).1) (λst' a' w' h' hi'=> ?_) (λi st' a' w' h' hi'=>hX i st' a' w' h' hi') (λst' a' w' h' hi'=>hR st' a' w' h' hi'))⟩;have hy:=cwZ hT hm y h' h2 hi' hLn (λp hp=>(hLw p hp).2) hK hX hR;cases y with
  |round x' y'=>
   obtain⟨cx',e,hn⟩:=hy;injection e with e;subst e;exact hn
  |bad c'=>cases h'
  |_=>cases h3
 |.loop sh rt outs x,z0,β,st,K,X,R,res,c,L,a,w,Q,h,hc,hi,hLn,hLw,hK,hX,hR=>by
  obtain⟨cx,rfl,h1⟩:=hc;obtain⟨L',q1,q2,q3,q4,q5⟩:=r2Z hi hLn x.wr hLw;obtain⟨t0,p1,p2⟩:=kZZ (r:=res) h q2 q3 q4 (nt:=st.nt) (n0:=st.n0) (by obtain⟨_,_,_,_,_,_,_,_,hnt,_⟩:=hi<;>grind) (by obtain⟨_,_,_,_,_,_,_,_,_,h0⟩:=hi;omega);obtain⟨_,_,_,_,_,_,_,_,hnt,h0⟩:=hi;obtain⟨o,r1,r2⟩:=ZAG.1 p1;generalize hbase:(st.tm.keep).junk x.wr=base at*;generalize hf:(λt=>evS P T fu (β:=sh.D⊕Out rt outs β) x (sh.inj base st.nt st.n0 t) (λst''=>st''.prj sh λt'=>some (.inl t'))
   (λi st''=>Out.mk st'' rt outs i λo=>some (.inr o))
   (λst''=>(R st'').ob λb=>Out.retO rt outs b λo=>some (.inr o)))=f at*
  let p:Act->World->Nat->Prop:=λa' w' n=>∃t,iter n f t=some o/\Inv z0 N L' (sh.inj base st.nt st.n0 t) a' w'
  classical
  let μ:Act->World->Nat:=λa' w'=>if h:∃n,p a' w' n then Classical.choose (uaZ h) else 0
  have hμ:∀a' w' n,p a' w' n->μ a' w'<=n/\p a' w' (μ a' w'):=λa' w' n hn=>by
   have hex:∃n,p a' w' n:=⟨n,hn⟩;have e:μ a' w'=Classical.choose (uaZ hex):=dif_pos hex;have hs:=Classical.choose_spec (uaZ hex)
   simp_all
  refine wp_loop (λa' w'=>∃n,p a' w' n) μ ⟨fu,t0,r1,p2⟩ λa1 w1 ⟨n1,hn1⟩=> ?_;obtain⟨_,t,ht,hit⟩:=hμ a1 w1 n1 hn1;obtain⟨m,hm'⟩:∃m,μ a1 w1=m+1:=by
   cases hz:μ a1 w1 with
   |zero=>rw[hz] at ht;cases ht
   |succ m=>simp_all
  rw[hm'] at ht⊢;obtain⟨r,ht1,ht2⟩:=agZ.1 (show(f t).ob _=some o from ht);have hft:evS P T fu (β:=sh.D⊕Out rt outs β) x (sh.inj base st.nt st.n0 t) (λst''=>st''.prj sh λt'=>some (.inl t'))
   (λi st''=>Out.mk st'' rt outs i λo=>some (.inr o))
   (λst''=>(R st'').ob λb=>Out.retO rt outs b λo=>some (.inr o))=some r:=by rw[<-ht1,<-hf]
  refine Gl.wp (cwZ hT hm x hft h1 hit q3 q5 (λst' a' w' h' hi'=> ?_) (λi st' a' w' h' hi'=> ?_) (λst' a' w' h' hi'=> ?_))
  .obtain⟨t',e1,e2⟩:=kZZ h' hi' q3 q4 (nt:=st.nt) (n0:=st.n0) hnt.1 h0;simp only[ZAV] at e1;subst e1;have hp:p a' w' m:=⟨t',ht2,e2⟩;exact⟨⟨m,hp⟩,Nat.lt_succ_of_le (hμ a' w' m hp).1⟩
  .obtain⟨o',e1,e2⟩:=Out.on_inl h' hi' q3 q4 (nt:=st.nt) (n0:=st.n0) hnt.1 h0;simp only[ZAV] at e1;subst e1;simp only[ZAV] at ht2;subst ht2;obtain⟨st1,e3,e4⟩:=e2 X some;exact hX i st1 a' w' (e4.symm.trans r2) (e3.sub q1)
  .obtain⟨b,e1,e2⟩:=agZ.1 h';obtain⟨o',e3,e4⟩:=rbZ e2;simp only[ZAV] at e3;subst e3;simp only[ZAV] at ht2;subst ht2;have:some b=some res:=(e4 _ _ _ _ _).symm.trans r2;exact hR st' a' w' (e1.trans this) (hi'.sub q1)
theorem vFZ{z0}(hT:∀e∈T,Told P e)(hm:P.follows .mixedOrders=true)(ac){β}{st}{K}{X}{R}{res:β}{c}{L}{a}{w}
 {Q}(h:evS P T fu ac st K X R=some res)(hc:ac.of c)(hi:Inv z0 N L st a w)(hLn:∀p∈L,AV.ids p.2=[])(hLw:∀p∈L,p.1∉ac.wr)
 (hK:∀st' a' w',K st'=some res->Inv z0 N L st' a' w'->Q .normal a' w')(hX:∀i st' a' w',X i st'=some res->Inv z0 N L st' a' w'->Q (.exit i) a' w')
 (hR:∀st' a' w',R st'=some res->Inv z0 N L st' a' w'->Q .ret a' w'):c.wp P Q a w:=(Gl.wp (cwZ hT hm ac h hc hi hLn hLw hK hX hR))
end
section
variable {P : Program} {T : Tbl} {β : Type} {z : Z} {H : Hp}
theorem jhZ:∀(d k),(Tr.full d).get k= .junk
 |0,k=>rfl
 |d+1,k=>by
  simp[Tr.full,Tr.get];cases Nat.beq k 0
  .cases Nat.beq (k%2) 1
   .exact jhZ d _
   .exact jhZ d _
  .rfl
theorem kmZ{f:Nat->Value}:∀{vs} {k0} {t},(∀k,ARep z (t.get k) (f k))->(∀(j) a,vs[j]? =some a->ARep z a (f (k0+j)))->∀k,ARep z ((initTm t k0 vs).get k) (f k)
 |[],k0,t,h,_,k=>h k
 |a::vs,k0,t,h,hv,k=>by
  simp[initTm];refine kmZ (λj=> ?_) (λj a' h'=>by have:=hv (j+1) a' (by simpa using h');rwa [show k0+(j+1)=k0+1+j by omega] at this) k;by_cases R:j=k0
  .subst R;rcases(Tr.get_put t j a j).2 with e|e<;>rw[e]
   .exact hv 0 a rfl
   .exact .junk _
  .rw[(Tr.get_put t k0 a j).1 R];exact h j
theorem l2Z{t}{pv v}{w w'}(h:(Instr.loadAt t pv).run P w= .ok v w'):((do loadVar t (<-asAddr pv)):Sem Value).run P w= .ok v w':=by
 unfold Instr.loadAt at h;cases pv
 case pointer x=>cases x<;>first|exact h|(simp[Instr.sureAddr] at h)
 all_goals(simp[Instr.sureAddr] at h)
def resF(R:Array Value)(r:ResultVar):Sem Value:=
 match r with
 |.tmp t=>pure (R.getD t undef)
 |.cell a t=>do loadVar t (<-asAddr (R.getD a undef))
theorem n7Z(fn)(tmps):results fn tmps=(do
 let vs<-fn.results.mapM (resF tmps)
 pure (if h:vs.size=1 then vs[0] else .tuple vs)):=rfl
theorem faZ{st}{a:Act}(hH:HRep z st.hp)(hs:∀t,ARep z (st.tm.get t) (a.eval (opOf t))):∀{rs} {K} {R:β},loadRes P rs st K=some R->
 ∃l vs,K l=some R/\AReps z l vs/\(rs.mapM (resF a.tmps)).run P z.w= .ok vs z.w
 |[],K,R,h=>⟨[],[],h,.nil,rfl⟩
 |.tmp t::rs,K,R,h=>by
  let⟨l,vs,h1,h2,h3⟩:=faZ hH hs (rs:=rs) h
  refine⟨_,a.eval (.tmp t)::vs,h1,.cons (dXZ hs (.tmp t)) h2,?_⟩;rw[List.mapM_cons];simp only[resF,Sem.run_bind,Sem.run_pure,Result.andThen_ok,h3]
  rfl
 |.cell x t::rs,K,R,h=>by
  let⟨y,v,h1,h2,h3⟩:=k5Z h hH (dXZ hs (.tmp x))
  let⟨l,vs,h4,h5,h6⟩:=faZ hH hs h3
  refine⟨_,v::vs,h4,.cons h2 h5,?_⟩;have aa:(resF a.tmps (.cell x t)).run P z.w= .ok v z.w:=l2Z h1
  simp_all
theorem nUZ{st}{a:Act}{fn}{K}{aa:β}(hH:HRep z st.hp)(hs:∀t,ARep z (st.tm.get t) (a.eval (opOf t)))(h:loadRes P fn.results.toList st K=some aa):
 ∃l v vs,K l=some aa/\AReps z l vs/\(results fn a.tmps).run P z.w= .ok v z.w/\∀{z'} {l'},AReps z' l' vs->ARep z' (tupA l') v:=by
 let⟨l,vs,h1,h2,h3⟩:=faZ hH hs h
 refine⟨l,if h:vs.toArray.size=1 then vs.toArray[0] else .tuple vs.toArray,vs,h1,h2,?_,λ{z' l'} R=> ?_⟩
 .rw[n7Z,Array.mapM_eq_mapM_toList,map_eq_pure_bind,Sem.run_bind,Sem.run_bind,h3]
  rfl
 .have hl:=R.1
  match vs,l',R,hl with
  |[],[],R,_=>exact .tup [] #[] rfl λi x v h=>by grind
  |[v],[b],R,_=>exact R.head
  |u::v::vs,b::c::l',R,hl=>
   refine .tup _ _ (by simp_all) λi x y q1 q2=>R.2 i x y q1 (by simp_all)
theorem OutS.one_ok{s:Shp}{vs}{ps}{vals}{K}{aa:β}(R:Rho)(ab:∀k,famBase<=k->k<dynBase->R k= .no)(af:∀k,dynBase<=k->R k= .no)(hH:HRep z H)(hv:AReps z vs vals)(hn:allFamIn (famNs (hkKeys s.hs)) s.tys=true)(h:s.rco vs H ps K=some aa):
 ∃t,K t=some aa/\∃z',z'.w=z.w/\z'.M=z.M/\HRep z' (s.emb t).2/\AReps z' (s.emb t).1 vals/\(∀k,memN k (hkKeys s.hs)=true->∃id,(id,k)∈ps/\z'.ρ k=z.ρ id)/\(∀k,k<dynBase->memN k (hkKeys s.hs)=false->z'.ρ k=R k)/\
  (∀g,z'.C g->z.C g)/\(∀k,z'.D k->R k≠.no)/\∀k,dynBase<=k->rt k∈hkKeys s.hs->z'.ρ k=z.ρ k:=by
 obtain⟨t,z0,k1,k2,k3,k4,k5,k6,k7,k8,k9,ad,ag,ah,ac,ae⟩:=Shp.rco_ok R ab h hH hv;obtain⟨z',x1,x2,x3,x4,x5,x6,x7,x8⟩:=mwZ hn k4 k5 ac ae;refine⟨t,k1,z',x1.trans k2,x2.trans k3,x3,x4,λk hk=> ?_,λk hd hk=> ?_,λg h=>k8 g (by rw[<-x6];exact h),λk hk=> ?_,λk hd hk=> ?_⟩
 .obtain⟨id,a1,a2⟩:=k6 k hk;exact⟨id,a1,(x5 k (.inl (ac k hk))).trans a2⟩
 .rw[x5 k (.inl hd),k7 k hk,ZAM (ZBO.2 hd)]
 .obtain⟨y1,y2⟩:=x7 k hk;rw[ad] at y1;rcases y1.2 with h|h
  .rcases y2 with y2|y2
   .omega
   .rw[ajZ.2 y2] at y1;cases y1.1
  .exact h
 grind
theorem OutS.rco_ok{vs}{ps}{vals}(R:Rho)(ab:∀k,famBase<=k->k<dynBase->R k= .no)(ac:∀k,dynBase<=k->R k= .no)(hH:HRep z H)(hv:AReps z vs vals):∀{l} {K} {aa:β},(∀o∈l,allFamIn (famNs (hkKeys o.hs)) o.tys=true)->OutS.rco vs H ps l K=some aa->
 ∃(x:OutS l),K x=some aa/\OutS.on l x λo t=>o∈l/\∃z',z'.w=z.w/\z'.M=z.M/\HRep z' (o.emb t).2/\AReps z' (o.emb t).1 vals/\(∀k,memN k (hkKeys o.hs)=true->∃id,(id,k)∈ps/\z'.ρ k=z.ρ id)/\(∀k,k<dynBase->memN k (hkKeys o.hs)=false->z'.ρ k=R k)/\
  (∀g,z'.C g->z.C g)/\(∀k,z'.D k->R k≠.no)/\∀k,dynBase<=k->rt k∈hkKeys o.hs->z'.ρ k=z.ρ k
 |[],K,aa,hn,h=>by cases h
 |[s],K,aa,hn,h=>by
  let⟨t,k1,k2⟩:=OutS.one_ok R ab ac hH hv (hn s ZAo) h
  exact⟨t,k1,by simp,k2⟩
 |s::o::r,K,aa,hn,h=>by
  have h':bq (s.ks.fits (AV.renL (noOf ps) vs)&&hkFits s.hs (renH H (noOf ps) ps)) (s.rco vs H ps λx=>K (.inl x)) (OutS.rco vs H ps (o::r) λx=>K (.inr x))=some aa:=h;cases hb:(s.ks.fits (AV.renL (noOf ps) vs)&&hkFits s.hs (renH H (noOf ps) ps))<;>rw[hb] at h'<;>simp[bq_false] at h'
  .let⟨x,h1,h2⟩:=OutS.rco_ok R ab ac hH hv (λo ho=>hn o (ZAc _ ho)) h'
   refine⟨.inr x,h1,?_⟩;have up:∀{l} {x} {Q Q'},(∀o t,Q o t->Q' o t)->OutS.on l x Q->OutS.on l x Q':=λ{l}=>by
    induction l with
    |nil=>intro x;exact Empty.elim x
    |cons a l ih=>
     cases l with
     |nil=>intro x Q Q' hq h;exact hq _ _ h
     |cons b l=>
      intro x Q Q' hq h;cases x with
      |inl y=>exact hq _ _ h
      |inr y=>exact ih hq h
   exact up (λo t ⟨a,b⟩=>⟨ZAc _ a,b⟩) h2
  .let⟨t,k1,k2⟩:=OutS.one_ok R ab ac hH hv (hn s ZAo) h'
   exact⟨.inl t,k1,ZAo,k2⟩
theorem fjZ:∀{l} {n k},k∈shKeys n l->k<famBase->n<=k/\k<n+(statK l).length
 |[],n,k,h,_=>by cases h
 |i::l,n,k,h,hk=>by
  simp[shKeys] at h;by_cases hi:famBase<=i
  .rw[ZAh hi] at h;rcases ZAi.1 h with rfl|h
   .omega
   .have:=fjZ h hk
    simp_all[statK,ZAh]
  .rw[ftZ hi] at h;simp[statK,ftZ hi,ZCN];rcases ZAi.1 h with rfl|h
   .omega
   .have:=fjZ h hk;omega
theorem OutS.on_up:∀{l} {x} {Q Q'},(∀o t,Q o t->Q' o t)->OutS.on l x Q->OutS.on l x Q'
 |[],x,_,_,_,_=>Empty.elim x
 |[s],x,Q,Q',hq,h=>hq _ _ h
 |s::t::r,.inl y,Q,Q',hq,h=>hq _ _ h
 |s::t::r,.inr y,Q,Q',hq,h=>OutS.on_up (x:=y) hq h
theorem OutS.on_ex:∀{l} {x} {Q:(s:Shp)->s.D->Z->Prop},(OutS.on l x λo t=>∃z',Q o t z')->∃z',OutS.on l x λo t=>Q o t z'
 |[],x,_,_=>Empty.elim x
 |[s],x,Q,h=>h
 |s::t::r,.inl y,Q,h=>h
 |s::t::r,.inr y,Q,h=>OutS.on_ex (x:=y) h
def act0(fn:Func)(vals:List Value):Act:={tmps:=vals.toArray++Array.replicate (fn.ntmps-vals.toArray.size) undef,defers:=[]}
theorem tSZ{fu}{f}{fn}{fa}(hT:∀e∈T,Told P e)(hm:P.follows .mixedOrders=true)(hf:P.funcs[f]? =some fn){c}(hb:fn.body=some c){t}{r}{z}{vals}{tm}
 (h1:(eqN (hkKeys fa.i.hs) (shKeys 0 (hkKeys fa.i.hs))&& !memN 2 fa.md&&(Nat.ble fa.i.hs.length famBase&&fa.os.all λo=>allFamIn (famNs (hkKeys o.hs)) o.tys&&allIn (famK (hkKeys fa.i.hs)) (famK (hkKeys o.hs))))=true)
 (h3:evS P T fu (build fa.ov c) ⟨tm,fn.ntmps,(statK (hkKeys fa.i.hs)).length,(fa.i.emb t).2⟩ (fin P fn fa) (λ_ _=>none) (fin P fn fa)=some r)(hH:HRep z (fa.i.emb t).2)(hD:∀id,¬z.D id)
 (htm:∀k,ARep z (tm.get k) ((act0 fn vals).eval (opOf k))):
 Calls P f vals.toArray z.w λen w'=>∃v z',en= .returned v/\z'.w=w'/\Nx z {z' with D:=z.D}/\(∀k,z'.D k->k∈hkKeys fa.i.hs)/\OutS.on fa.os r λo x=>HRep z' (o.emb x).2/\ARep z' (tupA (o.emb x).1) v:=by
 simp only[ZAF,mbZ,ZAj] at h1;obtain⟨⟨hkeys,hmd⟩,hlen,hno'⟩:=h1;have hb0:=eGZ;have hnoL:∀o∈fa.os,(allFamIn (famNs (hkKeys o.hs)) o.tys=true/\allIn (famK (hkKeys fa.i.hs)) (famK (hkKeys o.hs))=true):=λo ho=>by
  grind
 have hno:∀o∈fa.os,allFamIn (famNs (hkKeys o.hs)) o.tys=true:=λo ho=>(hnoL o ho).1;refine calls_of_wp hf hb ?_
 let a:Act:=act0 fn vals
 have hkey:∀id,hkey (fa.i.emb t).2 id=memN id (hkKeys fa.i.hs):=λid=>(cxZ fa.i.hs (embL fa.i.ks (hkLv fa.i.hs []) (untidy fa.i.tys t)).2 id).1;have hlow:∀id,id<dynBase->z.ρ id≠.no->id∈hkKeys fa.i.hs/\id<famBase:=λid hdy hid=>by
  have hf:id<famBase:=ZBO.1 λh=>hid (hH.nos id h hdy);refine⟨?_,hf⟩;cases hk:memN id (hkKeys fa.i.hs)
  .rw[<-hkey id] at hk;exact absurd ((hH.fresh id (by rw[aDZ hf];exact hk)).resolve_right (hD id)) hid
  grind[ajZ]
 have hlown:∀id,id<dynBase->z.ρ id≠.no->id<(statK (hkKeys fa.i.hs)).length:=λid hdy hid=>by
  obtain⟨h1,h2⟩:=hlow id hdy hid;rw[hkeys] at h1;have:=(fjZ h1 h2).2;omega
 have hlowd:∀id,dynBase<=id->z.ρ id≠.no->rt id∈hkKeys fa.i.hs:=λid hdy hid=>by
  cases hk:memN (rt id) (hkKeys fa.i.hs)
  .rw[<-hkey] at hk;refine absurd ((hH.fresh id ?_).resolve_right (hD id)) hid;rw[ayZ hdy,awZ hk];exact hk
  grind[ajZ]
 have hi:Inv z a.tmps.size [] ⟨tm,fn.ntmps,(statK (hkKeys fa.i.hs)).length,(fa.i.emb t).2⟩ a z.w:=
  ⟨z,rfl,Nx.refl z,hD,hH,htm,λp hp=>(by grind),rfl,⟨by grind[act0],rfl⟩,λid hdy hid=>hlown id hdy hid⟩
 have fin:∀(Q:Exit->Act->World->Prop),(∀a' w',(a'.defers=[]/\∃v,(results fn a'.tmps).run P w'= .ok v w'/\∃v' z',Ending.returned v= .returned v'/\z'.w=w'/\Nx z {z' with D:=z.D}/\(∀k,z'.D k->k∈hkKeys fa.i.hs)/\OutS.on fa.os r λo x=>HRep z' (o.emb x).2/\ARep z' (tupA (o.emb x).1) v')->Q .normal a' w')->
  ∀st' a' w',fin P fn fa st'=some r->Inv z a.tmps.size [] st' a' w'->Q .normal a' w':=λQ hQ st' a' w' hfin hi'=>by
  refine hQ a' w' ?_;obtain⟨z1,rfl,hn,hD1,hH1,hs1,_,hdf,_,h0⟩:=hi';unfold Ab.fin at hfin;obtain⟨l,v,vs,e1,e2,e3,e4⟩:=nUZ hH1 hs1 hfin;rw[dpZ] at e1;obtain⟨⟨l',H'⟩,e5,e6⟩:=agZ.1 e1;obtain⟨z2,Mf,g1,g2,g3,g4,g5,g6⟩:=i5Z hH1 (λ_ _=>.inr (hD1 _)) e5 e2;have hM:=g6 hmd;subst hM;have hn2:=hn.trans g3;obtain⟨x,k1,k2⟩:=OutS.rco_ok (λk=>if memN k (hkKeys fa.i.hs)=true/\k<dynBase then z2.ρ k else .no) (λk h1 h2=>by rw[g2.nos k h1 h2,ite_self]) (λk h=>ZAM λh'=>by omega) g2 g5 hno e6;simp only[ZAV] at k1;subst k1;obtain⟨z3,k3⟩:=OutS.on_ex (OutS.on_up (Q':=λo t=>∃z',o∈fa.os/\_) (λo t ⟨h,z',k⟩=>⟨z',h,k⟩) k2);have common:z3.w=z2.w/\z3.M=z2.M/\(∀g,z3.C g->z2.C g)/\(∀k,z3.D k->k∈hkKeys fa.i.hs)/\∀id,z.ρ id≠.no->z3.ρ id=z.ρ id:=by
   have pick:∀{l:List Shp} {x:OutS l} {Q:(s:Shp)->s.D->Prop} {G:Prop},(OutS.on l x Q)->(∀o t,Q o t->G)->G:=λ{l}=>by
    induction l with
    |nil=>intro x;exact Empty.elim x
    |cons a l ih=>
     cases l with
     |nil=>intro x Q G h hq;exact hq _ _ h
     |cons b l=>
      intro x Q G h hq;cases x with
      |inl y=>exact hq _ _ h
      |inr y=>exact ih (x:=y) h hq
   refine pick k3 λo t k=> ?_;obtain⟨ho,q1,q2,q3,q4,q5,q6,q7,q8,q9⟩:=k;refine⟨q1,q2,q7,λk hk=> ?_,λid hid=> ?_⟩
   .have:=q8 k hk;cases hm:memN k (hkKeys fa.i.hs)
    .simp[hm] at this
    .exact ajZ.1 hm
   .by_cases hdy:dynBase<=id
    .have hm:=hlowd id hdy hid;have hmo:=(cTZ.1 ((caZ.1 (hnoL o ho).2) _ (cTZ.2 ⟨hm,(bIZ hdy).1⟩))).1;rw[q9 id hdy hmo];exact hn2.ext id hid
    have hstat:id<dynBase:=by omega
    obtain⟨hmem,hfl⟩:=hlow id hstat hid;have hidlt:=hlown id hstat hid;cases hk:memN id (hkKeys o.hs)
    .rw[q6 id hstat hk,ZAN ⟨ajZ.2 hmem,hstat⟩];exact hn2.ext id hid
    .obtain⟨id',p1,p2⟩:=q5 id hk;have:id'=id:=by
      rcases ZAg.1 p1 with p1|p1
      .obtain⟨m,b1,b2⟩:=jcZ p1;rcases ZBw m ((reach H' reachFuel (rangeN 0 (statK (hkKeys fa.i.hs)).length++AV.idsL l') []).filter λi=>Nat.blt i (statK (hkKeys fa.i.hs)).length).length with hlt|hge
       .rw[ZAR hlt] at b1 b2;rw[b1] at b2;exact ZAf b2
       .rw[ZAU hge] at b2;have:=(oIZ b2).1;omega
      .exact(gIZ.1 p1).1
     rw[p2,this];exact hn2.ext id hid
  obtain⟨c1,c2,c3,c4,c5⟩:=common;refine⟨hdf,v,e3,v,z3,rfl,c1.trans g1,⟨by show z3.w.os=_;rw[c1];exact hn2.os,⟨by show z3.w.tape=_;rw[c1];exact hn2.tape.1,by show _<=z3.w.drawn;rw[c1];exact hn2.tape.2⟩,by show z3.w.output=_;rw[c1];exact hn2.output,by show _<=z3.w.heap.size;rw[c1];exact hn2.size,
   λb hb hc=>by show z3.w.heap[b]? =_;rw[c1];exact hn2.block b hb hc,λg hg=>hn2.subM g (by rw[<-c2];exact hg),λg hg=>hn2.subC g (c3 g hg),λg hg hm hc=>by show z3.M g;rw[c2];exact hn2.keepM g hg hm hc,c5,rfl⟩,c4,OutS.on_up (λo t k=> ?_) k3⟩
  obtain⟨_,q1,q2,q3,q4,q5,q6,q7,q8,q9⟩:=k;exact⟨q3,e4 q4⟩
 refine vFZ hT hm (build fa.ov c) h3 (bjZ _ _) hi (λp hp=>by cases hp) (λp hp=>by cases hp) ?_ (λi st' a' w' h' _=>by cases h') ?_
 .exact fin (bodyPost P fn _) λa' w' h=>h
 .exact fin (λe a' w'=>bodyPost P fn _ .ret a' w') λa' w' h=>h
theorem rPZ{fn}{vals}{j:Nat}{v}(h:vals[j]? =some v):(act0 fn vals).eval (.tmp j)=v:=by
 have hlt:=(ZAB.1 h).1;simp[Act.eval,act0]
 simp_all[ZBP,ZCe]
theorem uRZ{z}{fn}{vs}{vals}{d}(hl:vs.length<=1048576)(hv:AReps z vs vals)(k):ARep z ((initTm (Tr.full d) 0 vs).get k) ((act0 fn vals).eval (opOf k)):=by
 refine kmZ (f:=λk=>(act0 fn vals).eval (opOf k)) (λk=>by rw[jhZ];exact .junk _) (λj x hx=> ?_) k
 let⟨v,R,aa⟩:=hv.get hx
 have ab:=(ZAB.1 hx).1;rw[ZAz,fiZ (by omega),rPZ R];omega
theorem uLZ{fu}{f}{fn}{fa}{spec}(hT:∀e∈T,Told P e)(hm:P.follows .mixedOrders=true)(hf:P.funcs[f]? =some fn)(hname:(fn.name== "runtime.NumGoroutine")=false)(hbody:fn.body.isSome=true)
 (hs:∀t,evF P T fu fn fa t=spec t):Told P ⟨f,fa.i,fa.os,spec⟩:=by
 let⟨c,hb⟩:=ZBr.1 hbody
 refine Told.of ⟨fn,c,hf,hb,hname⟩ λt r hr z vals hH hv hD=> ?_;have h:=(hs t).trans hr;unfold evF at h;rw[Shp.embC_eq] at h
 let⟨h1,h2⟩:=acZ.1 h
 let⟨hl,h2⟩:=acZ.1 h2
 let⟨c',hc',h3⟩:=agZ.1 h2
 rw[hb] at hc';simp at hc';subst hc';exact tSZ hT hm hf hb h1 h3 hH hD (uRZ (ZBM hl) hv)
end
theorem abZ{P}:∀e∈([]:Tbl),Told P e:=λe h=>by cases h
theorem aaZ{P}{a}{r:Tbl}(h:Told P a)(R:∀e∈r,Told P e):∀e∈a::r,Told P e:=λe he=>by
 grind
end Go.Ab
