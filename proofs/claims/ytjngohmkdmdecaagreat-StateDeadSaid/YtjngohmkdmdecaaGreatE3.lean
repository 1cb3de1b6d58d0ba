/- An evaluator of the model's code over plain values, and its soundness; of no program. -/
import Derived.Test.YtjngohmkdmdecaaGreatE2
import Derived.Orders
import Derived.Laws.IdiomRangeMap
set_option linter.all false
namespace Go.Ab
theorem ZA6:type_of% @List.pairwise_cons:=@List.pairwise_cons
theorem ZBb:type_of% @Bool.or_eq_false_iff:=@Bool.or_eq_false_iff
theorem ZBc:type_of% @List.mem_append_left:=@List.mem_append_left
theorem ZBi:type_of% @List.mem_filter:=@List.mem_filter
theorem ZBl:type_of% @List.length_cons:=@List.length_cons
theorem ZBm:type_of% @List.filter_eq_self:=@List.filter_eq_self
theorem ZBs:type_of% @List.filter_cons_of_pos:=@List.filter_cons_of_pos
theorem ZB3:type_of% @List.pairwise_append:=@List.pairwise_append
theorem ZCF:type_of% @List.mem_append_right:=@List.mem_append_right
theorem ZCG:type_of% @Bool.and_eq_false_iff:=@Bool.and_eq_false_iff
theorem ZCM:type_of% @List.mem_range:=@List.mem_range
theorem ZCV:type_of% @List.filter_cons_of_neg:=@List.filter_cons_of_neg
theorem ZCo:type_of% @List.filter_append:=@List.filter_append
section
variable {P : Program} {β γ : Type} {H : Hp} {F : γ → Option β}
theorem awZ{α}{x:Option α}{f}{g}(h:∀a,f a=(g a).bind F):x.ob f=(x.ob g).bind F:=by
 cases x with
 |none=>rfl
 |some a=>exact h a
theorem aAZ{α:Type}{x:Option α}{f}{g}(h:∀a,f a=(g a).bind F):x.bind f=(x.bind g).bind F:=by
 cases x<;>grind
theorem akZ{b}{f}{g}(h:f=g.bind F):aP b f=(aP b g).bind F:=by
 cases b
 ·rfl
 ·exact h
theorem aJZ{b}{f f'}{g g':Option γ}(h:f=g.bind F)(h':f'=g'.bind F):bq b f f'=(bq b g g').bind F:=by
 cases b<;>simp_all
theorem cTZ{t u}{f}{f'}{g}{g'}(h:∀e,f e=(g e).bind F)(h':f'=g'.bind F):dq t u f f'=(dq t u g g').bind F:=by
 unfold dq;split<;>grind
theorem lNZ{δ}{fa}{fb}(hf:∀c (k) (k':δ->Option γ),(∀x,k x=(k' x).bind F)->fa c k=(fb c k').bind F)(c):
 ∀(n) (cs) {k} {k'},(∀x,k x=(k' x).bind F)->ES fa c n cs k=(ES fb c n cs k').bind F
 |0,cs,k,k',h=>h _
 |n+1,cs,k,k',h=>hf _ _ _ fun x=>lNZ hf c n _ fun l=>h _
theorem hEZ:(t:Ty)->{cs:List AV}->{k:t.den->Option β}->{k':t.den->Option γ}->(∀x,k x=(k' x).bind F)->asm t cs k=(asm t cs k').bind F
 |.byte,cs,k,k',h=>awZ fun n=>aAZ h
 |.one t,cs,k,k',h=>hEZ t h
 |.pair a b,cs,k,k',h=>hEZ a fun x=>hEZ b fun y=>h _
 |.arr n t,cs,k,k',h=>lNZ (fun c _ _ h=>hEZ t (cs:=c) h) t.cells n cs h
 |.int _,cs,k,k',h|.bool,cs,k,k',h|.str,cs,k,k',h|.opq,cs,k,k',h|.nat,cs,k,k',h|.sl _,cs,k,k',h|.ref _ _,cs,k,k',h=>awZ h
 |.ptr t,cs,k,k',h=>by
  simp[asm]
  grind[cTZ,aAZ,awZ]
theorem vTZ{u}{a}{k}{k'}(h:∀x,k x=(k' x).bind F):asC u a k=(asC u a k').bind F:=
 awZ fun _=>akZ (hEZ u h)
theorem bQZ{u}{a}{k}{k'}(h:∀x,k x=(k' x).bind F):asA u a k=(asA u a k').bind F:=by
 unfold asA
 grind[cTZ,vTZ]
theorem m4Z:(t:Ty)->{x:t.den}->{o:Nat}->{u:Ty}->{k:u.den->Option β}->{k':u.den->Option γ}->(∀x,k x=(k' x).bind F)->sub t x o u k=(sub t x o u k').bind F
 |.one t,x,o,u,k,k',h=>cTZ (fun _=>aJZ (h _) rfl) (m4Z t h)
 |.pair a b,x,o,u,k,k',h=>cTZ (fun _=>aJZ (h _) rfl) (aJZ (m4Z a h) (m4Z b h))
 |.int _,x,o,u,k,k',h|.bool,x,o,u,k,k',h|.byte,x,o,u,k,k',h|.str,x,o,u,k,k',h|.opq,x,o,u,k,k',h|.nat,x,o,u,k,k',h|.ptr _,x,o,u,k,k',h|.sl _,x,o,u,k,k',h|.arr _ _,x,o,u,k,k',h|.ref _ _,x,o,u,k,k',h=>cTZ (fun _=>aJZ (h _) rfl) rfl
theorem hZZ:(t:Ty)->{x:t.den}->{o:Nat}->{u:Ty}->{y:u.den}->{k:t.den->Option β}->{k':t.den->Option γ}->(∀x,k x=(k' x).bind F)->upd t x o u y k=(upd t x o u y k').bind F
 |.one t,x,o,u,y,k,k',h=>cTZ (fun _=>aJZ (h _) rfl) (hZZ t h)
 |.pair a b,x,o,u,y,k,k',h=>cTZ (fun _=>aJZ (h _) rfl) (aJZ (hZZ a fun _=>h _) (hZZ b fun _=>h _))
 |.int _,x,o,u,y,k,k',h|.bool,x,o,u,y,k,k',h|.byte,x,o,u,y,k,k',h|.str,x,o,u,y,k,k',h|.opq,x,o,u,y,k,k',h|.nat,x,o,u,y,k,k',h|.ptr _,x,o,u,y,k,k',h|.sl _,x,o,u,y,k,k',h|.arr _ _,x,o,u,y,k,k',h|.ref _ _,x,o,u,y,k,k',h=>cTZ (fun _=>aJZ (h _) rfl) rfl
theorem iIZ:(t:Ty)->{x:t.den}->{o:Nat}->{u:Ty}->{k:AV->Option β}->{k':AV->Option γ}->(∀x,k x=(k' x).bind F)->yQ t x o u k=(yQ t x o u k').bind F
 |.one t,x,o,u,k,k',h=>aJZ (h _) (iIZ t h)
 |.pair a b,x,o,u,k,k',h=>aJZ (h _) (aJZ (iIZ a h) (iIZ b h))
 |.int _,x,o,u,k,k',h|.bool,x,o,u,k,k',h|.byte,x,o,u,k,k',h|.str,x,o,u,k,k',h|.opq,x,o,u,k,k',h|.nat,x,o,u,k,k',h|.ptr _,x,o,u,k,k',h|.sl _,x,o,u,k,k',h|.arr _ _,x,o,u,k,k',h|.ref _ _,x,o,u,k,k',h=>aJZ (h _) rfl
theorem ikZ:(t:Ty)->{x:t.den}->{o:Nat}->{u:Ty}->{v:AV}->{k:t.den->Option β}->{k':t.den->Option γ}->(∀x,k x=(k' x).bind F)->wV t x o u v k=(wV t x o u v k').bind F
 |.one t,x,o,u,v,k,k',h=>aJZ (bQZ h) (ikZ t h)
 |.pair a b,x,o,u,v,k,k',h=>aJZ (bQZ h) (aJZ (ikZ a fun _=>h _) (ikZ b fun _=>h _))
 |.int _,x,o,u,v,k,k',h|.bool,x,o,u,v,k,k',h|.byte,x,o,u,v,k,k',h|.str,x,o,u,v,k,k',h|.opq,x,o,u,v,k,k',h|.nat,x,o,u,v,k,k',h|.ptr _,x,o,u,v,k,k',h|.sl _,x,o,u,v,k,k',h|.arr _ _,x,o,u,v,k,k',h|.ref _ _,x,o,u,v,k,k',h=>aJZ (bQZ h) rfl
section
variable {k : AV → Option β} {k' : AV → Option γ}
theorem moZ{u}{t}{x}{j}(h:∀x,k x=(k' x).bind F):rD P u t x j k=(rD P u t x j k').bind F:=awZ fun _=>aJZ (m4Z u fun _=>h _) (iIZ u h)
theorem glZ{u}{t}{l}{i j}(h:∀x,k x=(k' x).bind F):oC P t u l i j k=(oC P t u l i j k').bind F:=by
 grind[oC,aJZ,akZ,aAZ,moZ]
theorem pSZ{t}{c}{j}(h:∀x,k x=(k' x).bind F):wW P t c j k=(wW P t c j k').bind F:=aJZ (akZ (h _)) (aJZ (awZ h) rfl)
theorem rmZ{t}{a}(h:∀x,k x=(k' x).bind F):rQ P t a H k=(rQ P t a H k').bind F:=by
 unfold rQ;split
 ·grind[pSZ,aJZ,glZ]
 ·exact glZ h
 ·grind[aAZ,akZ,glZ]
 ·rfl
theorem q4Z{t}{c a b}(h:∀x,k x=(k' x).bind F):wZ P t c a b k=(wZ P t c a b k').bind F:=by
 grind[wZ,awZ,akZ,aJZ]
theorem oAZ{t}{ps}(h:∀x,k x=(k' x).bind F):tF P t ps k=(tF P t ps k').bind F:=by
 grind[tF,awZ]
theorem sWZ{op}{kk}{a b}(h:∀x,k x=(k' x).bind F):zC op kk a b k=(zC op kk a b k').bind F:=by
 unfold zC
 grind[akZ]
theorem sbZ{op}{a b}(h:∀x,k x=(k' x).bind F):zD op a b k=(zD op a b k').bind F:=by
 unfold zD
 grind[akZ]
theorem u6Z{op}{t}{a}(h:∀x,k x=(k' x).bind F):IF P op t a k=(IF P op t a k').bind F:=by
 unfold IF
 grind[awZ]
theorem gdZ{u}{a}{k}{k'}(h:∀x,k x=(k' x).bind F):oD H u a k=(oD H u a k').bind F:=by
 unfold oD;split
 ·grind[cTZ,awZ]
 ·grind[cTZ,aJZ]
 ·grind[cTZ,aJZ]
 ·rfl
theorem fuZ{s d}{a}(h:∀x,k x=(k' x).bind F):iN P s d a H k=(iN P s d a H k').bind F:=by
 unfold iN
 grind[awZ,aJZ,gdZ]
theorem dLZ{es id}{k}{k'}(h:∀u x,k u x=(k' u x).bind F):jZ H es id k=(jZ H es id k').bind F:=by
 unfold jZ
 grind[aJZ]
theorem ufZ{a}{k}{k'}(h:∀x,k x=(k' x).bind F):AA H a k=(AA H a k').bind F:=by
 unfold AA
 grind[dLZ]
theorem uUZ{a}{k}{k'}(h:∀x,k x=(k' x).bind F):JO H a k=(JO H a k').bind F:=by
 unfold JO
 grind
theorem u9Z{t}{a}{k}{k'}(h:∀x,k x=(k' x).bind F):ID P t H a k=(ID P t H a k').bind F:=by
 grind[ID,awZ,ufZ,uUZ]
theorem heZ{s}{a}{f}(h:∀x,k x=(k' x).bind F):gQ P s a f k=(gQ P s a f k').bind F:=by
 unfold gQ
 grind
theorem gDZ{a}{d m}{k}{k'}(h:∀x,k x=(k' x).bind F):tC a d m k=(tC a d m k').bind F:=by
 unfold tC
 grind[awZ,aAZ]
theorem mgZ{α}{l}{lo hi}{k}{k':List α->Option γ}(h:∀x,k x=(k' x).bind F):EV l lo hi k=(EV l lo hi k').bind F:=by
 unfold EV;split
 ·exact h _
 ·exact awZ fun _=>aAZ fun _=>h _
 ·exact awZ fun _=>aAZ fun _=>h _
 grind[awZ,aAZ]
theorem orZ{t}{a}{lo hi}(h:∀x,k x=(k' x).bind F):pT P t a lo hi H k=(pT P t a lo hi H k').bind F:=by
 unfold pT;split
 ·grind[awZ,mgZ]
 ·split
  ·grind[aJZ,dLZ,gDZ]
  ·grind[aJZ,gDZ]
  ·grind[aJZ,mgZ]
  ·grind[akZ,gDZ]
  ·grind[aJZ,gDZ]
  ·rfl
 ·grind[aJZ,dLZ,akZ,gDZ,mgZ]
 ·rfl
theorem kYZ{t}{a hi mx}{lo}(h:∀x,k x=(k' x).bind F):mA P t a lo hi mx k=(mA P t a lo hi mx k').bind F:=by
 unfold mA;split
 ·split
  ·refine aJZ (awZ fun _=>aAZ fun _=>awZ fun _=>aAZ fun _=> ?_) rfl;split
   ·exact h _
   ·exact awZ fun _=>aAZ fun _=>h _
  ·rfl
 ·rfl
theorem pbZ{t}{a ix}(h:∀x,k x=(k' x).bind F):sZ P t a ix k=(sZ P t a ix k').bind F:=by
 refine awZ fun x=> ?_;split
 ·grind[awZ,aAZ]
 ·exact awZ fun _=>bQZ fun _=>aAZ fun _=>aAZ fun _=>h _
 ·rfl
theorem gSZ{t}{a ix}(h:∀x,k x=(k' x).bind F):jA P t a ix H k=(jA P t a ix H k').bind F:=by
 refine awZ fun x=> ?_;split
 ·refine akZ ?_;split<;>first|rfl|grind[aJZ,aAZ]
 ·refine akZ ?_;split
  ·refine aJZ ?_ rfl;split
   ·exact aAZ fun _=>h _
   ·exact dLZ fun _ _=>aAZ fun _=>h _
  ·exact aJZ (aAZ fun _=>h _) rfl
  ·exact aJZ (aAZ fun _=>h _) rfl
  ·exact aJZ (aAZ fun _=>aAZ fun _=>h _) rfl
  ·rfl
 ·rfl
theorem nwZ{s}{a}{f}(h:∀x,k x=(k' x).bind F):pS P s a f k=(pS P s a f k').bind F:=by
 unfold pS
 grind[aJZ,akZ,awZ,moZ]
theorem kKZ{kt:Ty}{x}{k}{k'}(h:∀x,k x=(k' x).bind F):∀l:List (kt.den×AV),uQ l x k=(uQ l x k').bind F
 |[]=>h _
 |(_,_)::r=>aJZ (h _) (kKZ h r)
theorem lXZ{t}{m ix}{c}(h:∀x,k x=(k' x).bind F):mB P t m ix c H k=(mB P t m ix c H k').bind F:=by
 unfold mB;split
 ·split
  ·exact akZ (bQZ fun _=>h _)
  ·grind[akZ,bQZ,kKZ]
  ·rfl
 ·split
  ·exact awZ fun _=>awZ fun _=>akZ (bQZ fun _=>h _)
  ·rfl
 ·rfl
theorem uaZ{t}{a b}{k}{k'}(hn:AG P t=true)(h:∀x,k x=(k' x).bind F):FA P t a b H k=(FA P t a b H k').bind F:=by
 unfold FA
 grind[awZ,AG,akZ,bQZ]
theorem rXZ{op}{t u}{a b}(hn:AG P t=true)(h:∀x,k x=(k' x).bind F):zF P op t u a b H k=(zF P op t u a b H k').bind F:=by
 unfold zF;split
 ·split
  ·exact awZ fun _=>awZ fun _=>akZ (sWZ h)
  ·rfl
 ·exact awZ fun _=>awZ fun _=>sbZ h
 grind[uaZ]
theorem v1Z{o}{r}(hn:NZ P o=true)(h:∀x,k x=(k' x).bind F):evR P o r H k=(evR P o r H k').bind F:=by
 unfold evR;unfold NZ at hn;split
 ·grind
 ·grind
 ·exact q4Z h
 ·exact oAZ h
 ·exact rmZ h
 ·grind[akZ]
 ·grind[rXZ]
 ·exact lXZ h
 ·exact u6Z h
 ·exact fuZ h
 ·grind
 ·exact orZ h
 ·exact kYZ h
 ·exact heZ h
 ·exact nwZ h
 ·exact gSZ h
 ·exact pbZ h
 ·grind[awZ]
 ·grind[u9Z,awZ]
 ·rfl
end
section
variable {k : AV → Hp → Option β} {k' : AV → Hp → Option γ}
theorem aWZ{id}{b}{k}{k'}(h:∀H,k H=(k' H).bind F):gA H id b k=(gA H id b k').bind F:=aJZ rfl (h _)
theorem omZ{t}{id}(h:∀x H,k x H=(k' x H).bind F):pR P t id H k=(pR P t id H k').bind F:=by
 grind[pR,awZ,akZ,aWZ]
theorem sVZ{t}{v}{id}(h:∀x H,k x H=(k' x H).bind F):zA P t v id H k=(zA P t v id H k').bind F:=by
 unfold zA;split
 ·exact awZ fun _=>awZ fun _=>bQZ fun _=>akZ (aWZ fun _=>h _ _)
 grind[awZ,aWZ]
theorem lcZ{t}{id}(h:∀x H,k x H=(k' x H).bind F):sY P t id H k=(sY P t id H k').bind F:=
 awZ fun _=>akZ (aWZ fun _=>h _ _)
theorem rhZ{t}{v}{id}(h:∀x H,k x H=(k' x H).bind F):zZ P t v id H k=(zZ P t v id H k').bind F:=
 awZ fun _=>awZ fun _=>bQZ fun _=>aWZ fun _=>h _ _
theorem qjZ{t e}{u}{l}{i j id}{v}(h:∀x H,k x H=(k' x H).bind F):uM P t e u l i j id v H k=(uM P t e u l i j id v H k').bind F:=by
 unfold uM;split
 ·grind[aJZ,akZ,bQZ,aAZ,hZZ]
 ·grind[bQZ,aAZ,hZZ]
 ·rfl
theorem nKZ{t}{a v}(h:∀x H,k x H=(k' x H).bind F):pQ P t a v H k=(pQ P t a v H k').bind F:=by
 unfold pQ;split
 ·split
  ·grind[awZ,akZ]
  ·exact aJZ (aJZ (awZ fun _=>akZ (qjZ h)) (awZ fun _=>awZ fun _=>awZ fun _=>awZ fun _=>akZ (aAZ fun _=>ikZ _ fun _=>h _ _))) rfl
  ·rfl
 ·refine awZ fun _=>awZ fun _=> ?_;split
  ·exact akZ (aAZ fun _=>akZ (bQZ fun _=>aAZ fun _=>hZZ _ fun _=>h _ _))
  ·rfl
 ·rfl
theorem iVZ{s d}{a}{id}(h:∀x H,k x H=(k' x H).bind F):iO P s d a id H k=(iO P s d a id H k').bind F:=by
 unfold iO
 grind[aJZ,awZ,akZ,aWZ]
theorem pUZ{t}{l c}{id}(h:∀x H,k x H=(k' x H).bind F):uP P t l c id H k=(uP P t l c id H k').bind F:=by
 unfold uP;split
 ·exact awZ fun _=>awZ fun _=>aAZ fun _=>aAZ fun _=>awZ fun _=>akZ (aWZ fun _=>h _ _)
 ·rfl
theorem jFZ{t}{q}{md}{id}(h:∀x H,k x H=(k' x H).bind F):kF P t q md id H k=(kF P t q md id H k').bind F:=by
 unfold kF;split
 ·grind[awZ,akZ,aJZ,aWZ]
 ·rfl
theorem fJZ{t}{m key x}(h:∀x H,k x H=(k' x H).bind F):mC P t m key x H k=(mC P t m key x H k').bind F:=by
 unfold mC;split
 ·split
  ·exact akZ (bQZ fun _=>akZ (awZ fun _=>akZ (h _ _)))
  ·refine awZ fun _=> ?_;split
   ·exact akZ (bQZ fun _=>bQZ fun _=>h _ _)
   ·rfl
 ·rfl
theorem gbZ{t}{n}{ps}{vs}{rb}{id}(h:∀x H,k x H=(k' x H).bind F):fQ P t n ps vs rb id H k=(fQ P t n ps vs rb id H k').bind F:=by
 unfold fQ;simp[e0Z];split
 ·exact awZ fun _=>awZ fun u=>akZ (awZ fun _=>aJZ (akZ (aWZ fun _=>h _ _))<|awZ fun _=>lNZ (fun c _ _ h=>hEZ (zB _ rb u) (cs:=c) h) _ _ _ fun _=>aWZ fun _=>h _ _)
 ·rfl
theorem gCZ{t}{s x}{id}(h:∀x H,k x H=(k' x H).bind F):kI P t s x id H k=(kI P t s x id H k').bind F:=by
 unfold kI;split
 ·refine awZ fun _=>gdZ fun _=> ?_;split
  ·exact akZ (aWZ fun _=>h _ _)
  ·split
   ·exact cTZ (fun _=>akZ (aWZ fun _=>h _ _)) (cTZ (fun _=>akZ (aWZ fun _=>h _ _)) rfl)
   ·rfl
  ·split
   ·exact cTZ (fun _=>akZ (aWZ fun _=>h _ _)) rfl
   ·rfl
  ·rfl
 ·rfl
theorem qOZ{t}{s x}(h:∀x H,k x H=(k' x H).bind F):uN P t s x H k=(uN P t s x H k').bind F:=by
 unfold uN;split
 ·refine awZ fun _=>gdZ fun _=> ?_;split
  ·split
   ·exact cTZ (fun _=>akZ (h _ _)) rfl
   ·rfl
  ·split
   ·exact cTZ (fun _=>akZ (h _ _)) rfl
   ·rfl
  ·refine akZ ?_;split
   ·exact cTZ (fun _=>cTZ (fun _=>aAZ fun _=>h _ _) rfl) rfl
   ·rfl
  ·rfl
 ·rfl
theorem nRZ{t}{d}(h:∀x H,k x H=(k' x H).bind F):pU P t d H k=(pU P t d H k').bind F:=by
 unfold pU;split
 ·refine awZ fun _=>akZ ?_;split
  ·exact h _ _
  ·split
   ·exact cTZ (fun _=>akZ (h _ _)) rfl
   ·rfl
  ·split
   ·exact cTZ (fun _=>akZ (h _ _)) rfl
   ·rfl
  ·rfl
 ·rfl
theorem cP.on_nt:∀{l} {x} {k} {k':(s:Shp)->s.D->Option γ},(∀s t,k s t=(k' s t).bind F)->cP.on l x k=(cP.on l x k').bind F
 |[],x,_,_,_=>Empty.elim x
 |[s],x,k,k',h=>h s x
 |s::t::r,.inl y,k,k',h=>h s y
 |s::t::r,.inr y,k,k',h=>cP.on_nt (x:=y) h
mutual
theorem co_nt:(q:Kd)->{r:List Ty}->{a:AV}->{x:HL r}->{k:HL (q.lv r)->Option β}->{k':HL (q.lv r)->Option γ}->(∀y,k y=(k' y).bind F)->co q r a x k=(co q r a x k').bind F
 |.p t,r,a,x,k,k',h=>bQZ (u:=t) (k:=fun y=>k (y,x)) (k':=fun y=>k' (y,x)) fun y=>h _
 |.pt t,r,a,x,k,k',h=>awZ fun _=>h _
 |.own es id i j,r,a,x,k,k',h=>akZ (h _)
 |.ownx es id j,r,a,x,k,k',h=>awZ fun _=>h _
 |.sl es id,r,a,x,k,k',h=>awZ fun _=>h _
 |.slf es id,r,a,x,k,k',h=>akZ (h _)
 |.mp id,r,a,x,k,k',h=>akZ (h _)
 |.any,r,a,x,k,k',h=>h _
 |.fn f ka kc,r,a,x,k,k',h=>awZ fun _=>akZ (gnZ kc fun _=>gnZ ka h)
 |.agg l,r,a,x,k,k',h=>awZ fun _=>akZ (gnZ l h)
 |.tup l,r,a,x,k,k',h=>awZ fun _=>akZ (gnZ l h)
 |.nilp v,r,a,x,k,k',h=>akZ (h _)
theorem gnZ:(q:KdL)->{r:List Ty}->{c:List AV}->{x:HL r}->{k:HL (q.lv r)->Option β}->{k':HL (q.lv r)->Option γ}->(∀y,k y=(k' y).bind F)->coL q r c x k=(coL q r c x k').bind F
 |.nil,r,c,x,k,k',h=>h _
 |.cons q l,r,c,x,k,k',h=>gnZ l fun _=>co_nt q h
end
theorem vHZ{q}{r}{b}{x}{k}{k'}(h:∀y,k y=(k' y).bind F):coB q r b x k=(coB q r b x k').bind F:=by
 cases q with
 |vars l=>exact awZ fun _=>gnZ l h
 |rows e t=>exact awZ fun _=>h _
 |map kt vt=>exact awZ fun _=>h _
 |fam e s=>exact awZ fun _=>h _
theorem t6Z:(hs:HK)->{r:List Ty}->{x:HL r}->{k:HL (eI hs r)->Option β}->{k':HL (eI hs r)->Option γ}->(∀y,k y=(k' y).bind F)->coH hs r H x k=(coH hs r H x k').bind F
 |[],r,x,k,k',h=>h _
 |(_,_,q)::l,r,x,k,k',h=>awZ fun _=>t6Z l fun _=>vHZ h
theorem Shp.co_nt{s:Shp}{vs}{k}{k'}(h:∀y,k y=(k' y).bind F):s.co vs H k=(s.co vs H k').bind F:=
 akZ (t6Z s.hs fun _=>gnZ s.ks fun _=>h _)
theorem Shp.rco_nt{s:Shp}{vs}{ps}{k}{k'}(h:∀y,k y=(k' y).bind F):s.rco vs H ps k=(s.rco vs H ps k').bind F:=
 akZ (Shp.co_nt h)
theorem puZ{e}{args}{an}(h:∀x H,k x H=(k' x H).bind F):uS P e args an H k=(uS P e args an H k').bind F:=by
 unfold uS;rw[doZ,doZ];exact awZ fun _=>akZ (Shp.rco_nt fun _=>aAZ fun _=>cP.on_nt fun _ _=>by
  grind[Shp.embC_eq,akZ])
theorem v5Z{T:Tbl}{o:Oper}{an:Ann}{r:Operand->AV}(h:∀x H,k x H=(k' x H).bind F):evW P T o an r H k=(evW P T o an r H k').bind F:=by
 unfold evW;split
 ·exact aJZ (omZ h) (lcZ h)
 ·exact aJZ (sVZ h) (rhZ h)
 ·exact gbZ h
 ·exact nKZ h
 ·split
  ·exact fuZ fun _=>h _ _
  ·exact iVZ h
 ·exact pUZ h
 ·exact jFZ h
 ·exact fJZ h
 ·exact fJZ h
 ·split
  ·split
   ·split
    ·exact gCZ h
    ·exact gCZ h
    ·rfl
   ·rfl
  ·split
   ·exact qOZ h
   ·rfl
  ·split
   ·exact nRZ h
   ·rfl
  ·refine awZ fun _=> ?_;split
   ·exact puZ h
   ·rfl
  ·rfl
 ·rfl
theorem uuZ{o}{r}{k}{res:β}(hn:NZ P o=true)(h:evR P o r H k=some res):∃x,evR P o r H some=some x/\k x=some res:=by
 have e:evR P o r H k=(evR P o r H some).bind k:=v1Z hn fun _=>rfl
 simp_all[ZAH]
theorem tSZ{T}{o}{an}{r}{k}{res:β}(h:evW P T o an r H k=some res):∃x H',evW P T o an r H (fun x H'=>some (x,H'))=some (x,H')/\k x H'=some res:=by
 have e:evW P T o an r H k=(evW P T o an r H fun x H'=>some (x,H')).bind fun p=>k p.1 p.2:=v5Z fun _ _=>rfl
 simp_all[ZAH]
end
end
theorem avZ{H}{id}(h:aN H id=false):aG H id=none:=by
 cases hg:aG H id<;>grind[ajZ]
section
variable {z z' : Z} {H : Hp}
theorem aF.live{a}{v}(h:aF z a v):∀id∈AV.ids a,z.ρ id≠.no:=by
 have hL:∀{l},(∀(i:Nat) (x),l[i]? =some x->∀id∈AV.ids x,z.ρ id≠.no)->∀id∈AV.idsL l,z.ρ id≠.no:=by
  intro l;induction l with
  |nil=>intro _ id h;cases h
  |cons a l ih=>
   intro h id hi;simp[AV.idsL] at hi;rcases hi with hi|hi
   ·exact h 0 a rfl id hi
   ·exact ih (fun i x hx=>h (i+1) x hx) id hi
 induction h with
 |p t x v h=>intro id h;cases h
 |pt t l i j b off h1 h2 h3=>intro id h;cases h
 |own es id i j g sz n h=>intro k hk;simp[AV.ids] at hk;subst hk;rw[h];intro h;cases h
 |rp f es k' i j g sz n h=>intro k hk;cases hk
 |slV es id off A h=>intro k hk;simp[AV.ids] at hk;subst hk;rw[h];intro h;cases h
 |slE es id off g sz m o h=>intro k hk;simp[AV.ids] at hk;subst hk;rw[h];intro h;cases h
 |sl es id off n g sz m c h hn hs hm=>intro k hk;simp[AV.ids] at hk;subst hk;rw[h];intro h;cases h
 |slfV es id A h=>intro k hk;simp[AV.ids] at hk;subst hk;rw[h];intro h;cases h
 |slf es id g sz n c h hn hs hm=>intro k hk;simp[AV.ids] at hk;subst hk;rw[h];intro h;cases h
 |mp id g sz n h=>intro k hk;simp[AV.ids] at hk;subst hk;rw[h];intro h;cases h
 |fn f a c va vc ha hc h1 h2 ih1 ih2=>
  intro k hk;simp[AV.ids] at hk;rcases hk with hk|hk
  ·refine hL (fun i x hx=> ?_) k hk;have hlt:i<va.size:=by rw[ha];exact(ZAB.1 hx).1
   exact ih1 i x va[i] hx (ZAy hlt)
  ·refine hL (fun i x hx=> ?_) k hk;have hlt:i<vc.size:=by rw[hc];exact(ZAB.1 hx).1
   exact ih2 i x vc[i] hx (ZAy hlt)
 |agg l cs hs h1 h ih=>
  intro k hk;refine hL (fun i x hx=> ?_) k hk;have hlt:i<cs.size:=by rw[hs];exact(ZAB.1 hx).1
  exact ih i x cs[i] hx (ZAy hlt)
 |tup l vs hs h ih=>
  intro k hk;refine hL (fun i x hx=> ?_) k hk;have hlt:i<vs.size:=by rw[hs];exact(ZAB.1 hx).1
  exact ih i x vs[i] hx (ZAy hlt)
 |junk v=>intro k hk;cases hk
theorem fX.ren'{g sz n}{b}{f}{ρ'}(h:fX z g sz n b)(hd:dZ z.ρ ρ')(hf:∀{id k},z.ρ id≠.no->f id=some k->ρ' k=z.ρ id):fX {z with ρ:=ρ'} g sz n (b.ren f):=by
 cases b with
 |vars c=>
  let⟨cs,e,fr,a1,a2,a3,⟨a4,an⟩,a5,a6⟩:=h
  refine⟨cs,e,fr,a1,a2,a3,⟨by simp_all[czZ],an⟩,fun i a v p1 p2=> ?_,a6⟩;rw[dkZ] at p1;obtain⟨y,p3,rfl⟩:=ZAI.1 p1;exact(a5 i y v p3 p2).ren rfl rfl (.inl hd) fun id k hi hk=>hf ((a5 i y v p3 p2).live id hi) hk
 |rows e t l=>
  let⟨cs,fr,a1,a2,a3,a4,a5,a6,a7⟩:=h
  refine⟨cs,fr,a1,a2,a3,a4,a5,a6,fun i x hx=> ?_⟩
  let⟨u,b1,b2⟩:=a7 i x hx
  exact⟨u,b1.dyn hd,b2⟩
 |map kt vt m=>
  let⟨es,a1,a2,a3,a4⟩:=h
  exact⟨es,a1,a2,fun i x e q1 q2=>⟨(a3 i x e q1 q2).1.dyn hd,(a3 i x e q1 q2).2.1.dyn hd,(a3 i x e q1 q2).2.2⟩,a4⟩
 |fmap kt l=>
  let⟨es,clock,a1,a2,a3⟩:=h
  refine⟨es,clock,a1,by simp[a2],fun i x e q1 q2=> ?_⟩;rw[ZAY] at q1;obtain⟨y,q3,rfl⟩:=ZAI.1 q1
  let⟨b1,b2⟩:=a3 i y e q3 q2
  exact⟨b1.dyn hd,b2.ren rfl rfl (.inl hd) fun id k hi hk=>hf (b2.live id hi) hk⟩
 |fam e s ms=>exact h.elim
def Z.foc(z:Z)(H:Hp)(F:Nat->Bool):Z:=
 {z with C:=fun g=>∃id e sz n,F (rt id)=true/\aQ H id=some e/\e.fz=false/\z.ρ id= .real g sz n,D:=fun id=>z.D id\/(cQ H id=true/\F (rt id)=false)}
theorem vtZ{H1}{F:Nat->Bool}(hH:aH z H)(h1:∀id,aG H1 id=if F id then aG H id else none)(h2:∀id,aN H1 id=(F id&&aN H id)):aH (z.foc H F) H1:=by
 have q:∀id e,aQ H1 id=some e->F (rt id)=true/\aQ H id=some e:=fun id e h=>by
  cases hF:F (rt id)
  ·exfalso;have e1:aG H1 (rt id)=none:=by rw[h1,hF];rfl
   have:aQ H1 id=none:=by
    by_cases hd:aC<=id
    ·rw[a8Z hd,e1];rfl
    ·rw[aZZ (by omega)] at e1;unfold aQ;rw[ZAM hd,e1,ite_self]
   rw[this] at h;cases h
  grind[ctZ]
 refine⟨fun id e h=> ?_,fun id id' e e' g sz n g' sz' n' hii p1 p2 m1 m2 p3 p4=> ?_,fun id h=> ?_,fun g ⟨id,e,sz,n,q1,q2,q3,q4⟩=> ?_,fun id x h=> ?_,fun id h=> ?_,fun id hd h=> ?_,hH.nos⟩
 ·obtain⟨a1,a2⟩:=q id e h;exact(hH.ent _ _ a2).rho rfl rfl (.inl (.eq rfl)) rfl (fun _ _=>rfl) fun g sz n hr hf _=>⟨id,e,sz,n,a1,a2,hf,hr⟩
 ·exact hH.inj id id' e e' g sz n g' sz' n' hii (q _ _ p1).2 (q _ _ p2).2 m1 m2 p3 p4
 ·cases hF:F (rt id)
  ·cases hk:cQ H id
   ·exact(hH.fresh id hk).imp (fun h=>h) .inl
   ·exact .inr (.inr ⟨hk,hF⟩)
  ·rw[dGZ (show aG H1 (rt id)=aG H (rt id) by simp_all) (by simp_all)] at h;exact(hH.fresh id h).imp (fun h=>h) .inl
 ·exact hH.sub _ ((hH.realX q2 q4).2.1 q3)
 ·rw[h1] at h;split at h
  ·exact hH.fam id x h
  grind
 ·rw[h2,ZAF] at h;exact hH.key id h.2
 ·rw[h2,ZAF] at h;rintro(hD|⟨_,hD⟩)
  ·exact hH.dyn id hd h.2 hD
  simp_all
theorem merge_ok{H2 H3}{F}{z2}(hH:aH z H)(hn:Nx (z.foc H F) z2)(h2:aH z2 H2)(hF:∀id,aN H2 id=true->F id=true)
 (h3:∀id,aG H3 id=if aN H2 id then aG H2 id else if F id then none else aG H id)(h4:∀id,aN H2 id=true\/aN H id=true->aN H3 id=true)(h5:∀id,aN H3 id=true->aN H2 id=true\/aN H id=true\/(id<aC/\∀x,rt x=id->¬z.D x)):
 ∃z3,z3.w=z2.w/\z3.M=z2.M/\z3.ρ=z2.ρ/\aH z3 H3/\Nx z z3:=by
 let z3:Z:={z2 with C:=fun g=>z2.C g\/(z.C g/\¬(z.foc H F).C g/\g<z.w.heap.size),D:=z.D}
 have hC1:∀g,(z.foc H F).C g->z.C g:=fun g ⟨id,e,sz,n,_,q2,q3,q4⟩=>(hH.realX q2 q4).2.1 q3;have hN:Nx z z3:=⟨hn.os,hn.tape,hn.output,hn.size,fun b hb hc=>hn.block b hb fun h=>hc (hC1 b h),hn.subM,fun g hg=>by
  rcases hg with hg|hg
  ·rcases hn.subC g hg with h|h
   ·exact .inl (hC1 g h)
   ·exact .inr h
  simp_all,fun g hg hM hC=>hn.keepM g hg hM fun h=>hC (hC1 g h),hn.ext,rfl⟩
 have hkp:=hN.kp hH.sub;have key:∀id e,aQ H3 id=some e->(aQ H2 id=some e)\/(F (rt id)=false/\aQ H id=some e):=fun id e h=>by
  have h3':=h3 (rt id);cases hk:aN H2 (rt id)
  ·rw[hk] at h3';simp only[ZA7,ZCR] at h3';cases hf:F (rt id)
   ·rw[hf] at h3';exact .inr ⟨rfl,by rw[<-ctZ (H':=H3) (H:=H) h3'];exact h⟩
   ·exfalso;rw[hf] at h3';have e1:aG H3 (rt id)=none:=h3';have:aQ H3 id=none:=by
     by_cases hd:aC<=id
     ·rw[a8Z hd,e1];rfl
     ·rw[aZZ (by omega)] at e1;unfold aQ;rw[ZAM hd,e1,ite_self]
    rw[this] at h;cases h
  grind[ctZ]
 have hout:∀id e g sz n,F (rt id)=false->aQ H id=some e->z.ρ id= .real g sz n->¬(z.foc H F).C g:=by
  rintro id e g sz n hf hg hr ⟨id',e',sz',n',a1,a2,a3,a4⟩;have hne:id≠id':=fun h=>by simp_all
  exact hH.ne hne hg a2 a3 hr a4 (fun h=>by rw[h.1.rt,<-h.2.rt,a1] at hf;grind) rfl
 have houtρ:∀id e,F (rt id)=false->aQ H id=some e->z.ρ id≠.no:=fun id e _ hg hr=>by
  have:=hH.ent _ _ hg
  simp_all[dX]
 refine⟨z3,rfl,rfl,rfl,⟨fun id e h=> ?_,fun id id' e e' g sz n g' sz' n' hii p1 p2 m1 m2 p3 p4=> ?_,fun id h=> ?_,fun g hg=> ?_,fun id x h=> ?_,fun id h=> ?_,fun id hd h=> ?_,h2.nos⟩,hN⟩
 ·rcases key id e h with h|⟨hf,h⟩
  ·exact(h2.ent _ _ h).rho rfl rfl (.inl (.eq rfl)) rfl (fun _ _=>rfl) fun g _ _ _ _ hC=>.inl hC
  ·refine(hH.ent _ _ h).kp hkp fun g sz n hr=>⟨hn.block g (hH.realX h hr).1 (hout id e g sz n hf h hr),fun hC=>.inr ⟨hC,hout id e g sz n hf h hr,(hH.realX h hr).1⟩⟩
 ·have cross:∀i i' ee ee' gg ssz nn gg' ssz' nn',aQ H2 i=some ee->F (rt i')=false->aQ H i'=some ee'->ee.fz=false->z2.ρ i= .real gg ssz nn->z2.ρ i'= .real gg' ssz' nn'->gg≠gg':=by
   rintro i i' ee ee' gg ssz nn gg' ssz' nn' a1 a2 a3 a4 a5 a6 rfl;have hr':z.ρ i'= .real gg ssz' nn':=by rw[<-hN.ext i' (houtρ i' ee' a2 a3)];exact a6
   have hlt:=(hH.realX a3 hr').1;rcases hn.subC gg ((h2.realX a1 a5).2.1 a4) with h|h
   ·exact hout i' ee' gg ssz' nn' a2 a3 hr' h
   ·exact ZBR.2 hlt h
  rcases key id e p1 with q1|⟨f1,q1⟩<;>rcases key id' e' p2 with q2|⟨f2,q2⟩
  ·exact h2.inj id id' e e' g sz n g' sz' n' hii q1 q2 m1 m2 p3 p4
  ·exact fun _=>cross id id' e e' g sz n g' sz' n' q1 f2 q2 m1 p3 p4
  ·exact fun _ h=>cross id' id e' e g' sz' n' g sz n q2 f1 q1 m2 p4 p3 h.symm
  ·have r1:z.ρ id= .real g sz n:=by rw[<-hN.ext id (houtρ id e f1 q1)];exact p3
   have r2:z.ρ id'= .real g' sz' n':=by rw[<-hN.ext id' (houtρ id' e' f2 q2)];exact p4
   exact hH.inj id id' e e' g sz n g' sz' n' hii q1 q2 m1 m2 r1 r2
 ·
  have h0:=eAZ;by_cases hfr:aA<=id/\id<aC
  ·exact .inl (h2.nos id hfr.1 hfr.2)
  have hlk:∀(H:Hp),(aC<=id->cQ H id=(match aG H (rt id) with|some e=>e.has ((id-aC)/16)|none=>aN H (rt id)))/\(¬aC<=id->cQ H id=aN H (rt id)):=fun H=>
   ⟨fun hd=>azZ hd,fun hd=>by rw[aDZ (by omega),aZZ (by omega)]⟩
  have k2:cQ H2 id=false:=by
   by_cases hd:aC<=id
   ·rw[(hlk H2).1 hd];rw[(hlk H3).1 hd] at h;cases hk:aN H2 (rt id)
    ·rw[avZ hk]
    ·have h3':=h3 (rt id);rw[hk] at h3';rw[ZAN rfl] at h3';rw[h3'] at h;cases hg:aG H2 (rt id) with
     |none=>
      rw[hg] at h;have h:aN H3 (rt id)=false:=h;rw[h4 (rt id) (.inl hk)] at h;cases h
     |some e=>rw[hg] at h;exact h
   ·rw[(hlk H2).2 hd];rw[(hlk H3).2 hd] at h;cases hk:aN H2 (rt id)
    ·rfl
    ·rw[h4 (rt id) (.inl hk)] at h;cases h
  have k1:F (rt id)=false->cQ H id=false:=fun hf=>by
   have hk2:aN H2 (rt id)=false:=by
    cases hk:aN H2 (rt id)
    ·rfl
    ·have:=hF _ hk;rw[hf] at this;cases this
   by_cases hd:aC<=id
   ·rw[(hlk H).1 hd];rw[(hlk H3).1 hd] at h;have h3':=h3 (rt id);rw[hk2,hf] at h3';simp only[ZA7,ZCR] at h3';rw[h3'] at h;cases hg:aG H (rt id) with
    |none=>
     rw[hg] at h;have h:aN H3 (rt id)=false:=h;show aN H (rt id)=false;cases hk:aN H (rt id)
     ·rfl
     ·rw[h4 (rt id) (.inr hk)] at h;cases h
    |some e=>rw[hg] at h;exact h
   ·rw[(hlk H).2 hd];rw[(hlk H3).2 hd] at h;cases hk:aN H (rt id)
    ·rfl
    ·rw[h4 (rt id) (.inr hk)] at h;cases h
  rcases h2.fresh id k2 with h0|h0
  ·exact .inl h0
  ·rw[hn.dom] at h0;rcases h0 with h0|⟨h0,hf⟩
   ·exact .inr h0
   ·rw[k1 hf] at h0;cases h0
 ·rcases hg with hg|⟨hg,hng,hlt⟩
  ·exact h2.sub g hg
  ·exact hn.keepM g hlt (hH.sub g hg) hng
 ·rw[h3] at h;split at h
  ·exact h2.fam id x h
  ·split at h
   ·cases h
   ·exact hH.fam id x h
 ·rcases h5 id h with h|h|h
  ·exact h2.key id h
  ·exact hH.key id h
  ·exact h.1
 ·rcases h5 _ h with h|h|h
  ·have:=h2.dyn id hd h;rw[hn.dom] at this;exact fun hD=>this (.inl hD)
  ·exact hH.dyn id hd h
  ·exact h.2 id rfl
def IJ(e:Ent):Ent:=
 match e.b with
 |.fam e' s ms=>⟨e.fz,.fam e' s (ms.map aV)⟩
 |_=>e
theorem dAZ:∀(H) (id),aG (uL H) id=(aG H id).map IJ/\aN (uL H) id=aN H id
 |[],id=>⟨rfl,rfl⟩
 |(i,none)::H,id=>by
  let⟨h1,h2⟩:=dAZ H id
  simp[uL,aG,aN];cases Nat.beq i id
  ·exact⟨h1,h2⟩
  ·exact⟨rfl,rfl⟩
 |(i,some ⟨fz,b⟩)::H,id=>by
  let⟨h1,h2⟩:=dAZ H id
  cases b<;>simp[uL,aG,aN]<;>cases Nat.beq i id<;>first|exact⟨h1,h2⟩|exact⟨rfl,rfl⟩
theorem sHZ(k)(e):pick k (IJ e)=(pick k e).map fun x=>⟨true,x.b⟩:=by
 let⟨fz,b⟩:=e
 cases b with
 |fam e s ms=>
  simp[IJ,pick];cases hm:ms[k]? with
  |none=>rfl
  |some m=>
   let⟨st,l⟩:=m
   simp[aV];by_cases h:st=0
   ·subst h;rfl
   simp_all[ahZ]
 |_=>rfl
theorem sCZ(e)(k):(IJ e).has k=e.has k:=by
 grind[IJ,Ent.has]
theorem tvZ(hH:aH z H)(id):aQ (uL H) id=(aQ H id).map (fun x=>⟨x.fz||decide (aC<=id),x.b⟩)/\cQ (uL H) id=cQ H id:=by
 let⟨h1,h2⟩:=dAZ H (rt id)
 by_cases hd:aC<=id
 ·rw[a8Z hd,a8Z hd,azZ hd,azZ hd,h1];refine⟨?_,?_⟩
  ·cases aG H (rt id) with
   |none=>rfl
   |some e=>
    simp[sHZ,hd,Bool.or_true]
  grind[ZB5,sCZ]
 ·rw[aZZ (by omega)] at h1 h2;by_cases hf:aA<=id
  ·unfold aQ cQ
   grind
  ·rw[aqZ (by omega),aqZ (by omega),aDZ (by omega),aDZ (by omega),h1,h2];refine⟨?_,rfl⟩;cases hg:aG H id with
   |none=>rfl
   |some e=>
    have:=hH.fam id e hg
    let⟨fz,b⟩:=e
    cases b<;>first|grind[IJ]|(have:=this.1;omega)
theorem umZ(hH:aH z H):∃z',z'.w=z.w/\aH z' (uL H)/\Nx z z'/\z'.ρ=z.ρ:=by
 let mem:=fun g=>∃id e sz n,aC<=id/\aQ H id=some e/\e.fz=false/\z.ρ id= .real g sz n
 let z':={z with M:=fun x=>z.M x/\¬mem x,C:=fun x=>z.C x/\¬mem x}
 have hmC:∀g,mem g->z.C g:=fun g ⟨id,e,sz,n,_,q1,q2,q3⟩=>(hH.realX q1 q3).2.1 q2;have hn:Nx z z':=⟨rfl,⟨rfl,ZAL _⟩,rfl,ZAL _,fun _ _ _=>rfl,fun x hx=>.inl hx.1,fun x hx=>.inl hx.1,fun x _ hM hx=>⟨hM,fun h=>hx (hmC x h)⟩,fun _ _=>rfl,rfl⟩;have hkp:=hn.kp hH.sub;have hX:=fun id=>(tvZ hH id).1;have hK:=fun id=>(tvZ hH id).2;refine⟨z',rfl,⟨fun i e hi=> ?_,fun i i' e e' a sa na a' sa' na' hii h1 h2 m1 m2 h3 h4=> ?_,fun i hi=> ?_,fun x hx=>⟨hH.sub x hx.1,hx.2⟩,fun i x h=> ?_,fun i h=>hH.key i (by simp_all[dAZ]),fun i hd h=>hH.dyn i hd (by simp_all[dAZ]),hH.nos⟩,hn,rfl⟩
 ·rw[hX] at hi;obtain⟨e0,q1,rfl⟩:=ZAI.1 hi;have h0:=hH.ent _ _ q1;unfold dX at h0⊢;show match z.ρ i with|.no=>False|.virt=>_|.real g sz n=>_
  cases hρ:z.ρ i with
  |no=>simp_all
  |virt=>simp_all
  |real g sz n=>
   rw[hρ] at h0
   let⟨b1,b2,b3,b4⟩:=h0
   refine⟨b1,fun hf=> ?_,fun hf hm=> ?_,b4.kp hkp rfl⟩
   ·simp only[ZBb,ZBG] at hf;refine⟨b2 hf.1,?_⟩;rintro⟨id',e',sz',n',p1,p2,p3,p4⟩;exact hH.inj i id' _ _ _ _ _ _ _ _ (fun h=>hf.2 (h▸p1)) q1 p2 hf.1 p3 hρ p4 (fun h=>hf.2 h.1.1) rfl
   ·simp[ZAt] at hf;cases he:e0.fz
    ·rw[he] at hf;exact hm.2 ⟨i,e0,sz,n,hf.resolve_left (by simp),q1,he,hρ⟩
    ·exact b3 he hm.1
 ·rw[hX] at h1 h2;obtain⟨e1,q1,rfl⟩:=ZAI.1 h1;obtain⟨e2,q2,rfl⟩:=ZAI.1 h2;simp at m1 m2;exact hH.inj i i' e1 e2 _ _ _ _ _ _ hii q1 q2 m1.1 m2.1 h3 h4
 ·rw[hK] at hi;exact hH.fresh i hi
 ·rw[(dAZ H i).1] at h;obtain⟨e0,q1,rfl⟩:=ZAI.1 h;have:=hH.fam i e0 q1
  let⟨fz,b⟩:=e0
  cases b<;>exact this
theorem meZ{H}{f}{s}:∀{n} {ms},JK f s (sX H n)=some ms->∃fz e,aG H (bB f)=some ⟨fz,.fam e s ms⟩
 |0,ms,h=>by cases h
 |n+1,ms,h=>by
  simp[sX] at h;split at h
  ·rename_i fz e s' ms' hg;simp[JK] at h;cases hb:Nat.beq n (f%16)<;>rw[hb] at h<;>simp[bq_false] at h
   ·exact meZ h
   ·rw[afZ] at hb;subst hb;rcases aUZ h with⟨hs,h⟩|h
    ·subst hs;have:=ZAh h;subst this;exact⟨fz,e,hg⟩
    ·cases h
  ·exact meZ h
theorem vqZ(hH:aH z H){f}{s}{ms}(h:JK f s (yZ H)=some ms){k st}{l}(hm:ms[k]? =some (st,l))(hst:2<=st):∃e,dX z (enc f k) ⟨true,.rows e s l⟩:=by
 let⟨fz,e,hg⟩:=meZ h
 have:=gtZ hg hm (by omega);have h2:=hH.ent _ _ this;rw[show(fz||Nat.ble 2 st)=true by rw[ZAi hst,Bool.or_true]] at h2
 grind
theorem drZ(hH:aH z H):{t:Ty}->{x:t.den}->{y:t.unref.den}->{vs:List Value}->aT (yZ H) t x=some y->Cl z.w z.M z.ρ t x vs->Cl z.w z.M z.ρ t.unref y vs
 |.one t,x,y,vs,h,hc=>drZ hH (t:=t) h hc
 |.pair a b,x,y,vs,h,hc=>by
  obtain⟨u,v,rfl,h1,h2⟩:=hc
  let⟨p,h3,h4⟩:=ZAH.1 h
  obtain⟨q,h5,rfl⟩:=ZAI.1 h4;exact⟨u,v,rfl,drZ hH h3 h1,drZ hH h5 h2⟩
 |.ref f t,.inl l,y,vs,h,hc=>by
  obtain rfl:=ZAh h;exact hc
 |.ref f t,.inr none,y,vs,h,hc=>by
  obtain rfl:=ZAh h;obtain rfl:vs=[.slice none 0 0]:=hc;exact⟨none,0,rfl,ZAL _,by omega,fun _=>rfl,fun h=>absurd rfl h⟩
 |.ref f t,.inr (some (k,off,n)),y,vs,h,hc=>by
  let⟨ms,h1,h2⟩:=agZ.1 h
  unfold ET at h2;split at h2
  ·rename_i st l hm;cases hb:(Nat.ble 2 st&&Nat.ble (off+n) l.length)<;>rw[hb] at h2<;>simp only[bq_true,bq_false] at h2
   ·cases h2
   simp[ZAm] at hb
   let⟨hst,hn⟩:=hb
   obtain rfl:(l.drop off).take n=y:=ZAh h2
   let⟨e,hE⟩:=vqZ hH h1 hm hst
   have hlen:((l.drop off).take n).length=n:=by rw[ZAS,ZAx];omega
   unfold dX at hE;rcases hc with⟨A,hρ,rfl,rfl⟩|⟨g,sz,m,c,hρ,h3,h4,h5,rfl⟩
   ·refine⟨A,0,?_,?_,by unfold maxLen;omega,fun _=>rfl,fun h=>absurd hlen h⟩
    ·rw[(hlen)]
    ·rw[(hlen)];omega
   ·rw[hρ] at hE
    let⟨q1,_,q2,q3⟩:=hE
    refine⟨some ⟨g,off*t.cells,none⟩,c,?_,?_,h5,(fun h=>by cases h),fun _=>⟨g,off*t.cells,rfl,q2 rfl,q1,?_⟩⟩
    ·rw[(hlen)]
    ·rw[(hlen)];exact h3
    ·have:=q3.rowAt.sub off n;rwa [ZA5] at this
  simp_all
 |.int _,x,y,vs,h,hc|.byte,x,y,vs,h,hc|.bool,x,y,vs,h,hc|.str,x,y,vs,h,hc|.opq,x,y,vs,h,hc|.nat,x,y,vs,h,hc|.ptr _,x,y,vs,h,hc|.sl _,x,y,vs,h,hc|.arr _ _,x,y,vs,h,hc=>by
  obtain rfl:=ZAh h;exact hc
theorem hWZ{α γ}{g}:∀{l:List α} {l':List γ},bE g l=some l'->l'.length=l.length/\∀(i:Nat) y,l'[i]? =some y->∃x,l[i]? =some x/\g x=some y
 |[],l',h=>by
  obtain rfl:=ZAh h<;>grind
 |x::l,l',h=>by
  let⟨y,h1,h2⟩:=ZAH.1 h
  obtain⟨l1,h3,rfl⟩:=ZAI.1 h2
  let⟨q1,q2⟩:=hWZ h3
  refine⟨by simp[q1],fun i y' hi=> ?_⟩
  match i with
  |0=>simp at hi;subst hi;exact⟨x,rfl,h1⟩
  |i+1=>exact q2 i y' (by simpa using hi)
theorem mzZ{t}{g}(hg:∀{x} {y} {vs},g x=some y->Cl z.w z.M z.ρ t x vs->Cl z.w z.M z.ρ t.unref y vs){l}{l'}{v}(h:bE g l=some l')(hv:bK z.w z.M z.ρ (.sl t) l v):bK z.w z.M z.ρ (.sl t.unref) l' v:=by
 obtain⟨A,c,rfl,h1,h2,h3,h4⟩:=hv.sl
 let⟨q1,q2⟩:=hWZ h
 refine .mkSc ⟨A,c,?_,?_,h2,h3,fun h0=> ?_⟩ rfl
 ·simp_all
 ·omega
 ·rw[(q1)] at h0
  let⟨b,off,p1,p2,p3,p4⟩:=h4 h0
  refine⟨b,off,p1,p2,p3,fun i e he=> ?_⟩
  let⟨x,hx,hxe⟩:=q2 i e he
  let⟨u,r1,r2⟩:=p4 i x hx
  exact⟨u,hg hxe r1,by rw[a4Z];exact r2⟩
theorem bK.unref{t}{x}{y}{v}(hv:bK z.w z.M z.ρ t x v)(h:∀vs,Cl z.w z.M z.ρ t x vs->Cl z.w z.M z.ρ t.unref y vs):bK z.w z.M z.ρ t.unref y v:=by
 let⟨vs,h1,h2⟩:=hv
 exact⟨vs,h vs h1,by simp_all[fZZ]⟩
section
variable {β : Type}
theorem kIZ(hH:aH z H){a}{K}{r:β}{v}(h:rO (yZ H) a K=some r)(ha:aF z a v):∃x,aF z x v/\K x=some r:=by
 unfold rO at h;split at h
 ·rename_i t l;cases hn:t.noRef<;>rw[hn] at h<;>simp[bq_false] at h
  ·let⟨l',h1,h2⟩:=ZAH.1 h
   exact⟨_,.p _ _ _ (mzZ (fun h hc=>drZ hH h hc) h1 ha.v),h2⟩
  ·exact⟨_,ha,h⟩
 ·rename_i t x _;cases hn:t.noRef<;>rw[hn] at h<;>simp[bq_false] at h
  ·let⟨y,h1,h2⟩:=ZAH.1 h
   exact⟨_,.p _ _ _ (ha.v.unref fun vs hc=>drZ hH h1 hc),h2⟩
  ·exact⟨_,ha,h⟩
 ·exact⟨_,ha,(adZ.1 h).2⟩
 grind
theorem h8Z(hH:aH z H):∀{l} {K} {r:β} {vs},pV (yZ H) l K=some r->aR z l vs->∃l',aR z l' vs/\K l'=some r
 |[],K,r,vs,h,hv=>⟨[],hv,h⟩
 |a::l,K,r,[],h,hv=>by have:=hv.1;simp_all
 |a::l,K,r,v::vs,h,hv=>by
  let⟨x,h1,h2⟩:=kIZ hH h hv.head
  let⟨l',h3,h4⟩:=h8Z hH h2 hv.tail
  exact⟨x::l',.cons h1 h3,h4⟩
theorem rxZ{a}{K}{r:β}{v}(h:EU a K=some r)(ha:aF z a v):∃x,aF z x v/\K x=some r:=by
 unfold EU at h;split at h
 ·rename_i t l;cases hn:t.noRef<;>rw[hn] at h<;>simp[bq_false] at h
  ·let⟨l',h1,h2⟩:=ZAH.1 h
   exact⟨_,.p _ _ _ (mzZ (fun h hc=>ggZ h hc) h1 ha.v),h2⟩
  ·exact⟨_,ha,h⟩
 ·rename_i t x _;cases hn:t.noRef<;>rw[hn] at h<;>simp[bq_false] at h
  ·let⟨y,h1,h2⟩:=ZAH.1 h
   exact⟨_,.p _ _ _ (ha.v.unref fun vs hc=>ggZ h1 hc),h2⟩
  ·exact⟨_,ha,h⟩
 grind
theorem nqZ:∀{l} {K} {r:β} {vs},zI l K=some r->aR z l vs->∃l',aR z l' vs/\K l'=some r
 |[],K,r,vs,h,hv=>⟨[],hv,h⟩
 |a::l,K,r,[],h,hv=>by have:=hv.1;simp_all
 |a::l,K,r,v::vs,h,hv=>by
  let⟨x,h1,h2⟩:=rxZ h hv.head
  let⟨l',h3,h4⟩:=nqZ h2 hv.tail
  exact⟨x::l',.cons h1 h3,h4⟩
theorem tpZ{l}{cs}(ha:aF z (.agg l) (.agg cs)){z'}{l'}(h:aR z' l' cs.toList):aF z' (.agg l') (.agg cs):=by
 cases ha with|agg _ _ hs h1 h2=>
 exact .agg _ _ (by have:=h.1;simp_all) h1 fun i x v p1 p2=>h.2 i x v p1 (by simp_all)
theorem sGZ{a}{K}{r:β}{v}(h:xB a K=some r)(ha:aF z a v):∃x,aF z x v/\K x=some r:=by
 unfold xB at h;split at h
 ·cases hv:v<;>rw[hv] at ha<;>first|(cases ha;done)|skip
  let⟨l',h1,h2⟩:=nqZ h ha.reps
  exact⟨_,tpZ ha h1,h2⟩
 grind[rxZ]
theorem oIZ{a}{K}{r:β}{v}(hH:aH z H)(h:mY H a K=some r)(ha:aF z a v):∃x H' z',z'.w=z.w/\aH z' H'/\Nx z z'/\z'.ρ=z.ρ/\aF z' x v/\K x H'=some r:=by
 let⟨z',q1,q2,q3,q4⟩:=umZ hH
 have kp:=q3.kp hH.sub;unfold mY at h;split at h
 ·rename_i l;cases hb:AF l<;>rw[hb] at h<;>simp[bq_false] at h
  ·grind[Nx.refl]
  ·cases hv:v<;>rw[hv] at ha<;>first|(cases ha;done)|skip;rename_i cs
   let⟨l',h1,h2⟩:=h8Z q2 h (ha.reps.kp kp)
   exact⟨_,_,z',q1,q2,q3,q4,tpZ ha h1,h2⟩
 ·cases hb:a.anyRef<;>rw[hb] at h<;>simp[bq_false] at h
  ·grind[Nx.refl]
  ·let⟨x,h1,h2⟩:=kIZ q2 h (ha.kp kp)<;>grind
theorem f1Z{a a'}{H'}{v}(hH:aH z H)(h:vH H a=some (a',H'))(ha:aF z a v):
 ∃z',z'.w=z.w/\aH z' H'/\Nx z z'/\z'.ρ=z.ρ/\aF z' a' v:=by
 let⟨⟨x,H1⟩,h1,h2⟩:=agZ.1 h
 let⟨z1,p1,p2,p3,p4,p5⟩:=bUZ hH h1 ha
 let⟨y,H2,z2,q1,q2,q3,q4,q5,q6⟩:=oIZ p2 h2 p5
 obtain⟨rfl,rfl⟩:=ZCs (ZAh q6);exact⟨z2,q1.trans p1,q2,p3.trans q3,q4.trans p4,q5⟩
end
end
section
variable {P : Program} {z : Z} {H : Hp} {β : Type}
theorem aQZ(H):∀(K) (id),aG (fH H K) id=if aN K id then aG K id else aG H id
 |[],id=>by simp[fH,aN]
 |(i,e)::K,id=>by
  simp only[fH,apZ,aN,aG];by_cases h:id=i
  ·subst h;simp
  ·simp[ahZ (ZBf h),h,aQZ H K id]
theorem aIZ(H):∀(K) (id),aN (fH H K) id=(aN K id||aN H id)
 |[],id=>by simp[fH,aN]
 |(i,e)::K,id=>by
  simp[fH,atZ,aN];by_cases h:id=i
  ·subst h;simp
  ·simp[ahZ (ZBf h),h,aIZ H K id]
theorem aYZ:∀(l) (H) (id),aG (fE H l) id=if bA id l then none else aG H id
 |[],H,id=>by simp[fE,bA]
 |i::l,H,id=>by
  rw[fE,aYZ l,apZ];simp only[bA];by_cases h:id=i
  ·subst h;simp
  ·simp[ahZ (ZBf h),h]
theorem aPZ:∀(l) (H) (id),aN (fE H l) id=(bA id l||aN H id)
 |[],H,id=>by simp[fE,bA]
 |i::l,H,id=>by
  rw[fE,aPZ l,atZ];simp[bA];by_cases h:id=i
  ·subst h;simp
  ·simp[ahZ (ZBf h),h]
theorem bWZ(H):∀(l) (id),aG (nV H l) id=(if bA id l then aG H id else none)/\aN (nV H l) id=(bA id l&&aN H id)
 |[],id=>by grind[nV,bA,aG,aN]
 |i::l,id=>by
  let⟨h1,h2⟩:=bWZ H l id
  simp[nV,bA];cases hk:aN H i
  ·simp;rw[h1,h2];by_cases h:i=id
   ·subst h;simp only[hk,Bool.and_false,ZBp];rw[avZ hk];split<;>rfl
   grind[ahZ]
  ·simp[aG,aN]
   grind[afZ,ahZ]
theorem evZ:∀{H} {id},aN H id=true↔id∈lX H
 |[],id=>by simp[aN,lX]
 |(i,e)::H,id=>by
  simp[aN,lX];by_cases h:i=id
  ·subst h;simp
  simp_all[evZ,ZBf]
theorem e3Z{id}:∀{l},id∈FD l↔id∈l
 |[]=>by simp[FD]
 |i::l=>by
  simp[FD];cases hm:bA i l
  ·simp[e3Z]
  ·simp only[bq_true,e3Z];exact⟨.inr,fun h=>h.elim (fun e=>e▸aiZ.1 hm) fun h=>h⟩
theorem kPZ:∀{l r},eqN l r=true↔l=r
 |[],[]=>by simp[eqN]
 |[],_::_=>by simp[eqN]
 |_::_,[]=>by simp[eqN]
 |i::l,k::r=>by simp[eqN,kPZ]
theorem aF.less{z'}{a}{v}(h:aF z a v)(hw:z'.w=z.w)(hr:z'.ρ=z.ρ)(hM:∀g,z'.M g->z.M g):aF z' a v:=
 h.kp ⟨by simp_all,fun _ _ _=>by rw[hw],fun g hg=>.inl (hM g hg),fun _ _=>by rw[hr]⟩
theorem aR.less{z'}{l}{vs}(h:aR z l vs)(hw:z'.w=z.w)(hr:z'.ρ=z.ρ)(hM:∀g,z'.M g->z.M g):aR z' l vs:=
 ⟨h.1,fun i a v h1 h2=>(h.2 i a v h1 h2).less hw hr hM⟩
theorem ryZ{α}(f)(ms)(l)(y:List α×List (Nat×List α)):vI f ms (.inl l)≠some y:=by
 unfold vI;cases nro f<;>exact fun h=>by cases h
theorem pRZ{α}{f}{ms ms'}{l:List α}(h:vI f ms (.inr none)=some (l,ms')):[]=l/\ms=ms':=by
 unfold vI at h;cases hn:nro f<;>rw[hn] at h
 ·cases h
 ·exact ZCs (ZAh h)
theorem q5Z{α}{f k off n}{ms ms'}{l':List α}(h:vI f ms (.inr (some (k,off,n)))=some (l',ms')):
 ∃l,ms[k]? =some (1,l)/\0=off/\n<=l.length/\l.take n=l'/\ms'.length=ms.length/\∀k' m',ms'[k']? =some m'->m'.1≠0->ms[k']? =some m'/\k'≠k/\nro f=true:=by
 unfold vI at h;cases hn:nro f<;>rw[hn] at h
 ·obtain⟨⟨st,l⟩,h3,h4⟩:=ZAH.1 ((h));obtain⟨h5,h6⟩:=adZ.1 h4;simp only[ZAF,afZ,ZAm] at h5
  grind
 ·obtain⟨⟨st,l⟩,h3,h4⟩:=ZAH.1 ((h));obtain⟨h5,h6⟩:=adZ.1 h4;simp only[ZAF,afZ,ZAm] at h5
  grind
theorem qvZ{m}{a a'}{H'}{v}(hH:aH z H)(hmd:m<4\/¬z.D (m+100000))(h:FC P H m a=some (a',H'))(ha:aF z a v):
 ∃z1 Mf,z1.w=z.w/\aH z1 H'/\Nx z z1/\(∀g,Mf g->z1.M g)/\aF {z1 with M:=Mf} a' v/\(m≠2->Mf=z1.M):=by
 unfold FC at h;split at h
 ·simp only[ZAO,ZA3] at h;obtain⟨rfl,rfl⟩:=h;exact⟨z,z.M,rfl,hH,Nx.refl z,fun _ h=>h,ha,fun _=>rfl⟩
 ·obtain⟨z',q1,q2,q3,q4,q5⟩:=f1Z hH h ha;exact⟨z',z'.M,q1,q2,q3,fun _ h=>h,q5,fun _=>rfl⟩
 ·obtain⟨⟨x,H1⟩,h1,h2⟩:=ZAI.1 h;simp only[ZA3] at h2;obtain⟨rfl,rfl⟩:=h2;obtain⟨z',q1,q2,q3,q4,q5⟩:=f1Z hH h1 ha;refine⟨z,fun g=>z.M g/\z'.M g,rfl,hH,Nx.refl z,fun _ h=>h.1,?_,fun h=>absurd rfl h⟩;exact q5.less q1.symm q4.symm fun g h=>h.2
 ·obtain⟨x,h1,h2⟩:=sGZ h ha;obtain⟨rfl,rfl⟩:=ZCs (ZAh h2);exact⟨z,z.M,rfl,hH,Nx.refl z,fun _ h=>h,h1,fun _=>rfl⟩
 ·rename_i m' h0 h1 h2 h3';have hmm:=by
   refine hmd.resolve_left fun hm=> ?_;have:m=0\/m=1\/m=2\/m=3:=by omega
   rcases this with rfl|rfl|rfl|rfl
   ·simp_all
   ·simp_all
   ·simp_all
   ·simp_all
  clear h0 h1 h2 h3' hmd;split at h
  ·rename_i f s x;split at h
   ·rename_i e s' ms hg;rcases aUZ h with⟨hs,hh⟩|hh
    ·clear h;subst hs;obtain⟨hb,h⟩:=adZ.1 hh;simp only[ZAF,afZ,ZBX,ZAj] at hb;obtain⟨⟨rfl,hk⟩,hlow⟩:=hb;obtain⟨⟨l',ms'⟩,h1,h2⟩:=ZAH.1 h;obtain⟨rfl,rfl⟩:=ZCs (ZAh h2);have hfo:=hH.fam _ _ hg;have hD:=hmm;have hne:bB f≠m+100000:=by have:=(bVZ f).1;omega
     clear h2 hh h;have hv:=ha.v.scal rfl rfl
     match x,h1,hv with
     |.inl l,h1,hv=>exact absurd h1 (ryZ f ms l _)
     |.inr none,h1,hv=>
      obtain⟨rfl,rfl⟩:=pRZ h1;have hv:[v]=[Value.slice none 0 0]:=hv;simp only[ZBU,ZBp] at hv;subst hv;have hsame:aH z (aS H (bB f) (some ⟨false,.fam ((m-10)%5000) s' ms⟩)):=by
       refine hH.same (fun id=> ?_) fun id=> ?_
       ·rw[apZ];by_cases hi:id=bB f
        ·rw[ZAN hi,hi];exact hg.symm
        ·rw[ZAM hi]
       ·rw[atZ];by_cases hi:id=bB f
        ·rw[hi,ajZ hg];simp
        ·simp[hi]
      obtain⟨z1,p1,p2,p3,p4⟩:=hsame.newV ⟨by rw[atZ,hk];simp[ZBf hne],hlow⟩ hD (b:=.rows ((m-10)%5000) s' []) ⟨rfl,hfo.2.2.2.1⟩;exact⟨z1,z1.M,p1,p2,p3,fun _ h=>h,.slfV _ _ _ p4,fun _=>rfl⟩
     |.inr (some (k,off,n)),h1,hv=>
      obtain⟨l,h3,rfl,hn,rfl,hlen,hms⟩:=q5Z h1;have hgX:=gtZ hg h3 (by simp);obtain⟨h1H,hX,hk1⟩:=hH.cut hg hlen fun k' m' q1 q2=>(hms k' m' q1 q2).1;have hX1:∀i e,aQ (aS H (bB f) (some ⟨false,.fam ((m-10)%5000) s' ms'⟩)) i=some e->aQ H i=some e/\i≠enc f k/\¬(Ro i/\Ro (enc f k)):=fun i e h=>by
       obtain⟨q1,q2⟩:=hX i e h;refine⟨q1,fun hi=> ?_,fun hr=> ?_⟩
       ·obtain⟨m',r1,r2⟩:=q2 k hi;exact(hms k m' r1 r2).2.1 rfl
       ·obtain⟨k',hk'⟩:=jcZ hr.1.1 (by rw[hr.1.rt,bB,qrZ.1 hr.2]);obtain⟨m',r1,r2⟩:=q2 k' hk';exact lgZ (hms _ _ r1 r2).2.2 hr.2
      have hkn:aN (aS H (bB f) (some ⟨false,.fam ((m-10)%5000) s' ms'⟩)) (m+100000)=false:=by rw[hk1];exact hk
      rcases hv with⟨A,hρ,rfl,hv⟩|⟨g,sz,m',c,hρ,h7,h8,h9,hv⟩
      ·simp only[ZBU,ZBp] at hv;subst hv;have hE:=hH.ent _ _ hgX;unfold dX at hE;rw[hρ] at hE;obtain⟨z1,p1,p2,p3,p4⟩:=h1H.newV ⟨hkn,hlow⟩ hD (b:=.rows ((m-10)%5000) s' (l.take 0)) ⟨by simp,hfo.2.2.2.1⟩;exact⟨z1,z1.M,p1,p2,p3,fun _ h=>h,.slfV _ _ _ p4,fun _=>rfl⟩
      ·simp only[ZBU,ZBp] at hv;subst hv;obtain⟨z1,p1,p2,p3,p4⟩:=hH.moveX (n':=n) (b:=.rows ((m-10)%5000) s' (l.take n)) hgX hρ h1H hX1 ⟨hkn,hlow⟩ hD rfl ⟨rfl,ZAL _⟩ rfl rfl (fun _ _=>rfl) (fun z1 hw kp=>by
        have hB:=(hH.realX hgX hρ).2.2.2;obtain⟨cs,fr,a1,a2,a3,a4,a5,a6,a7⟩:=hB.kp kp (by rw[hw]);refine⟨cs,fr,a1,a2,a3,by rw[ZAS];omega,?_,a6,fun i x hx=> ?_⟩
        ·rw[ZAS];exact ZBD (ZAf _ (Nat.min_le_right _ _)) a5
        ·rw[ZAq] at hx;split at hx
         ·exact a7 i x hx
         ·cases hx)
       refine⟨z1,z1.M,p1,p2,p3,fun _ h=>h,?_,fun _=>rfl⟩;rw[ZBu];exact .slf _ _ _ _ _ _ p4 h7 (by rw[ZA5] at h8;exact h8) h9
    ·cases hh
   grind
  ·obtain⟨u,h3,h4⟩:=agZ.1 h;cases hk:(aN H (m+100000)||Nat.ble aA (m+100000))<;>rw[hk] at h4<;>simp only[bq_true,bq_false] at h4
   ·simp only[ZAO,ZA3] at h4;obtain⟨rfl,rfl⟩:=h4;simp only[ZBb] at hk;have hlow:m+100000<aA:=ZBR.1 fun h=>by rw[ZAi h] at hk;cases hk.2
    obtain⟨z1,p1,p2,p3,p4⟩:=hH.newV ⟨hk.1,hlow⟩ (hmm) (b:=.rows ((m-10)%5000) u []) ⟨rfl,(dmZ h3).2.1⟩;obtain rfl:=ha.v.opq.1;exact⟨z1,z1.M,p1,p2,p3,fun _ h=>h,.slfV _ _ _ p4,fun _=>rfl⟩
   simp_all
  ·rename_i es old n;split at h
   ·rename_i e t l hg;cases hb:(Nat.beq es t.cells&& !aN H (m+100000)&&Nat.blt (m+100000) aA&&Nat.ble n l.length)<;>rw[hb] at h<;>simp only[bq_true,bq_false] at h
    ·cases h
    simp only[ZAF,afZ,ZAm,ZBX,ZAj] at hb;obtain⟨⟨⟨rfl,hk⟩,hlow⟩,hn⟩:=hb;simp only[ZAO,ZA3] at h;obtain⟨rfl,rfl⟩:=h;have hk':aN (aS H old none) (m+100000)=false:=by
     rw[atZ,hk];have:m+100000≠old:=fun h=>by simp_all[ajZ]
     simp[this]
    have hD:=hmm;have hvirt:z.ρ old= .virt->∃z1,z1.w=z.w/\aH z1 (aS (aS H old none) (m+100000) (some ⟨false,.rows e t (l.take n)⟩))/\Nx z z1/\z1.ρ (m+100000)= .virt:=fun hρ=>by
     obtain⟨rfl,hc⟩:=hH.virt hg hρ;exact(hH.kill (ajZ hg)).newV ⟨hk',hlow⟩ hD ⟨by simp,hc⟩
    have hreal:∀g sz k,z.ρ old= .real g sz k->∃z1,z1.w=z.w/\aH z1 (aS (aS H old none) (m+100000) (some ⟨false,.rows e t (l.take n)⟩))/\Nx z z1/\z1.ρ (m+100000)= .real g sz n:=fun g sz k hρ=>by
     refine hH.move (w':=z.w) hg hρ ⟨hk',hlow⟩ hD rfl ⟨rfl,ZAL _⟩ rfl rfl (fun _ _=>rfl) fun z1 hw kp=> ?_;have hB:=(hH.real hg hρ).2.2.2;obtain⟨cs,fr,a1,a2,a3,a4,a5,a6,a7⟩:=hB.kp kp (by rw[hw]);refine⟨cs,fr,a1,a2,a3,by rw[ZAS];omega,?_,a6,fun i x hx=> ?_⟩
     ·rw[ZAS];exact ZBD (ZAf _ (Nat.min_le_right _ _)) a5
     grind
    cases ha with
    |slV _ _ _ A hρ=>
     obtain⟨z1,p1,p2,p3,p4⟩:=hvirt hρ;exact⟨z1,z1.M,p1,p2,p3,fun _ h=>h,.slfV _ _ _ p4,fun _=>rfl⟩
    |slE _ _ _ g sz k o hρ=>
     obtain⟨_,_,_,cs,fr,a1,a2,a3,a4,a5,a6,a7⟩:=hH.real hg hρ;obtain⟨z1,p1,p2,p3,p4⟩:=(hH.kill (ajZ hg)).newV ⟨hk',hlow⟩ hD (b:=.rows e t (l.take 0)) ⟨by simp,a6⟩;exact⟨z1,z1.M,p1,p2,p3,fun _ h=>h,.slfV _ _ _ p4,fun _=>rfl⟩
    |sl _ _ _ _ g sz k c hρ hnc hs hm=>
     obtain⟨z1,p1,p2,p3,p4⟩:=hreal g sz k hρ;refine⟨z1,z1.M,p1,p2,p3,fun _ h=>h,?_,fun _=>rfl⟩;rw[ZBu];exact .slf _ _ _ _ _ _ p4 hnc (by simp_all) hm
   ·simp only[ZAO,ZA3] at h;obtain⟨rfl,rfl⟩:=h;exact⟨z,z.M,rfl,hH,Nx.refl z,fun _ h=>h,ha,fun _=>rfl⟩
  ·simp only[ZAO,ZA3] at h;obtain⟨rfl,rfl⟩:=h;exact⟨z,z.M,rfl,hH,Nx.refl z,fun _ h=>h,ha,fun _=>rfl⟩
theorem jkZ:∀{as} {ms} {as'} {z} {H H'} {vs},aH z H->(∀m∈ms,m<4\/¬z.D (m+100000))->zJ P H ms as=some (as',H')->aR z as vs->
 ∃z1 Mf,z1.w=z.w/\aH z1 H'/\Nx z z1/\(∀g,Mf g->z1.M g)/\aR {z1 with M:=Mf} as' vs/\(bA 2 ms=false->Mf=z1.M)
 |[],ms,as',z,H,H',vs,hH,hmd,h,hr=>by
  obtain⟨rfl,rfl⟩:=h;exact⟨z,z.M,rfl,hH,Nx.refl z,fun _ h=>h,hr,fun _=>rfl⟩
 |a::as,ms,as',z,H,H',vs,hH,hmd,h,hr=>by
  let⟨⟨x,H1⟩,h1,h2⟩:=agZ.1 h
  let⟨⟨y,H2⟩,h3,h4⟩:=ZAI.1 h2
  simp at h4;obtain⟨rfl,rfl⟩:=h4
  match vs,hr with
  |[],hr=>have:=hr.1;simp_all
  |v::vs,hr=>
   have e1:ms.headD 0<4\/¬z.D (ms.headD 0+100000):=by cases ms with|nil=>exact .inl (by simp)|cons m ms=>exact hmd m (by simp)
   let⟨z1,Mf,q1,q2,q3,q4,q5,q6⟩:=qvZ hH e1 h1 hr.head
   have e2:∀m∈ms.tail,m<4\/¬z1.D (m+100000):=fun m hm=>(hmd m (List.mem_of_mem_tail hm)).imp_right fun h=>by rw[q3.dom];exact h
   let⟨z2,Mg,p1,p2,p3,p4,p5,p6⟩:=jkZ q2 e2 h3 (hr.tail.kp (q3.kp hH.sub))
   have k:=p3.kp q2.sub;refine⟨z2,fun g=>Mg g/\(Mf g\/z1.w.heap.size<=g),p1.trans q1,p2,q3.trans p3,fun g h=>p4 g h.1,.cons ?_ (p5.less rfl rfl fun g h=>h.1),fun hm=> ?_⟩
   ·have kk:Kp {z1 with M:=Mf} {z2 with M:=fun g=>Mg g/\(Mf g\/z1.w.heap.size<=g)}:=⟨k.size,fun b _ _=>by show z2.w.heap[b]? =z1.w.heap[b]?;rw[p1],fun g h=>h.2,k.ext⟩;exact q5.kp kk
   ·have m1:ms.headD 0≠2/\bA 2 ms.tail=false:=by
     cases ms with
     |nil=>exact⟨by simp,rfl⟩
     |cons m ms=>
      simp[bA] at hm;cases hb:Nat.beq m 2<;>rw[hb] at hm<;>simp at hm;exact⟨fun h=>by simp at h;rw[h] at hb;simp at hb,hm⟩
    have a1:=q6 m1.1;have a2:=p6 m1.2;subst a1;subst a2;funext g;refine propext ⟨fun h=>h.1,fun h=>⟨h,?_⟩⟩;exact k.subM g h
end
section
variable {P : Program} {z : Z} {H : Hp} {β : Type}
theorem Cl.scal{w w'}{M M'}{ρ ρ'}:{t:Ty}->{x:t.den}->{vs:List Value}->t.scal=true->Cl w M ρ t x vs->Cl w' M' ρ' t x vs
 |.int _,_,_,_,h|.byte,_,_,_,h|.bool,_,_,_,h|.str,_,_,_,h=>h
 |.nat,_,_,_,h=>h.elim
 |.opq,_,_,hs,_=>by cases hs
 |.sl _,_,_,hs,_=>by cases hs
 |.ref _ _,_,_,hs,_=>by cases hs
 |.one t,_,_,hs,h=>Cl.scal (t:=t) hs h
 |.pair a b,_,_,hs,h=>by
  obtain⟨u,v,rfl,h1,h2⟩:=h;simp[Ty.scal] at hs;exact⟨u,v,rfl,Cl.scal hs.1 h1,Cl.scal hs.2 h2⟩
 |.arr n t,l,_,hs,h=>by
  obtain⟨hn,css,h1,rfl,h2⟩:=h;exact⟨hn,css,h1,rfl,fun i e u he hu=>Cl.scal hs (h2 i e u he hu)⟩
mutual
theorem pFZ:(k:Kd)->{r:List Ty}->gL (k.lv r)=true->gL r=true
 |.p _,r,h|.pt _,r,h|.ownx _ _ _,r,h=>by simp only[Kd.lv,gL,ZAF] at h;exact h.2
 |.sl _ _,r,h=>by simp only[Kd.lv,gL,ZAF] at h;exact h.2.2
 |.own _ _ _ _,r,h|.slf _ _,r,h|.mp _,r,h|.any,r,h|.nilp _,r,h=>h
 |.fn _ a c,r,h=>dTZ c (dTZ a h)
 |.agg l,r,h=>dTZ l h
 |.tup l,r,h=>dTZ l h
theorem dTZ:(k:KdL)->{r:List Ty}->gL (k.lv r)=true->gL r=true
 |.nil,r,h=>h
 |.cons k l,r,h=>dTZ l (pFZ k h)
end
mutual
theorem mDZ{fs:List Nat}:(k:Kd)->{r:List Ty}->bU fs (k.lv r)=true->bU fs r=true
 |.p _,r,h|.pt _,r,h|.ownx _ _ _,r,h=>by simp only[Kd.lv,bU,ZAF] at h;exact h.2
 |.sl _ _,r,h=>by simp only[Kd.lv,bU,ZAF] at h;exact h.2.2
 |.own _ _ _ _,r,h|.slf _ _,r,h|.mp _,r,h|.any,r,h|.nilp _,r,h=>h
 |.fn _ a c,r,h=>bKZ c (bKZ a h)
 |.agg l,r,h=>bKZ l h
 |.tup l,r,h=>bKZ l h
theorem bKZ{fs:List Nat}:(k:KdL)->{r:List Ty}->bU fs (k.lv r)=true->bU fs r=true
 |.nil,r,h=>h
 |.cons k l,r,h=>bKZ l (mDZ k h)
end
mutual
theorem pMZ{fs:List Nat}:(k:Kd)->{r:List Ty}->(y:HL (k.lv r))->bU fs (k.lv r)=true->(emb k r y).1.famInT fs=true
 |.p t,r,y,h|.pt t,r,y,h=>by
  simp only[Kd.lv,bU,ZAF] at h;exact h.1
 |.own _ _ _ _,r,y,h|.ownx _ _ _,r,y,h|.sl _ _,r,y,h|.slf _ _,r,y,h|.mp _,r,y,h|.any,r,y,h|.nilp _,r,y,h=>rfl
 |.fn g a c,r,y,h=>by
  simp only[emb,AV.famInT,ZAF];exact⟨bvZ a (r:=c.lv r) y h,bvZ c (r:=r) _ (bKZ a h)⟩
 |.agg l,r,y,h=>bvZ l (r:=r) y h
 |.tup l,r,y,h=>bvZ l (r:=r) y h
theorem bvZ{fs:List Nat}:(k:KdL)->{r:List Ty}->(y:HL (k.lv r))->bU fs (k.lv r)=true->AV.famInTL fs (embL k r y).1=true
 |.nil,r,y,h=>rfl
 |.cons k l,r,y,h=>by
  simp only[embL,AV.famInTL,ZAF];exact⟨pMZ k (r:=l.lv r) y h,bvZ l (r:=r) _ (mDZ k h)⟩
end
theorem hVZ{fs}:(hs:HK)->{r:List Ty}->(y:HL (eI hs r))->bU fs (eI hs r)=true->∀id e,aG (jY hs r y).1 id=some e->e.b.famInT fs=true
 |[],r,y,h,id,e,he=>by simp_all[jY,aG]
 |(j,fz,k)::hs,r,y,h,id,e,he=>by
  have hb:(lC k (eI hs r) y).1.famInT fs=true/\bU fs (eI hs r)=true:=by
   cases k with
   |vars l=>exact⟨bvZ l y h,bKZ l h⟩
   |rows e t=>
    simp[eI,BKd.lv,bU,Ty.famIn] at h;exact⟨h.1,h.2⟩
   |map kt vt=>
    simp only[eI,BKd.lv,bU,ZAF,Ty.famIn] at h;exact⟨by simp[lC,Blk.famInT];exact⟨h.1.1.1.1,h.1.1.1.2⟩,h.2⟩
   |fam e s=>
    simp only[eI,BKd.lv,bU,ZAF,Ty.famIn] at h;exact⟨by simp[Blk.famInT];exact h.1.2,h.2⟩
  simp[jY,aG] at he;cases hb':Nat.beq j id<;>rw[hb'] at he<;>simp[ZAD] at he
  ·exact hVZ hs _ hb.2 id e he
  grind
variable {z' : Z} {f : Nat → Option Nat}
mutual
theorem sJZ(hf:∀id,f id=none):(k:Kd)->{r:List Ty}->{y:HL (k.lv r)}->{v:Value}->gL (k.lv r)=true->aF z (emb k r y).1 v->aF z' (AV.ren f (emb k r y).1) v
 |.p t,r,y,v,hs,h=>by
  simp only[Kd.lv,gL,ZAF] at hs;obtain⟨vs,h1,h2⟩:=h.v;exact .p _ _ _ ⟨vs,Cl.scal hs.1 h1,h2⟩
 |.pt t,r,y,v,hs,h=>by simp[Kd.lv,gL,Ty.scal] at hs
 |.own _ _ _ _,r,y,v,hs,h|.ownx _ _ _,r,y,v,hs,h|.sl _ _,r,y,v,hs,h|.slf _ _,r,y,v,hs,h|.mp _,r,y,v,hs,h=>by
  simp only[emb,AV.ren,hf];exact .junk v
 |.any,r,y,v,hs,h=>.junk v
 |.fn g a c,r,y,v,hs,h=>by
  simp only[emb,AV.ren];simp only[emb] at h;cases h with|fn _ _ _ va vc e1 e2 e3 e4=>
  have p1:=cRZ hf a (r:=c.lv r) (y:=y) (vs:=va.toList) hs ⟨by simp[e1],fun i x v q1 q2=>e3 i x v q1 (by simpa using q2)⟩;have p2:=cRZ hf c (r:=r) (y:=(embL a (c.lv r) y).2) (vs:=vc.toList) (dTZ a hs) ⟨by simp[e2],fun i x v q1 q2=>e4 i x v q1 (by simpa using q2)⟩;exact .fn _ _ _ _ _ (by have:=p1.1;simpa using this.symm) (by have:=p2.1;simpa using this.symm) (fun i x v q1 q2=>p1.2 i x v q1 (by simpa using q2)) (fun i x v q1 q2=>p2.2 i x v q1 (by simpa using q2))
 |.agg l,r,y,v,hs,h=>by
  simp only[emb,AV.ren];simp only[emb] at h;cases h with|agg _ cs e1 e2 e3=>
  have p1:=cRZ hf l (r:=r) (y:=y) (vs:=cs.toList) hs ⟨by simp[e1],fun i x v q1 q2=>e3 i x v q1 (by simpa using q2)⟩;exact .agg _ _ (by have:=p1.1;simpa using this.symm) e2 fun i x v q1 q2=>p1.2 i x v q1 (by simpa using q2)
 |.tup l,r,y,v,hs,h=>by
  simp only[emb,AV.ren];simp only[emb] at h;cases h with|tup _ cs e1 e3=>
  have p1:=cRZ hf l (r:=r) (y:=y) (vs:=cs.toList) hs ⟨by simp[e1],fun i x v q1 q2=>e3 i x v q1 (by simpa using q2)⟩;exact .tup _ _ (by have:=p1.1;simpa using this.symm) fun i x v q1 q2=>p1.2 i x v q1 (by simpa using q2)
 |.nilp u,r,y,v,hs,h=>by
  obtain⟨vs,h1,h2⟩:=h.v;exact .p _ _ _ ⟨vs,h1,h2⟩
theorem cRZ(hf:∀id,f id=none):(k:KdL)->{r:List Ty}->{y:HL (k.lv r)}->{vs:List Value}->gL (k.lv r)=true->aR z (embL k r y).1 vs->aR z' (AV.renL f (embL k r y).1) vs
 |.nil,r,y,vs,hs,h=>⟨h.1,fun i a v h1 h2=>by simp[embL,AV.renL] at h1⟩
 |.cons k l,r,y,[],hs,h=>by have:=h.1;simp[embL] at this
 |.cons k l,r,y,v::vs,hs,h=>by
  simp only[embL] at h;simp only[embL,AV.renL];exact .cons (sJZ hf k hs h.head) (cRZ hf l (pFZ k hs) h.tail)
end
theorem sPZ(l):AV.ren f (mD l)=mD (AV.renL f l):=by
 match l with
 |[]=>simp[mD,AV.ren,AV.renL]
 |[a]=>simp[mD,AV.renL]
 |a::b::l=>simp[mD,AV.ren,AV.renL]
theorem qJZ{l}{v}(h:aF z (mD l) v):∃vs,aR z l vs/\∀{z'} {l'},aR z' l' vs->l'.length=l.length->aF z' (mD l') v:=by
 match l with
 |[a]=>exact⟨[v],.cons h .nil,fun{z' l'} h' hl=>by
    match l',hl with
    |[b],_=>exact h'.head⟩
 |[]=>
  obtain⟨vs,rfl,h1,h2⟩:=ijZ rfl h;refine⟨vs.toList,⟨by grind,fun i a v h=>by grind⟩,fun{z' l'} h' hl=> ?_⟩
  match l',hl with
  |[],_=>exact .tup _ _ (by omega) fun i x v q1 q2=>h'.2 i x v q1 (by simp_all)
 |a::b::l=>
  obtain⟨vs,rfl,h1,h2⟩:=ijZ rfl h;refine⟨vs.toList,⟨by grind,fun i a v q1 q2=>h2 i a v q1 (by simp_all)⟩,fun{z' l'} h' hl=> ?_⟩
  match l',hl with
  |c::d::l',_=>exact .tup _ _ (by omega) fun i x v q1 q2=>h'.2 i x v q1 (by simp_all)
def uV(P:Program)(f:FuncId):Prop:=∃fn c,P.funcs[f]? =some fn/\fn.body=some c/\(fn.name== "runtime.NumGoroutine")=false
def vT(P:Program)(f:FuncId)(args:Array Value)(w:World)(R:Ending->World->Prop):Prop:=
 (uV P f/\Calls P f args w R)\/∃v w',(callFunc f args).run P w= .ok (.value v) w'/\R (.returned v) w'
theorem vT.mono{P}{f}{args}{w}{R R'}(h:vT P f args w R)(hr:∀e w',R e w'->R' e w'):vT P f args w R':=by
 rcases h with⟨h1,h2⟩|⟨v,w',h1,h2⟩
 ·exact .inl ⟨h1,h2.mono hr⟩
 ·exact .inr ⟨v,w',h1,hr _ _ h2⟩
theorem vT.calls{P}{f}{args}{w}{R}(h:vT P f args w R)(hb:uV P f):Calls P f args w R:=by
 rcases h with⟨_,h⟩|⟨v,w',h,_⟩
 ·exact h
 ·let⟨fn,c,h1,h2,h3⟩:=hb
  unfold callFunc at h
  simp_all
structure dY (P:Program) (e:FnT):Prop where
 spec:∀t r,e.spec t=some r->∀(z:Z) (vals:List Value),aH z (e.i.emb t).2->aR z (e.i.emb t).1 vals->(∀id,¬z.D id)->
  vT P e.f vals.toArray z.w fun en w'=>∃v z',en= .returned v/\z'.w=w'/\Nx z {z' with D:=z.D}/\(∀k,z'.D k->k∈aJ e.i.hs)/\cP.on e.os r fun o x=>aH z' (o.emb x).2/\aF z' (mD (o.emb x).1) v
theorem dY.of{P}{e}(ent:uV P e.f)(spec:∀t r,e.spec t=some r->∀(z) (vals),aH z (e.i.emb t).2->aR z (e.i.emb t).1 vals->(∀id,¬z.D id)->
 Calls P e.f vals.toArray z.w fun en w'=>∃v z',en= .returned v/\z'.w=w'/\Nx z {z' with D:=z.D}/\(∀k,z'.D k->k∈aJ e.i.hs)/\cP.on e.os r fun o x=>aH z' (o.emb x).2/\aF z' (mD (o.emb x).1) v):dY P e:=
 ⟨fun t r h z vals h1 h2 h3=>.inl ⟨ent,spec t r h z vals h1 h2 h3⟩⟩
theorem cP.on_both:∀{l} {x} {K} {Q} {res:β},cP.on l x K=some res->cP.on l x Q->∃o y,o∈l/\K o y=some res/\Q o y
 |[],x,_,_,_,_,_=>Empty.elim x
 |[s],x,K,Q,res,h,hq=>⟨s,x,by simp,h,hq⟩
 |s::t::r,.inl y,K,Q,res,h,hq=>⟨s,y,by simp,h,hq⟩
 |s::t::r,.inr y,K,Q,res,h,hq=>by
  let⟨o,x,h1,h2,h3⟩:=cP.on_both (x:=y) h hq
  exact⟨o,x,ZAb _ h1,h2,h3⟩
theorem bPZ{H}{f}:∀{ps},(jG ps).Nodup->∀k,aG (gY H f ps) k=(gB ps k).bind (fun id=>(aG H id).map (Ent.ren f))/\(aN (gY H f ps) k=true↔∃id e,gB ps k=some id/\aG H id=some e)
 |[],_,k=>⟨rfl,by simp[gY,aN,gB]⟩
 |(i,j)::ps,h,k=>by
  simp[jG] at h;obtain⟨q1,q2⟩:=bPZ h.2 k;have hno:j=k->gB ps k=none:=fun hj=>by
   cases hk:gB ps k with
   |none=>rfl
   |some id=>exact absurd (dOZ (aLZ hk)) (hj▸h.1)
  cases hg:aG H i with
  |none=>
   simp only[gY,hg,gB];by_cases hj:j=k
   ·rw[(afZ j k).2 hj,ZAK];rw[hno hj] at q1 q2;refine⟨by rw[q1];simp[hg],⟨fun h=> ?_,fun⟨id,e,h1,h2⟩=> ?_⟩⟩
    ·let⟨id,e,h1,_⟩:=q2.1 h;cases h1
    ·simp at h1;subst h1;rw[hg] at h2;cases h2
   simp_all[ahZ]
  |some e=>
   simp only[gY,hg,gB,aG,aN]
   grind
theorem mOZ:∀{a b},b.length<=a.length->jG (kG a b)=b/\∀i k,(i,k)∈kG a b->i∈a
 |[],[],_=>⟨rfl,fun i k h=>by cases h⟩
 |[],_::_,h=>by grind
 |_::_,[],_=>⟨rfl,fun i k h=>by cases h⟩
 |x::a,y::b,h=>by
  obtain⟨q1,q2⟩:=mOZ (by simpa using h);refine⟨by simp[kG,jG,q1],fun i k hm=> ?_⟩;simp[kG,ZA3] at hm;rcases hm with⟨rfl,_⟩|hm
  ·simp
  ·exact ZAb _ (q2 i k hm)
theorem hPZ:∀(n k),(mU k n).length=n
 |0,k=>rfl
 |n+1,k=>by simp[mU,hPZ n]
theorem jaZ:∀{a b} {i k},(i,k)∈kG a b->∃n:Nat,a[n]? =some i/\b[n]? =some k
 |[],_,i,k,h=>by cases h
 |_::_,[],i,k,h=>by cases h
 |x::a,y::b,i,k,h=>by
  simp[kG,ZA3] at h;rcases h with⟨rfl,rfl⟩|h
  ·exact⟨0,rfl,rfl⟩
  ·let⟨n,h1,h2⟩:=jaZ h
   exact⟨n+1,h1,h2⟩
theorem lRZ:∀{a b} {n i k:Nat},a[n]? =some i->b[n]? =some k->(i,k)∈kG a b
 |[],_,n,i,k,h,_=>by grind
 |_::_,[],n,i,k,_,h=>by grind
 |x::a,y::b,0,i,k,h1,h2=>by simp_all[kG]
 |x::a,y::b,n+1,i,k,h1,h2=>by
  simp[kG];exact .inr (lRZ (by simpa using h1) (by simpa using h2))
theorem joZ:∀{n k m},m<n->(mU k n)[m]? =some (k+m)
 |0,k,m,h=>by omega
 |n+1,k,0,h=>rfl
 |n+1,k,m+1,h=>by
  simp[mU];rw[joZ (by omega)];congr 1;omega
theorem onZ{n k m i}(h:(mU k n)[m]? =some i):i=k+m/\m<n:=by
 grind[ZAB,hPZ,joZ,ZAh]
end
section
variable {P : Program} {z : Z} {H : Hp} {β : Type}
theorem fnZ{H}:∀{l},tG H l=true->∀id∈l,aN H id=false
 |[],_,id,h=>by cases h
 |i::l,h,id,hm=>by
  simp[tG,ZAj] at h;rcases ZAg.1 hm with rfl|hm
  ·exact h.1
  ·exact fnZ h.2 id hm
def CX(fs:List Nat)(k:Nat):Prop:=aC<=k/\bA ((k-aC)%16) fs=false
instance (fs:List Nat) (k:Nat):Decidable (CX fs k):=inferInstanceAs (Decidable (_/\_))
theorem sZZ{fs}{f k}:CX fs (enc f k)↔bA (f%16) fs=false:=by
 simp_all[enc,CX]
def Z.clean(fs:List Nat)(z:Z):Z:={z with ρ:=fun k=>if CX fs k then .no else z.ρ k,D:=fun k=>z.D k/\¬CX fs k}
theorem Z.clean_at{z:Z}{fs}{k}(h:k<aC):(z.clean fs).ρ k=z.ρ k:=ZAM fun h'=>ZBR.2 h h'.1
theorem Z.clean_on{z:Z}{fs}{f k}(h:bA (f%16) fs=true):(z.clean fs).ρ (enc f k)=z.ρ (enc f k):=ZAM fun h'=>by simp_all[sZZ]
theorem aH.clean{fs}(hH:aH z H)(hs:∀id,CX fs id->aN H (rt id)=false)(hn:∀id e,aQ H id=some e->e.b.famInT fs=true/\∀i∈e.ids,i<aC):aH (z.clean fs) H:=by
 have hon:uU fs z.ρ (z.clean fs).ρ:=fun f k hf _=>Z.clean_on hf;have hat:∀id e,aQ H id=some e->(z.clean fs).ρ id=z.ρ id:=fun id e h=>by
  refine ZAM fun ho=> ?_;have:=hs id ho;rw[a8Z ho.1,avZ this] at h;cases h
 refine⟨fun id e h=>(hH.ent id e h).rho rfl rfl (.on hon (hn id e h).1) (hat id e h) (fun i hi=>Z.clean_at ((hn id e h).2 i hi)) fun _ _ _ _ _ h=>h,
  fun id id' e e' g sz n g' sz' n' hii h1 h2 m1 m2 p3 p4=> ?_,fun id h=> ?_,hH.sub,hH.fam,hH.key,fun id hd h hD=>hH.dyn id hd h hD.1,fun id h1 h2=>by rw[Z.clean_at h2];exact hH.nos id h1 h2⟩
 ·rw[hat id e h1] at p3;rw[hat id' e' h2] at p4;exact hH.inj id id' e e' g sz n g' sz' n' hii h1 h2 m1 m2 p3 p4
 ·by_cases hd:CX fs id
  ·exact .inl (ZAN hd)
  ·rcases hH.fresh id h with h|h
   ·exact .inl (by rw[show(z.clean fs).ρ id=z.ρ id from ZAM hd];exact h)
   ·exact .inr ⟨h,hd⟩
theorem e8Z:∀{l} {f},(∀i∈l,i<aC)->f<16->(bA f (gP l)=true↔aA+f∈l)
 |[],f,_,_=>by simp[gP,bA]
 |i::l,f,hl,hf=>by
  have ih:=e8Z (fun i h=>hl i (ZAb _ h)) hf;simp[gP];by_cases hb:aA<=i
  ·rw[ZAi hb,ZAK];simp only[bA];by_cases h:i-aA=f
   ·rw[(afZ _ _).2 h]
    grind
   ·rw[ahZ h,ZAD]
    grind
  ·have:Nat.ble aA i=false:=by
    cases hc:Nat.ble aA i
    ·rfl
    ·exact absurd (ZBL hc) hb
   grind
theorem i4Z{l}(hl:∀i∈l,i<aC){k}:CX (gP l) k↔aC<=k/\rt k∉l:=by
 constructor
 ·rintro⟨h1,h2⟩;refine⟨h1,fun hm=> ?_⟩;unfold rt at hm
  grind[e8Z,ZCn]
 ·rintro⟨h1,h2⟩;refine⟨h1,?_⟩;cases hc:bA ((k-aC)%16) (gP l)
  ·rfl
  simp_all[rt,e8Z,ZCn]
theorem jJZ{s:Shp}{t}{fs}(hn:bU fs s.tys=true){z}(hH:aH z (s.emb t).2){id}{e}(h:aQ (s.emb t).2 id=some e):e.b.famInT fs=true:=by
 have h1:=fun id e he=>hVZ s.hs (embL s.ks (eI s.hs []) (eY s.tys t)).2 (bKZ s.ks hn) id e he;by_cases hd:aC<=id
 ·rw[a8Z hd] at h
  let⟨e0,p1,p2⟩:=ZAH.1 h
  have p3:=h1 _ _ p1;unfold pick at p2;split at p2
  ·rename_i e' s' ms hb;split at p2
   ·split at p2
    ·cases p2
    ·simp at p2;subst p2;rw[hb] at p3;exact p3
   ·cases p2
  simp_all
 ·by_cases hf:aA<=id
  ·simp_all[aQ,ZAN]
  ·rw[aqZ (by omega)] at h;exact h1 _ _ h
theorem tiZ{e x}{k}(h:pick k e=some x):x.ids=[]:=(eBZ h some).2
theorem kVZ{s:Shp}{t:s.D}{zc0:Z}{vals:List Value}(hn:bU (gP (aJ s.hs)) s.tys=true)(k4:aH zc0 (s.emb t).2)(k5:aR zc0 (s.emb t).1 vals)(hst:∀k,bA k (aJ s.hs)=true->k<aC)
 (hid:∀i,i∈s.ks.ids\/i∈vG s.hs->i∈aJ s.hs):
 ∃zc:Z,zc.w=zc0.w/\zc.M=zc0.M/\aH zc (s.emb t).2/\aR zc (s.emb t).1 vals/\(∀k,k<aC\/rt k∈aJ s.hs->zc.ρ k=zc0.ρ k)/\zc.C=zc0.C/\(∀k,zc.D k->zc0.D k/\(k<aC\/rt k∈aJ s.hs))/\∀k,aC<=k->rt k∉aJ s.hs->zc.ρ k= .no:=by
 have hg:=fun id=>cwZ s.hs (embL s.ks (eI s.hs []) (eY s.tys t)).2 id;have hl:∀i∈aJ s.hs,i<aC:=fun i hi=>hst i (aiZ.2 hi);have hlt:∀i,i∈s.ks.ids\/i∈vG s.hs->i<aC:=fun i hi=>hst i (aiZ.2 (hid i hi));have hon:uU (gP (aJ s.hs)) zc0.ρ (zc0.clean (gP (aJ s.hs))).ρ:=fun f k hf _=>Z.clean_on hf;refine⟨zc0.clean (gP (aJ s.hs)),rfl,rfl,k4.clean (fun id ho=> ?_) (fun id e he=>⟨jJZ hn k4 he,fun i hi=> ?_⟩),?_,fun k hk=> ?_,rfl,fun k h=>⟨h.1,?_⟩,fun k h1 h2=>ZAN ((i4Z hl).2 ⟨h1,h2⟩)⟩
 ·have:=((i4Z hl).1 ho).2;rw[show aN (s.emb t).2 (rt id)=bA (rt id) (aJ s.hs) from(hg _).1]
  grind[aiZ]
 ·by_cases hd:aC<=id
  ·grind[a8Z,ZAH,tiZ]
  ·by_cases hf:aA<=id
   ·unfold aQ at he;rw[ZAM hd,ZAN hf] at he;cases he
   ·rw[aqZ (by omega)] at he;exact hlt i (.inr ((hg id).2.2 e he i hi))
 ·refine k5.rho rfl rfl (.on hon (bvZ s.ks (r:=eI s.hs []) _ hn)) fun i hi=>Z.clean_at (hlt i (.inl ?_));rw[<-c4Z s.ks (r:=eI s.hs []) (eY s.tys t)];exact hi
 ·refine ZAM fun ho=> ?_;have:=(i4Z hl).1 ho;rcases hk with hk|hk
  ·exact ZBR.2 hk this.1
  ·exact this.2 hk
 ·by_cases hk:k<aC
  ·exact .inl hk
  ·right;by_cases hm:rt k∈aJ s.hs
   ·exact hm
   ·exact absurd ((i4Z hl).2 ⟨Nat.not_lt.1 hk,hm⟩) h.2
theorem fsZ{a b:Nat}(h:¬a<=b):Nat.ble a b=false:=by
 cases hc:Nat.ble a b
 ·rfl
 simp_all[ZBL]
theorem aMZ:∀(l) (n),(bM n l).length=l.length
 |[],_=>rfl
 |i::l,n=>by
  simp[bM];by_cases h:aA<=i
  ·rw[ZAi h];simp[aMZ l]
  ·rw[fsZ h];simp[aMZ l]
theorem cnZ:∀{l} {n m k id:Nat},(bM n l)[m]? =some k->l[m]? =some id->(aA<=id/\k=id)\/(id<aA/\n<=k/\k<n+l.length)
 |[],n,m,k,id,h,_=>by simp_all
 |i::l,n,m,k,id,h,h'=>by
  simp[bM] at h;by_cases hi:aA<=i
  ·rw[ZAi hi] at h
   match m with
   |0=>simp_all
   |m+1=>
    rcases cnZ (by simpa using h) (by simpa using h') with h|⟨h1,h2,h3⟩
    ·exact .inl h
    grind
  ·rw[fsZ hi] at h
   match m with
   |0=>simp_all
   |m+1=>
    rcases cnZ (by simpa using h) (by simpa using h') with h|⟨h1,h2,h3⟩
    ·exact .inl h
    grind
theorem eYZ:∀(l r) (n),∃m,n<=m/\m<=n+l.length/\bM n (l++r)=bM n l++bM m r
 |[],r,n=>⟨n,ZAL _,by simp,rfl⟩
 |i::l,r,n=>by
  by_cases h:aA<=i
  ·let⟨m,h1,h2,h3⟩:=eYZ l r n
   refine⟨m,h1,by simp;omega,?_⟩
   simp_all[bM,ZAi]
  ·let⟨m,h1,h2,h3⟩:=eYZ l r (n+1)
   refine⟨m,by omega,by simp;omega,?_⟩
   simp_all[bM,fsZ]
theorem nYZ{l}{n m id:Nat}(h:l[m]? =some id):∃k,(bM n l)[m]? =some k:=by
 grind[aMZ,ZAB,ZAC]
theorem faZ:∀{l} {n m m' k:Nat},l.Nodup->n+l.length<=aA->(bM n l)[m]? =some k->(bM n l)[m']? =some k->m=m'
 |[],n,m,m',k,_,_,h,_=>by grind[bM]
 |i::l,n,m,m',k,hn,hb,h,h'=>by
  simp only[List.nodup_cons] at hn;simp only[ZBl] at hb;have q:∀(n' m k),(bM n' l)[m]? =some k->∃id,l[m]? =some id/\((aA<=id/\k=id)\/(id<aA/\n'<=k/\k<n'+l.length)):=fun n' m k h=>by
   have hlt:=by have:=(ZAB.1 h).1;rwa [aMZ] at this
   exact⟨_,ZAC hlt,cnZ h (ZAC hlt)⟩
  simp only[bM] at h h';by_cases hi:aA<=i
  ·rw[ZAi hi,ZAK] at h h';have no:∀{m:Nat},(bM n l)[m]?≠some i:=fun{m} h=>by
    grind
   match m,m' with
   |0,0=>rfl
   |0,m'+1=>simp_all
   |m+1,0=>simp_all
   |m+1,m'+1=>exact congrArg (·+1) (faZ (n:=n) hn.2 (by omega) (by simpa using h) (by simpa using h'))
  ·rw[fsZ hi,ZAD] at h h';have no:∀{m},(bM (n+1) l)[m]?≠some n:=fun{m} h=>by
    let⟨id,h1,h2⟩:=q (n+1) _ _ h
    rcases h2 with⟨h2,h3⟩|⟨_,h2,h3⟩
    ·omega
    ·omega
   match m,m' with
   |0,0=>rfl
   |0,m'+1=>simp at h;subst h;exact absurd (by simpa using h') no
   |m+1,0=>simp at h';subst h';exact absurd (by simpa using h) no
   |m+1,m'+1=>exact congrArg (·+1) (faZ (n:=n+1) hn.2 (by omega) (by simpa using h) (by simpa using h'))
theorem dnZ:∀{a b},a.length=b.length->lB (kG a b)=a
 |[],[],_=>rfl
 |[],_::_,h=>by grind
 |_::_,[],h=>by grind
 |x::a,y::b,h=>by simp[kG,lB,dnZ (by simpa using h)]
theorem tMZ{z1 zc zd}{H1 Hd}{sh ids}{fs}(hH:aH z1 H1)(hfr:∀id∈ids,aN H1 id=false)(hsh:∀id∈sh,aN H1 id=true)(hst:∀id∈ids,id<aC)(hd:∀id,rt id∈ids->¬z1.D id)(hnd:(sh++ids).Nodup)(hlen:sh.length+ids.length<=aA)
 (hw:zc.w=z1.w)(hM:zc.M=z1.M)(hC:∀g,zc.C g->∃id e sz n,rt id∈sh/\aQ H1 id=some e/\e.fz=false/\z1.ρ id= .real g sz n)
 (hρ:∀(m:Nat) k id,(bM 0 sh)[m]? =some k->sh[m]? =some id->zc.ρ k=z1.ρ id/\(id<aA->zc.ρ k≠.no))(hρd:∀id,aC<=id->rt id∈sh->zc.ρ id=z1.ρ id)(hDd:∀k,zd.D k->k<aC/\k∈bM 0 sh)(hn:Nx zc {zd with D:=zc.D})(hHd:aH zd Hd)(hlive:∀k,aN Hd k=true->∃e,aG Hd k=some e)(hnr:∀k e,aQ Hd k=some e->e.b.famInT fs=true)
 (hfs:∀f,bA (f%16) fs=true->bB f∈sh++ids)
 (hk:lV (lX Hd) (lB (kG (bM 0 (sh++ids)) (sh++ids)))=true):
 ∃z3,z3.w=zd.w/\aH z3 (fH (fE H1 sh) (gY Hd (eZ (kG (bM 0 (sh++ids)) (sh++ids))) (kG (bM 0 (sh++ids)) (sh++ids))))/\Nx z1 z3/\
  ∀a v,a.famInT fs=true->aF zd a v->aF z3 (AV.ren (eZ (kG (bM 0 (sh++ids)) (sh++ids))) a) v:=by
 have h0:=eAZ;have hkl:=aMZ (sh++ids) 0;obtain⟨ms,_,_,happ⟩:=eYZ sh ids 0;have hkin:∀m k id,(bM 0 (sh++ids))[m]? =some k->(sh++ids)[m]? =some id->(aA<=id/\k=id)\/(id<aA/\k<aA):=fun m k id h1 h2=>by
  rcases cnZ h1 h2 with h|⟨h,_,h3⟩<;>grind
 have hkinj:∀m m' k,(bM 0 (sh++ids))[m]? =some k->(bM 0 (sh++ids))[m']? =some k->m=m':=fun m m' k=>faZ hnd (by simp_all);have hlow:∀m k id,(bM 0 (sh++ids))[m]? =some k->(sh++ids)[m]? =some id->m<sh.length->(bM 0 sh)[m]? =some k/\sh[m]? =some id:=fun m k id h1 h2 h3=>by
  grind[ZAT,aMZ]
 have hkeysOf:∀k,k∈bM 0 sh->∃m,(bM 0 (sh++ids))[m]? =some k/\m<sh.length:=fun k hk=>by
  obtain⟨m,hm⟩:=ZAP hk;have hlt:m<sh.length:=by have:=(ZAB.1 hm).1;rwa [aMZ] at this
  exact⟨m,by rw[happ,ZAT (by rw[aMZ];exact hlt)];exact hm,hlt⟩
 generalize hall:sh++ids=all at*;generalize hsk:bM 0 all=sk at*;generalize hback:kG sk all=back at*;have hat:∀k id,(k,id)∈back↔∃m,sk[m]? =some k/\all[m]? =some id:=fun k id=>by
  rw[<-hback];exact⟨fun h=>jaZ h,fun⟨m,h1,h2⟩=>lRZ h1 h2⟩
 have hfix:∀k id,(k,id)∈back->(aA<=id/\k=id)\/(id<aA/\k<aA):=fun k id h=>by
  obtain⟨m,h1,h2⟩:=(hat k id).1 h;exact hkin m k id h1 h2
 have hsnd:jG back=all:=by rw[<-hback];exact(mOZ (by omega)).1
 have hfst:lB back=sk:=by rw[<-hback];exact dnZ hkl
 have hsn:(jG back).Nodup:=by rw[hsnd];exact hnd
 have hid:∀k id,(k,id)∈back->gB back id=some k:=fun k id h=>eUZ hsn h;have hallm:∀id,id∈all->∃k,(k,id)∈back:=fun id h=>by
  obtain⟨m,hm⟩:=ZAP h;have hlt:m<sk.length:=by rw[hkl];exact(ZAB.1 hm).1
  exact⟨_,(hat _ id).2 ⟨m,ZAC hlt,hm⟩⟩
 have hbm:∀k id,(k,id)∈back->id∈all:=fun k id h=>by
  obtain⟨m,h1,h2⟩:=(hat k id).1 h;exact ZAG h2
 have hfamb:∀id,aA<=id->id∈all->(id,id)∈back:=fun id h1 h2=>by
  obtain⟨k,hk⟩:=hallm id h2;rcases hfix k id hk with⟨_,rfl⟩|h
  ·exact hk
  ·omega
 have hinj:∀k k' id,(k,id)∈back->(k',id)∈back->k=k':=fun k k' id h h'=>ZAh ((hid k id h).symm.trans (hid k' id h'));have hinj2:∀k id id',(k,id)∈back->(k,id')∈back->id=id':=fun k id id' h h'=>by
  obtain⟨m,h1,h2⟩:=(hat k id).1 h;obtain⟨m',h3,h4⟩:=(hat k id').1 h';have:=hkinj m m' k h1 h3;subst this;rw[h2] at h4;exact ZAh h4
 have halld:∀id∈all,id<aC:=fun id h=>by
  rw[<-hall] at h;rcases ZAc.1 h with h|h
  ·exact hH.key id (hsh id h)
  ·exact hst id h
 have hddyn:∀k,aC<=k->¬zd.D k:=fun k h h'=>by have:=(hDd k h').1;omega
 let F:Nat->Bool:=fun id=>bA id all
 have hF:∀id,F id=true↔id∈all:=fun id=>aiZ
 let z2:Z:={w:=zd.w,M:=zd.M,ρ:=fun id=>match gB back id with|some k=>zd.ρ k|none=>if aC<=id/\rt id∈all then zd.ρ id else z1.ρ id,
            C:=fun g=>∃k e sz n,aQ Hd k=some e/\e.fz=false/\zd.ρ k= .real g sz n,D:=(z1.foc H1 F).D}
 have hρ2:∀k id,(k,id)∈back->z2.ρ id=zd.ρ k:=fun k id h=>by
  show(match gB back id with|some k=>zd.ρ k|none=>_)=_;rw[hid k id h]
 have hno:∀id,id∉all->gB back id=none:=fun id h=>by
  cases hk:gB back id with
  |none=>rfl
  |some k=>exact absurd (hbm k id (aLZ hk)) h
 have hρ2d:∀id,aC<=id->rt id∈all->z2.ρ id=zd.ρ id:=fun id h1 h2=>by
  show(match gB back id with|some k=>zd.ρ k|none=>_)=_;rw[hno id fun h=>by have:=halld id h;omega];exact ZAN ⟨h1,h2⟩
 have hρ2n:∀id,id∉all->¬(aC<=id/\rt id∈all)->z2.ρ id=z1.ρ id:=fun id h1 h2=>by
  show(match gB back id with|some k=>zd.ρ k|none=>_)=_;rw[hno id h1];exact ZAM h2
 have hρX:∀k id,OfX back k id->z2.ρ id=zd.ρ k:=fun k id h=>by
  rcases h with⟨h,_,_⟩|⟨rfl,h1,h2⟩
  ·exact hρ2 k id h
  ·exact hρ2d k h1 (hbm _ _ h2)
 have hC1:∀g,zc.C g->(z1.foc H1 F).C g:=fun g h=>by
  obtain⟨id,e,sz,n,a1,a2,a3,a4⟩:=hC g h;exact⟨id,e,sz,n,aiZ.2 (by rw[<-hall];exact ZBc _ a1),a2,a3,a4⟩
 have hCd:∀g,zd.C g->(z1.foc H1 F).C g\/z1.w.heap.size<=g:=fun g hg=>by
  rcases hn.subC g hg with h|h
  ·exact .inl (hC1 g h)
  ·rw[hw] at h;exact .inr h
 have hC2:∀g,z2.C g->zd.C g:=fun g ⟨k,e,sz,n,a2,a3,a4⟩=>(hHd.realX a2 a4).2.1 a3;have hN:Nx (z1.foc H1 F) z2:=by
  refine⟨hn.os.trans (by rw[hw];rfl),⟨hn.tape.1.trans (by rw[hw];rfl),by have:=hn.tape.2;rw[hw] at this;exact this⟩,hn.output.trans (by rw[hw];rfl),by have:=hn.size;rw[hw] at this;exact this,fun b hb hc=> ?_,fun g hg=> ?_,fun g hg=>hCd g (hC2 g hg),fun g hg hm hc=> ?_,fun id hne=> ?_,rfl⟩
  ·have:=hn.block b (by rw[hw];exact hb) fun h=>hc (hC1 b h);rw[hw] at this;exact this
  ·have:=hn.subM g hg;rw[hw,hM] at this;exact this
  ·exact hn.keepM g (by rw[hw];exact hg) (by rw[hM];exact hm) fun h=>hc (hC1 g h)
  ·have hne:z1.ρ id≠.no:=hne;show z2.ρ id=z1.ρ id;have hnf:¬(aA<=id/\id<aC):=fun h=>hne (hH.nos id h.1 h.2);by_cases hm:id∈all
   ·obtain⟨k,hk⟩:=hallm id hm;rw[hρ2 k id hk];obtain⟨m,h1,h2⟩:=(hat k id).1 hk;have hlid:=halld id hm;by_cases hlt:m<sh.length
    ·obtain⟨b1,b2⟩:=hlow m k id h1 h2 hlt;obtain⟨b3,b4⟩:=hρ m k id b1 b2;rw[hn.ext k (b4 (by omega)),b3]
    ·rw[<-hall,ZAV (by omega)] at h2;have hmi:=ZAG h2;exact absurd ((hH.fresh id (by rw[aDZ (by omega)];exact hfr id hmi)).resolve_right (hd id (by rw[aZZ hlid];exact hmi))) hne
   ·by_cases hdd:aC<=id/\rt id∈all
    ·rw[hρ2d id hdd.1 hdd.2];rw[<-hall] at hdd;rcases ZAc.1 hdd.2 with h|h
     ·have e1:=hρd id hdd.1 h;rw[<-e1] at hne⊢;exact hn.ext id hne
     ·exfalso;refine hne ((hH.fresh id ?_).resolve_right (hd id h));rw[azZ hdd.1,avZ (hfr _ h)];exact hfr _ h
    ·exact hρ2n id hm hdd
 have hent0:∀id e',aG (gY Hd (eZ back) back) id=some e'->∃k e,(k,id)∈back/\aG Hd k=some e/\e'=e.ren (eZ back):=fun id e' h=>by
  rw[(bPZ hsn id).1] at h;obtain⟨k,q1,q2⟩:=ZAH.1 h;obtain⟨e,q3,q4⟩:=ZAI.1 q2;exact⟨k,e,aLZ q1,q3,q4.symm⟩
 generalize hH2:fH (fE [] sh) (gY Hd (eZ back) back)=H2;have hg2:∀id,aG H2 id=if aN (gY Hd (eZ back) back) id then aG (gY Hd (eZ back) back) id else none:=fun id=>by
  rw[<-hH2,aQZ,aYZ];split
  ·rfl
  ·split<;>rfl
 have hk2:∀id,aN H2 id=(aN (gY Hd (eZ back) back) id||bA id sh):=fun id=>by
  rw[<-hH2,aIZ,aPZ];simp[aN]
 have hgs:∀id e',aG H2 id=some e'->aG (gY Hd (eZ back) back) id=some e':=fun id e' h=>by
  rw[hg2] at h;split at h
  ·exact h
  ·cases h
 have hentX:∀id e',aQ H2 id=some e'->∃k e,OfX back k id/\aQ Hd k=some e/\e'=e.ren (eZ back):=fun id e' h=>by
  by_cases hdy:aC<=id
  ·rw[a8Z hdy] at h;obtain⟨e0,q1,q2⟩:=ZAH.1 h;obtain⟨k,e1,q3,q4,rfl⟩:=hent0 _ _ (hgs _ _ q1);have:k=rt id:=by
    rcases hfix k _ q3 with⟨_,h⟩|⟨h,_⟩
    ·exact h
    ·have:=(bOZ hdy).1;omega
   subst this;rw[(flZ e1 _ _).2 (ZAL _)] at q2;exact⟨id,e',.inr ⟨rfl,hdy,q3⟩,by rw[a8Z hdy,q4];exact q2,(eBZ q2 _).1.symm⟩
  ·by_cases hf:aA<=id
   ·unfold aQ at h;rw[ZAM hdy,ZAN hf] at h;cases h
   ·rw[aqZ (by omega)] at h;obtain⟨k,e1,q3,q4,rfl⟩:=hent0 _ _ (hgs _ _ h);have hkf:k<aA:=by
     rcases hfix k _ q3 with⟨h,_⟩|⟨_,h⟩
     ·omega
     ·exact h
    exact⟨k,e1,.inl ⟨q3,hkf,by omega⟩,by rw[aqZ hkf];exact q4,rfl⟩
 have hon:uU fs zd.ρ z2.ρ:=fun f k hf _=>hρ2d (enc f k) (ckZ f k) (by rw[dVZ];exact hfs f hf);have hR:aH z2 H2:=by
  refine⟨fun id e' h=> ?_,fun i i' e e' g sz n g' sz' n' hii p1 p2 m1 m2 p3 p4=> ?_,fun id h=> ?_,fun g h=>hHd.sub g (hC2 g h),fun id x h=> ?_,fun id h=> ?_,fun id hdy h=> ?_,fun id h1 h2=> ?_⟩
  ·obtain⟨k,e,q1,q2,rfl⟩:=hentX id e' h;have h0:=hHd.ent _ _ q2;unfold dX at h0⊢;rw[hρX k id q1];cases hr:zd.ρ k with
   |no=>rw[hr] at h0;exact h0.elim
   |virt=>
    rw[hr] at h0;obtain⟨fz,b⟩:=e;cases b<;>first|exact h0.elim|exact h0
   |real g sz n=>
    rw[hr] at h0;obtain⟨a1,a2,a3,a4⟩:=h0;exact⟨a1,fun hf=>⟨k,e,sz,n,q2,hf,hr⟩,a3,a4.ren (fz:=e.fz) rfl rfl (.on hon (hnr k e q2)) fun id' k' _ hk'=>hρ2 id' k' (dMZ hk')⟩
  ·obtain⟨k,e1,q1,q2,rfl⟩:=hentX i e p1;obtain⟨k',e2,q3,q4,rfl⟩:=hentX i' e' p2;rw[hρX k i q1] at p3;rw[hρX k' i' q3] at p4;have hkk:k≠k':=fun h=>by
    subst h;rcases q1 with⟨a1,a2,_⟩|⟨rfl,a1,_⟩<;>rcases q3 with⟨b1,b2,_⟩|⟨rfl,b1,_⟩
    ·exact hii (hinj2 k i i' a1 b1)
    ·omega
    ·omega
    ·exact hii rfl
   exact fun p5=>hHd.inj k k' e1 e2 g sz n g' sz' n' hkk q2 q4 m1 m2 p3 p4 fun h=>p5 ⟨OfX.ro q1 h.1,OfX.ro q3 h.2⟩
  ·by_cases hdy:aC<=id
   ·by_cases hm:rt id∈all
    ·left;rw[hρ2d id hdy hm];have hbk:=hfamb _ (bOZ hdy).1 hm;refine(hHd.fresh id ?_).resolve_right (hddyn id hdy);rw[azZ hdy] at h⊢;cases hg:aG Hd (rt id) with
     |some e0=>
      have hkr:=((bPZ (H:=Hd) (f:=eZ back) hsn (rt id)).2).2 ⟨_,e0,hid _ _ hbk,hg⟩;rw[hg2,ZAN hkr,(bPZ hsn (rt id)).1,hid _ _ hbk] at h;simp only[ZAA,hg,ZB5] at h;rw[(flZ e0 _ _).1] at h;exact h
     |none=>
      show aN Hd (rt id)=false;cases hkd:aN Hd (rt id)
      ·rfl
      ·obtain⟨e,he⟩:=hlive _ hkd;rw[he] at hg;cases hg
    ·rw[hρ2n id (fun h=>by have:=halld id h;omega) fun h=>hm h.2];cases hk1:cQ H1 id
     ·exact(hH.fresh id hk1).imp (fun h=>h) .inl
     ·refine .inr (.inr ⟨hk1,?_⟩);cases hF':F (rt id)
      ·rfl
      ·exact absurd ((hF _).1 hF') hm
   ·by_cases hf:aA<=id
    ·left;by_cases hm:id∈all
     ·rw[hρ2 id id (hfamb id hf hm)];exact hHd.nos id hf (by omega)
     ·rw[hρ2n id hm fun h=>hdy h.1];exact hH.nos id hf (by omega)
    ·rw[aDZ (by omega),hk2] at h;simp only[ZBb] at h;obtain⟨h,hshm⟩:=h;by_cases hm:id∈all
     ·obtain⟨k,hb⟩:=hallm id hm;have hkf:k<aA:=by
       rcases hfix k id hb with⟨h,_⟩|⟨_,h⟩
       ·omega
       ·exact h
      left;rw[hρ2 k id hb];have hkd:aN Hd k=false:=by
       cases hkd:aN Hd k
       ·rfl
       ·obtain⟨e,he⟩:=hlive k hkd;rw[((bPZ (H:=Hd) (f:=eZ back) hsn id).2).2 ⟨k,e,hid k id hb,he⟩] at h;cases h
      refine(hHd.fresh k (by rw[aDZ hkf];exact hkd)).resolve_right fun hdk=> ?_;obtain⟨m',h1,h2⟩:=hkeysOf k (hDd k hdk).2;obtain⟨m,h3,h4⟩:=(hat k id).1 hb;have:=hkinj m m' k h3 h1;subst this;have h5:=(hlow m k id h3 h4 h2).2;rw[aiZ.2 (ZAG h5)] at hshm;cases hshm
     ·rw[hρ2n id hm fun h=>hdy h.1];cases hk1:cQ H1 id
      ·exact(hH.fresh id hk1).imp (fun h=>h) .inl
      ·refine .inr (.inr ⟨hk1,?_⟩);cases hF':F (rt id)
       ·rfl
       ·rw[aZZ (by omega)] at hF';exact absurd ((hF _).1 hF') hm
  ·obtain⟨k,e1,q3,q4,rfl⟩:=hent0 _ _ (hgs _ _ h);have hfo:=hHd.fam k e1 q4;obtain⟨fz,b⟩:=e1;cases b with
   |fam e s ms=>
    have:k=id:=by
     rcases hfix k id q3 with⟨_,h⟩|⟨_,h⟩
     ·exact h
     ·have:=hfo.1;omega
    subst this;exact hfo
   |_=>
    have hkf:k<aA:=hfo;show id<aA;rcases hfix k id q3 with⟨h,h'⟩|⟨h,_⟩
    ·omega
    ·exact h
  ·rw[hk2] at h;simp only[ZBB] at h;refine halld id ?_;rcases h with h|h
   ·obtain⟨k,e,h1,_⟩:=((bPZ hsn id).2).1 h;exact hbm k id (aLZ h1)
   ·rw[<-hall];exact ZBc _ (aiZ.1 h)
  ·have hm:rt id∈all:=by
    rw[hk2] at h;simp only[ZBB] at h;rcases h with h|h
    ·obtain⟨k,e,h1,_⟩:=((bPZ hsn (rt id)).2).1 h;exact hbm k _ (aLZ h1)
    ·rw[<-hall];exact ZBc _ (aiZ.1 h)
   rintro(hD|⟨_,hD⟩)
   ·rw[<-hall] at hm;rcases ZAc.1 hm with h'|h'
    ·exact hH.dyn id hdy (hsh _ h') hD
    ·exact hd id h' hD
   ·rw[(hF _).2 hm] at hD;cases hD
  ·by_cases hm:id∈all
   ·rw[hρ2 id id (hfamb id h1 hm)];exact hHd.nos id h1 h2
   ·rw[hρ2n id hm fun h=>by omega];exact hH.nos id h1 h2
 obtain⟨z3,r1,r2,r3,r4,r5⟩:=merge_ok (H3:=fH (fE H1 sh) (gY Hd (eZ back) back)) hH hN hR (fun id h=>by
  rw[hk2] at h;simp only[ZBB] at h;rcases h with h|h
  ·obtain⟨k,e,h1,_⟩:=((bPZ hsn id).2).1 h;exact aiZ.2 (hbm k id (aLZ h1))
  ·exact aiZ.2 (by rw[<-hall];exact ZBc _ (aiZ.1 h))) (fun id=>by
  rw[aQZ,aYZ,hk2,hg2];by_cases h2:aN (gY Hd (eZ back) back) id=true
  ·simp[h2]
  ·simp only[h2,ZA7,ZCR,Bool.false_or];by_cases hs:bA id sh=true
   ·simp[hs]
   ·simp only[hs,ZA7,ZCR];by_cases hF':F id=true
    ·rw[ZAN hF'];have:=aiZ.1 hF';rw[<-hall] at this;rcases ZAc.1 this with h|h
     ·exact absurd (aiZ.2 h) hs
     ·exact avZ (hfr id h)
    ·rw[ZAM hF']) (fun id h=>by
  rw[hk2] at h;rw[aIZ,aPZ];rcases h with h|h
  ·simp only[ZBB] at h;rcases h with h|h
   ·simp[h]
   ·simp[h]
  ·simp[h]) (fun id h=>by
  rw[aIZ,aPZ] at h;rw[hk2];simp only[ZBB] at h⊢;rcases h with h|h|h
  ·exact .inl (.inl h)
  ·exact .inl (.inr h)
  ·exact .inr (.inl h))
 refine⟨z3,r1,r4,r5,fun a v hna ha=> ?_⟩;exact(ha.ren (z':=z2) rfl rfl (.on hon hna) fun id k _ hk=>hρ2 id k (dMZ hk)).less r1 r3 fun g h=>by rw[<-r2];exact h
theorem nHZ{fs}{l}(h:AV.famInTL fs l=true):(mD l).famInT fs=true:=by
 match l with
 |[]=>rfl
 |[a]=>
  simp only[AV.famInTL,ZAF] at h;exact h.1
 |a::b::l=>exact h
theorem ciZ(id):aQ [] id=none:=by
 unfold aQ;split
 ·rfl
 ·split<;>rfl
theorem l2Z{H}{l}(h:gZ H l=true):∀id∈l,aN H id=true:=fun id hid=>by
 grind[epZ,ajZ]
theorem pqZ{e}{an}{args}{vals}{K}{res:β}(hT:dY P e)(h:uS P e args an H K=some res)(hH:aH z H)(hd:∀id,rt id∈an.ids->¬z.D id)
 (hmd:∀m∈an.md,m<4\/¬z.D (m+100000))(ha:aR z args vals):
 vT P e.f vals.toArray z.w fun en w'=>∃v x H' z',en= .returned v/\z'.w=w'/\aH z' H'/\Nx z z'/\aF z' x v/\K x H'=some res:=by
 have hb0:=eAZ;unfold uS at h;rw[doZ] at h;obtain⟨⟨as',H1⟩,h1,h2⟩:=agZ.1 h;obtain⟨h3,h4⟩:=adZ.1 h2;simp only[ZAF,kPZ,ZAm] at h3;obtain⟨⟨⟨⟨⟨f1,f2⟩,f3⟩,f4⟩,f5,f6⟩,f7,f8⟩:=h3;obtain⟨z1,Mf,q1,q2,q3,q4,q5,q6⟩:=jkZ hH hmd h1 ha;have hno:=fun o ho=>(ZCW.1 f6) o ho;simp only at h4;by_cases hm:bA 2 an.md=true
 ·rw[hm] at f4;simp only[ZAQ,Bool.false_or,ZAF,afZ,ZCW] at f4;obtain⟨⟨g1,g2⟩,g3⟩:=f4;have e1:=ZAX g2;have e2:=ZAX g3;rw[e1,e2] at h4;rw[e1] at f3
  let z1e:={z1 with M:=Mf,C:=fun _=>False,D:=fun _=>True}
  have hHe:aH z1e []:=⟨fun id e h=>(by rw[ciZ] at h;cases h),fun i i' e e' g sz n g' sz' n' _ h=>(by rw[ciZ] at h;cases h),fun id _=>.inr trivial,fun g h=>h.elim,fun i x h=>by simp[aG] at h,fun i h=>by simp[aN] at h,fun i _ h=>by simp[aN] at h,q2.nos⟩;obtain⟨t,zc0,k1,k2',k3',k4',k5',k6',k7,k8',k9',k10',k11,k12,k13,k14⟩:=Shp.rco_ok (H:=[]) (fun _=>.no) (fun _ _ _=>rfl) h4 hHe (q5.less rfl rfl fun g h=>h);obtain⟨zc,x1,x2,k4,k5,x3,x4,x5,x6⟩:=kVZ f5 k4' k5' k13 k14;have k2:=x1.trans k2';have k3:=x2.trans k3';have k8:=fun g h=>k8' g (by rw[<-x4];exact h);have hDc:∀id,¬zc.D id:=fun id h=>by
   obtain⟨y1,y2⟩:=x5 id h;rw[k10'] at y1;rcases y1.2 with h|h
   ·rcases y2 with y2|y2
    ·omega
    ·have:=aiZ.2 y2;rw[this] at y1;cases y1.1
   ·exact h rfl
  obtain⟨r,r1,r2⟩:=ZAH.1 k1;have hw:zc.w=z.w:=k2.trans q1;have hcall:=hT.spec t r r1 zc vals k4 k5 hDc;rw[hw] at hcall;refine hcall.mono ?_;rintro en w' ⟨v,zd,rfl,rfl,hn,hDd,ho⟩;obtain⟨o,y,m1,m2,m3,m4⟩:=cP.on_both r2 ho;rw[Shp.embC_eq] at m2;obtain⟨p1,p2⟩:=adZ.1 m2;have hCf:∀g,¬zc.C g:=fun g h=>k8 g h
  let z3:Z:={z1 with w:=zd.w}
  have hN:Nx z1 z3:=by
   refine⟨hn.os.trans (by rw[k2]),⟨hn.tape.1.trans (by rw[k2]),by have:=hn.tape.2;rw[k2] at this;exact this⟩,hn.output.trans (by rw[k2]),by have:=hn.size;rw[k2] at this;exact this,fun b hb _=> ?_,fun g h=>.inl h,fun g h=>.inl h,fun _ _ h _=>h,fun _ _=>rfl,rfl⟩;have:=hn.block b (by rw[k2];exact hb) (hCf b);rw[k2] at this;exact this
  have hH3:aH z3 H1:=by
   refine⟨fun id e he=>(q2.ent id e he).kp (hN.kp q2.sub) fun g sz n hr=>⟨?_,fun h=>h⟩,fun i i' e e' g sz n g' sz' n' hii h1 h2 f1 f2 h3 h4=>q2.inj i i' e e' g sz n g' sz' n' hii h1 h2 f1 f2 h3 h4,fun id hid=>q2.fresh id hid,fun g hg=>q2.sub g hg,q2.fam,q2.key,q2.dyn,q2.nos⟩;have:=hn.block g (by rw[k2];exact(q2.realX he hr).1) (hCf g);rw[k2] at this;exact this
  obtain⟨vs,b1,b2⟩:=qJZ m4;have hsc:=g1 o m1;have hren:aR z3 (AV.renL (eZ []) (o.emb y).1) vs:=cRZ (z:=zd) (fun id=>rfl) o.ks hsc b1;refine⟨v,_,_,z3,rfl,rfl,hH3,q3.trans hN,?_,p2⟩;show aF z3 (AV.ren (eZ []) (mD (o.emb y).1)) v;rw[sPZ];exact b2 hren (czZ _ _)
 ·have hM:=q6 (by simpa using hm);subst hM;have hlive:gZ H1 (lB (kG an.sh (bM 0 an.sh)))=true:=by
   unfold Shp.rco at h4;have:=(adZ.1 h4).1;simp only[ZAF] at this;exact this.2
  rw[dnZ (by rw[aMZ])] at hlive;obtain⟨t,zc0,k1,k2',k3',k4',k5',k6',k7,k8',k9',k10',k11,k12,k13,k14⟩:=Shp.rco_ok (fun _=>.no) (fun _ _ _=>rfl) h4 q2 q5;obtain⟨zc,x1,x2,k4,k5,x3,x4,x5,x6⟩:=kVZ f5 k4' k5' k13 k14;have k2:=x1.trans k2';have k3:=x2.trans k3';have k8:∀g,zc.C g->_:=fun g h=>k8' g (by rw[<-x4];exact h);have k9:∀g,zc.C g->_:=fun g h=>k9' g (by rw[<-x4];exact h);have hDc:∀id,¬zc.D id:=fun id h=>by
   obtain⟨y1,y2⟩:=x5 id h;rw[k10'] at y1;rcases y1.2 with h|h
   ·rcases y2 with y2|y2
    ·omega
    ·have:=aiZ.2 y2;rw[this] at y1;cases y1.1
   ·exact h rfl
  obtain⟨r,r1,r2⟩:=ZAH.1 k1;have hw:zc.w=z.w:=k2.trans q1;have hcall:=hT.spec t r r1 zc vals k4 k5 hDc;rw[hw] at hcall;refine hcall.mono ?_;rintro en w' ⟨v,zd,rfl,rfl,hn,hDd,ho⟩;obtain⟨o,y,m1,m2,m3,m4⟩:=cP.on_both r2 ho;rw[Shp.embC_eq] at m2;obtain⟨p1,p2⟩:=adZ.1 m2;simp only[ZAF] at p1;have hkm:∀id,id∈aJ e.i.hs->id<aC:=fun id h=>k13 id (aiZ.2 h);have hshn:∀(m) k id,(bM 0 an.sh)[m]? =some k->an.sh[m]? =some id->zc.ρ k=z1.ρ id/\(id<aA->zc.ρ k≠.no):=fun m k id hk1 hk2=>by
   have hmem:k∈aJ e.i.hs:=by rw[f3];exact ZAG hk1
   have hkd:=hkm k hmem;obtain⟨id',a1,a2⟩:=k6' k (aiZ.2 hmem);have hnd:(jG (kG an.sh (bM 0 an.sh))).Nodup:=by
    unfold Shp.rco at h4;have:=(adZ.1 h4).1;simp only[ZAF] at this;exact cIZ.1 this.1.2.1
   have hid:id'=id:=by
    have e1:=eUZ hnd a1;have e2:=eUZ hnd (lRZ hk2 hk1);rw[e1] at e2;exact ZAh e2
   subst hid;have hρ:zc.ρ k=z1.ρ id':=(x3 k (.inl hkd)).trans a2;refine⟨hρ,fun hlow hno=> ?_⟩;obtain⟨ee,he⟩:=(cwZ e.i.hs (embL e.i.ks (eI e.i.hs []) (eY e.i.tys t)).2 k).2.1 (aiZ.2 hmem);have hkf:k<aA:=by
    rcases cnZ hk1 hk2 with⟨h,_⟩|⟨_,_,h⟩
    ·omega
    ·omega
   have hee:=k4.ent k ee (by rw[aqZ hkf];exact he);unfold dX at hee;rw[hno] at hee;exact hee
  have hshd:∀id,aC<=id->rt id∈an.sh->zc.ρ id=z1.ρ id:=fun id hdy hmem=>by
   have h1:=(bOZ hdy).1;have hmk:rt id∈aJ e.i.hs:=by
    rw[f3];obtain⟨m,hm⟩:=ZAP hmem;obtain⟨k,hk⟩:=nYZ (n:=0) hm;rcases cnZ hk hm with⟨_,rfl⟩|⟨h,_⟩
    ·exact ZAG hk
    ·omega
   rw[x3 id (.inr hmk),k7 id,ZAN hdy];cases hc:bA id (aJ e.i.hs)
   ·rfl
   ·have:=hkm id (aiZ.1 hc);omega
  have hokeys:∀k∈aJ o.hs,k∈bM 0 (an.sh++an.ids):=fun k hk=>by
   have:=(ccZ.1 p1.2) k (evZ.1 (by rw[show aN (o.emb y).2 k=bA k (aJ o.hs) from(cwZ o.hs (embL o.ks (eI o.hs []) (eY o.tys y)).2 k).1];exact aiZ.2 hk));rwa [dnZ (by rw[aMZ])] at this
  obtain⟨z3,c1,c2,c3,c4⟩:=tMZ (sh:=an.sh) (ids:=an.ids) (fs:=gP (aJ o.hs)) q2 (fnZ f1) (l2Z hlive) (fun id hid=>bMZ f7 hid) (fun id hid=>by rw[q3.dom];exact hd id hid) (cIZ.1 p1.1.1) f8 k2 k3
   (fun g hg=>by
    obtain⟨id,ee,sz,n,a1,a2,a3,a4⟩:=k9 g hg;rw[dnZ (by rw[aMZ])] at a1;exact⟨id,ee,sz,n,a1,a2,a3,a4⟩) hshn hshd (fun k hk=>by
    have:=hDd k hk;rw[f3] at this;exact⟨hkm k (by rw[f3];exact this),this⟩) hn m3
   (fun k hk=>by
    have hg:=cwZ o.hs (embL o.ks (eI o.hs []) (eY o.tys y)).2 k;exact hg.2.1 (by rw[<-hg.1];exact hk)) (fun k ee he=>jJZ (hno o m1) m3 he) (fun f hf=>by
    have hod:∀i∈aJ o.hs,i<aC:=fun i hi=>m3.key i (by rw[show aN (o.emb y).2 i=bA i (aJ o.hs) from(cwZ o.hs (embL o.ks (eI o.hs []) (eY o.tys y)).2 i).1];exact aiZ.2 hi);have hmk:=hokeys _ ((e8Z hod (ZCn f (by omega))).1 hf);obtain⟨m,hm1⟩:=ZAP hmk;have hlt:m<(an.sh++an.ids).length:=by have:=(ZAB.1 hm1).1;rwa [aMZ] at this
    rcases cnZ hm1 (ZAC hlt) with⟨_,h⟩|⟨_,_,h⟩
    ·show aA+f%16∈_;rw[h];exact ZBO hlt
    ·rw[ZAe] at h;omega) p1.2
  exact⟨v,_,_,z3,rfl,c1,c2,q3.trans c3,c4 _ _ (nHZ (bvZ o.ks (r:=eI o.hs []) _ (hno o m1))) m4,p2⟩
end
theorem Tr.get_put:∀(t:Tr) (k) (a) (k'),(k'≠k->(t.put k a).get k'=t.get k')/\((t.put k a).get k=a\/(t.put k a).get k= .junk)
 |.lf,k,a,k'=>⟨fun _=>rfl,.inr rfl⟩
 |.nd l v r,k,a,k'=>by
  by_cases h0:k=0
  ·subst h0;simp[Tr.put,Tr.get]
   simp_all[ahZ]
  ·have e0:=ahZ h0;by_cases h1:k%2=1
   ·have e1:=(afZ _ _).2 h1;simp[Tr.put,e0,e1,Tr.get]
    let⟨q1,q2⟩:=Tr.get_put l (k/2) a (k'/2)
    refine⟨fun h=> ?_,q2⟩;by_cases g0:k'=0
    ·simp_all
    ·rw[ahZ g0,ZAD];by_cases g1:k'%2=1
     ·rw[(afZ _ _).2 g1,ZAK];exact q1 (by omega)
     simp_all[ahZ]
   ·have e1:=ahZ h1;simp[Tr.put,e0,e1,Tr.get]
    let⟨q1,q2⟩:=Tr.get_put r (k/2-1) a (k'/2-1)
    refine⟨fun h=> ?_,q2⟩;by_cases g0:k'=0
    ·simp_all
    ·by_cases g1:k'%2=1
     ·rw[(afZ _ _).2 g1,ZAK,ZAK]
     grind
section
variable {P : Program} {T : Tbl} {z : Z} {H : Hp} {β : Type} {all : List Oper} {ops : Array Oper}
def Le(a b:AV):Prop:=∀(z) v,aF z a v->aF z b v
theorem Le.refl(a):Le a a:=fun _ _ h=>h
theorem Le.trans{a b c}(h:Le a b)(k:Le b c):Le a c:=fun z v x=>k z v (h z v x)
theorem Le.junk(a):Le a .junk:=fun _ v _=>.junk v
theorem Le.bool{a}{t}(h:a.bool? =some t):Le a (.b t):=fun z v hv=>by
 rw[bYZ h hv];exact .mkB t
theorem rLZ(v):aF z (AV.lit v) v:=by
 cases v<;>first|exact .mkI _ _|exact .mkB _|exact .junk _|exact .p _ _ _ ⟨_,⟨rfl,rfl⟩,rfl⟩|skip;rename_i s;exact .mkS s.data.toList
theorem g9Z:∀{l},oB l=true->∀v∈l,v.oneCell'=true
 |[],_,v,h=>by cases h
 |u::l,h,v,hv=>by
  have h':u.oneCell'=true/\oB l=true:=by
   cases u<;>first|exact⟨rfl,h⟩|cases h
  rcases ZAg.1 hv with rfl|hv
  ·exact h'.1
  ·exact g9Z h'.2 v hv
def fA(t:Nat):Operand:=if t<1048576 then .tmp t else .global (t-1048576)
theorem dyZ{t}(h:t<1048576):fA t= .tmp t:=ZAN h
theorem pvZ(g):fA (1048576+g)= .global g:=by simp_all[fA,ZA9]
theorem dsZ{st:St}{a:Act}(h:∀t,aF z (st.tm.get t) (a.eval (fA t)))(x):aF z (st.opnd x) (a.eval x):=by
 cases x with
 |tmp t=>
  simp[St.opnd];cases hb:Nat.blt t 1048576
  ·exact .junk _
  ·rw[ZBX] at hb;have:=h t
   simp_all[dyZ]
 |const v=>
  by_cases hv:∃cs,v= .agg cs
  ·obtain⟨cs,rfl⟩:=hv;simp only[St.opnd];cases ho:oB cs.toList
   ·exact .junk _
   ·have h1:=g9Z ho;refine .agg _ _ (by simp) (fun v hv=>h1 v (ZBN.2 hv)) fun i x v e1 e2=> ?_;have e2:=e2;rw[ZAY] at e1
    grind[ZAI,ZAs,ZAh,t9Z,ZAG]
  ·have:st.opnd (.const v)= .lit v:=by
    cases v<;>first|rfl|simp_all
   rw[this];exact rLZ v
 |global g=>have:=h (1048576+g);rw[pvZ] at this;exact this
 |func f=>exact .fn f [] [] #[] #[] rfl rfl (fun i x v h=>by grind) (fun i x v h=>by grind)
theorem u8Z{a}{x}{v}(h:a.fnv? =some x)(ha:aF z a v):∃va vc,v= .func (.func x.1) va vc/\aR z x.2.1 va.toList/\aR z x.2.2 vc.toList:=by
 unfold AV.fnv? at h;split at h
 ·simp at h;subst h;cases ha with|fn _ _ _ va vc h1 h2 h3 h4=>
  exact⟨va,vc,rfl,⟨by simp[h1],fun i x v p1 p2=>h3 i x v p1 (by simpa using p2)⟩,⟨by simp[h2],fun i x v p1 p2=>h4 i x v p1 (by simpa using p2)⟩⟩
 ·rename_i f l c;cases hb:(Nat.beq l.size 0&&Nat.beq c.size 0)<;>rw[hb] at h<;>simp only[bq_true,bq_false] at h
  ·cases h
  simp[afZ] at hb;simp at h;subst h;obtain rfl:=ha.v.opq.1;exact⟨l,c,rfl,⟨by simp[hb.1],fun i a v h=>by simp at h⟩,⟨by simp[hb.2],fun i a v h=>by simp at h⟩⟩
 grind
theorem mmZ{f}:∀{T} {e},GV f T=some e->e∈T/\e.f=f
 |[],e,h=>by cases h
 |x::T,e,h=>by
  unfold GV at h;cases hb:Nat.beq x.f f<;>rw[hb] at h
  ·let⟨h1,h2⟩:=mmZ h
   exact⟨ZAb _ h1,h2⟩
  simp_all
theorem slZ{T}{n}{f}{e}(h:JW T n f=some e):e∈T/\e.f=f:=by
 unfold JW at h;split at h
 ·rename_i x hx;cases hb:Nat.beq x.f f<;>rw[hb] at h
  ·exact mmZ h
  ·simp[ZAO] at h;subst h;exact⟨ZAG hx,(afZ _ _).1 hb⟩
 grind
theorem tuZ{o}{an}{r}{a}{K}{res:β}{next}{Q}(hT:∀e∈T,dY P e)
 (h:evW P T o an r H K=some res)(hH:aH z H)(hids:∀id,rt id∈an.ids->¬z.D id)(hmk:tH P o=true->¬z.D (an.ids.headD 0))(hmd:∀m∈an.md,m<4\/¬z.D (m+100000))(hr:∀x,aF z (r x) (a.eval x))
 (hk:∀x v H' z',aH z' H'->Nx z z'->aF z' x v->K x H'=some res->next (a.put o.dst v) z'.w):o.wp P a z.w next Q:=by
 unfold Oper.wp;cases hc:AK o
 ·let⟨x,H',z',nx,h1,h2,h3,h4,h5⟩:=vfZ h hH hmk hr hc
  rw[h1];rcases h4 with⟨v,rfl,hv⟩|⟨rfl,rfl⟩
  ·exact hk x v H' z' h2 h3 hv h5
  ·exact hk .junk undef H' z' h2 h3 (.junk _) h5
 ·unfold AK at hc;split at hc
  ·rename_i c ho;split at hc
   ·rename_i f hcb;unfold evW at h;simp only[ho,hcb] at h
    let⟨x,h1,h2⟩:=agZ.1 h
    let⟨va,vc,hv,q1,q2⟩:=u8Z h1 (hr f)
    split at h2
    ·rename_i e he
     let⟨he',hb⟩:=slZ he
     have hte:=hT e he';have hcall:=pqZ hte h2 hH hids hmd (.append (.append q1 (.map hr)) q2);have harr:va++c.args.map a.eval++vc=(va.toList++c.args.toList.map a.eval++vc.toList).toArray:=by
      apply ZB4;simp
     rcases hcall with⟨⟨fn,cd,e1,e2,e3⟩,hcall⟩|⟨v,w',hrun,v',x',H',z',hv',rfl,p1,p2,p3,p4⟩
     rotate_left
     ·have hexec:(execOp a.eval o).run P z.w= .ok (.value v) z'.w:=by
       unfold execOp;simp only[ho,resolve,hcb,hv,Deferred.ofValue,Sem.run_bind,Sem.run_pure,Result.andThen_ok,invoke];rw[<-hb,harr];exact hrun
      rw[hexec];cases hv';exact hk x' v H' z' p1 p2 p3 p4
     have hexec:(execOp a.eval o).run P z.w= .ok (.enter e.f (va.toList++c.args.toList.map a.eval++vc.toList).toArray) z.w:=by
      have hbd:fn.body.isNone=false:=by rw[e2];rfl
      have harr:va++c.args.map a.eval++vc=(va.toList++c.args.toList.map a.eval++vc.toList).toArray:=by
       apply ZB4;simp
      unfold execOp;simp only[ho,resolve,hcb,hv,Deferred.ofValue,Sem.run_bind,Sem.run_pure,Result.andThen_ok,invoke,callFunc,run_program];rw[<-hb] at*;simp only[e1,e3,hbd,harr]
      rfl
     rw[hexec];show Calls P e.f _ z.w _;refine hcall.mono ?_;rintro en w' ⟨v,x',H',z',rfl,rfl,p1,p2,p3,p4⟩;exact hk x' v H' z' p1 p2 p3 p4
    ·cases h2
   ·cases hc
  simp_all
theorem t4Z{o}{r}{a}{K}{res:β}{next}{Q}(h:evR P o r H K=some res)(hH:aH z H)(hr:∀x,aF z (r x) (a.eval x))
 (hk:∀x v,aF z x v->K x=some res->next (a.put o.dst v) z.w):o.wp P a z.w next Q:=by
 unfold Oper.wp
 let⟨x,v,h1,h2,h3⟩:=vCZ h hH hr
 rw[h1];exact hk x v h2 h3
def Inv(z0:Z)(N:Nat)(L:List (Nat×AV))(st:St)(a:Act)(w:World):Prop:=
 ∃z,z.w=w/\Nx z0 z/\(∀id,¬z.D id)/\aH z st.hp/\(∀t,aF z (st.tm.get t) (a.eval (fA t)))/\(∀p∈L,aF z p.2 (a.eval (fA p.1)))/\a.defers=[]/\(st.nt<=N/\a.tmps.size=N)/\∀id,id<aC->z0.ρ id≠.no->id<st.n0
theorem b2Z{a:Act}{d}{v}(h:d<a.tmps.size):(a.put (some d) v).eval (.tmp d)=v:=by
 simp[Act.eval,Act.put,h]
theorem c6Z{a:Act}{d}{v}(h:d<a.tmps.size)(hb:d<1048576):(a.put (some d) v).eval (fA d)=v:=by
 simp_all[dyZ,b2Z]
theorem b8Z{a:Act}{o:Option Tmp}{t:Nat}{v}(h:o≠some t):(a.put o v).eval (fA t)=a.eval (fA t):=by
 cases o with
 |none=>rfl
 |some d=>
  have:d≠t:=fun e=>h (by rw[e]);by_cases ht:t<1048576
  ·rw[dyZ ht];simp[Act.eval,Act.put,Array.getElem?_setIfInBounds_ne this]
  ·rw[fA,ZAM ht]
   rfl
theorem put_ok{tm}{nt}{a:Act}{o:Option Tmp}{x}{v}(h:∀t,aF z (tm.get t) (a.eval (fA t)))(hd:jV nt o=true)(hn:nt<=a.tmps.size)(hx:aF z x v):
 ∀t,aF z ((St.putO ⟨tm,nt,0,[]⟩ o x).tm.get t) ((a.put o v).eval (fA t)):=by
 intro t;cases o with
 |none=>exact h t
 |some d=>
  simp[jV,ZBX] at hd;simp[St.putO];by_cases ht:t=d
  ·subst ht;rw[c6Z (by omega) hd.2];rcases(Tr.get_put tm t x t).2 with e|e<;>rw[e]
   ·exact hx
   ·exact .junk _
  simp_all[Tr.get_put,b8Z,ZBf]
theorem dfZ(st:St)(o)(x):(st.putO o x).tm=(St.putO ⟨st.tm,st.nt,0,[]⟩ o x).tm/\(st.putO o x).nt=st.nt/\(st.putO o x).n0=st.n0/\(st.putO o x).hp=st.hp:=by
 cases o<;>exact⟨rfl,rfl,rfl,rfl⟩
theorem csZ(a:Act)(o)(v):(a.put o v).tmps.size=a.tmps.size/\(a.put o v).defers=a.defers:=by
 cases o<;>simp[Act.put]
theorem Inv.put{z0 z'}{N}{L:List (Nat×AV)}{st:St}{a:Act}{o:Option Tmp}{x:AV}{v:Value}{H':Hp}(hn:Nx z0 z')(hD:∀id,¬z'.D id)(hH:aH z' H')(hs:∀t,aF z' (st.tm.get t) (a.eval (fA t)))
 (hL:∀p∈L,aF z' p.2 (a.eval (fA p.1)))(hLd:∀p∈L,o≠some p.1)(hdf:a.defers=[])(hnt:st.nt<=N/\a.tmps.size=N)(h0:∀id,id<aC->z0.ρ id≠.no->id<st.n0)(hd:jV st.nt o=true)(hx:aF z' x v):
 Inv z0 N L {st.putO o x with hp:=H'} (a.put o v) z'.w:=by
 obtain⟨e1,e2,e3,e4⟩:=dfZ st o x;refine⟨z',rfl,hn,hD,hH,?_,fun p hp=> ?_,(csZ a o v).2.trans hdf,⟨by show(st.putO o x).nt<=N;rw[e2];exact hnt.1,by rw[(csZ a o v).1];exact hnt.2⟩,fun id hdy hid=>by show id<(st.putO o x).n0;rw[e3];exact h0 id hdy hid⟩
 ·show∀t,aF z' ((st.putO o x).tm.get t) _;rw[e1];exact put_ok hs hd (by rw[hnt.2];exact hnt.1) hx
 grind[b8Z]
theorem vRZ{o}{an}{z0}{N}{L}{st}{a}{w}{K}{res:β}{next}{Q}(hT:∀e∈T,dY P e)
 (h:ev1 P T o an st K=some res)(hd:jV st.nt o.dst=true)(hi:Inv z0 N L st a w)(hL:∀p∈L,o.dst≠some p.1)(hk:∀st' a' w',K st'=some res->Inv z0 N L st' a' w'->next a' w'):o.wp P a w next Q:=by
 obtain⟨z,rfl,hn,hD,hH,hs,hLs,hdf,hnt,h0⟩:=hi;unfold ev1 at h;cases hR:isR P o<;>rw[hR] at h<;>simp[bq_false] at h
 ·refine tuZ hT h hH (fun id _=>hD id) (fun _=>hD _) (fun _ _=>.inr (hD _)) (dsZ hs) fun x v H' z' h1 h2 h3 h4=> ?_;have kp:=h2.kp hH.sub;exact hk _ _ _ h4 (.put (hn.trans h2) (fun id=>by rw[h2.dom];simp_all) h1 (fun t=>(hs t).kp kp) (fun p hp=>(hLs p hp).kp kp) hL hdf hnt h0 hd h3)
 ·refine t4Z h hH (dsZ hs) fun x v h1 h2=> ?_;have:=Inv.put hn hD hH hs hLs hL hdf hnt h0 hd h1;refine hk _ _ _ h2 ?_;have e:({st.putO o.dst x with hp:=st.hp}:St)=st.putO o.dst x:=by cases o.dst<;>rfl
  simp_all
def wF(all:List Oper)(o:Oper)(get:Nat->AV)(b:Bool):Prop:=
 (o.guard=none/\b=true)\/∃j want d,o.guard=some (j,want)/\(all[j]?).bind (·.dst)=some d/\d<1048576/\((get d= .tup []/\b=false)\/∃t,(get d).bool? =some t/\b=(t==want))
theorem wF.wanted{o}{get}{b}{a:Act}(h:wF ops.toList o get b)(hs:∀j want d,o.guard=some (j,want)->(ops.toList[j]?).bind (·.dst)=some d->aF z (get d) (a.eval (fA d))):
 Region.wanted o (yielded ops a.tmps)=b:=by
 rcases h with⟨h1,rfl⟩|⟨j,want,d,h1,h2,hlt,h3⟩
 ·simp[Region.wanted,h1]
 ·have hd:=hs j want d h1 h2;rw[dyZ hlt] at hd;have e:(ops[j]?).bind (·.dst)=some d:=by rw[<-Array.getElem?_toList];exact h2
  simp[Region.wanted,h1,yielded,e];simp only[Act.eval] at hd;rcases h3 with⟨h3,rfl⟩|⟨t,h3,rfl⟩
  ·rw[h3] at hd;cases hv:a.tmps[d]? with
   |none=>rfl
   |some v=>
    have e2:a.tmps.getD d undef=v:=by simp[hv]
    rw[e2] at hd;cases hd
    rfl
  ·have hb:=bYZ h3 hd;cases hv:a.tmps[d]? with
   |none=>
    have e2:a.tmps.getD d undef=undef:=by simp[hv]
    rw[e2] at hb;cases hb
   |some v=>
    have e2:a.tmps.getD d undef=v:=by simp[hv]
    rw[e2] at hb;subst hb;cases t<;>cases want<;>rfl
theorem tzZ{o}{st}{go skip}{res:β}(h:evG all o st go skip=some res):
 jV st.nt o.dst=true/\∃st1 b,st1.hp=st.hp/\st1.nt=st.nt/\st1.n0=st.n0/\(∀t,Le (st.tm.get t) (st1.tm.get t))/\wF all o st.tm.get b/\((b=true/\go st1=some res)\/(b=false/\skip (st1.skip o)=some res)):=by
 unfold evG at h;cases hd:jV st.nt o.dst<;>rw[hd] at h<;>simp only[bq_true,bq_false] at h
 ·cases h
 refine⟨rfl,?_⟩;split at h
 ·rename_i hg;exact⟨st,true,rfl,rfl,rfl,fun _=>.refl _,.inl ⟨hg,rfl⟩,.inl ⟨rfl,h⟩⟩
 ·rename_i j want hg
  let⟨d,h1,h2⟩:=agZ.1 h
  let⟨oj,h3,h4⟩:=agZ.1 h1
  let⟨hlt,h2⟩:=adZ.1 h2
  rw[ZBX] at hlt;have hj:(all[j]?).bind (·.dst)=some d:=by rw[h3];exact h4
  split at h2
  ·rename_i ht;exact⟨st,false,rfl,rfl,rfl,fun _=>.refl _,.inr ⟨j,want,d,hg,hj,hlt,.inl ⟨ht,rfl⟩⟩,.inr ⟨rfl,h2⟩⟩
  ·rename_i ht
   let⟨t,h5,h6⟩:=agZ.1 h2
   have hle:∀k,Le (st.tm.get k) ((st.tm.put d (.b t)).get k):=fun k=>by
    by_cases hk:k=d
    ·subst hk;rcases(Tr.get_put st.tm k (.b t) k).2 with e|e<;>rw[e]
     ·exact .bool h5
     ·exact .junk _
    ·rw[(Tr.get_put st.tm d (.b t) k).1 hk];exact .refl _
   refine⟨{st with tm:=st.tm.put d (.b t)},t==want,rfl,rfl,rfl,hle,.inr ⟨j,want,d,hg,hj,hlt,.inr ⟨t,h5,rfl⟩⟩,?_⟩;cases t<;>cases want<;>simp[bq_false] at h6
   ·exact .inl ⟨rfl,h6⟩
   ·exact .inr ⟨rfl,h6⟩
   ·exact .inr ⟨rfl,h6⟩
   ·exact .inl ⟨rfl,h6⟩
theorem m6Z:aF z (.tup []) undef:=.tup [] #[] rfl fun i x v h=>by grind
theorem Inv.le{z0}{N}{L}{st st1}{a}{w}(hi:Inv z0 N L st a w)(h1:st1.hp=st.hp)(h2:st1.nt=st.nt)(h3:st1.n0=st.n0)(h4:∀t,Le (st.tm.get t) (st1.tm.get t)):Inv z0 N L st1 a w:=by
 obtain⟨z,rfl,hn,hD,hH,hs,hLs,hdf,hnt,h0⟩:=hi;exact⟨z,rfl,hn,hD,by simp_all,fun t=>h4 t _ _ (hs t),hLs,hdf,by omega,by simp_all⟩
theorem Inv.skip{z0}{N}{L}{st}{a}{w}{o:Oper}(hi:Inv z0 N L st a w)(hd:jV st.nt o.dst=true)(hL:∀p∈L,o.dst≠some p.1):Inv z0 N L (st.skip o) (a.put o.dst undef) w:=by
 obtain⟨z,rfl,hn,hD,hH,hs,hLs,hdf,hnt,h0⟩:=hi;have:=Inv.put hn hD hH hs hLs hL hdf hnt h0 hd (m6Z);have e:({st.putO o.dst (.tup []) with hp:=st.hp}:St)=st.skip o:=by unfold St.skip;cases o.dst<;>rfl
 simp_all
theorem dpZ{z0}{N}{L}{K}{res:β}{Q}(hT:∀e∈T,dY P e){tail}(hk:∀st' a' w',K st'=some res->Inv z0 N L st' a' w'->wpOps P ops Q tail a' w'):
 ∀(l:List (Oper×Ann)) (k),(∀(i) x,l[i]? =some x->ops[k+i]? =some x.1)->(∀x∈l,∀p∈L,x.1.dst≠some p.1)->∀(st) (a) (w),oF P T l ops.toList st K=some res->Inv z0 N L st a w->
  wpOps P ops Q (List.range' k l.length++tail) a w
 |[],k,_,_,st,a,w,h,hi=>hk st a w h hi
 |(o,an)::l,k,hl,hL,st,a,w,h,hi=>by
  simp[oF] at h
  let⟨hd,st1,b,e1,e2,e3,e4,hg,hb⟩:=tzZ h
  have ho:=by have:=hl 0 (o,an) rfl;simpa using this
  have hrest:∀(i) x,l[i]? =some x->ops[k+1+i]? =some x.1:=fun i x hx=>by
   have:=hl (i+1) x hx
   grind
  have hLo:=hL (o,an) (by simp);have hw:Region.wanted o (yielded ops a.tmps)=b:=by
   let⟨z,_,_,_,_,hs,_⟩:=hi
   exact hg.wanted fun j want d _ _=>hs d
  have hi1:=hi.le e1 e2 e3 e4;simp[List.range'_succ,wpOps,ho,hw];rcases hb with⟨rfl,hgo⟩|⟨rfl,hsk⟩
  ·simp[ZCt];refine .inl (vRZ hT hgo (by rw[e2];exact hd) hi1 hLo fun st' a' w' h' hi'=> ?_);exact dpZ hT hk l (k+1) hrest (fun x hx=>hL x (by simp[hx])) st' a' w' h' hi'
  ·simp only[ZA7,ZCR];exact dpZ hT hk l (k+1) hrest (fun x hx=>hL x (by simp[hx])) _ _ w hsk (hi1.skip (by rw[e2];exact hd) hLo)
theorem tbZ{z0}{N}{L}{K}{res:β}{Q}(hT:∀e∈T,dY P e)(hk:∀st' a' w',K st'=some res->Inv z0 N L st' a' w'->Q .normal a' w')
 (l:List (Oper×Ann))(k)(h1:∀(i) x,l[i]? =some x->ops[k+i]? =some x.1)(h2:∀x∈l,∀p∈L,x.1.dst≠some p.1)(st)(a)(w)(h:oF P T l ops.toList st K=some res)(hi:Inv z0 N L st a w):
  wpOps P ops Q (List.range' k l.length) a w:=by
 have:=dpZ (tail:=[]) hT hk l k h1 h2 st a w h hi
 simp_all
end
section
variable {P : Program} {T : Tbl} {z : Z} {H : Hp} {β : Type} {all : List Oper} {ops : Array Oper}
theorem caZ{α β:Type}{f g:α->β}{l:List α}(h:∀x∈l,f x=g x):l.map f=l.map g:=ZCm h
theorem pDZ{o}{r r'}{K:AV->Option β}(h:∀x∈o.op.operands,r x=r' x):evR P o r H K=evR P o r' H K:=by
 let⟨dst,op,type,pos,after,guard⟩:=o
 cases op<;>simp[Op.operands] at h<;>simp[evR]
 case build t ps=>
  grind[caZ,ZBM]
 case makeFunc f a c=>
  have e1:a.toList.map r=a.toList.map r':=caZ fun x hx=>h x (by simp[ZBN.1 hx]);have e2:c.toList.map r=c.toList.map r':=caZ fun x hx=>h x (by simp[ZBN.1 hx])
  grind
 case slice t x lo hi mx=>cases lo<;>cases hi<;>cases mx<;>simp_all
 case call c=>
  have e1:c.args.toList.map r=c.args.toList.map r':=caZ fun x hx=>h x (by simp[Call.operands,ZBN.1 hx]);have e2:∀a,c.args.toList=[a]->r a=r' a:=fun a ha=>by
   rw[ha] at e1;simpa using e1
  rw[e1];split<;>grind
 all_goals simp_all
theorem qlZ{o}{an}{r r'}{K:AV->Hp->Option β}(h:∀x∈o.op.operands,r x=r' x):evW P T o an r H K=evW P T o an r' H K:=by
 let⟨dst,op,type,pos,after,guard⟩:=o
 cases op<;>simp[Op.operands] at h<;>simp[evW]
 case buildSlice t n ps=>
  grind[caZ,ZBM]
 case makeMap t q=>cases q<;>simp_all
 case call c=>
  have e1:c.args.toList.map r=c.args.toList.map r':=caZ fun x hx=>h x (by simp[Call.operands,ZBN.1 hx]);have e2:∀a b,c.args.toList=[a,b]->r a=r' a/\r b=r' b:=fun a b ha=>by
   simp_all
  split
  ·grind
  ·grind
  ·grind
  ·rename_i f hc;rw[e1,h f (by simp[Call.operands,hc])]
  ·rfl
 all_goals simp_all
structure Rc where
 i:Nat
 o:Oper
 an:Ann
 pre:Nat->AV
 st:St
 go:Bool
 x:AV
 H2:Option Hp
def Rc.ft(r:Rc):List Nat:=rT r.o r.an r.st.opnd
def Rc.wr(r:Rc):List Nat:=vJ r.st.hp r.ft
theorem dzZ(H)(id):∀l,bA id (xD H l)=(bA id l&&yR H id)/\bA id (vJ H l)=(bA id l&& !yR H id)
 |[]=>⟨rfl,rfl⟩
 |i::l=>by
  let⟨h1,h2⟩:=dzZ H id l
  unfold xD vJ;by_cases h:id=i
  ·subst h;cases hf:yR H id<;>simp[bA,h1,h2,hf]
  ·have e:=ahZ (ZBf h);cases hf:yR H i<;>simp[bA,h1,h2,e]
theorem mcZ{H}{i}(h:yR H i=true):i<aA/\∃b,aG H i=some ⟨true,b⟩:=by
 unfold yR at h;rw[ZAF,ZBX] at h
 grind
def Rc.tmE(t:Nat)(r:Rc):Option AV:=if r.o.dst=some t then some r.x else none
def Rc.hpE(id:Nat)(r:Rc):Option (Bool×Option Ent):=
 match r.H2 with
 |some H2=>if bA id r.wr=true then some (true,if aN H2 id=true then aG H2 id else none) else none
 |none=>none
def hU{ν:Type}(f:Rc->Option ν):List Rc->ν->ν
 |[],b=>b
 |r::l,b=>hU f l ((f r).getD b)
def kC(H:Hp)(id:Nat):Bool×Option Ent:=(aN H id,aG H id)
structure Rc.Ok (P:Program) (T:Tbl) (all:List Oper) (r:Rc):Prop where
 dst:jV r.st.nt r.o.dst=true
 grd:wF all r.o r.pre r.go
 le:∀t,Le (r.pre t) (r.st.tm.get t)
 no:r.go=false->r.x= .tup []/\r.H2=none
 yes:r.go=true->(isR P r.o=true/\evR P r.o r.st.opnd (nV r.st.hp r.ft) some=some r.x/\r.H2=none)\/
  (isR P r.o=false/\(tH P r.o=true->r.an.ids≠[])/\IG r.an.md r.ft=true/\∃Hr,r.H2=some Hr/\evW P T r.o r.an r.st.opnd (nV r.st.hp r.ft) (fun x H=>some (x,H))=some (r.x,Hr)/\(lV (lX Hr) r.ft=true/\sW r.ft=true))
def kJ(P:Program):List Rc->List Fp
 |[]=>[]
 |r::l=>if r.go=true then⟨r.i,r.ft,bq (isR P r.o) [] r.wr⟩::kJ P l else kJ P l
theorem maZ{t}:∀{l} {a b},Le a b->Le (hU (Rc.tmE t) l a) (hU (Rc.tmE t) l b)
 |[],a,b,h=>h
 |r::l,a,b,h=>maZ (l:=l) (by
   cases r.tmE t with
   |none=>exact h
   |some x=>exact .refl _)
theorem mwZ:∀(l) (st) (fs) {K} {res:β},oH P T l all st fs K=some res->
 ∃(recs:List Rc) (st':St),recs.map (fun r=>(r.i,r.o))=l.map (fun x=>(x.1,x.2.1))/\(∀r∈recs,r.Ok P T all)/\K st' ((kJ P recs).reverse++fs)=some res/\
  (∀l1 r l2,recs=l1++r::l2->(∀t,Le (hU (Rc.tmE t) l1 (st.tm.get t)) (r.pre t))/\(∀id,hU (Rc.hpE id) l1 (kC st.hp id)=kC r.st.hp id)/\r.st.nt=st.nt)/\
  (∀t,Le (hU (Rc.tmE t) recs (st.tm.get t)) (st'.tm.get t))/\(∀id,hU (Rc.hpE id) recs (kC st.hp id)=kC st'.hp id)/\st'.nt=st.nt/\st'.n0=st.n0
 |[],st,fs,K,res,h=>⟨[],st,rfl,fun r h=>(by cases h),h,fun l1 r l2 h=>(by simp_all),fun t=>.refl _,fun id=>rfl,rfl,rfl⟩
 |(i,o,an)::l,st,fs,K,res,h=>by
  simp[oH] at h
  let⟨hd,st1,b,e1,e2,e3,e4,hg,hb⟩:=tzZ h
  generalize hA:an.at st1.hp=an' at hb;have step:∃(r:Rc) (st2:St) (fs2:List Fp),r.i=i/\r.o=o/\r.pre=st.tm.get/\r.st=st1/\r.Ok P T all/\oH P T l all st2 fs2 K=some res/\(∀t,Le ((r.tmE t).getD (st.tm.get t)) (st2.tm.get t))/\
   (∀id,(r.hpE id).getD (kC st.hp id)=kC st2.hp id)/\st2.nt=st.nt/\st2.n0=st.n0/\fs2=kJ P [r]++fs:=by
   have slots:∀(x) t,Le ((if o.dst=some t then some x else none:Option AV).getD (st.tm.get t)) ((st1.putO o.dst x).tm.get t):=fun x t=>by
    cases ho:o.dst with
    |none=>simp[St.putO];exact e4 t
    |some d=>
     simp[St.putO];by_cases hdt:d=t
     ·subst hdt;rw[ZAN rfl];rcases(Tr.get_put st1.tm d x d).2 with e|e<;>rw[e]
      ·exact .refl _
      ·exact .junk _
     ·rw[ZAM hdt,(Tr.get_put st1.tm d x t).1 (ZBf hdt)];exact e4 t
   rcases hb with⟨rfl,hgo⟩|⟨rfl,hsk⟩
   ·unfold TO at hgo;cases hR:isR P o<;>rw[hR] at hgo<;>simp[bq_false] at hgo
    ·let⟨h1,h2⟩:=adZ.1 hgo
     let⟨x,Hr,h3,h4⟩:=tSZ h2
     let⟨h5,h6⟩:=adZ.1 h4
     simp[ZAj] at h1
     let r:Rc:=⟨i,o,an',st.tm.get,st1,true,x,some Hr⟩
     have hok:r.Ok P T all:=⟨by show jV st1.nt o.dst=true;rw[e2];exact hd,hg,e4,fun h=>(by cases h),fun _=>.inr ⟨hR,fun hm hid=>(by
      rcases h1.1 with h|h
      ·rw[hm] at h;cases h
      ·rw[(hid)] at h;cases h),h1.2,Hr,rfl,h3,Bool.and_eq_true_iff.1 h5⟩⟩
     refine⟨r,_,_,rfl,rfl,rfl,rfl,hok,h6,fun t=>slots x t,fun id=> ?_,?_,?_,?_⟩
     ·show(Rc.hpE id r).getD (kC st.hp id)=kC (fH (fH (fE st1.hp (rT o an' st1.opnd)) Hr) (nV st1.hp (xD st1.hp (rT o an' st1.opnd)))) id;unfold kC;rw[aIZ,aQZ,aIZ,aQZ,aPZ,aYZ,(bWZ _ _ id).1,(bWZ _ _ id).2,(dzZ st1.hp id _).1,<-e1];simp only[Rc.hpE,Rc.ft,Rc.wr,r,(dzZ st1.hp id _).2];by_cases hm:bA id (rT o an' st1.opnd)=true
      ·cases hz:yR st1.hp id
       ·simp[hm]
       ·let⟨_,b,hb⟩:=mcZ hz
        simp[hm,ajZ hb]
      ·have hk:aN Hr id=false:=by
        cases hk:aN Hr id
        ·rfl
        ·exact absurd (aiZ.2 (ccZ.1 (Bool.and_eq_true_iff.1 h5).1 id (evZ.1 hk))) hm
       simp[hm,hk]
     ·show(st1.putO o.dst x).nt=st.nt;rw[(dfZ st1 o.dst x).2.1,e2]
     ·show(st1.putO o.dst x).n0=st.n0;rw[(dfZ st1 o.dst x).2.2.1,e3]
     ·simp[kJ,r,Rc.ft,Rc.wr,hR,e1]
    ·let⟨h1,h2⟩:=adZ.1 hgo
     let⟨x,h3,h4⟩:=uuZ h1 h2
     let r:Rc:=⟨i,o,an',st.tm.get,st1,true,x,none⟩
     have hok:r.Ok P T all:=⟨by show jV st1.nt o.dst=true;rw[e2];exact hd,hg,e4,fun h=>(by cases h),fun _=>.inl ⟨hR,h3,rfl⟩⟩;refine⟨r,_,_,rfl,rfl,rfl,rfl,hok,h4,fun t=>slots x t,fun id=> ?_,?_,?_,?_⟩
     ·show kC st.hp id=kC (st1.putO o.dst x).hp id;rw[(dfZ st1 o.dst x).2.2.2,e1]
     ·rw[(dfZ st1 o.dst x).2.1,e2]
     ·rw[(dfZ st1 o.dst x).2.2.1,e3]
     ·simp[kJ,r,Rc.ft,hR]
   ·let r:Rc:=⟨i,o,an',st.tm.get,st1,false,.tup [],none⟩
    have hok:r.Ok P T all:=⟨by show jV st1.nt o.dst=true;rw[e2];exact hd,hg,e4,fun _=>⟨rfl,rfl⟩,fun h=>(by cases h)⟩;refine⟨r,_,_,rfl,rfl,rfl,rfl,hok,hsk,fun t=>slots (.tup []) t,fun id=> ?_,?_,?_,?_⟩
    ·show kC st.hp id=kC (st1.putO o.dst (.tup [])).hp id;rw[(dfZ st1 o.dst (.tup [])).2.2.2,e1]
    ·show(st1.putO o.dst (.tup [])).nt=st.nt;rw[(dfZ st1 o.dst (.tup [])).2.1,e2]
    ·show(st1.putO o.dst (.tup [])).n0=st.n0;rw[(dfZ st1 o.dst (.tup [])).2.2.1,e3]
    ·simp[kJ,r]
  let⟨r,st2,fs2,r1,r2,r4,r5,r6,r7,r8,r9,r10,r11,r12⟩:=step
  let⟨recs,st',q1,q2,q3,q4,q5,q6,q7,q8⟩:=mwZ l st2 fs2 r7
  refine⟨r::recs,st',by simp[r1,r2,q1],fun x hx=> ?_,?_,fun l1 r' l2 he=> ?_,fun t=> ?_,fun id=> ?_,q7.trans r10,q8.trans r11⟩
  ·rcases ZAg.1 hx with rfl|hx
   ·exact r6
   ·exact q2 x hx
  ·rw[r12] at q3;have:(kJ P (r::recs)).reverse++fs=(kJ P recs).reverse++(kJ P [r]++fs):=by
    simp only[kJ];split<;>simp
   rw[this];exact q3
  ·cases l1 with
   |nil=>
    simp only[ZBh,ZBU] at he;obtain⟨rfl,rfl⟩:=he;exact⟨fun t=>by rw[r4];exact .refl _,fun id=>by rw[r5,e1];rfl,by rw[r5];exact e2⟩
   |cons r0 l1=>
    simp only[List.cons_append,ZBU] at he;obtain⟨rfl,he⟩:=he
    let⟨a1,a2,a3⟩:=q4 l1 r' l2 he
    refine⟨fun t=> ?_,fun id=> ?_,a3.trans r10⟩
    ·exact(maZ (r8 t)).trans (a1 t)
    ·simp only[hU];rw[r9];exact a2 id
  ·exact(maZ (r8 t)).trans (q5 t)
  ·simp only[hU];rw[r9];exact q6 id
theorem g4Z{cl}:∀{l},pW cl l=true->l.Pairwise fun b a=>AI cl a b=true
 |[],_=>.nil
 |b::l,h=>by
  simp[pW,ZCW] at h;exact .cons h.1 (g4Z h.2)
theorem jqZ{a}:∀{l},GY a l=true->∀b∈l,bA a.i b.cl=true\/uT a b=true
 |[],_,b,h=>by cases h
 |c::l,h,b,hb=>by
  simp[GY,ZBB] at h;rcases ZAg.1 hb with rfl|hb
  ·exact h.1
  ·exact jqZ h.2 b hb
theorem jLZ:∀{l},zK l=true->l.Pairwise fun a b=>bA a.i b.cl=true\/uT a b=true
 |[],_=>.nil
 |a::l,h=>by
  simp[zK] at h;exact .cons (jqZ h.1) (jLZ h.2)
def Rc.nm(cl:List (Nat×List Nat))(all:List Oper)(r:Rc):Nm:=⟨r.i,(cl.lookup r.i).getD [],tJ all r.o++oG r.o.op.operands.toList,r.o.dst⟩
theorem t7Z{cl}:∀{recs:List Rc} {l:List (Oper×Ann)} {k},recs.map (fun r=>(r.i,r.o))=(oI k l).map (fun x=>(x.1,x.2.1))->nms cl all k (l.map (·.1))=recs.map (Rc.nm cl all)
 |[],[],k,_=>rfl
 |[],_::_,k,h=>by grind[oI]
 |_::_,[],k,h=>by grind[oI]
 |r::recs,(o,an)::l,k,h=>by
  simp[oI,ZA3] at h;obtain⟨⟨rfl,rfl⟩,h⟩:=h;simp[nms,t7Z h]
  rfl
theorem pxZ{α}:∀{l:List α} {k},(oI k l).Pairwise fun a b=>a.1<b.1
 |[],k=>.nil
 |a::l,k=>.cons (fun b hb=>by
   have:∀{l} {k} {b:Nat×α},b∈oI k l->k<=b.1:=fun{l}=>by
    induction l with
    |nil=>intro k b h;cases h
    |cons a l ih=>
     intro k b h;rcases ZAg.1 h with rfl|h
     ·exact ZAL _
     ·exact Nat.le_of_succ_le (ih h)
   grind) pxZ
theorem jiZ{α}:∀{l:List α} {k i},(oI k l)[i]? =(l[i]?).map fun a=>(k+i,a)
 |[],k,i=>by simp[oI]
 |a::l,k,0=>by simp[oI]
 |a::l,k,i+1=>by
  simp[oI,jiZ];congr 1;rw[show k+1+i=k+(i+1) by omega]
def pY(all:List Oper)(S:Nat->Prop)(j:Nat):Prop:=∀o,all[j]? =some o->∀e∈o.after,Region.binds .any e=true->S e.on
theorem i2Z{done}:∀{es} {k},k∈CV done es->∃e∈es,Region.binds .any e=true/\(k=e.on\/k∈(done.lookup e.on).getD [])
 |[],k,h=>by cases h
 |e::es,k,h=>by
  simp[CV] at h;cases hb:Region.binds .any e<;>rw[hb] at h<;>simp only[bq_true,bq_false] at h
  ·let⟨e',h1,h2⟩:=i2Z h
   exact⟨e',ZAb _ h1,h2⟩
  ·rcases ZAg.1 h with rfl|h
   ·exact⟨e,ZAk,hb,.inl rfl⟩
   ·rcases ZAc.1 h with h|h
    ·exact⟨e,ZAk,hb,.inr h⟩
    ·let⟨e',h1,h2⟩:=i2Z h
     exact⟨e',ZAb _ h1,h2⟩
theorem rrZ{S}(hc:∀j,S j->pY all S j):∀(l) (k) (done),(∀i,l[i]? =all[k+i]?)->(∀j,pY all S j->∀m∈(done.lookup j).getD [],S m)->
 ∀j,pY all S j->∀m∈((AH k l done).lookup j).getD [],S m
 |[],k,done,_,hd=>hd
 |o::l,k,done,hl,hd=>by
  refine rrZ hc l (k+1) _ (fun i=>by have:=hl (i+1);grind) fun j hj m hm=> ?_;simp[List.lookup_cons] at hm;cases hk:(j==k)
  ·grind
  ·have:=by simpa using hk
   subst this;simp[e3Z] at hm
   let⟨e,h1,h2,h3⟩:=i2Z hm
   have he:=hj o (by have:=hl 0;simpa using this.symm) e (ZBN.1 h1) h2
   grind
end
section
variable {P : Program} {T : Tbl} {β : Type} {ops : Array Oper}
theorem egZ{ν}{f}{S:Nat->Bool}:∀{l} {b:ν},(∀r∈l,(f r).isSome=true->S r.i=true)->hU f (l.filter fun r=>S r.i) b=hU f l b
 |[],b,_=>rfl
 |r::l,b,h=>by
  have h':=fun x hx=>h x (ZAb _ hx);cases hs:S r.i
  ·rw[ZCV (by simp[hs])];have hn:f r=none:=by
    cases hf:f r with
    |none=>rfl
    |some v=>have:=h r ZAk (by rw[hf];rfl);rw[hs] at this;cases this
   rw[egZ h'];simp[hU,hn]
  ·rw[ZBs (by simp[hs])];exact egZ h'
theorem e5Z{ν}{f}{S:Nat->Bool}:∀{l:List Rc} {b:ν},(∀r∈l,(f r).isSome=true->S r.i=false)->hU f (l.filter fun r=>S r.i) b=b
 |[],b,_=>rfl
 |r::l,b,h=>by
  have h':=fun x hx=>h x (ZAb _ hx);cases hs:S r.i
  ·rw[ZCV (by simp[hs])];exact e5Z h'
  ·rw[ZBs (by simp[hs])];have hn:f r=none:=by
    cases hf:f r with
    |none=>rfl
    |some v=>have:=h r ZAk (by rw[hf];rfl);rw[hs] at this;cases this
   simp[hU,hn];exact e5Z h'
theorem cdZ{ν}{f}:∀{l m} {b:ν},hU f (l++m) b=hU f m (hU f l b)
 |[],m,b=>rfl
 |r::l,m,b=>by simp[hU];exact cdZ
theorem klZ{ν}{f}{S:Nat->Bool}{l1 l2}{r}{b:ν}(hr:S r.i=false)(h1:∀x∈l1,(f x).isSome=true->S x.i=true)(h2:∀x∈l2,(f x).isSome=true->S x.i=false):
 hU f ((l1++r::l2).filter fun r=>S r.i) b=hU f l1 b:=by
 simp_all[cdZ,egZ,e5Z]
theorem gFZ{ν}{f}{S S':Nat->Bool}{l1 l2}{r}{b:ν}(hr:S r.i=false)(hS:S' r.i=true)(hS1:∀x∈l1,S' x.i=S x.i)(hS2:∀x∈l2,S' x.i=S x.i):
 (∀v,f r=some v->(∀x∈l2,(f x).isSome=true->S x.i=false)->hU f ((l1++r::l2).filter fun r=>S' r.i) b=v)/\
 (f r=none->hU f ((l1++r::l2).filter fun r=>S' r.i) b=hU f ((l1++r::l2).filter fun r=>S r.i) b):=by
 have e1:(l1.filter fun r=>S' r.i)=l1.filter fun r=>S r.i:=List.filter_congr fun x hx=>by simp_all
 have e2:(l2.filter fun r=>S' r.i)=l2.filter fun r=>S r.i:=List.filter_congr fun x hx=>by simp_all
 refine⟨fun v hv h2=> ?_,fun hv=> ?_⟩
 ·rw[ZCo,ZBs (by simp[hS]),cdZ,e2]
  simp_all[hU,e5Z]
 ·rw[ZCo,ZBs (by simp[hS]),cdZ,ZCo,cdZ]
  simp_all[hU]
theorem gwZ:∀{l} {k},pX k l=true->∀(i) o,l[i]? =some o->(∀e∈o.after,Region.binds .any e=true->e.on<k+i)/\∀cs b,o.op≠.select cs b
 |[],k,_,i,o,h=>by grind
 |x::l,k,h,i,o,ho=>by
  simp[pX] at h
  let⟨⟨h1,h2⟩,h3⟩:=h
  cases i with
  |zero=>
   simp[ZAO] at ho;subst ho;refine⟨fun e he hb=> ?_,fun cs b hs=>by simp_all⟩;have:∀{es},wD k es=true->∀e∈es,Region.binds .any e=true->e.on<k:=fun{es}=>by
    induction es with
    |nil=>simp_all
    |cons e0 es ih=>
     intro h e he hb;simp[wD,ZBX] at h
     grind
   exact this h1 e (ZBN.2 he) hb
  |succ i=>
   have:=gwZ h3 i o (by simpa using ho);rwa [show k+1+i=k+(i+1) by omega] at this
def KA:Operand->Option Nat
 |.tmp t=>some t
 |.global g=>some (1048576+g)
 |_=>none
theorem hxZ{t}{x}(hx:KA x=some t):∀{l},x∈l->t∈oG l
 |[],h=>by cases h
 |y::l,h=>by
  rcases ZAg.1 h with rfl|h
  ·cases x<;>cases hx<;>exact ZAk
  ·have:=hxZ hx h;cases y<;>first|exact this|exact ZAb _ this
theorem snZ{z}{st:St}{a:Act}(x)(h:∀t,KA x=some t->aF z (st.tm.get t) (a.eval (fA t))):aF z (st.opnd x) (a.eval x):=by
 cases x with
 |tmp t=>
  simp[St.opnd];cases hb:Nat.blt t 1048576
  ·exact .junk _
  ·have:=h t rfl
   simp_all[dyZ]
 |const v=>
  have e:st.opnd (.const v)=({st with tm:=.lf}:St).opnd (.const v):=by cases v<;>rfl
  rw[e];exact dsZ (fun t=>.junk _) (.const v)
 |global g=>have:=h _ rfl;rw[pvZ] at this;exact this
 |func f=>exact dsZ (st:={st with tm:=.lf}) (fun t=>.junk _) (.func f)
theorem hjZ{n}{listed:Array Bool}{i}(hs:listed.size=n)(hi:listed.getD i true=false):
 ((List.range n).filter fun j=> !listed.getD j true).length=((List.range n).filter fun j=> !(listed.setIfInBounds i true).getD j true).length+1:=by
 have hlt:i<n:=by
  rcases ZBy i listed.size with h|h
  ·omega
  ·simp[Array.getElem?_eq_none h] at hi
 have hmem:i∈(List.range n).filter fun j=> !listed.getD j true:=by
  rw[ZBi];exact⟨ZCM.2 hlt,by rw[hi];rfl⟩
 have hnd:((List.range n).filter fun j=> !listed.getD j true).Nodup:=List.Pairwise.sublist List.filter_sublist List.nodup_range;have he:((List.range n).filter fun j=> !(listed.setIfInBounds i true).getD j true)=((List.range n).filter fun j=> !listed.getD j true).erase i:=by
  rw[List.Nodup.erase_eq_filter hnd,List.filter_filter];refine List.filter_congr fun j hj=> ?_;by_cases hij:i=j
  ·subst hij;simp[show i<listed.size by omega]
  ·have:(j !=i)=true:=by simp;exact fun h=>hij h.symm
   rw[this,getD_set_ne true hij];simp
 grind
theorem aH.lay{z}{H}(hH:aH z H){i}{e}(hi:i<aA)(he:dX z i e)(hf:e.fz=true)(hfam:famOk i e):aH z (aS H i (some e)):=by
 have hfd:aA<aC:=by unfold aA aC;omega
 refine⟨fun id e' h=> ?_,fun id id' e1 e2 g sz n g' sz' n' hne h1 h2 f1 f2=> ?_,fun id h=> ?_,hH.sub,fun id e' h=> ?_,fun id h=> ?_,fun id hd h=> ?_,hH.nos⟩
 ·rw[a9Z hi] at h;split at h
  ·simp_all
  ·exact hH.ent id e' h
 ·rw[a9Z hi] at h1 h2;split at h1
  ·simp_all
  ·split at h2
   ·simp_all
   ·exact hH.inj id id' e1 e2 g sz n g' sz' n' hne h1 h2 f1 f2
 ·rw[bxZ hi] at h;exact hH.fresh id (by simp_all)
 ·rw[apZ] at h;split at h
  ·simp_all
  ·exact hH.fam id e' h
 ·rw[atZ] at h;by_cases hid:id=i
  ·omega
  ·exact hH.key id (by simp_all)
 ·rw[atZ] at h;have:rt id≠i:=by
   unfold rt;rw[ZAN hd];omega
  exact hH.dyn id hd (by simp_all)
theorem aH.refz{z z3}{H H1 H3}(kp:Kp z z3)(hH:aH z H)(h3:aH z3 H3):∀{F},(∀i∈F,∃b,i<aA/\aG H1 i=some ⟨true,b⟩/\aG H i=some ⟨true,b⟩)->aH z3 (fH H3 (nV H1 F))
 |[],_=>h3
 |i::F,h=>by
  have ih:=aH.refz kp hH h3 fun j hj=>h j (ZAb _ hj)
  let⟨b,q1,q2,q3⟩:=h i ZAk
  unfold nV;rw[ajZ q2];rw[q2];refine ih.lay q1 ?_ rfl (hH.fam i _ q3);have he:=hH.ent i ⟨true,b⟩ (by simp_all[aqZ]);refine he.kp kp fun g sz n hρ=> ?_;unfold dX at he;rw[hρ] at he;exact⟨kp.block g he.1 (he.2.2.1 rfl),fun hC=>absurd (hH.sub g hC) (he.2.2.1 rfl)⟩
def J(z0:Z)(N:Nat)(L:List (Nat×AV))(ops:Array Oper)(recs:List Rc)(st:St)(listed:Array Bool)(a:Act)(w:World):Prop:=
 ∃z H,z.w=w/\Nx z0 z/\(∀id,¬z.D id)/\aH z H/\(∀id,hU (Rc.hpE id) (recs.filter fun r=>listed.getD r.i false) (kC st.hp id)=kC H id)/\
  (∀t,aF z (hU (Rc.tmE t) (recs.filter fun r=>listed.getD r.i false) (st.tm.get t)) (a.eval (fA t)))/\(∀p∈L,aF z p.2 (a.eval (fA p.1)))/\a.defers=[]/\(st.nt<=N/\a.tmps.size=N)/\
  listed.size=ops.size/\(∀j,listed.getD j false=true->pY ops.toList (fun j=>listed.getD j false=true) j)
theorem mFZ:∀{ms l},IG ms l=true↔∀m∈ms,m<4\/m+100000∈l
 |[],l=>by simp[IG]
 |m::ms,l=>by
  simp only[IG,ZAF,ZBB,aiZ,mFZ]
  simp_all
theorem rJZ{z0}{N}{L:List (Nat×AV)}{st}{a}{w}{K:St->Option β}{res}{Q}{opsA:List (Oper×Ann)}(hT:∀e∈T,dY P e)(hops:opsA.map (·.1)=ops.toList)
 (hL:∀x∈opsA,∀p∈L,x.1.dst≠some p.1)(hk:∀st' a' w',K st'=some res->Inv z0 N L st' a' w'->Q .normal a' w')
 (hed:pX 0 ops.toList=true)(hnm:zK (nms (AH 0 ops.toList []) ops.toList 0 ops.toList)=true)
 (h:oH P T (oI 0 opsA) ops.toList st [] (fun st' fs=>aP (pW (AH 0 ops.toList []) fs) (K st'))=some res)(hi:Inv z0 N L st a w):
 wpAny P .any ops Q ops.size (Array.replicate ops.size false) a w:=by
 obtain⟨recs,st',t1,t2,t3,t4,t5,t6,t7,t8⟩:=mwZ _ _ _ h;obtain⟨hpair,hK⟩:=adZ.1 t3;have hi0:=hi;obtain⟨_,_,_,_,_,_,_,_,_,hn0⟩:=hi0;rw[ZAo] at hpair;generalize hcl:AH 0 ops.toList []=cl at*;have hnames:recs.Pairwise fun a b=>bA a.i ((cl.lookup b.i).getD [])=true\/uT (a.nm cl ops.toList) (b.nm cl ops.toList)=true:=by
  have:=jLZ hnm;have e:=t7Z (cl:=cl) (all:=ops.toList) t1;rw[hops] at e;rw[e,List.pairwise_map] at this;exact this
 have hfp:(kJ P recs).Pairwise fun a b=>AI cl a b=true:=by
  have:=g4Z hpair;rwa [List.pairwise_reverse] at this
 have hrec:recs.Pairwise fun r1 r2=>r1.go=true->r2.go=true->bA r1.i ((cl.lookup r2.i).getD [])=true\/GX ⟨r1.i,r1.ft,bq (isR P r1.o) [] r1.wr⟩ ⟨r2.i,r2.ft,bq (isR P r2.o) [] r2.wr⟩=false:=by
  clear t1 t2 t3 t4 t5 t6 hpair hnames;have mem:∀{l:List Rc} {r:Rc},r∈l->r.go=true->(⟨r.i,r.ft,bq (isR P r.o) [] r.wr⟩:Fp)∈kJ P l:=fun{l}=>by
   induction l with
   |nil=>simp_all
   |cons x l ih=>
    intro r h hg;simp only[kJ]
    grind
  induction recs with
  |nil=>exact .nil
  |cons x l ih=>
   simp only[kJ] at hfp;refine .cons (fun y hy hx hy'=> ?_) (ih ?_)
   ·rw[ZAN hx] at hfp;have:=(ZA6.1 hfp).1 _ (mem hy hy');simp only[AI,ZBB,ZAj] at this;exact this.symm
   grind
 have hat:∀(i:Nat) r,recs[i]? =some r->r.i=i/\ops[i]? =some r.o:=fun i r hr=>by
  have e:(recs.map fun r=>(r.i,r.o))[i]? =some (r.i,r.o):=by rw[ZAY,hr];rfl
  rw[t1,ZAY,jiZ,Option.map_map] at e;obtain⟨x,hx,hxe⟩:=ZAI.1 e;simp only[Function.comp,ZA3] at hxe;obtain⟨h1,h2⟩:=hxe;refine⟨by omega,?_⟩;have h3:(opsA.map (·.1))[i]? =some r.o:=by rw[ZAY,hx,<-h2];rfl
  simp_all
 have hlen:recs.length=ops.size:=by
  have h1:(recs.map fun r=>(r.i,r.o)).length=opsA.length:=by
   rw[t1,ZAl];have:∀{α:Type} (l:List α) k,(oI k l).length=l.length:=fun l=>by
    induction l<;>grind[oI]
   exact this _ _
  have h2:=congrArg List.length hops;simp at h1 h2;omega
 have hlt:∀{l1:List Rc} {r l2},recs=l1++r::l2->(∀x∈l1,x.i≠r.i)/\(∀x∈l2,x.i≠r.i):=fun{l1 r l2} he=>by
  have hp:recs.Pairwise fun a b=>a.i<b.i:=by
   have:=pxZ (l:=opsA) (k:=0);have h2:((oI 0 opsA).map fun x=>(x.1,x.2.1)).Pairwise fun a b=>a.1<b.1:=List.pairwise_map.2 this;rw[<-t1,List.pairwise_map] at h2;exact h2
  grind[ZB3,Nat.ne_of_lt,ZAk,ZA6]
 have main:∀(aB:Nat) (listed:Array Bool) (a:Act) (w:World),aB=((List.range ops.size).filter fun j=> !listed.getD j true).length->J z0 N L ops recs st listed a w->wpAny P .any ops Q aB listed a w:=by
  have fin:∀(listed:Array Bool) (a:Act) (w:World),Region.ready .any ops listed=[]->J z0 N L ops recs st listed a w->Q .normal a w:=by
   rintro listed a w hr ⟨z,H,rfl,hn,hD,hH,hhp,htm,hLs,hdf,hnt,hsz,hcs⟩;have hall:∀i,i<ops.size->listed.getD i false=true:=by
    intro i;induction i using Nat.strongRecOn with
    |_ i ih=>
     intro hi;cases hb:listed.getD i false
     ·exfalso;have hb':listed.getD i true=false:=by
       have:i<listed.size:=by omega
       simp[this] at hb⊢;exact hb
      have:i∈Region.ready .any ops listed:=by
       rw[mem_ready];refine⟨hb',ops[i],ZAy hi,fun e he hbd=> ?_⟩;have:=(gwZ hed i ops[i] (by rw[ZAs];exact ZAy hi)).1 e he hbd;rw[ZA5] at this;exact ih e.on this (by omega)
      grind
     ·rfl
   have hfil:(recs.filter fun r=>listed.getD r.i false)=recs:=by
    rw[ZBm];intro r hr';obtain⟨i,hi⟩:=ZAP hr';obtain⟨h1,h2⟩:=hat i r hi;rw[h1];exact hall i (ZBE.1 h2).1
   rw[hfil] at hhp htm;refine hk st' a z.w hK ⟨z,rfl,hn,hD,hH.same (fun id=> ?_) (fun id=> ?_),fun t=>t5 t _ _ (htm t),hLs,hdf,by omega,by grind⟩
   ·have:=(t6 id).symm.trans (hhp id);exact congrArg Prod.snd this
   ·have:=(t6 id).symm.trans (hhp id);exact congrArg Prod.fst this
  have step:∀(listed:Array Bool) (a:Act) (w:World) (i:Nat) (next:Act->World->Prop),i∈Region.ready .any ops listed->J z0 N L ops recs st listed a w->
   (∀a' w',J z0 N L ops recs st (listed.setIfInBounds i true) a' w'->next a' w')->wpOp P ops Q i next a w:=by
   rintro listed a w i next hr ⟨z,H,rfl,hn,hD,hH,hhp,htm,hLs,hdf,hnt,hsz,hcs⟩ hnext;obtain⟨hun,o,ho,hedge⟩:=mem_ready.1 hr;have hilt:i<ops.size:=(ZBE.1 ho).1;obtain⟨r,hri⟩:∃r,recs[i]? =some r:=⟨_,ZAC (by omega)⟩;obtain⟨hr1,hr2⟩:=hat i r hri;rw[ho] at hr2;simp only[ZAO] at hr2;subst hr2;obtain⟨l1,l2,hsplit⟩:=List.append_of_mem (ZAG hri);have hmem:=ZAG hri;have hok:=t2 r hmem;obtain⟨u1,u2,u3⟩:=t4 l1 r l2 hsplit;have hSi:listed.getD r.i false=false:=by
    rw[hr1];have:i<listed.size:=by omega
    simp[this] at hun⊢;exact hun
   have hclS:∀j,pY ops.toList (fun j=>listed.getD j false=true) j->∀m∈(cl.lookup j).getD [],listed.getD m false=true:=fun j hj m hm=>by
    rw[<-hcl] at hm;exact rrZ (S:=fun j=>listed.getD j false=true) hcs ops.toList 0 [] (fun i=>by rw[ZA5]) (fun j _ m hm=>by simp at hm) j hj m hm
   have hA:∀m∈(cl.lookup r.i).getD [],listed.getD m false=true:=hclS r.i fun o' ho' e he hb=>by
    rw[hr1,ZAs,ho] at ho';simp only[ZAO] at ho';subst ho';exact hedge e he hb
   have hB:∀x,r.i∈(cl.lookup x).getD []->listed.getD x false=false:=fun x hx=>by
    cases hb:listed.getD x false
    ·rfl
    ·have:=hclS x (hcs x hb) r.i hx;rw[hSi] at this;cases this
   rw[hsplit] at hnames hrec;have hn1:=ZB3.1 hnames;have hf1:=ZB3.1 hrec;have slot1:∀t,(t∈(r.nm cl ops.toList).rd\/r.o.dst=some t)->∀x∈l1,(x.tmE t).isSome=true->listed.getD x.i false=true:=fun t ht x hx hs=>by
    rcases hn1.2.2 x hx r ZAk with h|h
    ·exact hA _ (aiZ.1 h)
    ·exfalso;have hxd:x.o.dst=some t:=by
      unfold Rc.tmE at hs;split at hs
      ·assumption
      ·cases hs
     simp only[uT,ZAF,ZAj,Rc.nm,hxd,eB,JZ] at h;rcases ht with ht|ht
     ·have ht':bA t (tJ ops.toList r.o++oG r.o.op.operands.toList)=true:=aiZ.2 ht;rw[ht'] at h;exact absurd h.1.1 (by simp)
     ·rw[ht] at h;simp[Nat.beq_refl,afZ] at h
   have slot2:∀t,(t∈(r.nm cl ops.toList).rd\/r.o.dst=some t)->∀x∈l2,(x.tmE t).isSome=true->listed.getD x.i false=false:=fun t ht x hx hs=>by
    rcases(ZA6.1 hn1.2.1).1 x hx with h|h
    ·exact hB _ (aiZ.1 h)
    ·exfalso;have hxd:x.o.dst=some t:=by
      unfold Rc.tmE at hs;split at hs
      ·assumption
      ·cases hs
     simp only[uT,ZAF,ZAj,Rc.nm,hxd,eB,JZ] at h;rcases ht with ht|ht
     ·have ht':bA t (tJ ops.toList r.o++oG r.o.op.operands.toList)=true:=aiZ.2 ht;rw[ht'] at h;exact absurd h.1.2 (by simp)
     ·rw[ht] at h;simp[afZ] at h
   have hslot:∀t∈(r.nm cl ops.toList).rd,aF z (r.pre t) (a.eval (fA t)):=fun t ht=>by
    have:=htm t;rw[hsplit,klZ (f:=Rc.tmE t) (S:=fun i=>listed.getD i false) hSi (slot1 t (.inl ht)) (slot2 t (.inl ht))] at this;exact u1 t _ _ this
   have hwant:Region.wanted r.o (yielded ops a.tmps)=r.go:=hok.grd.wanted fun j want d h1 h2=>hslot d (by
    obtain⟨x,h3,h4⟩:=ZAH.1 h2;simp[Rc.nm,tJ,h1,h3,h4])
   have hopn:∀x∈r.o.op.operands,aF z (r.st.opnd x) (a.eval x):=fun x hx=>snZ x fun t ht=>by
    exact hok.le t _ _ (hslot t (by
     simp only[Rc.nm,ZAc];exact .inr (hxZ ht (ZBN.2 hx))))
   have hS':(listed.setIfInBounds i true).getD r.i false=true:=by rw[hr1];simp[show i<listed.size by omega]
   have hSo:∀x,x≠i->(listed.setIfInBounds i true).getD x false=listed.getD x false:=fun x hx=>getD_set_ne false (ZBf hx);obtain⟨v1,v2⟩:=hlt hsplit;have hS1:∀x∈l1,(listed.setIfInBounds i true).getD x.i false=listed.getD x.i false:=fun x hx=>hSo _ (by rw[<-hr1];exact v1 x hx);have hS2:∀x∈l2,(listed.setIfInBounds i true).getD x.i false=listed.getD x.i false:=fun x hx=>hSo _ (by rw[<-hr1];exact v2 x hx);have hcs':∀j,(listed.setIfInBounds i true).getD j false=true->pY ops.toList (fun j=>(listed.setIfInBounds i true).getD j false=true) j:=fun j hj o' ho' e he hb=>by
    refine getD_set_true ?_;by_cases hji:j=i
    ·subst hji;rw[ZAs,ho] at ho';simp only[ZAO] at ho';subst ho';exact hedge e he hb
    ·rw[hSo j hji] at hj;exact hcs j hj o' ho' e he hb
   have hLr:∀p∈L,r.o.dst≠some p.1:=by
    have h3:(recs.map fun r=>(r.i,r.o))[i]? =some (r.i,r.o):=by rw[ZAY,hri];rfl
    rw[t1,ZAY,jiZ,Option.map_map] at h3;obtain⟨x,hx,hxe⟩:=ZAI.1 h3;simp only[Function.comp,ZA3] at hxe;have:=hL x (ZAG hx);rw[hxe.2] at this;exact this
   have hdst:=hok.dst;rw[u3] at hdst;have put:∀(z3:Z) (H3:Hp) (v:Value),Nx z z3->aH z3 H3->aF z3 r.x v->(∀id,hU (Rc.hpE id) (recs.filter fun r=>(listed.setIfInBounds i true).getD r.i false) (kC st.hp id)=kC H3 id)->
    J z0 N L ops recs st (listed.setIfInBounds i true) (a.put r.o.dst v) z3.w:=fun z3 H3 v k1 k2 k3 k4=>by
    have kp:=k1.kp hH.sub;refine⟨z3,H3,rfl,hn.trans k1,fun id=>by rw[k1.dom];exact hD id,k2,k4,fun t=> ?_,fun p hp=> ?_,(csZ _ _ _).2.trans hdf,by rw[(csZ _ _ _).1];exact hnt,by simpa using hsz,hcs'⟩
    ·by_cases ht:r.o.dst=some t
     ·rw[hsplit,(gFZ (f:=Rc.tmE t) (S:=fun i=>listed.getD i false) (S':=fun j=>(listed.setIfInBounds i true).getD j false) hSi hS' hS1 hS2).1 r.x (by simp[Rc.tmE,ht]) (slot2 t (.inr ht)),ht,c6Z (by
       rw[ht] at hdst;simp only[jV,ZAF,ZBX] at hdst;omega) (by
       rw[ht] at hdst;simp only[jV,ZAF,ZBX] at hdst;exact hdst.2)]
      exact k3
     ·rw[hsplit,(gFZ (f:=Rc.tmE t) (S:=fun i=>listed.getD i false) (S':=fun j=>(listed.setIfInBounds i true).getD j false) hSi hS' hS1 hS2).2 (by simp[Rc.tmE,ht]),b8Z ht,<-hsplit];exact(htm t).kp kp
    ·rw[b8Z (hLr p hp)];exact(hLs p hp).kp kp
   have same:r.H2=none->∀id,hU (Rc.hpE id) (recs.filter fun r=>(listed.setIfInBounds i true).getD r.i false) (kC st.hp id)=kC H id:=fun h2 id=>by
    rw[hsplit,(gFZ (f:=Rc.hpE id) (S:=fun i=>listed.getD i false) (S':=fun j=>(listed.setIfInBounds i true).getD j false) hSi hS' hS1 hS2).2 (by simp[Rc.hpE,h2]),<-hsplit];exact hhp id
   unfold wpOp;simp only[ho,hwant];cases hgo:r.go
   ·simp only[ZA7,ZCR];obtain⟨x1,x2⟩:=hok.no hgo;exact hnext _ _ (put z H undef (Nx.refl z) hH (by rw[x1];exact m6Z) (same x2))
   ·simp only[ZCt];refine .inl ?_;have foot1:∀id∈r.ft,∀x∈l1,(x.hpE id).isSome=true->listed.getD x.i false=true:=fun id hid x hx hs=>by
     have hxt:=t2 x (by rw[hsplit];exact ZBc _ hx);have hxg:x.go=true:=by
      cases hxg:x.go
      ·have:=(hxt.no hxg).2;simp[Rc.hpE,this] at hs
      ·rfl
     have hxw:isR P x.o=false/\bA id x.wr=true:=by
      rcases hxt.yes hxg with⟨_,_,y⟩|⟨y,_⟩
      ·simp[Rc.hpE,y] at hs
      ·refine⟨y,?_⟩;unfold Rc.hpE at hs;split at hs
       ·split at hs
        ·assumption
        ·cases hs
       ·cases hs
     rcases hf1.2.2 x hx r ZAk hxg hgo with h|h
     ·exact hA _ (aiZ.1 h)
     ·exfalso;have hmt:tI x.wr r.ft=true:=by
       have:∀{l:List Nat},id∈l->tI l r.ft=true:=fun{l}=>by
        induction l with
        |nil=>intro h;cases h
        |cons y l ih=>
         intro h;simp only[tI,ZBB];rcases ZAg.1 h with rfl|h
         ·exact .inl (aiZ.2 hid)
         ·exact .inr (ih h)
       exact this (aiZ.1 hxw.2)
      simp[GX,hxw.1,hmt] at h
    have foot2:∀id∈r.ft,∀x∈l2,(x.hpE id).isSome=true->listed.getD x.i false=false:=fun id hid x hx hs=>by
     have hxt:=t2 x (by rw[hsplit];exact ZCF _ (ZAb _ hx));have hxg:x.go=true:=by
      cases hxg:x.go
      ·have:=(hxt.no hxg).2;simp[Rc.hpE,this] at hs
      ·rfl
     have hxw:isR P x.o=false/\bA id x.wr=true:=by
      rcases hxt.yes hxg with⟨_,_,y⟩|⟨y,_⟩
      ·simp[Rc.hpE,y] at hs
      ·refine⟨y,?_⟩;unfold Rc.hpE at hs;split at hs
       ·split at hs
        ·assumption
        ·cases hs
       ·cases hs
     rcases(ZA6.1 hf1.2.1).1 x hx hgo hxg with h|h
     ·exact hB _ (aiZ.1 h)
     ·exfalso;have hmt:tI x.wr r.ft=true:=by
       have:∀{l:List Nat},id∈l->tI l r.ft=true:=fun{l}=>by
        induction l with
        |nil=>intro h;cases h
        |cons y l ih=>
         intro h;simp only[tI,ZBB];rcases ZAg.1 h with rfl|h
         ·exact .inl (aiZ.2 hid)
         ·exact .inr (ih h)
       exact this (aiZ.1 hxw.2)
      simp[GX,hxw.1,hmt] at h
    have hfoot:∀id∈r.ft,kC H id=kC r.st.hp id:=fun id hid=>by
     rw[<-hhp id,hsplit,klZ (f:=Rc.hpE id) (S:=fun i=>listed.getD i false) hSi (foot1 id hid) (foot2 id hid)];exact u2 id
    let F:Nat->Bool:=fun id=>bA id r.ft
    have hfoc:aH (z.foc H F) (nV r.st.hp r.ft):=vtZ hH (fun id=>by
     rw[(bWZ _ _ id).1];show _=if bA id r.ft=true then _ else _;split
     ·rename_i hm;exact(congrArg Prod.snd (hfoot id (aiZ.1 hm))).symm
     ·rfl) (fun id=>by
     rw[(bWZ _ _ id).2];show _=(bA id r.ft&&_);cases hm:bA id r.ft
     ·rfl
     ·rw[show aN r.st.hp id=aN H id from(congrArg Prod.fst (hfoot id (aiZ.1 hm))).symm])
    classical
    let r':Operand->AV:=fun x=>if x∈r.o.op.operands then r.st.opnd x else .junk
    have hr':∀x∈r.o.op.operands,r.st.opnd x=r' x:=fun x hx=>(ZAN hx).symm;have hrep:∀x,aF (z.foc H F) (r' x) (a.eval x):=fun x=>by
     by_cases hx:x∈r.o.op.operands
     ·rw[<-hr' x hx];exact(hopn x hx).less rfl rfl fun g h=>h
     ·show aF _ (if x∈r.o.op.operands then r.st.opnd x else .junk) _;rw[ZAM hx];exact .junk _
    rcases hok.yes hgo with⟨_,y1,y2⟩|⟨_,y1,y2,Hr,y3,y4,y5'⟩
    ·rw[pDZ hr'] at y1;refine t4Z (z:=z.foc H F) y1 hfoc hrep fun x v q1 q2=> ?_;simp only[ZAO] at q2;subst q2;exact hnext _ _ (put z H v (Nx.refl z) hH (q1.less rfl rfl fun g h=>h) (same y2))
    ·have y5:=y5'.1;rw[qlZ hr'] at y4;have hidF:∀id,rt id∈r.an.ids->¬(z.foc H F).D id:=fun id hid hd=>by
      rcases hd with hd|⟨_,hd⟩
      ·exact hD id hd
      ·have:F (rt id)=true:=aiZ.2 (by
        unfold Rc.ft rT;rw[e3Z];exact ZBc _ (ZCF _ hid))
       rw[this] at hd;cases hd
     refine tuZ (z:=z.foc H F) hT y4 hfoc hidF (fun hm hdd=>by
      have hmem:r.an.ids.headD 0∈r.an.ids:=by
       cases hids:r.an.ids with
       |nil=>exact absurd hids (y1 hm)
       |cons x l=>simp
      rcases hdd with hdd|⟨hkx,hdd⟩
      ·exact hD _ hdd
      ·have hst:=bMZ y5'.2 (show r.an.ids.headD 0∈r.ft from by
        unfold Rc.ft rT;rw[e3Z];exact ZBc _ (ZCF _ hmem))
       exact hidF _ (by rw[aZZ hst];exact hmem) (.inr ⟨hkx,hdd⟩)) (fun m hm=>by
      rcases mFZ.1 y2 m hm with h4|h4
      ·exact .inl h4
      ·refine .inr fun hdd=> ?_;rcases hdd with hdd|⟨_,hdd⟩
       ·exact hD _ hdd
       ·have hst:=bMZ y5'.2 h4;rw[aZZ hst] at hdd;have:F (m+100000)=true:=aiZ.2 h4;rw[this] at hdd;cases hdd) hrep fun x v H' z' q1 q2 q3 q4=> ?_
     simp only[ZAO,ZA3] at q4;obtain⟨rfl,rfl⟩:=q4;have hkF:∀id,aN H' id=true->F id=true:=fun id hkk=>aiZ.2 (ccZ.1 y5 id (evZ.1 hkk));obtain⟨z3,m1,m2,m3,m4,m5⟩:=merge_ok (H3:=fH (fE H r.ft) H') hH q2 q1 hkF (fun id=>by
      rw[aQZ,aYZ]) (fun id hh=>by
      rw[aIZ,aPZ];rcases hh with hh|hh<;>simp[hh]) (fun id hh=>by
      rw[aIZ,aPZ] at hh;simp only[ZBB] at hh;rcases hh with hh|hh|hh
      ·exact .inl hh
      ·exact .inr (.inr ⟨bMZ y5'.2 (aiZ.1 hh),fun x _=>hD x⟩)
      ·exact .inr (.inl hh))
     rw[<-m1];have m6:=aH.refz (F:=xD r.st.hp r.ft) (m5.kp hH.sub) hH m4 (H1:=r.st.hp) fun i hi=>by
      have hi2:=aiZ.2 hi;rw[(dzZ r.st.hp i _).1,ZAF] at hi2;obtain⟨q5,b,q6⟩:=mcZ hi2.2;exact⟨b,q5,q6,by rw[<-q6];exact congrArg Prod.snd (hfoot i (aiZ.1 hi2.1))⟩
     refine hnext _ _ (put z3 _ v m5 m6 (q3.less m1 m3 fun g h=>by rw[<-m2];exact h) fun id=> ?_);by_cases hm:bA id r.wr=true
     ·have hm':=hm;rw[show r.wr=vJ r.st.hp r.ft from rfl,(dzZ r.st.hp id _).2,ZAF,ZAj] at hm';rw[hsplit,(gFZ (f:=Rc.hpE id) (S:=fun i=>listed.getD i false) (S':=fun j=>(listed.setIfInBounds i true).getD j false) hSi hS' hS1 hS2).1 (true,if aN H' id=true then aG H' id else none) (by simp[Rc.hpE,y3,hm]) (foot2 id (aiZ.1 hm'.1))];unfold kC;rw[aIZ,aQZ,aIZ,aQZ,aPZ,aYZ,(bWZ _ _ id).1,(bWZ _ _ id).2,(dzZ r.st.hp id _).1];simp[hm'.1,hm'.2]
     ·rw[hsplit,(gFZ (f:=Rc.hpE id) (S:=fun i=>listed.getD i false) (S':=fun j=>(listed.setIfInBounds i true).getD j false) hSi hS' hS1 hS2).2 (by simp[Rc.hpE,y3,hm]),<-hsplit];rw[hhp id];have hm':=Bool.eq_false_iff.2 hm;rw[show r.wr=vJ r.st.hp r.ft from rfl,(dzZ r.st.hp id _).2] at hm';unfold kC;rw[aIZ,aQZ,aIZ,aQZ,aPZ,aYZ,(bWZ _ _ id).1,(bWZ _ _ id).2,(dzZ r.st.hp id _).1];cases hft:bA id r.ft
      ·have hk0:aN H' id=false:=by
        cases hk0:aN H' id
        ·rfl
        ·have:=hkF id hk0;rw[show F id=bA id r.ft from rfl,hft] at this;cases this
       simp[hk0]
      ·rw[hft] at hm';have hz:yR r.st.hp id=true:=by simpa using hm'
       obtain⟨_,b,hb⟩:=mcZ hz;have hh:=hfoot id (aiZ.1 hft);simp only[kC,ZA3] at hh;simp[hz,ajZ hb,hh.1,hh.2,hb]
  intro aB;induction aB with
  |zero=>
   intro listed a w hf hj;have hr:Region.ready .any ops listed=[]:=by
    cases hr:Region.ready .any ops listed with
    |nil=>rfl
    |cons i l=>
     have hi:i∈Region.ready .any ops listed:=by rw[hr];exact ZAk
     obtain⟨h1,o,h2,_⟩:=mem_ready.1 hi;have:i∈(List.range ops.size).filter fun j=> !listed.getD j true:=by
      rw[ZBi];exact⟨ZCM.2 (ZBE.1 h2).1,by rw[h1];rfl⟩
     have:=List.length_pos_of_mem this;omega
   exact⟨hr,fin listed a w hr hj⟩
  |succ aB ih=>
   intro listed a w hf hj;refine⟨fun hr=>fin listed a w hr hj,fun i hi=> ?_⟩;refine step listed a w i _ hi hj fun a' w' hj'=>ih _ a' w' ?_ hj';obtain⟨_,_,_,_,_,_,_,_,_,_,_,hsz,_⟩:=hj;have:=hjZ hsz (mem_ready.1 hi).1;omega
 obtain⟨z,rfl,hn,hD,hH,hs,hLs,hdf,hnt,_⟩:=hi;have hempty:(recs.filter fun r=>(Array.replicate ops.size false).getD r.i false)=[]:=by
  rw[List.filter_eq_nil_iff];intro r _;simp[Array.getElem?_replicate];split<;>rfl
 refine main ops.size _ a z.w ?_ ⟨z,st.hp,rfl,hn,hD,hH,fun id=>by rw[hempty];rfl,fun t=>by rw[hempty];exact hs t,hLs,hdf,hnt,by simp,fun j hj=> ?_⟩
 ·have:((List.range ops.size).filter fun j=> !(Array.replicate ops.size false).getD j true)=List.range ops.size:=by
   rw[ZBm];intro j hj;simp[ZCM.1 hj]
  rw[this];simp
 ·exfalso;simp[Array.getElem?_replicate] at hj;split at hj<;>simp at hj
end
theorem hLZ(H):∀(n id),aG (rB H n) id=aG H id/\aN (rB H n) id=(aN H id||(decide (id<n)&&decide (id<aA)))
 |0,id=>by simp[rB]
 |n+1,id=>by
  let⟨q1,q2⟩:=hLZ H n id
  have key:aN H n=true\/aA<=n->(aN H id||(decide (id<n)&&decide (id<aA)))=(aN H id||(decide (id<n+1)&&decide (id<aA))):=fun h=>by
   by_cases hi:id=n
   ·subst hi;rcases h with h|h
    ·simp[h]
    ·simp[show¬id<aA by omega]
   ·have:(id<n+1)↔id<n:=by omega
    simp[this]
  simp[rB];cases hk:aN H n
  ·cases hb:Nat.ble aA n
   ·have hlt:=ZBR.1 fun h=>by rw[ZAi h] at hb;cases hb
    simp[aG,aN];by_cases h:n=id
    ·subst h;simp[hk];refine⟨(avZ hk).symm,?_⟩;simp[hlt]
    ·simp only[ahZ h,ZAD,q1,q2];have:(id<n+1)↔id<n:=by omega
     simp[this]
   ·simp only[Bool.or_true,ZAK,q1,q2];exact⟨trivial,key (.inr (ZBL hb))⟩
  simp_all
theorem dgZ{id}:∀{l},id∈rN l↔id∈l/\aA<=id
 |[]=>by simp[rN]
 |i::l=>by
  simp only[rN];by_cases h:aA<=i
  ·rw[ZAi h,ZAK,ZAg,dgZ]
   grind
  ·rw[fsZ h,ZAD,dgZ]
   grind
theorem fUZ{id}:∀{l},id∈jU l↔id∈l/\id<aA
 |[]=>by simp[jU]
 |i::l=>by
  simp only[jU];by_cases h:aA<=i
  ·rw[ZAi h,ZAK,fUZ]
   grind
  ·rw[fsZ h,ZAD,ZAg,fUZ]
   grind
theorem fHZ{i k}:∀{l},(i,k)∈yY l↔i=k/\k∈l
 |[]=>by simp[yY]
 |x::l=>by
  simp[yY,fHZ];constructor
  ·rintro(⟨rfl,rfl⟩|⟨rfl,h⟩)
   ·exact⟨rfl,.inl rfl⟩
   ·exact⟨rfl,.inr h⟩
  ·rintro⟨rfl,rfl|h⟩
   ·exact .inl ⟨rfl,rfl⟩
   ·exact .inr ⟨rfl,h⟩
theorem vhZ{sh:dM}{H}{vs}{i k}(h:(i,k)∈sh.ps H vs):k∈aJ sh.s.hs:=by
 rcases ZAc.1 h with h|h
 ·let⟨n,_,q⟩:=jaZ h
  exact(fUZ.1 (ZAG q)).1
 simp_all[dgZ,fHZ]
theorem q6Z{n}:∀{ps},NS n ps=true->∀i k,(i,k)∈ps->i=k\/(n<=i/\n<=k)
 |[],_,i,k,h=>by cases h
 |(a,b)::ps,h,i,k,hm=>by
  simp[NS,ZAm] at h;rcases ZAg.1 hm with hm|hm
  ·simp_all
  ·exact q6Z h.2 i k hm
theorem qTZ{z}{f}:∀{ks} {vs} {t},(∀k,aF z (t.get k) (f k))->aR z vs (ks.map f)->∀k,aF z ((NT ks vs t).get k) (f k)
 |[],vs,t,h,_,k=>by cases vs<;>exact h k
 |k0::ks,[],t,h,_,k=>h k
 |k0::ks,a::vs,t,h,hv,k=>by
  refine qTZ (fun j=> ?_) hv.tail k;by_cases hj:j=k0
  ·subst hj;rcases(Tr.get_put t j a j).2 with e|e<;>rw[e]
   ·exact hv.head
   ·exact .junk _
  ·rw[(Tr.get_put t k0 a j).1 hj];exact h j
theorem fBZ:∀(t:Tr) (k),t.keep.get k= .junk\/(t.keep.get k=t.get k/\(t.get k).noRef=true)
 |.lf,k=>.inl rfl
 |.nd l v r,k=>by
  simp[Tr.keep,Tr.get];by_cases h0:k=0
  ·subst h0;simp[ZAK];cases hv:v.noRef
   ·exact .inl rfl
   ·exact .inr ⟨rfl,rfl⟩
  ·simp[ahZ h0];by_cases h1:k%2=1
   ·simp[(afZ _ _).2 h1];exact fBZ l _
   ·simp[ahZ h1];exact fBZ r _
theorem esZ:∀(l) (t:Tr) (k),(k∈l->(t.junk l).get k= .junk)/\(k∉l->(t.junk l).get k=t.get k)
 |[],t,k=>⟨fun h=>(by cases h),fun _=>rfl⟩
 |i::l,t,k=>by
  let⟨h1,h2⟩:=esZ l (t.put i .junk) k
  simp only[Tr.junk];refine⟨fun h=> ?_,fun h=> ?_⟩
  ·by_cases hk:k∈l
   ·exact h1 hk
   ·rw[h2 hk];have:=(ZAg.1 h).resolve_right hk;subst this;rcases(Tr.get_put t k .junk k).2 with e|e<;>exact e
  ·rw[ZAg,not_or] at h;rw[h2 h.2,(Tr.get_put t i .junk k).1 h.1]
theorem f4Z:∀(t:Tr),∃n,∀k,n<=k->t.get k= .junk
 |.lf=>⟨0,fun _ _=>rfl⟩
 |.nd l v r=>by
  let⟨nl,hl⟩:=f4Z l
  let⟨nr,hr⟩:=f4Z r
  refine⟨2*(nl+nr)+3,fun k hk=> ?_⟩;have h0:k≠0:=by omega
  simp[Tr.get,ahZ h0];by_cases h1:k%2=1
  ·simp[(afZ _ _).2 h1];exact hl _ (by omega)
  ·simp[ahZ h1];exact hr _ (by omega)
theorem j3Z{a}(h:a.noRef=true):AV.ids a=[]:=by
 cases a<;>first|rfl|simp_all[AV.noRef]
theorem uLZ{p:Nat->Prop}(h:∃n,p n):∃n,p n/\∀m,p m->n<=m:=by
 let⟨n,hn⟩:=h
 induction n using Nat.strongRecOn<;>grind
section
variable {P : Program} {T : Tbl} {β : Type} {z0 : Z} {N : Nat} {L : List (Nat × AV)}
theorem Inv.sub{L'}{st}{a}{w}(hi:Inv z0 N L' st a w)(h:∀p∈L,p∈L'):Inv z0 N L st a w:=by
 obtain⟨z,rfl,hn,hD,hH,hs,hLs,hdf,hnt,h0⟩:=hi;exact⟨z,rfl,hn,hD,hH,hs,fun p hp=>hLs p (h p hp),hdf,hnt,h0⟩
theorem nbZ:∀{ps} {i i' k},(jG ps).Nodup->(i,k)∈ps->(i',k)∈ps->i=i'
 |(a,b)::ps,i,i',k,hn,h,h'=>by
  simp[jG] at hn;have hm:∀{ps} {x},(x,k)∈ps->k∈jG ps:=fun{ps}=>by
   induction ps with
   |nil=>intro x h;cases h
   |cons p ps ih=>
    intro x h;rcases ZAg.1 h with rfl|h
    ·exact ZAk
    ·exact ZAb _ (ih h)
  rcases ZAg.1 h with e|q<;>rcases ZAg.1 h' with e'|q'
  ·injection e with e1 e2;injection e' with e3 e4;rw[e1,e3]
  ·injection e with e1 e2;exact absurd (e2▸hm q') hn.1
  ·injection e' with e1 e2;exact absurd (e2▸hm q) hn.1
  ·exact nbZ hn.2 q q'
theorem jfZ{st:St}{sh}{K}{r:β}{a:Act}{base:Tr}{nt n0:Nat}{z:Z}(h:st.prj sh K=some r)(hn:Nx z0 z)(hD:∀id,¬z.D id)(hH:aH z st.hp)(hs:∀t,aF z (st.tm.get t) (a.eval (fA t)))(hLs:∀p∈L,aF z p.2 (a.eval (fA p.1)))
 (h0':∀id,id<aC->z0.ρ id≠.no->id<st.n0)(hLn:∀p∈L,AV.ids p.2=[])
 (hb:∀k,base.get k= .junk\/(k,base.get k)∈L)(h0:∀id,id<aC->z0.ρ id≠.no->id<n0):∃t z2,K t=some r/\z2.w=z.w/\Nx z0 z2/\(∀id,¬z2.D id)/\aH z2 (sh.inj base nt n0 t).hp/\(∀k,aF z2 ((sh.inj base nt n0 t).tm.get k) (a.eval (fA k)))/\(∀p∈L,aF z2 p.2 (a.eval (fA p.1)))/\
  z2.M=z.M/\(∀g,z2.C g->z.C g)/\∀i k,FB (sh.ps st.hp (sh.live.map st.tm.get)) i k=true->z2.ρ k=z.ρ i:=by
 unfold St.prj at h;obtain⟨h1,h2⟩:=adZ.1 h;simp only[ZAF] at h1;have hfix:=q6Z h1.1;have hb0:=eAZ;have hall:=ccZ.1 h1.2;have hdyn:∀id,aC<=id->bA (rt id) (aJ sh.s.hs)=false->z.ρ id= .no:=fun id hd hm=>by
  have hk:aN st.hp (rt id)=false:=by
   cases hk:aN st.hp (rt id)
   ·rfl
   ·have:=(dgZ.1 (hall _ (dgZ.2 ⟨evZ.1 hk,(bOZ hd).1⟩))).1;rw[aiZ.2 this] at hm;cases hm
  refine(hH.fresh id ?_).resolve_right (hD id)
  simp_all[azZ,avZ]
 obtain⟨t,z',k1,k2,k3,k4,k5,k6,k7,k8,k9,k10,k11,k12,k13,k14⟩:=Shp.rco_ok (vals:=sh.live.map fun k=>a.eval (fA k)) (fun k=>if k<n0 then z.ρ k else .no) (fun k h1 h2=>by rw[hH.nos k h1 h2,ite_self]) h2 hH ⟨by simp,fun i x v e1 e2=>by
  grind⟩
 have hρ:∀id,z0.ρ id≠.no->z'.ρ id=z0.ρ id:=fun id hid=>by
  cases hk:bA id (aJ sh.s.hs)
  ·rw[k7 id hk];by_cases hdy:aC<=id
   ·rw[ZAN hdy];exact hn.ext id hid
   ·rw[ZAM hdy,ZAN (h0 id (by omega) hid)];exact hn.ext id hid
  ·obtain⟨id',q1,q2⟩:=k6 id hk;rcases hfix id' id q1 with rfl|⟨_,q4⟩
   ·rw[q2];exact hn.ext id' hid
   ·have:=h0' id (k13 id hk) hid;omega
 let z2:Z:={z' with D:=fun _=>False}
 have hn2:Nx z0 z2:=⟨by show z'.w.os=_;rw[k2];exact hn.os,⟨by show z'.w.tape=_;rw[k2];exact hn.tape.1,by show _<=z'.w.drawn;rw[k2];exact hn.tape.2⟩,by show z'.w.output=_;rw[k2];exact hn.output,by show _<=z'.w.heap.size;rw[k2];exact hn.size,
  fun b hb hc=>by show z'.w.heap[b]? =_;rw[k2];exact hn.block b hb hc,fun g hg=>hn.subM g (by rw[<-k3];exact hg),fun g hg=>hn.subC g (k8 g hg),fun g hg hm hc=>by show z'.M g;rw[k3];exact hn.keepM g hg hm hc,hρ,by
   funext id;have h1:¬z.D id:=hD id;rw[hn.dom] at h1;exact propext ⟨fun h=>h.elim,fun h=>h1 h⟩⟩
 have hL2:∀p∈L,aF z2 p.2 (a.eval (fA p.1)):=fun p hp=>(hLs p hp).rho (z':=z2) k2 k3 (.inl k12) fun id hid=>by rw[hLn p hp] at hid;cases hid
 refine⟨t,z2,k1,k2,hn2,fun _ h=>h,?_⟩;rw[dM.inj_eq];refine⟨?_,?_,hL2,k3,k8,fun i k hp=> ?_⟩
 ·have eq:=hLZ (sh.s.emb t).2 n0;have eqX:∀id,aQ (rB (sh.s.emb t).2 n0) id=aQ (sh.s.emb t).2 id:=fun id=>ctZ (eq _).1;refine⟨fun id e' he=> ?_,fun i i' e e' g sz n g' sz' n' hii p1 p2 m1 m2 p3 p4=> ?_,fun id hid=> ?_,k4.sub,fun i x h=>k4.fam i x (by rw[<-(eq i).1];exact h),fun i h=> ?_,fun i _ _ h=>h,k4.nos⟩
  ·rw[eqX id] at he;exact(k4.ent id e' he).rho rfl rfl (.inl (.eq rfl)) rfl (fun _ _=>rfl) fun _ _ _ _ _ h=>h
  ·rw[eqX i] at p1;rw[eqX i'] at p2;exact k4.inj i i' _ _ g sz n g' sz' n' hii p1 p2 m1 m2 p3 p4
  ·left;show z'.ρ id= .no;by_cases hdy:aC<=id
   ·have hr:=(bOZ hdy).1;have hkk:aN (rB (sh.s.emb t).2 n0) (rt id)=aN (sh.s.emb t).2 (rt id):=by
     rw[(eq (rt id)).2];simp[show¬rt id<aA by omega]
    rw[dGZ (H:=(sh.s.emb t).2) (eq _).1 hkk] at hid;cases hm:bA (rt id) (aJ sh.s.hs)
    ·have hmi:bA id (aJ sh.s.hs)=false:=by
      cases hc:bA id (aJ sh.s.hs)
      ·rfl
      ·have:=k13 id hc;omega
     rw[k7 id hmi,ZAN hdy];exact hdyn id hdy hm
    ·refine(k4.fresh id hid).resolve_right fun hD'=> ?_;rw[k10,hm] at hD';cases hD'.1
   ·by_cases hf:aA<=id
    ·exact k4.nos id hf (by omega)
    ·rw[aDZ (by omega),(eq id).2] at hid;simp only[ZBb,ZCG,ZBG] at hid;rw[k11] at hid;rw[k7 id hid.1,ZAM hdy,ZAM (by omega)]
  ·rw[(eq i).2] at h;simp only[ZBB,ZAF,ZAt] at h;rcases h with h|h
   ·exact k4.key i h
   ·omega
 ·refine qTZ (z:=z2) (f:=fun k=>a.eval (fA k)) (fun k=> ?_) (k5.less rfl rfl fun g h=>h);rcases hb k with e|e
  ·rw[e];exact .junk _
  ·exact hL2 _ e
 ·unfold FB at hp;split at hp
  ·rename_i j hj;rw[afZ] at hp;subst hp;have hm:=dMZ hj;have hk:bA j (aJ sh.s.hs)=true:=aiZ.2 (vhZ hm);obtain⟨id',q1,q2⟩:=k6 j hk;have hnd:(jG (sh.ps st.hp (sh.live.map st.tm.get))).Nodup:=by
    unfold Shp.rco at h2;have:=(adZ.1 h2).1;simp only[ZAF] at this;exact cIZ.1 this.1.2.1
   rw[show z2.ρ j=z'.ρ j from rfl,q2,nbZ hnd q1 hm]
  ·cases hp
theorem jOZ{st}{sh}{K}{r:β}{a}{w}{base}{nt n0}(h:st.prj sh K=some r)(hi:Inv z0 N L st a w)(hLn:∀p∈L,AV.ids p.2=[])
 (hb:∀k,base.get k= .junk\/(k,base.get k)∈L)(hnt:nt<=N)(h0:∀id,id<aC->z0.ρ id≠.no->id<n0):∃t,K t=some r/\Inv z0 N L (sh.inj base nt n0 t) a w:=by
 obtain⟨z,rfl,hn,hD,hH,hs,hLs,hdf,hnt',h0'⟩:=hi;obtain⟨t,z2,k1,k2,k3,k4,k5,k6,k7,_⟩:=jfZ h hn hD hH hs hLs h0' hLn hb h0;refine⟨t,k1,z2,k2,k3,k4,k5,k6,k7,hdf,?_,?_⟩
 ·rw[dM.inj_eq];exact⟨hnt,hnt'.2⟩
 simp_all[dM.inj_eq]
theorem Out.on_inl{γ}{base}{nt n0}:∀{rt} {l} {i} {st} {K} {r:γ} {a} {w},Out.mk st rt l i K=some r->Inv z0 N L st a w->(∀p∈L,AV.ids p.2=[])->
 (∀k,base.get k= .junk\/(k,base.get k)∈L)->nt<=N->(∀id,id<aC->z0.ρ id≠.no->id<n0)->∃o,K o=some r/\∀(X) (R:β->Option β),∃st1,Inv z0 N L st1 a w/\Out.on base nt n0 rt l o X R=X i st1
 |rt,[],i,st,K,r,a,w,h,_,_,_,_,_=>by cases rt<;>cases h
 |true,[(j,s)],i,st,K,r,a,w,h,hi,hLn,hb,hnt,h0=>by
  simp[Out.mk] at h;cases hj:Nat.beq j i<;>rw[hj] at h<;>simp only[bq_true,bq_false] at h
  ·cases h
  rw[afZ] at hj;subst hj
  let⟨t,h1,h2⟩:=jOZ h hi hLn hb hnt h0
  exact⟨.inl t,h1,fun X R=>⟨_,h2,rfl⟩⟩
 |false,[(j,s)],i,st,K,r,a,w,h,hi,hLn,hb,hnt,h0=>by
  simp[Out.mk] at h;cases hj:Nat.beq j i<;>rw[hj] at h<;>simp only[bq_true,bq_false] at h
  ·cases h
  rw[afZ] at hj;subst hj
  let⟨t,h1,h2⟩:=jOZ h hi hLn hb hnt h0
  exact⟨t,h1,fun X R=>⟨_,h2,rfl⟩⟩
 |rt,(j,s)::o::l,i,st,K,r,a,w,h,hi,hLn,hb,hnt,h0=>by
  have h':bq (Nat.beq j i) (st.prj s fun t=>K (.inl t)) (Out.mk st rt (o::l) i fun x=>K (.inr x))=some r:=by cases rt<;>exact h
  cases hj:Nat.beq j i<;>rw[hj] at h'<;>simp[bq_false] at h'
  ·let⟨x,h1,h2⟩:=Out.on_inl h' hi hLn hb hnt h0
   refine⟨.inr x,h1,fun X R=> ?_⟩
   let⟨st1,h3,h4⟩:=h2 X R
   exact⟨st1,h3,by cases rt<;>exact h4⟩
  ·rw[afZ] at hj;subst hj
   let⟨t,h1,h2⟩:=jOZ h' hi hLn hb hnt h0
   exact⟨.inl t,h1,fun X R=>⟨_,h2,by cases rt<;>rfl⟩⟩
theorem Out.on_ret{base}{nt n0}{b}{X}{R:β->Option β}:∀{l},Out.on base nt n0 true l (Out.ret l b) X R=R b
 |[]=>rfl
 |[(_,_)]=>rfl
 |(_,_)::o::l=>Out.on_ret (l:=o::l)
theorem Tr.ren_get(f):∀(t:Tr) (k),(t.ren f).get k=AV.ren f (t.get k)
 |.lf,k=>rfl
 |.nd l v r,k=>by
  simp[Tr.ren,Tr.get];cases Nat.beq k 0
  ·cases Nat.beq (k%2) 1
   ·exact Tr.ren_get f r _
   ·exact Tr.ren_get f l _
  ·rfl
theorem cPZ(f):∀(H) (id),aG (oJ f H) id=(aG H id).map (Ent.ren f)/\aN (oJ f H) id=aN H id
 |[],id=>⟨rfl,rfl⟩
 |(i,none)::H,id=>by
  let⟨h1,h2⟩:=cPZ f H id
  simp[oJ,aG,aN];cases Nat.beq i id
  ·exact⟨h1,h2⟩
  ·exact⟨rfl,rfl⟩
 |(i,some e)::H,id=>by
  let⟨h1,h2⟩:=cPZ f H id
  simp[oJ,aG,aN];cases Nat.beq i id
  ·exact⟨h1,h2⟩
  ·exact⟨rfl,rfl⟩
theorem uZZ{old new id k}(h:mZ old new id=some k):(id=old/\k=new)\/(id≠old/\k=id):=by
 unfold mZ at h
 grind[afZ,bq_true,ZAh,ahZ,bq_false]
theorem s0Z{z}{H}{old new}{e}(hH:aH z H)(hg:aG H old=some e)(hk:aN H new=false)(hnl:new<aA)(hol:old<aA)(hd:¬z.D new):
 ∃z',z'.w=z.w/\aH z' (aS (aS (oJ (mZ old new) H) old none) new (some (e.ren (mZ old new))))/\Nx z z'/\∀a v,aF z a v->aF z' (AV.ren (mZ old new) a) v:=by
 have hno:=(hH.fresh new (by simp_all[aDZ])).resolve_right hd;have hne:new≠old:=fun h=>by simp_all[ajZ]
 let z':={z with ρ:=fun i=>if i=new then z.ρ old else z.ρ i}
 have e1:∀i,i≠new->z'.ρ i=z.ρ i:=fun i hi=>ZAM hi;have e2:z'.ρ new=z.ρ old:=ZAN rfl;have hn:Nx z z':=⟨rfl,⟨rfl,ZAL _⟩,rfl,ZAL _,fun _ _ _=>rfl,fun _ h=>.inl h,fun _ h=>.inl h,fun _ _ h _=>h,fun i hi=>e1 i (by grind),rfl⟩;have hf:∀{id k},z.ρ id≠.no->mZ old new id=some k->z'.ρ k=z.ρ id:=fun{id k} hl h=>by
  grind[uZZ]
 have hid:∀i ee,aG H i=some ee->i≠new:=fun i ee h hi=>by simp_all[ajZ]
 have hent:∀i ee,dX z i ee->∀k,z'.ρ k=z.ρ i->dX z' k (ee.ren (mZ old new)):=fun i ee h k hki=>by
  unfold dX at h⊢;rw[hki];cases hr:z.ρ i with
  |no=>simp_all
  |virt=>
   rw[hr] at h;obtain⟨fz,b⟩:=ee;cases b<;>first|exact h.elim|exact h
  |real g sz n=>
   rw[hr] at h;obtain⟨a1,a2,a3,a4⟩:=h;refine⟨a1,a2,a3,a4.ren' (.of hn.ext) ?_⟩;omega
 have hmX:∀i,aQ (oJ (mZ old new) H) i=(aQ H i).map (Ent.ren (mZ old new))/\cQ (oJ (mZ old new) H) i=cQ H i:=fun i=>by
  obtain⟨q1,q2⟩:=cPZ (mZ old new) H (rt i);by_cases hd:aC<=i
  ·rw[a8Z hd,a8Z hd,azZ hd,azZ hd,q1,q2];cases aG H (rt i) with
   |none=>simp_all
   |some e0=>
    simp only[ZB5,ZAA];rw[(flZ e0 _ _).2 (ZAL _),(flZ e0 _ _).1];refine⟨?_,rfl⟩
    grind[pick,aC,ZB5,eBZ]
  ·unfold aQ cQ;rw[ZAM hd,ZAM hd,ZAM hd,ZAM hd];by_cases hf:aA<=i
   ·rw[ZAN hf,ZAN hf,ZAN hf,ZAN hf];exact⟨rfl,rfl⟩
   simp_all[ZAM,aZZ]
 have key:∀i ee,aQ (aS (aS (oJ (mZ old new) H) old none) new (some (e.ren (mZ old new)))) i=some ee->∃j e0,aQ H j=some e0/\ee=e0.ren (mZ old new)/\((i=new/\j=old)\/(i≠new/\i≠old/\j=i)):=fun i ee h=>by
  rw[a9Z hnl] at h;by_cases hi:i=new
  ·rw[ZAN hi] at h;exact⟨old,e,by rw[aqZ hol];exact hg,(ZAh h).symm,.inl ⟨hi,rfl⟩⟩
  ·rw[ZAM hi,a9Z hol] at h;by_cases ho:i=old
   ·rw[ZAN ho] at h;cases h
   ·rw[ZAM ho,(hmX i).1] at h;obtain⟨e0,h1,h2⟩:=ZAI.1 h;exact⟨i,e0,h1,h2.symm,.inr ⟨hi,ho,rfl⟩⟩
 have hb0:=eAZ;have hfR:∀(i) (x),Ab.famOk i x->Ab.famOk i (x.ren (mZ old new)):=fun i x h=>by
  obtain⟨fz,b⟩:=x;cases b<;>exact h
 have hρj:∀i j,((i=new/\j=old)\/(i≠new/\i≠old/\j=i))->z'.ρ i=z.ρ j:=fun i j h=>by
  rcases h with⟨rfl,rfl⟩|⟨h1,_,rfl⟩
  ·exact e2
  ·exact e1 _ h1
 refine⟨z',rfl,⟨fun i ee h=> ?_,fun i i' ee ee' g sz n g' sz' n' hii p1 p2 m1 m2 p3 p4=> ?_,fun i h=> ?_,hH.sub,fun i x h=> ?_,fun i h=> ?_,fun i hdy h=> ?_,fun i h1 h2=>by rw[e1 i (by omega)];exact hH.nos i h1 h2⟩,hn,fun a v h=>h.ren rfl rfl (.inl (.of hn.ext)) fun id k hi hk=>hf (h.live id hi) hk⟩
 ·obtain⟨j,e0,q1,rfl,q3⟩:=key i ee h;exact hent j e0 (hH.ent _ _ q1) i (hρj i j q3)
 ·obtain⟨j,e0,q1,rfl,q3⟩:=key i ee p1;obtain⟨j',e0',q1',rfl,q3'⟩:=key i' ee' p2;rw[hρj i j q3] at p3;rw[hρj i' j' q3'] at p4;have hjj:j≠j':=by
   rcases q3 with⟨rfl,rfl⟩|⟨h1,h2,rfl⟩<;>rcases q3' with⟨rfl,rfl⟩|⟨h1',h2',rfl⟩
   ·exact absurd rfl hii
   ·exact ZBf h2'
   ·exact h2
   ·exact hii
  have rr:∀{i j},((i=new/\j=old)\/(i≠new/\i≠old/\j=i))->Ro j->Ro i:=fun h hr=>by
   rcases h with⟨_,rfl⟩|⟨_,_,rfl⟩
   ·exact absurd hr (bSZ hol)
   ·exact hr
  exact fun p5=>hH.inj j j' e0 e0' g sz n g' sz' n' hjj q1 q1' m1 m2 p3 p4 fun h=>p5 ⟨rr q3 h.1,rr q3' h.2⟩
 ·rw[bxZ hnl,bxZ hol,(hmX i).2] at h;simp only[ZBb,ZBG] at h;rw[e1 i h.1];exact hH.fresh i h.2.2
 ·rw[apZ] at h;by_cases hi:i=new
  ·rw[ZAN hi] at h;injection h with h;subst h;subst hi;exact hfR _ _ ((hH.fam old e hg).other hol i hnl e.fz)
  ·rw[ZAM hi,apZ] at h;by_cases ho:i=old
   ·rw[ZAN ho] at h;cases h
   ·rw[ZAM ho,(cPZ _ H i).1] at h;obtain⟨e0,h1,rfl⟩:=ZAI.1 h;exact hfR _ _ (hH.fam i e0 h1)
 ·rw[atZ,atZ,(cPZ _ H i).2] at h;simp only[ZBB,ZAt] at h;rcases h with rfl|rfl|h
  ·omega
  ·omega
  ·exact hH.key i h
 ·rw[atZ,atZ,(cPZ _ H _).2] at h;simp only[ZBB,ZAt] at h;have:=(bOZ hdy).1;refine hH.dyn i hdy ?_;rcases h with h|h|h
  ·omega
  ·omega
  ·exact h
theorem aH.reent{z}{H}{id}{b0 b}(hH:aH z H)(hid:id<aA)(hg:aG H id=some ⟨false,b0⟩)(hb:dX z id ⟨false,b0⟩->dX z id ⟨false,b⟩)(hf:Ab.famOk id ⟨false,b⟩):aH z (aS H id (some ⟨false,b⟩)):=by
 have hu:=Upd.stat hid hg hf;have hgX:aQ H id=some ⟨false,b0⟩:=by rw[aqZ hid];exact hg
 refine⟨fun i e hi=> ?_,fun i i' e e' a sa na a' sa' na' hii h1 h2 m1 m2 h3 h4=> ?_,fun i hi=>hH.fresh i (hu.K i hi),hH.sub,fun i x h=>(hu.fam i x h).elim (hH.fam i x) fun h=>h,fun i h=>hH.key i (hu.key i h),fun i hd h=>hH.dyn i hd (hu.key _ h),hH.nos⟩
 ·rw[hu.X] at hi;by_cases h:i=id
  ·subst h;rw[ZAN rfl] at hi;cases hi;exact hb (hH.ent _ _ hgX)
  ·rw[ZAM h] at hi;exact hH.ent _ _ hi
 ·rw[hu.X] at h1 h2;have q:∀j ee,(if j=id then some (⟨false,b⟩:Ent) else aQ H j)=some ee->ee.fz=false->∃ee',aQ H j=some ee'/\ee'.fz=false:=fun j ee hj hf=>by
   grind
  let⟨e1,q1,f1⟩:=q _ _ h1 m1
  let⟨e2,q2,f2⟩:=q _ _ h2 m2
  exact hH.inj i i' _ _ _ _ _ _ _ _ hii q1 q2 f1 f2 h3 h4
theorem n6Z{t:Ty}(h:t.unref= .byte):t= .byte:=by
 cases t<;>simp[Ty.unref] at h⊢
theorem qLZ{z}{id}{e}{t}{l}(h:dX z id ⟨false,.rows e t.unref l⟩):dX z id ⟨false,.rows e t (l.map (bY t))⟩:=by
 unfold dX at h⊢;cases hρ:z.ρ id with
 |no=>simp_all
 |virt=>
  rw[hρ] at h;obtain⟨rfl,h2⟩:=h;rw[a4Z] at h2;exact⟨rfl,h2⟩
 |real g sz n=>
  rw[hρ] at h
  let⟨h1,h2,h3,cs,fr,a1,a2,a3,a4,a5,a6,a7⟩:=h
  rw[a4Z] at a5 a6;refine⟨h1,h2,h3,cs,fr,a1,a2.imp (fun h=>h) (fun h=>⟨n6Z h.1,h.2⟩),a3,by rw[ZAl];exact a4,by rw[ZAl];exact a5,a6,fun i x hx=> ?_⟩;rw[ZAY] at hx;obtain⟨y,hy,rfl⟩:=ZAI.1 hx
  let⟨u,b1,b2⟩:=a7 i y hy
  rw[a4Z] at b2;exact⟨u,eDZ b1,b2⟩
theorem aH.newFam{z}{H}{f}{e}{s}(hH:aH z H)(hD:∀id,¬z.D id)(hk:aN H (bB f)=false)(hs:s.noRef=true)(hc:0<s.cells):aH z (aS H (bB f) (some ⟨false,.fam e s []⟩)):=by
 have hX:∀i,aQ (aS H (bB f) (some ⟨false,.fam e s []⟩)) i=aQ H i:=fun i=>by
  by_cases hi:∃k,i=enc f k
  ·obtain⟨k,rfl⟩:=hi;rw[(bIZ H f _ 0).1 k,cKZ,avZ hk]
   rfl
  simp_all[bIZ]
 refine⟨fun i ee h=>hH.ent i ee (by simp_all),fun i i' ee ee' g sz n g' sz' n' hii p1 p2 m1 m2 p3 p4=>hH.inj i i' ee ee' g sz n g' sz' n' hii (by simp_all) (by simp_all) m1 m2 p3 p4,fun i h=> ?_,hH.sub,fun i x h=> ?_,fun i h=> ?_,fun i _ _=>hD i,hH.nos⟩
 ·by_cases hi:∃k,i=enc f k
  ·obtain⟨k,rfl⟩:=hi;refine hH.fresh _ ?_
   simp_all[azZ,ckZ,dVZ,avZ]
  ·rw[(cbZ H f _ i).2 fun k h=>hi ⟨k,h⟩] at h;exact hH.fresh i h
 ·rw[apZ] at h;by_cases hi:i=bB f
  ·rw[ZAN hi] at h;injection h with h;subst h;rw[hi];exact⟨(bVZ f).1,(bVZ f).2,hs,hc,rfl⟩
  ·rw[ZAM hi] at h;exact hH.fam i x h
 ·rw[atZ] at h;simp only[ZBB,ZAt] at h;rcases h with rfl|h
  ·grind[bVZ]
  ·exact hH.key i h
theorem grZ{β}{g}{st}{K}{r:β}(h:xE P g st K=some r):∃st',zL P g st=some st'/\K st'=some r:=by
 cases g with
 |pureCell b o=>
  unfold xE at h;unfold zL;dsimp at h⊢;split at h
  ·split at h
   ·rw[ghZ] at h
    let⟨⟨x,H'⟩,h1,h2⟩:=agZ.1 h
    rw[h1];simp at h2⊢;split at h2
    ·exact⟨_,rfl,h2⟩
    ·cases h2
   ·exact⟨_,rfl,h⟩
  ·exact⟨_,rfl,h⟩
 |opn k m=>
  unfold xE at h;unfold zL;dsimp at h⊢;cases hb:Nat.blt m 10<;>rw[hb] at h<;>simp only[bq_true,bq_false] at h⊢
  ·rw[mxZ] at h
   let⟨x,h1,h2⟩:=agZ.1 h
   rw[h1];exact⟨_,rfl,h2⟩
  ·cases h
 |_=>exact agZ.1 h
theorem niZ{g}{st st'}{a}{w}(h:zL P g st=some st')(hi:Inv z0 N L st a w)(_hL:∀k,((∃e id,g= .ownNil k e id)\/g= .pure k)->∀p∈L,p.1≠k)(hLn:∀p∈L,AV.ids p.2=[]):Inv z0 N L st' a w:=by
 obtain⟨z,rfl,hn,hD,hH,hs,hLs,hdf,hnt,h0⟩:=hi;unfold zL at h;split at h
 ·rename_i old new;split at h
  ·rename_i e hg;cases hk:(aN st.hp new||Nat.ble aA new||Nat.ble aA old)<;>rw[hk] at h<;>simp only[bq_true,bq_false] at h
   ·simp only[ZAO] at h;subst h;simp only[ZBb] at hk;have hlow:∀{n},Nat.ble aA n=false->n<aA:=fun{n} h=>ZBR.1 fun h'=>by rw[ZAi h'] at h;cases h
    obtain⟨z',q1,q2,q3,q4⟩:=s0Z hH hg hk.1.1 (hlow hk.1.2) (hlow hk.2) (hD new);have kp:=q3.kp hH.sub;refine⟨z',q1,hn.trans q3,fun id=>by rw[q3.dom];exact hD id,q2,fun t=> ?_,fun p hp=>(hLs p hp).kp kp,hdf,hnt,h0⟩;show aF z' ((st.tm.ren (mZ old new)).get t) _;rw[Tr.ren_get];exact q4 _ _ (hs t)
   ·cases h
  grind
 ·rename_i k;obtain⟨⟨x,H'⟩,h1,h2⟩:=ZAI.1 h;subst h2;obtain⟨z',q1,q2,q3,q4,q5⟩:=f1Z hH h1 (hs k);have kp:=q3.kp hH.sub;refine⟨z',q1,hn.trans q3,fun id=>by rw[q3.dom];simp_all,q2,fun t=> ?_,fun p hp=>(hLs p hp).kp kp,hdf,hnt,h0⟩;show aF z' ((st.tm.put k x).get t) _;by_cases ht:t=k
  ·subst ht;rcases(Tr.get_put st.tm t x t).2 with e|e<;>rw[e]
   ·omega
   ·exact .junk _
  ·rw[(Tr.get_put st.tm k x t).1 ht];exact(hs t).kp kp
 ·rename_i k;simp only[ZAO] at h;subst h;obtain⟨z',q1,q2,q3,q4⟩:=qgZ (st.tm.get k) hH;have kp:=q3.kp hH.sub;exact⟨z',q1,hn.trans q3,fun id=>by rw[q3.dom];simp_all,q2,fun t=>(hs t).kp kp,fun p hp=>(hLs p hp).kp kp,hdf,hnt,h0⟩
 ·rename_i id;simp only[ZAO] at h;subst h;obtain⟨z',q1,q2,q3,q4⟩:=m8Z id hH;have kp:=q3.kp hH.sub;exact⟨z',q1,hn.trans q3,fun id=>by rw[q3.dom];simp_all,q2,fun t=>(hs t).kp kp,fun p hp=>(hLs p hp).kp kp,hdf,hnt,h0⟩
 ·rename_i b o;split at h
  ·rename_i c hg;split at h
   ·rename_i x hc;split at h
    ·rename_i y H' hp;split at h
     ·rename_i c' hg';simp only[ZAO] at h;subst h;have hblow:=hH.fam b _ hg;have hb0:=hH.ent b _ (by rw[aqZ hblow];exact hg);unfold dX at hb0;cases hρ:z.ρ b with
      |no=>rw[hρ] at hb0;exact hb0.elim
      |virt=>rw[hρ] at hb0;exact hb0.elim
      |real g sz n=>
       rw[hρ] at hb0;obtain⟨_,_,_,cs,e',fr,a1,a2,a3,⟨a4,an⟩,a5,a6⟩:=hb0;have ho:=(ZAB.1 hc).1;obtain⟨v,hv⟩:∃v,cs[o]? =some v:=⟨_,ZAy (by omega)⟩;obtain⟨z1,p1,p2,p3,p4,p5⟩:=f1Z hH hp (a5 o x v hc hv);have kp:=p3.kp hH.sub;have hρ1:z1.ρ b= .real g sz n:=by rw[p4];exact hρ
       obtain⟨r1,r2⟩:=p2.write (b:=.vars (c.set o y)) hg' hρ1 rfl ⟨rfl,ZAL _⟩ rfl rfl (fun _ _=>rfl) (fun _=>by
        refine⟨cs,e',fr,by rw[p1];exact a1,a2,a3,⟨by simpa using a4,an⟩,fun i x' v' q1 q2=> ?_,a6⟩;rw[List.getElem?_set] at q1;split at q1
        ·rename_i hoi;subst hoi;rw[hv] at q2;simp only[ZAO] at q2;subst q2;have:=by simpa[ho] using q1
         subst this;exact p5
        ·exact(a5 i x' v' q1 q2).kp kp)
       exact⟨z1,p1,hn.trans p3,fun id=>by rw[p3.dom];exact hD id,r1,fun t=>(hs t).kp kp,fun p hp=>(hLs p hp).kp kp,hdf,hnt,h0⟩
     grind
    ·simp only[ZAO] at h;subst h;exact⟨z,rfl,hn,hD,hH,hs,hLs,hdf,hnt,h0⟩
   ·simp only[ZAO] at h;subst h;exact⟨z,rfl,hn,hD,hH,hs,hLs,hdf,hnt,h0⟩
  ·simp only[ZAO] at h;subst h;exact⟨z,rfl,hn,hD,hH,hs,hLs,hdf,hnt,h0⟩
 ·rename_i k e id;split at h
  ·rename_i hq;obtain⟨u,h1,h2⟩:=agZ.1 h;cases hk:(aN st.hp id||Nat.ble aA id)<;>rw[hk] at h2<;>simp only[bq_true,bq_false] at h2
   ·simp only[ZAO] at h2;subst h2;simp only[ZBb] at hk;have hlow:=ZBR.1 fun h'=>by rw[ZAi h'] at hk;cases hk.2
    obtain⟨z1,p1,p2,p3,p4⟩:=hH.newV ⟨hk.1,hlow⟩ (hD id) (b:=.rows e u []) ⟨rfl,(dmZ h1).2.1⟩;have kp:=p3.kp hH.sub;have hv:=hs k;rw[hq] at hv;have hv:=hv.v.opq.1;refine⟨z1,p1,hn.trans p3,fun id=>by rw[p3.dom];exact hD id,p2,fun t=> ?_,fun p hp=>(hLs p hp).kp kp,hdf,hnt,h0⟩;by_cases ht:t=k
    ·subst ht;show aF z1 ((st.tm.put t (.slf u.cells id)).get t) _;rcases(Tr.get_put st.tm t (.slf u.cells id) t).2 with e|e<;>rw[e]
     ·rw[hv];exact .slfV _ _ _ p4
     ·exact .junk _
    ·show aF z1 ((st.tm.put k (.slf u.cells id)).get t) _;rw[(Tr.get_put st.tm k (.slf u.cells id) t).1 ht];exact(hs t).kp kp
   simp_all
  ·simp only[ZAO] at h;subst h;exact⟨z,rfl,hn,hD,hH,hs,hLs,hdf,hnt,h0⟩
 ·rename_i b o e id;split at h
  ·rename_i c hg;split at h
   ·rename_i hc;obtain⟨u,h1,h2⟩:=agZ.1 h;cases hk:(aN st.hp id||Nat.ble aA id)<;>rw[hk] at h2<;>simp only[bq_true,bq_false] at h2
    ·simp only[ZAO] at h2;subst h2;simp only[ZBb] at hk;have hlow:=ZBR.1 fun h'=>by rw[ZAi h'] at hk;cases hk.2
     replace hk:=hk.1
     obtain⟨z1,p1,p2,p3,p4⟩:=hH.newV ⟨hk,hlow⟩ (hD id) (b:=.rows e u []) ⟨rfl,(dmZ h1).2.1⟩;have kp:=p3.kp hH.sub;have hbi:b≠id:=fun h=>by subst h;rw[ajZ hg] at hk;cases hk
     have hg1:aG (aS st.hp id (some ⟨false,.rows e u []⟩)) b=some ⟨false,.vars c⟩:=by rw[apZ,ZAM hbi];exact hg
     have hblow:b<aA:=hH.fam b _ hg;have hb0:=p2.ent b _ (by rw[aqZ hblow];exact hg1);have hsame:∀H1 H2,H1=aS (aS st.hp b (some ⟨false,.vars (c.set o (.slf u.cells id))⟩)) id (some ⟨false,.rows e u []⟩)->H2=aS (aS st.hp id (some ⟨false,.rows e u []⟩)) b (some ⟨false,.vars (c.set o (.slf u.cells id))⟩)->
      (∀i,aG H1 i=aG H2 i)/\∀i,aN H1 i=aN H2 i:=by
      rintro _ _ rfl rfl;refine⟨fun i=> ?_,fun i=> ?_⟩
      ·simp only[apZ];by_cases h1:i=id
       ·subst h1;simp[ZBf hbi]
       ·simp[h1]
      ·simp only[atZ];cases decide (i=id)<;>cases decide (i=b)<;>rfl
     obtain⟨s1,s2⟩:=hsame _ _ rfl rfl;unfold dX at hb0;cases hρ:z1.ρ b with
     |no=>rw[hρ] at hb0;exact hb0.elim
     |virt=>rw[hρ] at hb0;exact hb0.elim
     |real g sz n=>
      rw[hρ] at hb0;obtain⟨_,_,_,cs,e',fr,a1,a2,a3,⟨a4,an⟩,a5,a6⟩:=hb0;obtain⟨r1,r2⟩:=p2.write (w':=z1.w) (b:=.vars (c.set o (.slf u.cells id))) hg1 hρ rfl ⟨rfl,ZAL _⟩ rfl rfl (fun _ _=>rfl) (fun _=>by
       refine⟨cs,e',fr,a1,a2,a3,⟨by simpa using a4,an⟩,fun i x v q1 q2=> ?_,a6⟩;rw[List.getElem?_set] at q1;split at q1
       ·rename_i hoi;subst hoi;split at q1
        ·simp only[ZAO] at q1;subst q1;have:=a5 o _ v hc q2;obtain rfl:=this.v.opq.1;exact .slfV _ _ _ p4
        ·cases q1
       ·exact a5 i x v q1 q2)
      exact⟨z1,p1,hn.trans p3,fun id=>by rw[p3.dom];exact hD id,r1.same s1 s2,fun t=>(hs t).kp kp,fun p hp=>(hLs p hp).kp kp,hdf,hnt,h0⟩
    ·cases h2
   ·simp only[ZAO] at h;subst h;exact⟨z,rfl,hn,hD,hH,hs,hLs,hdf,hnt,h0⟩
  ·simp only[ZAO] at h;subst h;exact⟨z,rfl,hn,hD,hH,hs,hLs,hdf,hnt,h0⟩
 ·rename_i f e s;cases hk:(aN st.hp (bB f)|| !s.noRef||Nat.beq s.cells 0)<;>rw[hk] at h<;>simp only[bq_true,bq_false] at h
  ·simp only[ZAO] at h;subst h;simp only[ZBb,Bool.not_eq_false'] at hk;have hc:0<s.cells:=Nat.pos_of_ne_zero fun h=>by rw[(afZ _ _).2 h] at hk;cases hk.2
   exact⟨z,rfl,hn,hD,hH.newFam hD hk.1.1 hk.1.2 hc,hs,hLs,hdf,hnt,h0⟩
  ·cases h
 ·rename_i k f;split at h
  ·rename_i e s ms hg;obtain⟨⟨x,H'⟩,h1,h2⟩:=ZAI.1 h;subst h2;obtain⟨z',q1,q2,q3,q5⟩:=lCZ hH h1 (hs k);have kp:=q3.kp hH.sub;refine⟨z',q1,hn.trans q3,fun id=>by rw[q3.dom];exact hD id,q2,fun t=> ?_,fun p hp=>(hLs p hp).kp kp,hdf,hnt,h0⟩;show aF z' ((st.tm.put k x).get t) _;by_cases ht:t=k
   ·subst ht;rcases(Tr.get_put st.tm t x t).2 with e|e<;>rw[e]
    ·exact q5
    ·exact .junk _
   ·rw[(Tr.get_put st.tm k x t).1 ht];exact(hs t).kp kp
  ·cases h
 ·rename_i k m;cases hb:Nat.blt m 10<;>rw[hb] at h<;>simp only[bq_true,bq_false] at h
  ·obtain⟨⟨x,H'⟩,h1,h2⟩:=ZAI.1 h;subst h2;have hm:¬m<10:=fun hc=>by rw[show Nat.blt m 10=true from ZAi hc] at hb;cases hb
   obtain⟨z',Mf,q1,q2,q3,q4,q5,q6⟩:=qvZ hH (.inr (hD _)) h1 (hs k);have q6:=q6 (by omega);subst q6;have kp:=q3.kp hH.sub;refine⟨z',q1,hn.trans q3,fun id=>by rw[q3.dom];exact hD id,q2,fun t=> ?_,fun p hp=>(hLs p hp).kp kp,hdf,hnt,h0⟩;show aF z' ((st.tm.put k x).get t) _;by_cases ht:t=k
   ·subst ht;rcases(Tr.get_put st.tm t x t).2 with e|e<;>rw[e]
    ·exact q5
    ·exact .junk _
   ·rw[(Tr.get_put st.tm k x t).1 ht];exact(hs t).kp kp
  ·cases h
 ·rename_i id t;split at h
  ·rename_i e u l hg;rcases aUZ h with⟨hu,h'⟩|h'
   ·subst hu;have:=ZAh h';subst this;exact⟨z,rfl,hn,hD,hH.reent (hH.fam id _ hg) hg qLZ (show id<aA from hH.fam id _ hg),hs,hLs,hdf,hnt,h0⟩
   ·cases h'
  ·cases h
def AC.of:AC->Code->Prop
 |.skip,c=>c= .skip
 |.ret,c=>c= .ret
 |.exit i,c=>c= .exit i
 |.seq a b,c=>∃x y,c= .seq x y/\a.of x/\b.of y
 |.cond o a b,c=>∃x y,c= .cond o x y/\a.of x/\b.of y
 |.block i a,c=>∃x,c= .block i x/\a.of x
 |.loop _ _ _ a,c=>∃x,c= .loop x/\a.of x
 |.region i ops d,c=>∃arr,c= .region i arr d/\ops.map (·.1)=arr.toList
 |.join _ _ _ a,c=>a.of c
 |.pre _ a,c=>a.of c
 |.sel _ a b,c=>a.of c/\b.of c
 |.post _ a,c=>a.of c
 |.round a r,c=>∃x,c= .loop x/\a.of x/\r.of c
 |.mrange m a,c=>∃arr arr1 arr2 y,c= .seq (.region m.i arr false) (.block m.J (.loop (.seq (.region m.i1 arr1 false) (.seq (.cond m.o .skip (.exit m.J')) (.block m.C (.seq (.region m.i2 arr2 false) y))))))/\
  m.ops.map (·.1)=arr.toList/\m.ops1=arr1.toList/\m.ops2.map (·.1)=arr2.toList/\a.of y
 |.bad _,_=>True
theorem cGZ(l):∀(k) (ops),(rS l k ops).map (·.1)=ops
 |_,[]=>rfl
 |k,o::r=>by simp[rS,cGZ l (k+1) r]
theorem blZ:(c:Code)->(plain c).of c
 |.ret=>rfl
 |.exit i=>rfl
 |.seq a b=>⟨a,b,rfl,blZ a,blZ b⟩
 |.cond o a b=>⟨a,b,rfl,blZ a,blZ b⟩
 |.block i a=>⟨a,rfl,blZ a⟩
 |.region i ops d=>⟨ops,rfl,cGZ _ _ _⟩
 |.skip=>rfl
 |.loop _|.rangeFunc _ _ _ _|.scope _|.label _|.goto _|.refuse _=>trivial
theorem rRZ{c}{p}(h:JS c=some p):c= .seq (.region p.i p.ops false) (.block p.J (.loop (.seq (.region p.i1 p.ops1 false) (.seq (.cond p.o .skip (.exit p.J')) (.block p.C (.seq (.region p.i2 p.ops2 false) p.y)))))):=by
 unfold JS at h
 grind
theorem beZ:(ov:Ov)->(c:Code)->(build ov c).of c
 |.join sh rt outs x,c=>beZ x c
 |.pre g x,c=>beZ x c
 |.sel q x y,c=>⟨beZ x c,beZ y c⟩
 |.post g x,c=>beZ x c
 |.round x y,c=>by cases c<;>first|exact⟨_,rfl,beZ x _,beZ y _⟩|exact blZ _
 |.one x,c=>by cases c<;>first|exact⟨_,rfl,beZ x _⟩|exact blZ _
 |.two x y,c=>by cases c<;>first|exact⟨_,_,rfl,beZ x _,beZ y _⟩|exact blZ _
 |.loop sh rt outs x,c=>by cases c<;>first|exact⟨_,rfl,beZ x _⟩|exact blZ _
 |.reg l,c=>by cases c<;>first|exact⟨_,rfl,cGZ _ _ _⟩|exact blZ _
 |.mr l l2 kt vt mid sh rt outs x,c=>by
  unfold build;split
  ·rename_i p hp;have:=rRZ hp;exact⟨p.ops,p.ops1,p.ops2,p.y,this,cGZ _ _ _,rfl,cGZ _ _ _,beZ x p.y⟩
  ·exact blZ c
 |.leaf,c=>blZ c
theorem Inv.drew{st}{a}{w}(hi:Inv z0 N L st a w):Inv z0 N L st a {w with drawn:=w.drawn+1}:=by
 obtain⟨z,rfl,hn,hD,hH,hs,hLs,hdf,hnt,h0⟩:=hi
 let z1:={z with w:={z.w with drawn:=z.w.drawn+1}}
 have hn1:Nx z z1:=⟨rfl,⟨rfl,ZBd _⟩,rfl,ZAL _,fun _ _ _=>rfl,fun _ h=>.inl h,fun _ h=>.inl h,fun _ _ h _=>h,fun _ _=>rfl,rfl⟩;have kp:=hn1.kp hH.sub;exact⟨z1,rfl,hn.trans hn1,hD,⟨fun id e he=>(hH.ent id e he).kp kp fun _ _ _ _=>⟨rfl,fun h=>h⟩,hH.inj,hH.fresh,hH.sub,hH.fam,hH.key,hH.dyn,hH.nos⟩,fun t=>(hs t).kp kp,fun p hp=>(hLs p hp).kp kp,hdf,hnt,h0⟩
end
section
variable {P : Program}
theorem k3Z(e):∀(l:List MapEntry),(l.map (·.born)).Nodup->e∈l->l.find? (·.born==e.born)=some e
 |x::l,hn,he=>by
  have hn':x.born∉l.map (·.born)/\(l.map (·.born)).Nodup:=List.nodup_cons.1 hn;rcases ZAg.1 he with rfl|h
  ·simp
  ·have hx:(x.born==e.born)=false:=by
    cases hc:x.born==e.born with
    |false=>rfl
    |true=>exact absurd (by rw[ZBz.1 hc];exact ZBM.2 ⟨e,h,rfl⟩) hn'.1
   rw[List.find?_cons,hx];exact k3Z e l hn'.2 h
theorem kJZ{w}{bm r since last}{seen:Array Nat}{es}{e}(hr:w.heap[r]? =some (.mapIter (some bm) since (seen.push e.born) last))(hb:w.heap[bm]? =some (.map es last))(he:e∈es.toList)(hn:(es.toList.map (·.born)).Nodup):
 (Instr.entry (.pointer (some ⟨r,0,none⟩))).run P w= .ok (.tuple #[e.key,e.val]) w:=by
 have hf:es.find? (·.born==e.born)=some e:=by rw[<-Array.find?_toList];exact k3Z e es.toList hn he
 simp only[Instr.entry,getObj,Sem.run_bind,Sem.run,hr,hb,Result.andThen,Array.back?_push,bne_self_eq_false,ZA7,ZCR,hf]
 rfl
theorem rpZ(seen:Array Nat)(es:Array MapEntry)(c0)(hold:∀x∈es.toList,x.born<c0):
 (!seen.isEmpty&& !es.isEmpty&&es.all (fun x=>decide (x.born>=c0)))=false:=by
 cases he:es.isEmpty with
 |true=>simp
 |false=>
  have hall:es.all (fun x=>decide (x.born>=c0))=false:=by
   rw[Bool.eq_false_iff];intro h;rw[Array.all_eq_true_iff_forall_mem] at h;have h0:0<es.size:=by
    rcases ZBq es.size with h0|h0
    ·simp[Array.isEmpty,h0] at he
    ·exact h0
   have hm:=Array.getElem_mem h0;have h1:=h _ hm;have h2:=hold es[0] (by simp);simp at h1;omega
  simp_all
theorem run_next_at{w}{ty}{bm r c}{seen}{es}(hr:w.heap[r]? =some (.mapIter (some bm) c seen c))(hb:w.heap[bm]? =some (.map es c))(hold:∀x∈es.toList,x.born<c):
 ((∀e∈es.toList,seen.contains e.born=true)/\(Instr.next (.pointer (some ⟨r,0,none⟩)) false ty).run P w= .ok (.tuple #[.bool false]) w)\/
 ∃e∈es.toList,seen.contains e.born=false/\∃d,w.drawn<=d/\(Instr.next (.pointer (some ⟨r,0,none⟩)) false ty).run P w= .ok (.tuple #[.bool true,e.key,e.val]) {w with drawn:=d,heap:=w.heap.setIfInBounds r (.mapIter (some bm) c (seen.push e.born) c)}:=by
 simp only[Instr.next,getObj,Sem.run_bind,Sem.run,hr,hb,Result.andThen,rpZ seen es c hold,ZA7,ZCR];have hmem:∀x∈(Array.filter (fun e=> !seen.contains e.born) es).toList,x∈es.toList/\seen.contains x.born=false:=fun x hx=>by simp_all
 have hmem':∀x∈es.toList,seen.contains x.born=false->x∈(Array.filter (fun e=> !seen.contains e.born) es).toList:=fun x hx h=>by simp_all
 generalize Array.filter (fun e=> !seen.contains e.born) es=L at hmem hmem'⊢;have e1:L.filter (fun x=>decide (x.born<c))=L:=Array.filter_eq_self.2 (fun x hx=>by simp_all);have e2:L.filter (fun x=>decide (x.born>=c))=#[]:=by
  rw[Array.filter_eq_empty_iff];intro x hx;have:=hold x (hmem x (by simp_all)).1;simp;omega
 simp only[e1,e2,Array.append_empty];by_cases h0:L.size=0
 ·left;have:=ZBg h0;subst this;refine⟨fun e he=> ?_,?_⟩
  ·cases hc:seen.contains e.born with
   |true=>rfl
   |false=>have:=hmem' e he hc;simp at this
  ·simp[choose,Sem.run,Question.forced]
 ·right;have hne:L.isEmpty=false:=by simp[Array.isEmpty,h0]
  simp only[hne,ZA7,ZCR,Array.empty_append,Array.size_map];have hch:∃(j:Nat) (d:Nat),j<L.size/\w.drawn<=d/\(choose (Question.mapNext L.size)).run P w= .ok j {w with drawn:=d}:=by
   by_cases hf:L.size<=1
   ·exact⟨0,w.drawn,by omega,ZAL _,by simp[choose,Sem.run,Question.forced,hf]⟩
   ·exact⟨_,w.drawn+1,ZCn _ (by omega),ZBd _,by
     simp only[choose,Sem.run,Question.forced,ZAt,hf,ZCR,Question.cut]
     rfl⟩
  obtain⟨j,d,hj,hjd,hrun⟩:=hch;have h1:=hmem L[j] (by simp);refine⟨L[j],h1.1,h1.2,d,hjd,?_⟩;have aS:∀(o'),(setObj r o').run P {w with drawn:=d}= .ok () {w with drawn:=d,heap:=w.heap.setIfInBounds r o'}:=fun o'=>by
   simp only[setObj,Sem.run];rw[hr]
  simp only[hrun,Array.getElem?_map,ZAy hj,ZB5,Sem.run_bind,aS,Result.andThen]
  rfl
theorem jnZ{w}{t k e}{bm c}{es}(ht:P.underlying t=some (.map k e))(hb:w.heap[bm]? =some (.map es c)):
 (Instr.range t (.map (some bm))).run P w= .ok (.pointer (some ⟨w.heap.size,0,none⟩)) (w.alloc (.mapIter (some bm) c #[] c)):=run_range_map w t k e bm es c ht hb
end
end Go.Ab
