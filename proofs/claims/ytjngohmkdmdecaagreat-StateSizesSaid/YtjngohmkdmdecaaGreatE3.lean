/- An evaluator of the model's code over plain values, and its soundness; of no program. -/
import Derived.Test.YtjngohmkdmdecaaGreatE2
import Derived.Orders
import Derived.Laws.IdiomRangeMap
import Derived.LoopN
set_option linter.all false
namespace Go.Ab
theorem ZA4:type_of% @List.pairwise_cons:=@List.pairwise_cons
theorem ZBO:type_of% @Array.getElem?_append_left:=@Array.getElem?_append_left
theorem ZBX:type_of% @Bool.or_eq_false_iff:=@Bool.or_eq_false_iff
theorem ZBb:type_of% @List.mem_append_left:=@List.mem_append_left
theorem ZBw:type_of% @List.pairwise_append:=@List.pairwise_append
theorem ZBx:type_of% @List.filter_cons_of_pos:=@List.filter_cons_of_pos
theorem ZB0:type_of% @List.filter_eq_self:=@List.filter_eq_self
theorem ZB8:type_of% @Bool.and_eq_false_iff:=@Bool.and_eq_false_iff
theorem ZCQ:type_of% @List.length_cons:=@List.length_cons
theorem ZCR:type_of% @Option.getD_some:=@Option.getD_some
theorem ZCS:type_of% @List.mem_range:=@List.mem_range
theorem ZCa:type_of% @List.mem_append_right:=@List.mem_append_right
theorem ZCn:type_of% @List.filter_append:=@List.filter_append
theorem ZCo:type_of% @List.mem_filter:=@List.mem_filter
section
variable {P : Program} {β γ : Type} {H : Hp} {F : γ → Option β}
theorem avZ{α}{x:Option α}{f}{g}(h:∀a,f a=(g a).bind F):x.ob f=(x.ob g).bind F:=by
 cases x with
 |none=>rfl
 |some a=>exact h a
theorem a9Z{α:Type}{x:Option α}{f}{g}(h:∀a,f a=(g a).bind F):x.bind f=(x.bind g).bind F:=by
 cases x<;>grind
theorem akZ{b}{f}{g}(h:f=g.bind F):bO b f=(bO b g).bind F:=by
 cases b
 .rfl
 .exact h
theorem aIZ{b}{f R}{g g':Option γ}(h:f=g.bind F)(h':R=g'.bind F):bq b f R=(bq b g g').bind F:=by
 cases b<;>simp_all
theorem cMZ{t u}{f}{R}{g}{g'}(h:∀e,f e=(g e).bind F)(h':R=g'.bind F):dq t u f R=(dq t u g g').bind F:=by
 unfold dq;split<;>grind
theorem mmZ{δ}{R}{fb}(hf:∀c (k) (k':δ->Option γ),(∀x,k x=(k' x).bind F)->R c k=(fb c k').bind F)(c):
 ∀(n) (cs) {k} {k'},(∀x,k x=(k' x).bind F)->FG R c n cs k=(FG fb c n cs k').bind F
 |0,cs,k,k',h=>h _
 |n+1,cs,k,k',h=>hf _ _ _ λx=>mmZ hf c n _ λl=>h _
theorem hCZ:(t:Ty)->{cs:List AV}->{k:t.den->Option β}->{k':t.den->Option γ}->(∀x,k x=(k' x).bind F)->asm t cs k=(asm t cs k').bind F
 |.byte,cs,k,k',h=>avZ λn=>a9Z h
 |.one t,cs,k,k',h=>hCZ t h
 |.pair a b,cs,k,k',h=>hCZ a λx=>hCZ b λy=>h _
 |.arr n t,cs,k,k',h=>mmZ (λc _ _ h=>hCZ t (cs:=c) h) t.cells n cs h
 |.int _,cs,k,k',h|.bool,cs,k,k',h|.str,cs,k,k',h|.opq,cs,k,k',h|.nat,cs,k,k',h|.sl _,cs,k,k',h|.ref _ _,cs,k,k',h=>avZ h
 |.ptr t,cs,k,k',h=>by
  simp[asm]
  grind[cMZ,a9Z,avZ]
theorem vQZ{u}{a}{k}{k'}(h:∀x,k x=(k' x).bind F):asC u a k=(asC u a k').bind F:=
 avZ λ_=>akZ (hCZ u h)
theorem bJZ{u}{a}{k}{k'}(h:∀x,k x=(k' x).bind F):asA u a k=(asA u a k').bind F:=by
 unfold asA
 grind[cMZ,vQZ]
theorem mKZ:(t:Ty)->{x:t.den}->{o:Nat}->{u:Ty}->{k:u.den->Option β}->{k':u.den->Option γ}->(∀x,k x=(k' x).bind F)->sub t x o u k=(sub t x o u k').bind F
 |.one t,x,o,u,k,k',h=>cMZ (λ_=>aIZ (h _) rfl) (mKZ t h)
 |.pair a b,x,o,u,k,k',h=>cMZ (λ_=>aIZ (h _) rfl) (aIZ (mKZ a h) (mKZ b h))
 |.int _,x,o,u,k,k',h|.bool,x,o,u,k,k',h|.byte,x,o,u,k,k',h|.str,x,o,u,k,k',h|.opq,x,o,u,k,k',h|.nat,x,o,u,k,k',h|.ptr _,x,o,u,k,k',h|.sl _,x,o,u,k,k',h|.arr _ _,x,o,u,k,k',h|.ref _ _,x,o,u,k,k',h=>cMZ (λ_=>aIZ (h _) rfl) rfl
theorem hYZ:(t:Ty)->{x:t.den}->{o:Nat}->{u:Ty}->{y:u.den}->{k:t.den->Option β}->{k':t.den->Option γ}->(∀x,k x=(k' x).bind F)->upd t x o u y k=(upd t x o u y k').bind F
 |.one t,x,o,u,y,k,k',h=>cMZ (λ_=>aIZ (h _) rfl) (hYZ t h)
 |.pair a b,x,o,u,y,k,k',h=>cMZ (λ_=>aIZ (h _) rfl) (aIZ (hYZ a λ_=>h _) (hYZ b λ_=>h _))
 |.int _,x,o,u,y,k,k',h|.bool,x,o,u,y,k,k',h|.byte,x,o,u,y,k,k',h|.str,x,o,u,y,k,k',h|.opq,x,o,u,y,k,k',h|.nat,x,o,u,y,k,k',h|.ptr _,x,o,u,y,k,k',h|.sl _,x,o,u,y,k,k',h|.arr _ _,x,o,u,y,k,k',h|.ref _ _,x,o,u,y,k,k',h=>cMZ (λ_=>aIZ (h _) rfl) rfl
theorem jfZ:(t:Ty)->{x:t.den}->{o:Nat}->{u:Ty}->{k:AV->Option β}->{k':AV->Option γ}->(∀x,k x=(k' x).bind F)->zI t x o u k=(zI t x o u k').bind F
 |.one t,x,o,u,k,k',h=>aIZ (h _) (jfZ t h)
 |.pair a b,x,o,u,k,k',h=>aIZ (h _) (aIZ (jfZ a h) (jfZ b h))
 |.int _,x,o,u,k,k',h|.bool,x,o,u,k,k',h|.byte,x,o,u,k,k',h|.str,x,o,u,k,k',h|.opq,x,o,u,k,k',h|.nat,x,o,u,k,k',h|.ptr _,x,o,u,k,k',h|.sl _,x,o,u,k,k',h|.arr _ _,x,o,u,k,k',h|.ref _ _,x,o,u,k,k',h=>aIZ (h _) rfl
theorem iKZ:(t:Ty)->{x:t.den}->{o:Nat}->{u:Ty}->{v:AV}->{k:t.den->Option β}->{k':t.den->Option γ}->(∀x,k x=(k' x).bind F)->xK t x o u v k=(xK t x o u v k').bind F
 |.one t,x,o,u,v,k,k',h=>aIZ (bJZ h) (iKZ t h)
 |.pair a b,x,o,u,v,k,k',h=>aIZ (bJZ h) (aIZ (iKZ a λ_=>h _) (iKZ b λ_=>h _))
 |.int _,x,o,u,v,k,k',h|.bool,x,o,u,v,k,k',h|.byte,x,o,u,v,k,k',h|.str,x,o,u,v,k,k',h|.opq,x,o,u,v,k,k',h|.nat,x,o,u,v,k,k',h|.ptr _,x,o,u,v,k,k',h|.sl _,x,o,u,v,k,k',h|.arr _ _,x,o,u,v,k,k',h|.ref _ _,x,o,u,v,k,k',h=>aIZ (bJZ h) rfl
section
variable {k : AV → Option β} {k' : AV → Option γ}
theorem noZ{u}{t}{x}{j}(h:∀x,k x=(k' x).bind F):rS P u t x j k=(rS P u t x j k').bind F:=avZ λ_=>aIZ (mKZ u λ_=>h _) (jfZ u h)
theorem g6Z{u}{t}{l}{i j}(h:∀x,k x=(k' x).bind F):pC P t u l i j k=(pC P t u l i j k').bind F:=by
 grind[pC,aIZ,akZ,a9Z,noZ]
theorem qYZ{t}{c}{j}(h:∀x,k x=(k' x).bind F):xL P t c j k=(xL P t c j k').bind F:=aIZ (akZ (h _)) (aIZ (avZ h) rfl)
theorem rrZ{t}{a}(h:∀x,k x=(k' x).bind F):sE P t a H k=(sE P t a H k').bind F:=by
 unfold sE;split
 .grind[qYZ,aIZ,g6Z]
 .exact g6Z h
 .grind[a9Z,akZ,g6Z]
 .rfl
theorem rMZ{t}{c a b}(h:∀x,k x=(k' x).bind F):xO P t c a b k=(xO P t c a b k').bind F:=by
 grind[xO,avZ,akZ,aIZ]
theorem nVZ{t}{R}(h:∀x,k x=(k' x).bind F):tQ P t R k=(tQ P t R k').bind F:=by
 grind[tQ,avZ]
theorem sFZ{R}{kk}{a b}(h:∀x,k x=(k' x).bind F):zV R kk a b k=(zV R kk a b k').bind F:=by
 unfold zV
 grind[akZ]
theorem snZ{R}{a b}(h:∀x,k x=(k' x).bind F):zW R a b k=(zW R a b k').bind F:=by
 unfold zW
 grind[akZ]
theorem uMZ{R}{t}{a}(h:∀x,k x=(k' x).bind F):IT P R t a k=(IT P R t a k').bind F:=by
 unfold IT
 grind[avZ]
theorem guZ{u}{a}{k}{k'}(h:∀x,k x=(k' x).bind F):pD H u a k=(pD H u a k').bind F:=by
 unfold pD;split
 .grind[cMZ,avZ]
 .grind[cMZ,aIZ]
 .grind[cMZ,aIZ]
 .rfl
theorem fuZ{s d}{a}(h:∀x,k x=(k' x).bind F):jM P s d a H k=(jM P s d a H k').bind F:=by
 unfold jM
 grind[avZ,aIZ,guZ]
theorem dCZ{es id}{k}{k'}(h:∀u x,k u x=(k' u x).bind F):kW H es id k=(kW H es id k').bind F:=by
 unfold kW
 grind[aIZ]
theorem ubZ{a}{k}{k'}(h:∀x,k x=(k' x).bind F):AS H a k=(AS H a k').bind F:=by
 unfold AS
 grind[dCZ]
theorem u9Z{a}{k}{k'}(h:∀x,k x=(k' x).bind F):KC H a k=(KC H a k').bind F:=by
 unfold KC
 grind
theorem u3Z{t}{a}{k}{k'}(h:∀x,k x=(k' x).bind F):IR P t H a k=(IR P t H a k').bind F:=by
 grind[IR,avZ,ubZ,u9Z]
theorem hhZ{s}{a}{f}(h:∀x,k x=(k' x).bind F):iN P s a f k=(iN P s a f k').bind F:=by
 unfold iN
 grind
theorem gNZ{a}{d m}{k}{k'}(h:∀x,k x=(k' x).bind F):tN a d m k=(tN a d m k').bind F:=by
 unfold tN
 grind[avZ,a9Z]
theorem lkZ{α}{l}{lo hi}{k}{k':List α->Option γ}(h:∀x,k x=(k' x).bind F):FJ l lo hi k=(FJ l lo hi k').bind F:=by
 unfold FJ;split
 .exact h _
 .exact avZ λ_=>a9Z λ_=>h _
 .exact avZ λ_=>a9Z λ_=>h _
 grind[avZ,a9Z]
theorem ojZ{t}{a}{lo hi}(h:∀x,k x=(k' x).bind F):qL P t a lo hi H k=(qL P t a lo hi H k').bind F:=by
 unfold qL;split
 .grind[avZ,lkZ]
 .split
  .grind[aIZ,dCZ,gNZ]
  .grind[aIZ,gNZ]
  .grind[aIZ,lkZ]
  .grind[akZ,gNZ]
  .grind[aIZ,gNZ]
  .rfl
 .grind[aIZ,dCZ,akZ,gNZ,lkZ]
 .rfl
theorem lxZ{t}{a hi R}{lo}(h:∀x,k x=(k' x).bind F):nE P t a lo hi R k=(nE P t a lo hi R k').bind F:=by
 unfold nE;split
 .split
  .refine aIZ (avZ λ_=>a9Z λ_=>avZ λ_=>a9Z λ_=> ?_) rfl;split
   .exact h _
   .exact avZ λ_=>a9Z λ_=>h _
  .rfl
 .rfl
theorem ozZ{t}{a R}(h:∀x,k x=(k' x).bind F):tM P t a R k=(tM P t a R k').bind F:=by
 refine avZ λx=> ?_;split
 .grind[avZ,a9Z]
 .exact avZ λ_=>bJZ λ_=>a9Z λ_=>a9Z λ_=>h _
 .rfl
theorem hrZ{t}{a R}(h:∀x,k x=(k' x).bind F):jX P t a R H k=(jX P t a R H k').bind F:=by
 refine avZ λx=> ?_;split
 .refine akZ ?_;split<;>first|rfl|grind[aIZ,a9Z]
 .refine akZ ?_;split
  .refine aIZ ?_ rfl;split
   .exact a9Z λ_=>h _
   .exact dCZ λ_ _=>a9Z λ_=>h _
  .exact aIZ (a9Z λ_=>h _) rfl
  .exact aIZ (a9Z λ_=>h _) rfl
  .exact aIZ (a9Z λ_=>a9Z λ_=>h _) rfl
  .rfl
 .rfl
theorem otZ{s}{a}{f}(h:∀x,k x=(k' x).bind F):qK P s a f k=(qK P s a f k').bind F:=by
 unfold qK
 grind[aIZ,akZ,avZ,noZ]
theorem jCZ{R:Ty}{x}{k}{k'}(h:∀x,k x=(k' x).bind F):∀l:List (R.den×AV),vB l x k=(vB l x k').bind F
 |[]=>h _
 |(_,_)::r=>aIZ (h _) (jCZ h r)
theorem maZ{t}{m R}{c}(h:∀x,k x=(k' x).bind F):nF P t m R c H k=(nF P t m R c H k').bind F:=by
 unfold nF;split
 .split
  .exact akZ (bJZ λ_=>h _)
  .grind[akZ,bJZ,jCZ]
  .rfl
 .split
  .exact avZ λ_=>avZ λ_=>akZ (bJZ λ_=>h _)
  .rfl
 .rfl
theorem uOZ{t}{a b}{k}{k'}(R:AY P t=true)(h:∀x,k x=(k' x).bind F):FN P t a b H k=(FN P t a b H k').bind F:=by
 unfold FN
 grind[avZ,AY,akZ,bJZ]
theorem swZ{R}{t u}{a b}(hn:AY P t=true)(h:∀x,k x=(k' x).bind F):zX P R t u a b H k=(zX P R t u a b H k').bind F:=by
 unfold zX;split
 .split
  .exact avZ λ_=>avZ λ_=>akZ (sFZ h)
  .rfl
 .exact avZ λ_=>avZ λ_=>snZ h
 grind[uOZ]
theorem vGZ{o}{r}(R:OE P o=true)(h:∀x,k x=(k' x).bind F):evR P o r H k=(evR P o r H k').bind F:=by
 unfold evR;unfold OE at R;split
 .grind
 .grind
 .exact rMZ h
 .exact nVZ h
 .exact rrZ h
 .grind[akZ]
 .grind[swZ]
 .exact maZ h
 .exact uMZ h
 .exact fuZ h
 .grind
 .exact ojZ h
 .exact lxZ h
 .exact hhZ h
 .exact otZ h
 .exact hrZ h
 .exact ozZ h
 .grind[avZ]
 .grind[u3Z,avZ]
 .rfl
end
section
variable {k : AV → Hp → Option β} {k' : AV → Hp → Option γ}
theorem baZ{id}{b}{k}{k'}(h:∀H,k H=(k' H).bind F):gW H id b k=(gW H id b k').bind F:=aIZ rfl (h _)
theorem piZ{t}{id}(h:∀x H,k x H=(k' x H).bind F):qJ P t id H k=(qJ P t id H k').bind F:=by
 grind[qJ,avZ,akZ,baZ]
theorem s9Z{t}{v}{id}(h:∀x H,k x H=(k' x H).bind F):zT P t v id H k=(zT P t v id H k').bind F:=by
 unfold zT;split
 .exact avZ λ_=>avZ λ_=>bJZ λ_=>akZ (baZ λ_=>h _ _)
 grind[avZ,baZ]
theorem kZZ{t}{id}(h:∀x H,k x H=(k' x H).bind F):tL P t id H k=(tL P t id H k').bind F:=
 avZ λ_=>akZ (baZ λ_=>h _ _)
theorem ruZ{t}{v}{id}(h:∀x H,k x H=(k' x H).bind F):AR P t v id H k=(AR P t v id H k').bind F:=
 avZ λ_=>avZ λ_=>bJZ λ_=>baZ λ_=>h _ _
theorem rzZ{t e}{u}{l}{i j id}{v}(h:∀x H,k x H=(k' x H).bind F):uY P t e u l i j id v H k=(uY P t e u l i j id v H k').bind F:=by
 unfold uY;split
 .grind[aIZ,akZ,bJZ,a9Z,hYZ]
 .grind[bJZ,a9Z,hYZ]
 .rfl
theorem n2Z{t}{a v}(h:∀x H,k x H=(k' x H).bind F):qI P t a v H k=(qI P t a v H k').bind F:=by
 unfold qI;split
 .split
  .grind[avZ,akZ]
  .exact aIZ (aIZ (avZ λ_=>akZ (rzZ h)) (avZ λ_=>avZ λ_=>avZ λ_=>avZ λ_=>akZ (a9Z λ_=>iKZ _ λ_=>h _ _))) rfl
  .rfl
 .refine avZ λ_=>avZ λ_=> ?_;split
  .exact akZ (a9Z λ_=>akZ (bJZ λ_=>a9Z λ_=>hYZ _ λ_=>h _ _))
  .rfl
 .rfl
theorem iUZ{s d}{a}{id}(h:∀x H,k x H=(k' x H).bind F):jN P s d a id H k=(jN P s d a id H k').bind F:=by
 unfold jN
 grind[aIZ,avZ,akZ,baZ]
theorem pzZ{t}{l c}{id}(h:∀x H,k x H=(k' x H).bind F):vA P t l c id H k=(vA P t l c id H k').bind F:=by
 unfold vA;split
 .exact avZ λ_=>avZ λ_=>a9Z λ_=>a9Z λ_=>avZ λ_=>akZ (baZ λ_=>h _ _)
 .rfl
theorem kBZ{t}{q}{R}{id}(h:∀x H,k x H=(k' x H).bind F):lE P t q R id H k=(lE P t q R id H k').bind F:=by
 unfold lE;split
 .grind[avZ,akZ,aIZ,baZ]
 .rfl
theorem fPZ{t}{m key x}(h:∀x H,k x H=(k' x H).bind F):nG P t m key x H k=(nG P t m key x H k').bind F:=by
 unfold nG;split
 .split
  .exact akZ (bJZ λ_=>akZ (avZ λ_=>akZ (h _ _)))
  .refine avZ λ_=> ?_;split
   .exact akZ (bJZ λ_=>bJZ λ_=>h _ _)
   .rfl
 .rfl
theorem fKZ{t}{n}{ps}{vs}{R}{id}(h:∀x H,k x H=(k' x H).bind F):gL P t n ps vs R id H k=(gL P t n ps vs R id H k').bind F:=by
 unfold gL;simp[e7Z];split
 .exact avZ λ_=>avZ λu=>akZ (avZ λ_=>aIZ (akZ (baZ λ_=>h _ _))<|avZ λ_=>mmZ (λc _ _ h=>hCZ (zU _ R u) (cs:=c) h) _ _ _ λ_=>baZ λ_=>h _ _)
 .rfl
theorem gBZ{t}{s x}{id}(h:∀x H,k x H=(k' x H).bind F):lJ P t s x id H k=(lJ P t s x id H k').bind F:=by
 unfold lJ;split
 .refine avZ λ_=>guZ λ_=> ?_;split
  .exact akZ (baZ λ_=>h _ _)
  .split
   .exact cMZ (λ_=>akZ (baZ λ_=>h _ _)) (cMZ (λ_=>akZ (baZ λ_=>h _ _)) rfl)
   .rfl
  .split
   .exact cMZ (λ_=>akZ (baZ λ_=>h _ _)) rfl
   .rfl
  .rfl
 .rfl
theorem pnZ{t}{s x}(h:∀x H,k x H=(k' x H).bind F):uZ P t s x H k=(uZ P t s x H k').bind F:=by
 unfold uZ;split
 .refine avZ λ_=>guZ λ_=> ?_;split
  .split
   .exact cMZ (λ_=>akZ (h _ _)) rfl
   .rfl
  .split
   .exact cMZ (λ_=>akZ (h _ _)) rfl
   .rfl
  .refine akZ ?_;split
   .exact cMZ (λ_=>cMZ (λ_=>a9Z λ_=>h _ _) rfl) rfl
   .rfl
  .rfl
 .rfl
theorem oKZ{t}{d}(h:∀x H,k x H=(k' x H).bind F):qM P t d H k=(qM P t d H k').bind F:=by
 unfold qM;split
 .refine avZ λ_=>akZ ?_;split
  .exact h _ _
  .split
   .exact cMZ (λ_=>akZ (h _ _)) rfl
   .rfl
  .split
   .exact cMZ (λ_=>akZ (h _ _)) rfl
   .rfl
  .rfl
 .rfl
theorem dS.on_nt:∀{l} {x} {k} {k':(s:Shp)->s.D->Option γ},(∀s t,k s t=(k' s t).bind F)->dS.on l x k=(dS.on l x k').bind F
 |[],x,_,_,_=>Empty.elim x
 |[s],x,k,k',h=>h s x
 |s::t::r,.inl y,k,k',h=>h s y
 |s::t::r,.inr y,k,k',h=>dS.on_nt (x:=y) h
mutual
theorem co_nt:(q:Kd)->{r:List Ty}->{a:AV}->{x:HL r}->{k:HL (q.lv r)->Option β}->{k':HL (q.lv r)->Option γ}->(∀y,k y=(k' y).bind F)->co q r a x k=(co q r a x k').bind F
 |.p t,r,a,x,k,k',h=>bJZ (u:=t) (k:=λy=>k (y,x)) (k':=λy=>k' (y,x)) λy=>h _
 |.pt t,r,a,x,k,k',h=>avZ λ_=>h _
 |.own es id i j,r,a,x,k,k',h=>akZ (h _)
 |.ownx es id j,r,a,x,k,k',h=>avZ λ_=>h _
 |.sl es id,r,a,x,k,k',h=>avZ λ_=>h _
 |.slf es id,r,a,x,k,k',h=>akZ (h _)
 |.mp id,r,a,x,k,k',h=>akZ (h _)
 |.any,r,a,x,k,k',h=>h _
 |.fn f R kc,r,a,x,k,k',h=>avZ λ_=>akZ (fJZ kc λ_=>fJZ R h)
 |.agg l,r,a,x,k,k',h=>avZ λ_=>akZ (fJZ l h)
 |.tup l,r,a,x,k,k',h=>avZ λ_=>akZ (fJZ l h)
 |.nilp v,r,a,x,k,k',h=>akZ (h _)
theorem fJZ:(q:KdL)->{r:List Ty}->{c:List AV}->{x:HL r}->{k:HL (q.lv r)->Option β}->{k':HL (q.lv r)->Option γ}->(∀y,k y=(k' y).bind F)->coL q r c x k=(coL q r c x k').bind F
 |.nil,r,c,x,k,k',h=>h _
 |.cons q l,r,c,x,k,k',h=>fJZ l λ_=>co_nt q h
end
theorem vzZ{q}{r}{b}{x}{k}{k'}(h:∀y,k y=(k' y).bind F):coB q r b x k=(coB q r b x k').bind F:=by
 cases q with
 |vars l=>exact avZ λ_=>fJZ l h
 |rows e t=>exact avZ λ_=>h _
 |map R vt=>exact avZ λ_=>h _
 |fam e s=>exact avZ λ_=>h _
theorem t5Z:(R:HK)->{r:List Ty}->{x:HL r}->{k:HL (fL R r)->Option β}->{k':HL (fL R r)->Option γ}->(∀y,k y=(k' y).bind F)->coH R r H x k=(coH R r H x k').bind F
 |[],r,x,k,k',h=>h _
 |(_,_,q)::l,r,x,k,k',h=>avZ λ_=>t5Z l λ_=>vzZ h
theorem Shp.co_nt{s:Shp}{vs}{k}{k'}(h:∀y,k y=(k' y).bind F):s.co vs H k=(s.co vs H k').bind F:=
 akZ (t5Z s.hs λ_=>fJZ s.ks λ_=>h _)
theorem Shp.rco_nt{s:Shp}{vs}{R}{k}{k'}(h:∀y,k y=(k' y).bind F):s.rco vs H R k=(s.rco vs H R k').bind F:=
 akZ (Shp.co_nt h)
theorem qfZ{e}{R}{an}(h:∀x H,k x H=(k' x H).bind F):vD P e R an H k=(vD P e R an H k').bind F:=by
 unfold vD;rw[d4Z,d4Z];exact avZ λ_=>akZ (Shp.rco_nt λ_=>a9Z λ_=>dS.on_nt λ_ _=>by
  grind[Shp.embC_eq,akZ])
theorem vSZ{T:Tbl}{o:Oper}{R:Ann}{r:Operand->AV}(h:∀x H,k x H=(k' x H).bind F):evW P T o R r H k=(evW P T o R r H k').bind F:=by
 unfold evW;split
 .exact aIZ (piZ h) (kZZ h)
 .exact aIZ (s9Z h) (ruZ h)
 .exact fKZ h
 .exact n2Z h
 .split
  .exact fuZ λ_=>h _ _
  .exact iUZ h
 .exact pzZ h
 .exact kBZ h
 .exact fPZ h
 .exact fPZ h
 .split
  .split
   .split
    .exact gBZ h
    .exact gBZ h
    .rfl
   .rfl
  .split
   .exact pnZ h
   .rfl
  .split
   .exact oKZ h
   .rfl
  .refine avZ λ_=> ?_;split
   .exact qfZ h
   .rfl
  .rfl
 .rfl
theorem tQZ{o}{r}{k}{R:β}(hn:OE P o=true)(h:evR P o r H k=some R):∃x,evR P o r H some=some x/\k x=some R:=by
 have e:evR P o r H k=(evR P o r H some).bind k:=vGZ hn λ_=>rfl
 simp_all[ZAG]
theorem uzZ{T}{o}{an}{r}{k}{R:β}(h:evW P T o an r H k=some R):∃x H',evW P T o an r H (λx H'=>some (x,H'))=some (x,H')/\k x H'=some R:=by
 have e:evW P T o an r H k=(evW P T o an r H λx H'=>some (x,H')).bind λp=>k p.1 p.2:=vSZ λ_ _=>rfl
 simp_all[ZAG]
end
end
theorem auZ{H}{id}(h:bM H id=false):bG H id=none:=by
 cases hg:bG H id<;>grind[aiZ]
section
variable {z z' : Z} {H : Hp}
theorem bE.live{a}{v}(h:bE z a v):∀id∈AV.ids a,z.ρ id≠.no:=by
 have hL:∀{l},(∀(i:Nat) (x),l[i]? =some x->∀id∈AV.ids x,z.ρ id≠.no)->∀id∈AV.idsL l,z.ρ id≠.no:=by
  intro l;induction l with
  |nil=>intro _ id h;cases h
  |cons a l ih=>
   intro h id hi;simp[AV.idsL] at hi;rcases hi with hi|hi
   .exact h 0 a rfl id hi
   .exact ih (λi x hx=>h (i+1) x hx) id hi
 induction h with
 |p t x v h=>intro id h;cases h
 |pt t l i j b off h1 h2 h3=>intro id h;cases h
 |own es id i j g sz n h=>intro k hk;simp[AV.ids] at hk;subst hk;rw[h];intro h;cases h
 |rp f es k' i j g sz n h=>intro k hk;cases hk
 |slV es id off A h=>intro k hk;simp[AV.ids] at hk;subst hk;rw[h];intro h;cases h
 |slE es id off g sz m o h=>intro k hk;simp[AV.ids] at hk;subst hk;rw[h];intro h;cases h
 |sl es id off n g sz m c h hn hs hm=>intro k hk;simp[AV.ids] at hk;subst hk;rw[h];intro h;cases h
 |slfV es id A h=>intro k hk;simp[AV.ids] at hk;subst hk;rw[h];intro h;cases h
 |slf es id g sz n c h hn hs hm=>intro k hk;simp[AV.ids] at hk;subst hk;rw[h];intro h;cases h
 |mp id g sz n h=>intro k hk;simp[AV.ids] at hk;subst hk;rw[h];intro h;cases h
 |fn f a c va vc ha hc h1 h2 aa ab=>
  intro k hk;simp[AV.ids] at hk;rcases hk with hk|hk
  .refine hL (λi x hx=> ?_) k hk;have R:i<va.size:=by rw[ha];exact(ZAB.1 hx).1
   exact aa i x va[i] hx (ZBC R)
  .refine hL (λi x hx=> ?_) k hk;have R:i<vc.size:=by rw[hc];exact(ZAB.1 hx).1
   exact ab i x vc[i] hx (ZBC R)
 |agg l cs hs h1 h ih=>
  intro k hk;refine hL (λi x hx=> ?_) k hk;have R:i<cs.size:=by rw[hs];exact(ZAB.1 hx).1
  exact ih i x cs[i] hx (ZBC R)
 |tup l vs hs h ih=>
  intro k hk;refine hL (λi x hx=> ?_) k hk;have R:i<vs.size:=by rw[hs];exact(ZAB.1 hx).1
  exact ih i x vs[i] hx (ZBC R)
 |junk v=>intro k hk;cases hk
theorem gR.ren'{g sz n}{b}{f}{aa}(h:gR z g sz n b)(hd:eY z.ρ aa)(hf:∀{id k},z.ρ id≠.no->f id=some k->aa k=z.ρ id):gR {z with ρ:=aa} g sz n (b.ren f):=by
 cases b with
 |vars c=>
  let⟨cs,e,fr,a1,a2,R,⟨a4,an⟩,a5,a6⟩:=h
  refine⟨cs,e,fr,a1,a2,R,⟨by simp_all[csZ],an⟩,λi a v p1 p2=> ?_,a6⟩;rw[dgZ] at p1;obtain⟨y,p3,rfl⟩:=ZAH.1 p1;exact(a5 i y v p3 p2).ren rfl rfl (.inl hd) λid k hi hk=>hf ((a5 i y v p3 p2).live id hi) hk
 |rows e t l=>
  let⟨cs,fr,a1,a2,R,a4,a5,a6,a7⟩:=h
  refine⟨cs,fr,a1,a2,R,a4,a5,a6,λi x hx=> ?_⟩
  let⟨u,b1,b2⟩:=a7 i x hx
  exact⟨u,b1.dyn hd,b2⟩
 |map kt vt m=>
  let⟨es,a1,a2,R,a4⟩:=h
  exact⟨es,a1,a2,λi x e q1 q2=>⟨(R i x e q1 q2).1.dyn hd,(R i x e q1 q2).2.1.dyn hd,(R i x e q1 q2).2.2⟩,a4⟩
 |fmap kt l=>
  let⟨es,ab,a1,a2,R⟩:=h
  refine⟨es,ab,a1,by simp[a2],λi x e q1 q2=> ?_⟩;rw[ZAW] at q1;obtain⟨y,q3,rfl⟩:=ZAH.1 q1
  let⟨b1,b2⟩:=R i y e q3 q2
  exact⟨b1.dyn hd,b2.ren rfl rfl (.inl hd) λid k hi hk=>hf (b2.live id hi) hk⟩
 |fam e s ms=>exact h.elim
def Z.foc(z:Z)(H:Hp)(F:Nat->Bool):Z:=
 {z with C:=λg=>∃id e R n,F (rt id)=true/\bP H id=some e/\e.fz=false/\z.ρ id= .real g R n,D:=λid=>z.D id\/(dU H id=true/\F (rt id)=false)}
theorem v8Z{H1}{F:Nat->Bool}(R:bI z H)(h1:∀id,bG H1 id=if F id then bG H id else none)(h2:∀id,bM H1 id=(F id&&bM H id)):bI (z.foc H F) H1:=by
 have q:∀id e,bP H1 id=some e->F (rt id)=true/\bP H id=some e:=λid e h=>by
  cases hF:F (rt id)
  .exfalso;have e1:bG H1 (rt id)=none:=by rw[h1,hF];rfl
   have:bP H1 id=none:=by
    by_cases hd:bC<=id
    .rw[a8Z hd,e1];rfl
    .rw[bbZ (by omega)] at e1;unfold bP;rw[ZAK hd,e1,ite_self]
   rw[this] at h;cases h
  grind[c0Z]
 refine⟨λid e h=> ?_,λid aa e e' g sz n g' ab n' ac p1 p2 m1 m2 p3 p4=> ?_,λid h=> ?_,λg ⟨id,e,sz,n,q1,q2,q3,q4⟩=> ?_,λid x h=> ?_,λid h=> ?_,λid hd h=> ?_,R.nos⟩
 .obtain⟨a1,a2⟩:=q id e h;exact(R.ent _ _ a2).rho rfl rfl (.inl (.eq rfl)) rfl (λ_ _=>rfl) λg sz n hr hf _=>⟨id,e,sz,n,a1,a2,hf,hr⟩
 .exact R.inj id aa e e' g sz n g' ab n' ac (q _ _ p1).2 (q _ _ p2).2 m1 m2 p3 p4
 .cases hF:F (rt id)
  .cases hk:dU H id
   .exact(R.fresh id hk).imp (λh=>h) .inl
   .exact .inr (.inr ⟨hk,hF⟩)
  .rw[dFZ (show bG H1 (rt id)=bG H (rt id) by simp_all) (by simp_all)] at h;exact(R.fresh id h).imp (λh=>h) .inl
 .exact R.sub _ ((R.realX q2 q4).2.1 q3)
 .rw[h1] at h;split at h
  .exact R.fam id x h
  grind
 .rw[h2,ZAE] at h;exact R.key id h.2
 .rw[h2,ZAE] at h;rintro(hD|⟨_,hD⟩)
  .exact R.dyn id hd h.2 hD
  simp_all
theorem merge_ok{H2 H3}{F}{z2}(hH:bI z H)(hn:Nx (z.foc H F) z2)(h2:bI z2 H2)(hF:∀id,bM H2 id=true->F id=true)
 (h3:∀id,bG H3 id=if bM H2 id then bG H2 id else if F id then none else bG H id)(h4:∀id,bM H2 id=true\/bM H id=true->bM H3 id=true)(h5:∀id,bM H3 id=true->bM H2 id=true\/bM H id=true\/(id<bC/\∀x,rt x=id->¬z.D x)):
 ∃z3,z3.w=z2.w/\z3.M=z2.M/\z3.ρ=z2.ρ/\bI z3 H3/\Nx z z3:=by
 let z3:Z:={z2 with C:=λg=>z2.C g\/(z.C g/\¬(z.foc H F).C g/\g<z.w.heap.size),D:=z.D}
 have aj:∀g,(z.foc H F).C g->z.C g:=λg ⟨id,e,sz,n,_,q2,q3,q4⟩=>(hH.realX q2 q4).2.1 q3;have hN:Nx z z3:=⟨hn.os,hn.tape,hn.output,hn.size,λb hb hc=>hn.block b hb λh=>hc (aj b h),hn.subM,λg hg=>by
  rcases hg with hg|hg
  .rcases hn.subC g hg with h|h
   .exact .inl (aj g h)
   .exact .inr h
  simp_all,λg hg hM hC=>hn.keepM g hg hM λh=>hC (aj g h),hn.ext,rfl⟩
 have aq:=hN.kp hH.sub;have key:∀id e,bP H3 id=some e->(bP H2 id=some e)\/(F (rt id)=false/\bP H id=some e):=λid e h=>by
  have R:=h3 (rt id);cases hk:bM H2 (rt id)
  .rw[hk] at R;simp only[ZBI,ZCi] at R;cases hf:F (rt id)
   .rw[hf] at R;exact .inr ⟨rfl,by rw[<-c0Z (H':=H3) (H:=H) R];exact h⟩
   .exfalso;rw[hf] at R;have e1:bG H3 (rt id)=none:=R;have:bP H3 id=none:=by
     by_cases hd:bC<=id
     .rw[a8Z hd,e1];rfl
     .rw[bbZ (by omega)] at e1;unfold bP;rw[ZAK hd,e1,ite_self]
    rw[this] at h;cases h
  grind[c0Z]
 have af:∀id e g sz n,F (rt id)=false->bP H id=some e->z.ρ id= .real g sz n->¬(z.foc H F).C g:=by
  rintro id e g sz n hf hg hr ⟨aa,e',ae,n',a1,a2,a3,a4⟩;have ar:id≠aa:=λh=>by simp_all
  exact hH.ne ar hg a2 a3 hr a4 (λh=>by rw[h.1.rt,<-h.2.rt,a1] at hf;grind) rfl
 have ab:∀id e,F (rt id)=false->bP H id=some e->z.ρ id≠.no:=λid e _ hg hr=>by
  have:=hH.ent _ _ hg
  simp_all[eW]
 refine⟨z3,rfl,rfl,rfl,⟨λid e h=> ?_,λid aa e e' g sz n g' ae n' am p1 p2 m1 m2 p3 p4=> ?_,λid h=> ?_,λg hg=> ?_,λid x h=> ?_,λid h=> ?_,λid hd h=> ?_,h2.nos⟩,hN⟩
 .rcases key id e h with h|⟨hf,h⟩
  .exact(h2.ent _ _ h).rho rfl rfl (.inl (.eq rfl)) rfl (λ_ _=>rfl) λg _ _ _ _ hC=>.inl hC
  .refine(hH.ent _ _ h).kp aq λg sz n hr=>⟨hn.block g (hH.realX h hr).1 (af id e g sz n hf h hr),λhC=>.inr ⟨hC,af id e g sz n hf h hr,(hH.realX h hr).1⟩⟩
 .have ag:∀i i' ee ah gg an nn ak ad ai,bP H2 i=some ee->F (rt i')=false->bP H i'=some ah->ee.fz=false->z2.ρ i= .real gg an nn->z2.ρ i'= .real ak ad ai->gg≠ak:=by
   rintro i i' ee ah gg an nn ak ad ai a1 a2 a3 a4 a5 a6 rfl;have ao:z.ρ i'= .real gg ad ai:=by rw[<-hN.ext i' (ab i' ah a2 a3)];exact a6
   have al:=(hH.realX a3 ao).1;rcases hn.subC gg ((h2.realX a1 a5).2.1 a4) with h|h
   .exact af i' ah gg ad ai a2 a3 ao h
   .exact ZBN.2 al h
  rcases key id e p1 with q1|⟨f1,q1⟩<;>rcases key aa e' p2 with q2|⟨f2,q2⟩
  .exact h2.inj id aa e e' g sz n g' ae n' am q1 q2 m1 m2 p3 p4
  .exact λ_=>ag id aa e e' g sz n g' ae n' q1 f2 q2 m1 p3 p4
  .exact λ_ h=>ag aa id e' e g' ae n' g sz n q2 f1 q1 m2 p4 p3 h.symm
  .have r1:z.ρ id= .real g sz n:=by rw[<-hN.ext id (ab id e f1 q1)];exact p3
   have r2:z.ρ aa= .real g' ae n':=by rw[<-hN.ext aa (ab aa e' f2 q2)];exact p4
   exact hH.inj id aa e e' g sz n g' ae n' am q1 q2 m1 m2 r1 r2
 ·
  have h0:=eIZ;by_cases ap:bA<=id/\id<bC
  .exact .inl (h2.nos id ap.1 ap.2)
  have ac:∀(H:Hp),(bC<=id->dU H id=(match bG H (rt id) with|some e=>e.has ((id-bC)/16)|none=>bM H (rt id)))/\(¬bC<=id->dU H id=bM H (rt id)):=λH=>
   ⟨λhd=>ayZ hd,λhd=>by rw[aCZ (by omega),bbZ (by omega)]⟩
  have k2:dU H2 id=false:=by
   by_cases hd:bC<=id
   .rw[(ac H2).1 hd];rw[(ac H3).1 hd] at h;cases hk:bM H2 (rt id)
    .rw[auZ hk]
    .have R:=h3 (rt id);rw[hk] at R;rw[ZAM rfl] at R;rw[R] at h;cases hg:bG H2 (rt id) with
     |none=>
      rw[hg] at h;have h:bM H3 (rt id)=false:=h;rw[h4 (rt id) (.inl hk)] at h;cases h
     |some e=>rw[hg] at h;exact h
   .rw[(ac H2).2 hd];rw[(ac H3).2 hd] at h;cases hk:bM H2 (rt id)
    .rfl
    .rw[h4 (rt id) (.inl hk)] at h;cases h
  have k1:F (rt id)=false->dU H id=false:=λhf=>by
   have as:bM H2 (rt id)=false:=by
    cases hk:bM H2 (rt id)
    .rfl
    .have:=hF _ hk;rw[hf] at this;cases this
   by_cases hd:bC<=id
   .rw[(ac H).1 hd];rw[(ac H3).1 hd] at h;have R:=h3 (rt id);rw[as,hf] at R;simp only[ZBI,ZCi] at R;rw[R] at h;cases hg:bG H (rt id) with
    |none=>
     rw[hg] at h;have h:bM H3 (rt id)=false:=h;show bM H (rt id)=false;cases hk:bM H (rt id)
     .rfl
     .rw[h4 (rt id) (.inr hk)] at h;cases h
    |some e=>rw[hg] at h;exact h
   .rw[(ac H).2 hd];rw[(ac H3).2 hd] at h;cases hk:bM H (rt id)
    .rfl
    .rw[h4 (rt id) (.inr hk)] at h;cases h
  rcases h2.fresh id k2 with h0|h0
  .exact .inl h0
  .rw[hn.dom] at h0;rcases h0 with h0|⟨h0,hf⟩
   .exact .inr h0
   .rw[k1 hf] at h0;cases h0
 .rcases hg with hg|⟨hg,au,al⟩
  .exact h2.sub g hg
  .exact hn.keepM g al (hH.sub g hg) au
 .rw[h3] at h;split at h
  .exact h2.fam id x h
  .split at h
   .cases h
   .exact hH.fam id x h
 .rcases h5 id h with h|h|h
  .exact h2.key id h
  .exact hH.key id h
  .exact h.1
 .rcases h5 _ h with h|h|h
  .have:=h2.dyn id hd h;rw[hn.dom] at this;exact λhD=>this (.inl hD)
  .exact hH.dyn id hd h
  .exact h.2 id rfl
def IW(e:Ent):Ent:=
 match e.b with
 |.fam e' s R=>⟨e.fz,.fam e' s (R.map bX)⟩
 |_=>e
theorem dQZ:∀(H) (id),bG (uX H) id=(bG H id).map IW/\bM (uX H) id=bM H id
 |[],id=>⟨rfl,rfl⟩
 |(i,none)::H,id=>by
  let⟨h1,h2⟩:=dQZ H id
  simp[uX,bG,bM];cases Nat.beq i id
  .exact⟨h1,h2⟩
  .exact⟨rfl,rfl⟩
 |(i,some ⟨fz,b⟩)::H,id=>by
  let⟨h1,h2⟩:=dQZ H id
  cases b<;>simp[uX,bG,bM]<;>cases Nat.beq i id<;>first|exact⟨h1,h2⟩|exact⟨rfl,rfl⟩
theorem sEZ(k)(e):pick k (IW e)=(pick k e).map λx=>⟨true,x.b⟩:=by
 let⟨fz,b⟩:=e
 cases b with
 |fam e s R=>
  simp[IW,pick];cases hm:R[k]? with
  |none=>rfl
  |some m=>
   let⟨st,l⟩:=m
   simp[bX];by_cases h:st=0
   .subst h;rfl
   simp_all[ahZ]
 |_=>rfl
theorem szZ(e)(k):(IW e).has k=e.has k:=by
 grind[IW,Ent.has]
theorem tyZ(R:bI z H)(id):bP (uX H) id=(bP H id).map (λx=>⟨x.fz||decide (bC<=id),x.b⟩)/\dU (uX H) id=dU H id:=by
 let⟨h1,h2⟩:=dQZ H (rt id)
 by_cases hd:bC<=id
 .rw[a8Z hd,a8Z hd,ayZ hd,ayZ hd,h1];refine⟨?_,?_⟩
  .cases bG H (rt id) with
   |none=>rfl
   |some e=>
    simp[sEZ,hd,Bool.or_true]
  grind[ZBS,szZ]
 .rw[bbZ (by omega)] at h1 h2;by_cases hf:bA<=id
  .unfold bP dU
   grind
  .rw[aqZ (by omega),aqZ (by omega),aCZ (by omega),aCZ (by omega),h1,h2];refine⟨?_,rfl⟩;cases hg:bG H id with
   |none=>rfl
   |some e=>
    have:=R.fam id e hg
    let⟨fz,b⟩:=e
    cases b<;>first|grind[IW]|(have:=this.1;omega)
theorem vjZ(R:bI z H):∃z',z'.w=z.w/\bI z' (uX H)/\Nx z z'/\z'.ρ=z.ρ:=by
 let mem:=λg=>∃id e sz n,bC<=id/\bP H id=some e/\e.fz=false/\z.ρ id= .real g sz n
 let z':={z with M:=λx=>z.M x/\¬mem x,C:=λx=>z.C x/\¬mem x}
 have ab:∀g,mem g->z.C g:=λg ⟨id,e,sz,n,_,q1,q2,q3⟩=>(R.realX q1 q3).2.1 q2;have hn:Nx z z':=⟨rfl,⟨rfl,ZAN _⟩,rfl,ZAN _,λ_ _ _=>rfl,λx hx=>.inl hx.1,λx hx=>.inl hx.1,λx _ hM hx=>⟨hM,λh=>hx (ab x h)⟩,λ_ _=>rfl,rfl⟩;have ac:=hn.kp R.sub;have hX:=λid=>(tyZ R id).1;have hK:=λid=>(tyZ R id).2;refine⟨z',rfl,⟨λi e hi=> ?_,λi i' e e' a sa na a' af ag ad h1 h2 m1 m2 h3 h4=> ?_,λi hi=> ?_,λx hx=>⟨R.sub x hx.1,hx.2⟩,λi x h=> ?_,λi h=>R.key i (by simp_all[dQZ]),λi hd h=>R.dyn i hd (by simp_all[dQZ]),R.nos⟩,hn,rfl⟩
 .rw[hX] at hi;obtain⟨e0,q1,rfl⟩:=ZAH.1 hi;have h0:=R.ent _ _ q1;unfold eW at h0⊢;show match z.ρ i with|.no=>False|.virt=>_|.real g sz n=>_
  cases aa:z.ρ i with
  |no=>simp_all
  |virt=>simp_all
  |real g sz n=>
   rw[aa] at h0
   let⟨b1,b2,b3,b4⟩:=h0
   refine⟨b1,λhf=> ?_,λhf hm=> ?_,b4.kp ac rfl⟩
   .simp only[ZBX,ZBA] at hf;refine⟨b2 hf.1,?_⟩;rintro⟨ae,e',ah,n',p1,p2,p3,p4⟩;exact R.inj i ae _ _ _ _ _ _ _ _ (λh=>hf.2 (h▸p1)) q1 p2 hf.1 p3 aa p4 (λh=>hf.2 h.1.1) rfl
   .simp[ZAp] at hf;cases he:e0.fz
    .rw[he] at hf;exact hm.2 ⟨i,e0,sz,n,hf.resolve_left (by simp),q1,he,aa⟩
    .exact b3 he hm.1
 .rw[hX] at h1 h2;obtain⟨e1,q1,rfl⟩:=ZAH.1 h1;obtain⟨e2,q2,rfl⟩:=ZAH.1 h2;simp at m1 m2;exact R.inj i i' e1 e2 _ _ _ _ _ _ ad q1 q2 m1.1 m2.1 h3 h4
 .rw[hK] at hi;exact R.fresh i hi
 .rw[(dQZ H i).1] at h;obtain⟨e0,q1,rfl⟩:=ZAH.1 h;have:=R.fam i e0 q1
  let⟨fz,b⟩:=e0
  cases b<;>exact this
theorem mpZ{H}{f}{s}:∀{n} {R},JY f s (tK H n)=some R->∃fz e,bG H (bZ f)=some ⟨fz,.fam e s R⟩
 |0,R,h=>by cases h
 |n+1,R,h=>by
  simp[tK] at h;split at h
  .rename_i fz e s' aa hg;simp[JY] at h;cases hb:Nat.beq n (f%16)<;>rw[hb] at h<;>simp[bq_false] at h
   .exact mpZ h
   .rw[afZ] at hb;subst hb;rcases aUZ h with⟨hs,h⟩|h
    .subst hs;have:=ZAf h;subst this;exact⟨fz,e,hg⟩
    .cases h
  .exact mpZ h
theorem vLZ(hH:bI z H){f}{s}{ms}(h:JY f s (zS H)=some ms){k st}{l}(hm:ms[k]? =some (st,l))(R:2<=st):∃e,eW z (enc f k) ⟨true,.rows e s l⟩:=by
 let⟨fz,e,hg⟩:=mpZ h
 have:=g7Z hg hm (by omega);have h2:=hH.ent _ _ this;rw[show(fz||Nat.ble 2 st)=true by rw[ZAi R,Bool.or_true]] at h2
 grind
theorem d2Z(hH:bI z H):{t:Ty}->{x:t.den}->{y:t.unref.den}->{vs:List Value}->bT (zS H) t x=some y->Cl z.w z.M z.ρ t x vs->Cl z.w z.M z.ρ t.unref y vs
 |.one t,x,y,vs,h,hc=>d2Z hH (t:=t) h hc
 |.pair a b,x,y,vs,h,hc=>by
  obtain⟨u,v,rfl,h1,h2⟩:=hc
  let⟨p,h3,h4⟩:=ZAG.1 h
  obtain⟨q,h5,rfl⟩:=ZAH.1 h4;exact⟨u,v,rfl,d2Z hH h3 h1,d2Z hH h5 h2⟩
 |.ref f t,.inl l,y,vs,h,hc=>by
  obtain rfl:=ZAf h;exact hc
 |.ref f t,.inr none,y,vs,h,hc=>by
  obtain rfl:=ZAf h;obtain rfl:vs=[.slice none 0 0]:=hc;exact⟨none,0,rfl,ZAN _,by omega,λ_=>rfl,λh=>absurd rfl h⟩
 |.ref f t,.inr (some (k,off,n)),y,vs,h,hc=>by
  let⟨ms,h1,h2⟩:=agZ.1 h
  unfold FH at h2;split at h2
  .rename_i st l hm;cases hb:(Nat.ble 2 st&&Nat.ble (off+n) l.length)<;>rw[hb] at h2<;>simp only[bq_true,bq_false] at h2
   .cases h2
   simp[ZAm] at hb
   let⟨ab,hn⟩:=hb
   obtain rfl:(l.drop off).take n=y:=ZAf h2
   let⟨e,hE⟩:=vLZ hH h1 hm ab
   have R:((l.drop off).take n).length=n:=by rw[ZAS,ZAu];omega
   unfold eW at hE;rcases hc with⟨A,aa,rfl,rfl⟩|⟨g,sz,m,c,aa,h3,h4,h5,rfl⟩
   .refine⟨A,0,?_,?_,by unfold maxLen;omega,λ_=>rfl,λh=>absurd R h⟩
    .rw[(R)]
    .rw[(R)];omega
   .rw[aa] at hE
    let⟨q1,_,q2,q3⟩:=hE
    refine⟨some ⟨g,off*t.cells,none⟩,c,?_,?_,h5,(λh=>by cases h),λ_=>⟨g,off*t.cells,rfl,q2 rfl,q1,?_⟩⟩
    .rw[(R)]
    .rw[(R)];exact h3
    .have:=q3.rowAt.sub off n;rwa [ZA1] at this
  simp_all
 |.int _,x,y,vs,h,hc|.byte,x,y,vs,h,hc|.bool,x,y,vs,h,hc|.str,x,y,vs,h,hc|.opq,x,y,vs,h,hc|.nat,x,y,vs,h,hc|.ptr _,x,y,vs,h,hc|.sl _,x,y,vs,h,hc|.arr _ _,x,y,vs,h,hc=>by
  obtain rfl:=ZAf h;exact hc
theorem ieZ{α γ}{g}:∀{l:List α} {R:List γ},cJ g l=some R->R.length=l.length/\∀(i:Nat) y,R[i]? =some y->∃x,l[i]? =some x/\g x=some y
 |[],R,h=>by
  obtain rfl:=ZAf h<;>grind
 |x::l,R,h=>by
  let⟨y,h1,h2⟩:=ZAG.1 h
  obtain⟨l1,h3,rfl⟩:=ZAH.1 h2
  let⟨q1,q2⟩:=ieZ h3
  refine⟨by simp[q1],λi y' hi=> ?_⟩
  match i with
  |0=>simp at hi;subst hi;exact⟨x,rfl,h1⟩
  |i+1=>exact q2 i y' (by simpa using hi)
theorem m7Z{t}{g}(hg:∀{x} {y} {vs},g x=some y->Cl z.w z.M z.ρ t x vs->Cl z.w z.M z.ρ t.unref y vs){l}{l'}{v}(h:cJ g l=some l')(hv:cU z.w z.M z.ρ (.sl t) l v):cU z.w z.M z.ρ (.sl t.unref) l' v:=by
 obtain⟨A,c,rfl,h1,h2,h3,h4⟩:=hv.sl
 let⟨q1,q2⟩:=ieZ h
 refine .mkSc ⟨A,c,?_,?_,h2,h3,λh0=> ?_⟩ rfl
 .simp_all
 .omega
 .rw[(q1)] at h0
  let⟨b,off,p1,p2,p3,p4⟩:=h4 h0
  refine⟨b,off,p1,p2,p3,λi e he=> ?_⟩
  let⟨x,hx,R⟩:=q2 i e he
  let⟨u,r1,r2⟩:=p4 i x hx
  exact⟨u,hg R r1,by rw[a5Z];exact r2⟩
theorem cU.unref{t}{x}{y}{v}(hv:cU z.w z.M z.ρ t x v)(h:∀vs,Cl z.w z.M z.ρ t x vs->Cl z.w z.M z.ρ t.unref y vs):cU z.w z.M z.ρ t.unref y v:=by
 let⟨vs,h1,h2⟩:=hv
 exact⟨vs,h vs h1,by simp_all[fSZ]⟩
section
variable {β : Type}
theorem kxZ(hH:bI z H){a}{K}{r:β}{v}(h:sC (zS H) a K=some r)(R:bE z a v):∃x,bE z x v/\K x=some r:=by
 unfold sC at h;split at h
 .rename_i t l;cases hn:t.noRef<;>rw[hn] at h<;>simp[bq_false] at h
  .let⟨l',h1,h2⟩:=ZAG.1 h
   exact⟨_,.p _ _ _ (m7Z (λh hc=>d2Z hH h hc) h1 R.v),h2⟩
  .exact⟨_,R,h⟩
 .rename_i t x _;cases hn:t.noRef<;>rw[hn] at h<;>simp[bq_false] at h
  .let⟨y,h1,h2⟩:=ZAG.1 h
   exact⟨_,.p _ _ _ (R.v.unref λvs hc=>d2Z hH h1 hc),h2⟩
  .exact⟨_,R,h⟩
 .exact⟨_,R,(aeZ.1 h).2⟩
 grind
theorem hQZ(hH:bI z H):∀{l} {K} {r:β} {vs},qN (zS H) l K=some r->bQ z l vs->∃R,bQ z R vs/\K R=some r
 |[],K,r,vs,h,hv=>⟨[],hv,h⟩
 |a::l,K,r,[],h,hv=>by have:=hv.1;simp_all
 |a::l,K,r,v::vs,h,hv=>by
  let⟨x,h1,h2⟩:=kxZ hH h hv.head
  let⟨R,h3,h4⟩:=hQZ hH h2 hv.tail
  exact⟨x::R,.cons h1 h3,h4⟩
theorem rBZ{a}{K}{r:β}{v}(h:FI a K=some r)(R:bE z a v):∃x,bE z x v/\K x=some r:=by
 unfold FI at h;split at h
 .rename_i t l;cases hn:t.noRef<;>rw[hn] at h<;>simp[bq_false] at h
  .let⟨l',h1,h2⟩:=ZAG.1 h
   exact⟨_,.p _ _ _ (m7Z (λh hc=>gDZ h hc) h1 R.v),h2⟩
  .exact⟨_,R,h⟩
 .rename_i t x _;cases hn:t.noRef<;>rw[hn] at h<;>simp[bq_false] at h
  .let⟨y,h1,h2⟩:=ZAG.1 h
   exact⟨_,.p _ _ _ (R.v.unref λvs hc=>gDZ h1 hc),h2⟩
  .exact⟨_,R,h⟩
 grind
theorem mAZ:∀{l} {K} {r:β} {vs},zY l K=some r->bQ z l vs->∃R,bQ z R vs/\K R=some r
 |[],K,r,vs,h,hv=>⟨[],hv,h⟩
 |a::l,K,r,[],h,hv=>by have:=hv.1;simp_all
 |a::l,K,r,v::vs,h,hv=>by
  let⟨x,h1,h2⟩:=rBZ h hv.head
  let⟨R,h3,h4⟩:=mAZ h2 hv.tail
  exact⟨x::R,.cons h1 h3,h4⟩
theorem t6Z{l}{cs}(ha:bE z (.agg l) (.agg cs)){z'}{R}(h:bQ z' R cs.toList):bE z' (.agg R) (.agg cs):=by
 cases ha with|agg _ _ hs h1 h2=>
 exact .agg _ _ (by have:=h.1;simp_all) h1 λi x v p1 p2=>h.2 i x v p1 (by simp_all)
theorem tiZ{a}{K}{r:β}{v}(h:xQ a K=some r)(R:bE z a v):∃x,bE z x v/\K x=some r:=by
 unfold xQ at h;split at h
 .cases hv:v<;>rw[hv] at R<;>first|(cases R;done)|skip
  let⟨l',h1,h2⟩:=mAZ h R.reps
  exact⟨_,t6Z R h1,h2⟩
 grind[rBZ]
theorem n9Z{a}{K}{r:β}{v}(hH:bI z H)(h:oB H a K=some r)(R:bE z a v):∃x H' z',z'.w=z.w/\bI z' H'/\Nx z z'/\z'.ρ=z.ρ/\bE z' x v/\K x H'=some r:=by
 let⟨z',q1,q2,q3,q4⟩:=vjZ hH
 have kp:=q3.kp hH.sub;unfold oB at h;split at h
 .rename_i l;cases hb:AX l<;>rw[hb] at h<;>simp[bq_false] at h
  .grind[Nx.refl]
  .cases hv:v<;>rw[hv] at R<;>first|(cases R;done)|skip;rename_i cs
   let⟨l',h1,h2⟩:=hQZ q2 h (R.reps.kp kp)
   exact⟨_,_,z',q1,q2,q3,q4,t6Z R h1,h2⟩
 .cases hb:a.anyRef<;>rw[hb] at h<;>simp[bq_false] at h
  .grind[Nx.refl]
  .let⟨x,h1,h2⟩:=kxZ q2 h (R.kp kp)<;>grind
theorem fFZ{a R}{H'}{v}(hH:bI z H)(h:vS H a=some (R,H'))(ha:bE z a v):
 ∃z',z'.w=z.w/\bI z' H'/\Nx z z'/\z'.ρ=z.ρ/\bE z' R v:=by
 let⟨⟨x,H1⟩,h1,h2⟩:=agZ.1 h
 let⟨z1,p1,p2,p3,p4,p5⟩:=bWZ hH h1 ha
 let⟨y,H2,z2,q1,q2,q3,q4,q5,q6⟩:=n9Z p2 h2 p5
 obtain⟨rfl,rfl⟩:=Prod.mk.inj (ZAf q6);exact⟨z2,q1.trans p1,q2,p3.trans q3,q4.trans p4,q5⟩
end
end
section
variable {P : Program} {z : Z} {H : Hp} {β : Type}
theorem aOZ(H):∀(K) (id),bG (gG H K) id=if bM K id then bG K id else bG H id
 |[],id=>by simp[gG,bM]
 |(i,e)::K,id=>by
  simp only[gG,apZ,bM,bG];by_cases h:id=i
  .subst h;simp
  .simp[ahZ (ZBj h),h,aOZ H K id]
theorem aGZ(H):∀(K) (id),bM (gG H K) id=(bM K id||bM H id)
 |[],id=>by simp[gG,bM]
 |(i,e)::K,id=>by
  simp[gG,atZ,bM];by_cases h:id=i
  .subst h;simp
  .simp[ahZ (ZBj h),h,aGZ H K id]
theorem beZ:∀(l) (H) (id),bG (gE H l) id=if cH id l then none else bG H id
 |[],H,id=>by simp[gE,cH]
 |i::l,H,id=>by
  rw[gE,beZ l,apZ];simp only[cH];by_cases h:id=i
  .subst h;simp
  .simp[ahZ (ZBj h),h]
theorem aNZ:∀(l) (H) (id),bM (gE H l) id=(cH id l||bM H id)
 |[],H,id=>by simp[gE,cH]
 |i::l,H,id=>by
  rw[gE,aNZ l,atZ];simp[cH];by_cases h:id=i
  .subst h;simp
  .simp[ahZ (ZBj h),h]
theorem bYZ(H):∀(l) (id),bG (sH H l) id=(if cH id l then bG H id else none)/\bM (sH H l) id=(cH id l&&bM H id)
 |[],id=>by grind[sH,cH,bG,bM]
 |i::l,id=>by
  let⟨h1,h2⟩:=bYZ H l id
  simp[sH,cH];cases hk:bM H i
  .simp;rw[h1,h2];by_cases h:i=id
   .subst h;simp only[hk,Bool.and_false,ZBk];rw[auZ hk];split<;>rfl
   grind[ahZ]
  .simp[bG,bM]
   grind[afZ,ahZ]
theorem ezZ:∀{H} {id},bM H id=true↔id∈nA H
 |[],id=>by simp[bM,nA]
 |(i,e)::H,id=>by
  simp[bM,nA];by_cases h:i=id
  .subst h;simp
  simp_all[ezZ,ZBj]
theorem eOZ{id}:∀{l},id∈FP l↔id∈l
 |[]=>by simp[FP]
 |i::l=>by
  simp[FP];cases hm:cH i l
  .simp[eOZ]
  .simp only[bq_true,eOZ];exact⟨.inr,λh=>h.elim (λe=>e▸ajZ.1 hm) λh=>h⟩
theorem lEZ:∀{l r},eqN l r=true↔l=r
 |[],[]=>by simp[eqN]
 |[],_::_=>by simp[eqN]
 |_::_,[]=>by simp[eqN]
 |i::l,k::r=>by simp[eqN,lEZ]
theorem bE.less{z'}{a}{v}(h:bE z a v)(R:z'.w=z.w)(hr:z'.ρ=z.ρ)(hM:∀g,z'.M g->z.M g):bE z' a v:=
 h.kp ⟨by simp_all,λ_ _ _=>by rw[R],λg hg=>.inl (hM g hg),λ_ _=>by rw[hr]⟩
theorem bQ.less{z'}{l}{vs}(h:bQ z l vs)(R:z'.w=z.w)(hr:z'.ρ=z.ρ)(hM:∀g,z'.M g->z.M g):bQ z' l vs:=
 ⟨h.1,λi a v h1 h2=>(h.2 i a v h1 h2).less R hr hM⟩
theorem pIZ{α}(f)(ms)(l)(y:List α×List (Nat×List α)):vT f ms (.inl l)≠some y:=by
 unfold vT;cases nro f<;>exact λh=>by cases h
theorem pZZ{α}{f}{ms R}{l:List α}(h:vT f ms (.inr none)=some (l,R)):[]=l/\ms=R:=by
 unfold vT at h;cases hn:nro f<;>rw[hn] at h
 .cases h
 .exact Prod.mk.inj (ZAf h)
theorem q8Z{α}{f k off n}{ms R}{l':List α}(h:vT f ms (.inr (some (k,off,n)))=some (l',R)):
 ∃l,ms[k]? =some (1,l)/\0=off/\n<=l.length/\l.take n=l'/\R.length=ms.length/\∀k' m',R[k']? =some m'->m'.1≠0->ms[k']? =some m'/\k'≠k/\nro f=true:=by
 unfold vT at h;cases hn:nro f<;>rw[hn] at h
 .obtain⟨⟨st,l⟩,h3,h4⟩:=ZAG.1 ((h));obtain⟨h5,h6⟩:=aeZ.1 h4;simp only[ZAE,afZ,ZAm] at h5
  grind
 .obtain⟨⟨st,l⟩,h3,h4⟩:=ZAG.1 ((h));obtain⟨h5,h6⟩:=aeZ.1 h4;simp only[ZAE,afZ,ZAm] at h5
  grind
theorem qRZ{m}{a a'}{H'}{v}(hH:bI z H)(ak:m<4\/¬z.D (m+100000))(h:FO P H m a=some (a',H'))(ha:bE z a v):
 ∃R Mf,R.w=z.w/\bI R H'/\Nx z R/\(∀g,Mf g->R.M g)/\bE {R with M:=Mf} a' v/\(m≠2->Mf=R.M):=by
 unfold FO at h;split at h
 .simp only[ZAV,ZA0] at h;obtain⟨rfl,rfl⟩:=h;exact⟨z,z.M,rfl,hH,Nx.refl z,λ_ h=>h,ha,λ_=>rfl⟩
 .obtain⟨z',q1,q2,q3,q4,q5⟩:=fFZ hH h ha;exact⟨z',z'.M,q1,q2,q3,λ_ h=>h,q5,λ_=>rfl⟩
 .obtain⟨⟨x,H1⟩,h1,h2⟩:=ZAH.1 h;simp only[ZA0] at h2;obtain⟨rfl,rfl⟩:=h2;obtain⟨z',q1,q2,q3,q4,q5⟩:=fFZ hH h1 ha;refine⟨z,λg=>z.M g/\z'.M g,rfl,hH,Nx.refl z,λ_ h=>h.1,?_,λh=>absurd rfl h⟩;exact q5.less q1.symm q4.symm λg h=>h.2
 .obtain⟨x,h1,h2⟩:=tiZ h ha;obtain⟨rfl,rfl⟩:=Prod.mk.inj (ZAf h2);exact⟨z,z.M,rfl,hH,Nx.refl z,λ_ h=>h,h1,λ_=>rfl⟩
 .rename_i m' h0 h1 h2 aq;have ae:=by
   refine ak.resolve_left λhm=> ?_;have:m=0\/m=1\/m=2\/m=3:=by omega
   rcases this with rfl|rfl|rfl|rfl
   .simp_all
   .simp_all
   .simp_all
   .simp_all
  clear h0 h1 h2 aq ak;split at h
  .rename_i f s x;split at h
   .rename_i e s' ms hg;rcases aUZ h with⟨hs,hh⟩|hh
    .clear h;subst hs;obtain⟨hb,h⟩:=aeZ.1 hh;simp only[ZAE,afZ,ZBd,ZAk] at hb;obtain⟨⟨rfl,hk⟩,ab⟩:=hb;obtain⟨⟨l',al⟩,h1,h2⟩:=ZAG.1 h;obtain⟨rfl,rfl⟩:=Prod.mk.inj (ZAf h2);have am:=hH.fam _ _ hg;have hD:=ae;have ar:bZ f≠m+100000:=by have:=(caZ f).1;omega
     clear h2 hh h;have hv:=ha.v.scal rfl rfl
     match x,h1,hv with
     |.inl l,h1,hv=>exact absurd h1 (pIZ f ms l _)
     |.inr none,h1,hv=>
      obtain⟨rfl,rfl⟩:=pZZ h1;have hv:[v]=[Value.slice none 0 0]:=hv;simp only[ZBR,ZBk] at hv;subst hv;have af:bI z (bS H (bZ f) (some ⟨false,.fam ((m-10)%5000) s' ms⟩)):=by
       refine hH.same (λid=> ?_) λid=> ?_
       .rw[apZ];by_cases hi:id=bZ f
        .rw[ZAM hi,hi];exact hg.symm
        .rw[ZAK hi]
       .rw[atZ];by_cases hi:id=bZ f
        .rw[hi,aiZ hg];simp
        .simp[hi]
      obtain⟨R,p1,p2,p3,p4⟩:=af.newV ⟨by rw[atZ,hk];simp[ZBj ar],ab⟩ hD (b:=.rows ((m-10)%5000) s' []) ⟨rfl,am.2.2.2.1⟩;exact⟨R,R.M,p1,p2,p3,λ_ h=>h,.slfV _ _ _ p4,λ_=>rfl⟩
     |.inr (some (k,off,n)),h1,hv=>
      obtain⟨l,h3,rfl,hn,rfl,an,ag⟩:=q8Z h1;have ah:=g7Z hg h3 (by simp);obtain⟨ao,hX,as⟩:=hH.cut hg an λk' m' q1 q2=>(ag k' m' q1 q2).1;have au:∀i e,bP (bS H (bZ f) (some ⟨false,.fam ((m-10)%5000) s' al⟩)) i=some e->bP H i=some e/\i≠enc f k/\¬(Ro i/\Ro (enc f k)):=λi e h=>by
       obtain⟨q1,q2⟩:=hX i e h;refine⟨q1,λhi=> ?_,λhr=> ?_⟩
       .obtain⟨m',r1,r2⟩:=q2 k hi;exact(ag k m' r1 r2).2.1 rfl
       .obtain⟨k',ad⟩:=iQZ hr.1.1 (by rw[hr.1.rt,bZ,q2Z.1 hr.2]);obtain⟨m',r1,r2⟩:=q2 k' ad;exact kUZ (ag _ _ r1 r2).2.2 hr.2
      have ap:bM (bS H (bZ f) (some ⟨false,.fam ((m-10)%5000) s' al⟩)) (m+100000)=false:=by rw[as];exact hk
      rcases hv with⟨A,aa,rfl,hv⟩|⟨g,sz,m',c,aa,h7,h8,h9,hv⟩
      .simp only[ZBR,ZBk] at hv;subst hv;have hE:=hH.ent _ _ ah;unfold eW at hE;rw[aa] at hE;obtain⟨R,p1,p2,p3,p4⟩:=ao.newV ⟨ap,ab⟩ hD (b:=.rows ((m-10)%5000) s' (l.take 0)) ⟨by simp,am.2.2.2.1⟩;exact⟨R,R.M,p1,p2,p3,λ_ h=>h,.slfV _ _ _ p4,λ_=>rfl⟩
      .simp only[ZBR,ZBk] at hv;subst hv;obtain⟨R,p1,p2,p3,p4⟩:=hH.moveX (n':=n) (b:=.rows ((m-10)%5000) s' (l.take n)) ah aa ao au ⟨ap,ab⟩ hD rfl ⟨rfl,ZAN _⟩ rfl rfl (λ_ _=>rfl) (λR hw kp=>by
        have hB:=(hH.realX ah aa).2.2.2;obtain⟨cs,fr,a1,a2,a3,a4,a5,a6,a7⟩:=hB.kp kp (by rw[hw]);refine⟨cs,fr,a1,a2,a3,by rw[ZAS];omega,?_,a6,λi x hx=> ?_⟩
        .rw[ZAS];exact ZBF (ZAd _ (Nat.min_le_right _ _)) a5
        .rw[ZAo] at hx;split at hx
         .exact a7 i x hx
         .cases hx)
       refine⟨R,R.M,p1,p2,p3,λ_ h=>h,?_,λ_=>rfl⟩;rw[ZBn];exact .slf _ _ _ _ _ _ p4 h7 (by rw[ZA1] at h8;exact h8) h9
    .cases hh
   grind
  .obtain⟨u,h3,h4⟩:=agZ.1 h;cases hk:(bM H (m+100000)||Nat.ble bA (m+100000))<;>rw[hk] at h4<;>simp only[bq_true,bq_false] at h4
   .simp only[ZAV,ZA0] at h4;obtain⟨rfl,rfl⟩:=h4;simp only[ZBX] at hk;have ab:m+100000<bA:=ZBN.1 λh=>by rw[ZAi h] at hk;cases hk.2
    obtain⟨R,p1,p2,p3,p4⟩:=hH.newV ⟨hk.1,ab⟩ (ae) (b:=.rows ((m-10)%5000) u []) ⟨rfl,(dnZ h3).2.1⟩;obtain rfl:=ha.v.opq.1;exact⟨R,R.M,p1,p2,p3,λ_ h=>h,.slfV _ _ _ p4,λ_=>rfl⟩
   simp_all
  .rename_i es ac n;split at h
   .rename_i e t l hg;cases hb:(Nat.beq es t.cells&& !bM H (m+100000)&&Nat.blt (m+100000) bA&&Nat.ble n l.length)<;>rw[hb] at h<;>simp only[bq_true,bq_false] at h
    .cases h
    simp only[ZAE,afZ,ZAm,ZBd,ZAk] at hb;obtain⟨⟨⟨rfl,hk⟩,ab⟩,hn⟩:=hb;simp only[ZAV,ZA0] at h;obtain⟨rfl,rfl⟩:=h;have ad:bM (bS H ac none) (m+100000)=false:=by
     rw[atZ,hk];have:m+100000≠ac:=λh=>by simp_all[aiZ]
     simp[this]
    have hD:=ae;have ai:z.ρ ac= .virt->∃R,R.w=z.w/\bI R (bS (bS H ac none) (m+100000) (some ⟨false,.rows e t (l.take n)⟩))/\Nx z R/\R.ρ (m+100000)= .virt:=λaa=>by
     obtain⟨rfl,hc⟩:=hH.virt hg aa;exact(hH.kill (aiZ hg)).newV ⟨ad,ab⟩ hD ⟨by simp,hc⟩
    have aj:∀g sz k,z.ρ ac= .real g sz k->∃R,R.w=z.w/\bI R (bS (bS H ac none) (m+100000) (some ⟨false,.rows e t (l.take n)⟩))/\Nx z R/\R.ρ (m+100000)= .real g sz n:=λg sz k aa=>by
     refine hH.move (w':=z.w) hg aa ⟨ad,ab⟩ hD rfl ⟨rfl,ZAN _⟩ rfl rfl (λ_ _=>rfl) λR hw kp=> ?_;have hB:=(hH.real hg aa).2.2.2;obtain⟨cs,fr,a1,a2,a3,a4,a5,a6,a7⟩:=hB.kp kp (by rw[hw]);refine⟨cs,fr,a1,a2,a3,by rw[ZAS];omega,?_,a6,λi x hx=> ?_⟩
     .rw[ZAS];exact ZBF (ZAd _ (Nat.min_le_right _ _)) a5
     grind
    cases ha with
    |slV _ _ _ A aa=>
     obtain⟨R,p1,p2,p3,p4⟩:=ai aa;exact⟨R,R.M,p1,p2,p3,λ_ h=>h,.slfV _ _ _ p4,λ_=>rfl⟩
    |slE _ _ _ g sz k o aa=>
     obtain⟨_,_,_,cs,fr,a1,a2,a3,a4,a5,a6,a7⟩:=hH.real hg aa;obtain⟨R,p1,p2,p3,p4⟩:=(hH.kill (aiZ hg)).newV ⟨ad,ab⟩ hD (b:=.rows e t (l.take 0)) ⟨by simp,a6⟩;exact⟨R,R.M,p1,p2,p3,λ_ h=>h,.slfV _ _ _ p4,λ_=>rfl⟩
    |sl _ _ _ _ g sz k c aa av hs hm=>
     obtain⟨R,p1,p2,p3,p4⟩:=aj g sz k aa;refine⟨R,R.M,p1,p2,p3,λ_ h=>h,?_,λ_=>rfl⟩;rw[ZBn];exact .slf _ _ _ _ _ _ p4 av (by simp_all) hm
   .simp only[ZAV,ZA0] at h;obtain⟨rfl,rfl⟩:=h;exact⟨z,z.M,rfl,hH,Nx.refl z,λ_ h=>h,ha,λ_=>rfl⟩
  .simp only[ZAV,ZA0] at h;obtain⟨rfl,rfl⟩:=h;exact⟨z,z.M,rfl,hH,Nx.refl z,λ_ h=>h,ha,λ_=>rfl⟩
theorem jpZ:∀{as} {ms} {as'} {z} {H H'} {vs},bI z H->(∀m∈ms,m<4\/¬z.D (m+100000))->zZ P H ms as=some (as',H')->bQ z as vs->
 ∃z1 Mf,z1.w=z.w/\bI z1 H'/\Nx z z1/\(∀g,Mf g->z1.M g)/\bQ {z1 with M:=Mf} as' vs/\(cH 2 ms=false->Mf=z1.M)
 |[],ms,as',z,H,H',vs,hH,hmd,h,hr=>by
  obtain⟨rfl,rfl⟩:=h;exact⟨z,z.M,rfl,hH,Nx.refl z,fun _ h=>h,hr,fun _=>rfl⟩
 |a::as,ms,as',z,H,H',vs,hH,hmd,h,hr=>by
  let⟨⟨x,H1⟩,h1,h2⟩:=agZ.1 h
  let⟨⟨y,H2⟩,h3,h4⟩:=ZAH.1 h2
  simp at h4;obtain⟨rfl,rfl⟩:=h4
  match vs,hr with
  |[],hr=>have:=hr.1;simp_all
  |v::vs,hr=>
   have e1:ms.headD 0<4\/¬z.D (ms.headD 0+100000):=by cases ms with|nil=>exact .inl (by simp)|cons m ms=>exact hmd m (by simp)
   let⟨z1,Mf,q1,q2,q3,q4,q5,q6⟩:=qRZ hH e1 h1 hr.head
   have e2:∀m∈ms.tail,m<4\/¬z1.D (m+100000):=fun m hm=>(hmd m (List.mem_of_mem_tail hm)).imp_right fun h=>by rw[q3.dom];exact h
   let⟨z2,Mg,p1,p2,p3,p4,p5,p6⟩:=jpZ q2 e2 h3 (hr.tail.kp (q3.kp hH.sub))
   have k:=p3.kp q2.sub;refine⟨z2,fun g=>Mg g/\(Mf g\/z1.w.heap.size<=g),p1.trans q1,p2,q3.trans p3,fun g h=>p4 g h.1,.cons ?_ (p5.less rfl rfl fun g h=>h.1),fun hm=> ?_⟩
   ·have kk:Kp {z1 with M:=Mf} {z2 with M:=fun g=>Mg g/\(Mf g\/z1.w.heap.size<=g)}:=⟨k.size,fun b _ _=>by show z2.w.heap[b]? =z1.w.heap[b]?;rw[p1],fun g h=>h.2,k.ext⟩;exact q5.kp kk
   ·have m1:ms.headD 0≠2/\cH 2 ms.tail=false:=by
     cases ms with
     |nil=>exact⟨by simp,rfl⟩
     |cons m ms=>
      simp[cH] at hm;cases hb:Nat.beq m 2<;>rw[hb] at hm<;>simp at hm;exact⟨fun h=>by simp at h;rw[h] at hb;simp at hb,hm⟩
    have a1:=q6 m1.1;have a2:=p6 m1.2;subst a1;subst a2;funext g;refine propext ⟨fun h=>h.1,fun h=>⟨h,?_⟩⟩;exact k.subM g h
end
section
variable {P : Program} {z : Z} {H : Hp} {β : Type}
theorem Cl.scal{w w'}{M M'}{ρ aa}:{t:Ty}->{x:t.den}->{vs:List Value}->t.scal=true->Cl w M ρ t x vs->Cl w' M' aa t x vs
 |.int _,_,_,_,h|.byte,_,_,_,h|.bool,_,_,_,h|.str,_,_,_,h=>h
 |.nat,_,_,_,h=>h.elim
 |.opq,_,_,R,_=>by cases R
 |.sl _,_,_,R,_=>by cases R
 |.ref _ _,_,_,R,_=>by cases R
 |.one t,_,_,R,h=>Cl.scal (t:=t) R h
 |.pair a b,_,_,R,h=>by
  obtain⟨u,v,rfl,h1,h2⟩:=h;simp[Ty.scal] at R;exact⟨u,v,rfl,Cl.scal R.1 h1,Cl.scal R.2 h2⟩
 |.arr n t,l,_,R,h=>by
  obtain⟨hn,css,h1,rfl,h2⟩:=h;exact⟨hn,css,h1,rfl,λi e u he hu=>Cl.scal R (h2 i e u he hu)⟩
mutual
theorem pJZ:(k:Kd)->{r:List Ty}->iF (k.lv r)=true->iF r=true
 |.p _,r,h|.pt _,r,h|.ownx _ _ _,r,h=>by simp only[Kd.lv,iF,ZAE] at h;exact h.2
 |.sl _ _,r,h=>by simp only[Kd.lv,iF,ZAE] at h;exact h.2.2
 |.own _ _ _ _,r,h|.slf _ _,r,h|.mp _,r,h|.any,r,h|.nilp _,r,h=>h
 |.fn _ a c,r,h=>d9Z c (d9Z a h)
 |.agg l,r,h=>d9Z l h
 |.tup l,r,h=>d9Z l h
theorem d9Z:(k:KdL)->{r:List Ty}->iF (k.lv r)=true->iF r=true
 |.nil,r,h=>h
 |.cons k l,r,h=>d9Z l (pJZ k h)
end
mutual
theorem nlZ{fs:List Nat}:(k:Kd)->{r:List Ty}->cZ fs (k.lv r)=true->cZ fs r=true
 |.p _,r,h|.pt _,r,h|.ownx _ _ _,r,h=>by simp only[Kd.lv,cZ,ZAE] at h;exact h.2
 |.sl _ _,r,h=>by simp only[Kd.lv,cZ,ZAE] at h;exact h.2.2
 |.own _ _ _ _,r,h|.slf _ _,r,h|.mp _,r,h|.any,r,h|.nilp _,r,h=>h
 |.fn _ a c,r,h=>bPZ c (bPZ a h)
 |.agg l,r,h=>bPZ l h
 |.tup l,r,h=>bPZ l h
theorem bPZ{fs:List Nat}:(k:KdL)->{r:List Ty}->cZ fs (k.lv r)=true->cZ fs r=true
 |.nil,r,h=>h
 |.cons k l,r,h=>bPZ l (nlZ k h)
end
mutual
theorem qvZ{fs:List Nat}:(k:Kd)->{r:List Ty}->(y:HL (k.lv r))->cZ fs (k.lv r)=true->(emb k r y).1.famInT fs=true
 |.p t,r,y,h|.pt t,r,y,h=>by
  simp only[Kd.lv,cZ,ZAE] at h;exact h.1
 |.own _ _ _ _,r,y,h|.ownx _ _ _,r,y,h|.sl _ _,r,y,h|.slf _ _,r,y,h|.mp _,r,y,h|.any,r,y,h|.nilp _,r,y,h=>rfl
 |.fn g a c,r,y,h=>by
  simp only[emb,AV.famInT,ZAE];exact⟨bvZ a (r:=c.lv r) y h,bvZ c (r:=r) _ (bPZ a h)⟩
 |.agg l,r,y,h=>bvZ l (r:=r) y h
 |.tup l,r,y,h=>bvZ l (r:=r) y h
theorem bvZ{fs:List Nat}:(k:KdL)->{r:List Ty}->(y:HL (k.lv r))->cZ fs (k.lv r)=true->AV.famInTL fs (embL k r y).1=true
 |.nil,r,y,h=>rfl
 |.cons k l,r,y,h=>by
  simp only[embL,AV.famInTL,ZAE];exact⟨qvZ k (r:=l.lv r) y h,bvZ l (r:=r) _ (nlZ k h)⟩
end
theorem hRZ{fs}:(R:HK)->{r:List Ty}->(y:HL (fL R r))->cZ fs (fL R r)=true->∀id e,bG (kV R r y).1 id=some e->e.b.famInT fs=true
 |[],r,y,h,id,e,he=>by simp_all[kV,bG]
 |(j,fz,k)::R,r,y,h,id,e,he=>by
  have hb:(mA k (fL R r) y).1.famInT fs=true/\cZ fs (fL R r)=true:=by
   cases k with
   |vars l=>exact⟨bvZ l y h,bPZ l h⟩
   |rows e t=>
    simp[fL,BKd.lv,cZ,Ty.famIn] at h;exact⟨h.1,h.2⟩
   |map kt vt=>
    simp only[fL,BKd.lv,cZ,ZAE,Ty.famIn] at h;exact⟨by simp[mA,Blk.famInT];exact⟨h.1.1.1.1,h.1.1.1.2⟩,h.2⟩
   |fam e s=>
    simp only[fL,BKd.lv,cZ,ZAE,Ty.famIn] at h;exact⟨by simp[Blk.famInT];exact h.1.2,h.2⟩
  simp[kV,bG] at he;cases aa:Nat.beq j id<;>rw[aa] at he<;>simp[ZAD] at he
  .exact hRZ R _ hb.2 id e he
  grind
variable {z' : Z} {f : Nat → Option Nat}
mutual
theorem sIZ(hf:∀id,f id=none):(k:Kd)->{r:List Ty}->{y:HL (k.lv r)}->{v:Value}->iF (k.lv r)=true->bE z (emb k r y).1 v->bE z' (AV.ren f (emb k r y).1) v
 |.p t,r,y,v,R,h=>by
  simp only[Kd.lv,iF,ZAE] at R;obtain⟨vs,h1,h2⟩:=h.v;exact .p _ _ _ ⟨vs,Cl.scal R.1 h1,h2⟩
 |.pt t,r,y,v,R,h=>by simp[Kd.lv,iF,Ty.scal] at R
 |.own _ _ _ _,r,y,v,R,h|.ownx _ _ _,r,y,v,R,h|.sl _ _,r,y,v,R,h|.slf _ _,r,y,v,R,h|.mp _,r,y,v,R,h=>by
  simp only[emb,AV.ren,hf];exact .junk v
 |.any,r,y,v,R,h=>.junk v
 |.fn g a c,r,y,v,R,h=>by
  simp only[emb,AV.ren];simp only[emb] at h;cases h with|fn _ _ _ va vc e1 e2 e3 e4=>
  have p1:=cVZ hf a (r:=c.lv r) (y:=y) (vs:=va.toList) R ⟨by simp[e1],λi x v q1 q2=>e3 i x v q1 (by simpa using q2)⟩;have p2:=cVZ hf c (r:=r) (y:=(embL a (c.lv r) y).2) (vs:=vc.toList) (d9Z a R) ⟨by simp[e2],λi x v q1 q2=>e4 i x v q1 (by simpa using q2)⟩;exact .fn _ _ _ _ _ (by have:=p1.1;simpa using this.symm) (by have:=p2.1;simpa using this.symm) (λi x v q1 q2=>p1.2 i x v q1 (by simpa using q2)) (λi x v q1 q2=>p2.2 i x v q1 (by simpa using q2))
 |.agg l,r,y,v,R,h=>by
  simp only[emb,AV.ren];simp only[emb] at h;cases h with|agg _ cs e1 e2 e3=>
  have p1:=cVZ hf l (r:=r) (y:=y) (vs:=cs.toList) R ⟨by simp[e1],λi x v q1 q2=>e3 i x v q1 (by simpa using q2)⟩;exact .agg _ _ (by have:=p1.1;simpa using this.symm) e2 λi x v q1 q2=>p1.2 i x v q1 (by simpa using q2)
 |.tup l,r,y,v,R,h=>by
  simp only[emb,AV.ren];simp only[emb] at h;cases h with|tup _ cs e1 e3=>
  have p1:=cVZ hf l (r:=r) (y:=y) (vs:=cs.toList) R ⟨by simp[e1],λi x v q1 q2=>e3 i x v q1 (by simpa using q2)⟩;exact .tup _ _ (by have:=p1.1;simpa using this.symm) λi x v q1 q2=>p1.2 i x v q1 (by simpa using q2)
 |.nilp u,r,y,v,R,h=>by
  obtain⟨vs,h1,h2⟩:=h.v;exact .p _ _ _ ⟨vs,h1,h2⟩
theorem cVZ(hf:∀id,f id=none):(k:KdL)->{r:List Ty}->{y:HL (k.lv r)}->{vs:List Value}->iF (k.lv r)=true->bQ z (embL k r y).1 vs->bQ z' (AV.renL f (embL k r y).1) vs
 |.nil,r,y,vs,R,h=>⟨h.1,λi a v h1 h2=>by simp[embL,AV.renL] at h1⟩
 |.cons k l,r,y,[],R,h=>by have:=h.1;simp[embL] at this
 |.cons k l,r,y,v::vs,R,h=>by
  simp only[embL] at h;simp only[embL,AV.renL];exact .cons (sIZ hf k R h.head) (cVZ hf l (pJZ k R) h.tail)
end
theorem sVZ(l):AV.ren f (nH l)=nH (AV.renL f l):=by
 match l with
 |[]=>simp[nH,AV.ren,AV.renL]
 |[a]=>simp[nH,AV.renL]
 |a::b::l=>simp[nH,AV.ren,AV.renL]
theorem rvZ{l}{v}(h:bE z (nH l) v):∃vs,bQ z l vs/\∀{z'} {R},bQ z' R vs->R.length=l.length->bE z' (nH R) v:=by
 match l with
 |[a]=>exact⟨[v],.cons h .nil,λ{z' R} h' hl=>by
    match R,hl with
    |[b],_=>exact h'.head⟩
 |[]=>
  obtain⟨vs,rfl,h1,h2⟩:=iJZ rfl h;refine⟨vs.toList,⟨by grind,λi a v h=>by grind⟩,λ{z' R} h' hl=> ?_⟩
  match R,hl with
  |[],_=>exact .tup _ _ (by omega) λi x v q1 q2=>h'.2 i x v q1 (by simp_all)
 |a::b::l=>
  obtain⟨vs,rfl,h1,h2⟩:=iJZ rfl h;refine⟨vs.toList,⟨by grind,λi a v q1 q2=>h2 i a v q1 (by simp_all)⟩,λ{z' R} h' hl=> ?_⟩
  match R,hl with
  |c::d::R,_=>exact .tup _ _ (by omega) λi x v q1 q2=>h'.2 i x v q1 (by simp_all)
def vG(P:Program)(f:FuncId):Prop:=∃fn c,P.funcs[f]? =some fn/\fn.body=some c/\(fn.name== "runtime.NumGoroutine")=false
def vH(P:Program)(f:FuncId)(aa:Array Value)(w:World)(R:Ending->World->Prop):Prop:=
 (vG P f/\Calls P f aa w R)\/∃v w',(callFunc f aa).run P w= .ok (.value v) w'/\R (.returned v) w'
theorem vH.mono{P}{f}{aa}{w}{R R'}(h:vH P f aa w R)(hr:∀e w',R e w'->R' e w'):vH P f aa w R':=by
 rcases h with⟨h1,h2⟩|⟨v,w',h1,h2⟩
 .exact .inl ⟨h1,h2.mono hr⟩
 .exact .inr ⟨v,w',h1,hr _ _ h2⟩
theorem vH.calls{P}{f}{aa}{w}{R}(h:vH P f aa w R)(hb:vG P f):Calls P f aa w R:=by
 rcases h with⟨_,h⟩|⟨v,w',h,_⟩
 .exact h
 .let⟨fn,c,h1,h2,h3⟩:=hb
  unfold callFunc at h
  simp_all
structure eZ (P:Program) (e:FnT):Prop where
 spec:∀t r,e.spec t=some r->∀(z:Z) (vals:List Value),bI z (e.i.emb t).2->bQ z (e.i.emb t).1 vals->(∀id,¬z.D id)->
  vH P e.f vals.toArray z.w fun en w'=>∃v z',en= .returned v/\z'.w=w'/\Nx z {z' with D:=z.D}/\(∀k,z'.D k->k∈bJ e.i.hs)/\dS.on e.os r fun o x=>bI z' (o.emb x).2/\bE z' (nH (o.emb x).1) v
theorem eZ.of{P}{e}(aa:vG P e.f)(R:∀t r,e.spec t=some r->∀(z) (vals),bI z (e.i.emb t).2->bQ z (e.i.emb t).1 vals->(∀id,¬z.D id)->
 Calls P e.f vals.toArray z.w λen w'=>∃v z',en= .returned v/\z'.w=w'/\Nx z {z' with D:=z.D}/\(∀k,z'.D k->k∈bJ e.i.hs)/\dS.on e.os r λo x=>bI z' (o.emb x).2/\bE z' (nH (o.emb x).1) v):eZ P e:=
 ⟨λt r h z vals h1 h2 h3=>.inl ⟨aa,R t r h z vals h1 h2 h3⟩⟩
theorem dS.on_both:∀{l} {x} {K} {Q} {R:β},dS.on l x K=some R->dS.on l x Q->∃o y,o∈l/\K o y=some R/\Q o y
 |[],x,_,_,_,_,_=>Empty.elim x
 |[s],x,K,Q,R,h,hq=>⟨s,x,by simp,h,hq⟩
 |s::t::r,.inl y,K,Q,R,h,hq=>⟨s,y,by simp,h,hq⟩
 |s::t::r,.inr y,K,Q,R,h,hq=>by
  let⟨o,x,h1,h2,h3⟩:=dS.on_both (x:=y) h hq
  exact⟨o,x,ZAc _ h1,h2,h3⟩
theorem bOZ{H}{f}:∀{R},(kG R).Nodup->∀k,bG (iT H f R) k=(gX R k).bind (λid=>(bG H id).map (Ent.ren f))/\(bM (iT H f R) k=true↔∃id e,gX R k=some id/\bG H id=some e)
 |[],_,k=>⟨rfl,by simp[iT,bM,gX]⟩
 |(i,j)::R,h,k=>by
  simp[kG] at h;obtain⟨q1,q2⟩:=bOZ h.2 k;have aa:j=k->gX R k=none:=λhj=>by
   cases hk:gX R k with
   |none=>rfl
   |some id=>exact absurd (dAZ (aKZ hk)) (hj▸h.1)
  cases hg:bG H i with
  |none=>
   simp only[iT,hg,gX];by_cases hj:j=k
   .rw[(afZ j k).2 hj,ZAL];rw[aa hj] at q1 q2;refine⟨by rw[q1];simp[hg],⟨λh=> ?_,λ⟨id,e,h1,h2⟩=> ?_⟩⟩
    .let⟨id,e,h1,_⟩:=q2.1 h;cases h1
    .simp at h1;subst h1;rw[hg] at h2;cases h2
   simp_all[ahZ]
  |some e=>
   simp only[iT,hg,gX,bG,bM]
   grind
theorem myZ:∀{a b},b.length<=a.length->kG (lH a b)=b/\∀i k,(i,k)∈lH a b->i∈a
 |[],[],_=>⟨rfl,λi k h=>by cases h⟩
 |[],_::_,h=>by grind
 |_::_,[],_=>⟨rfl,λi k h=>by cases h⟩
 |x::a,y::b,h=>by
  obtain⟨R,q2⟩:=myZ (by simpa using h);refine⟨by simp[lH,kG,R],λi k hm=> ?_⟩;simp[lH,ZA0] at hm;rcases hm with⟨rfl,_⟩|hm
  .simp
  .exact ZAc _ (q2 i k hm)
theorem ifZ:∀(n k),(nX k n).length=n
 |0,k=>rfl
 |n+1,k=>by simp[nX,ifZ n]
theorem jnZ:∀{a b} {i k},(i,k)∈lH a b->∃n:Nat,a[n]? =some i/\b[n]? =some k
 |[],_,i,k,h=>by cases h
 |_::_,[],i,k,h=>by cases h
 |x::a,y::b,i,k,h=>by
  simp[lH,ZA0] at h;rcases h with⟨rfl,rfl⟩|h
  .exact⟨0,rfl,rfl⟩
  .let⟨n,h1,h2⟩:=jnZ h
   exact⟨n+1,h1,h2⟩
theorem lTZ:∀{a b} {n i k:Nat},a[n]? =some i->b[n]? =some k->(i,k)∈lH a b
 |[],_,n,i,k,h,_=>by grind
 |_::_,[],n,i,k,_,h=>by grind
 |x::a,y::b,0,i,k,h1,h2=>by simp_all[lH]
 |x::a,y::b,n+1,i,k,h1,h2=>by
  simp[lH];exact .inr (lTZ (by simpa using h1) (by simpa using h2))
theorem jSZ:∀{n k m},m<n->(nX k n)[m]? =some (k+m)
 |0,k,m,h=>by omega
 |n+1,k,0,h=>rfl
 |n+1,k,m+1,h=>by
  simp[nX];rw[jSZ (by omega)];congr 1;omega
theorem oQZ{n k m i}(h:(nX k n)[m]? =some i):i=k+m/\m<n:=by
 grind[ZAB,ifZ,jSZ,ZAf]
end
section
variable {P : Program} {z : Z} {H : Hp} {β : Type}
theorem ftZ{H}:∀{l},tR H l=true->∀id∈l,bM H id=false
 |[],_,id,h=>by cases h
 |i::l,h,id,hm=>by
  simp[tR,ZAk] at h;rcases ZAj.1 hm with rfl|hm
  .exact h.1
  .exact ftZ h.2 id hm
def DM(fs:List Nat)(k:Nat):Prop:=bC<=k/\cH ((k-bC)%16) fs=false
instance (fs:List Nat) (k:Nat):Decidable (DM fs k):=inferInstanceAs (Decidable (_/\_))
theorem scZ{fs}{f k}:DM fs (enc f k)↔cH (f%16) fs=false:=by
 simp_all[enc,DM]
def Z.clean(fs:List Nat)(z:Z):Z:={z with ρ:=λk=>if DM fs k then .no else z.ρ k,D:=λk=>z.D k/\¬DM fs k}
theorem Z.clean_at{z:Z}{fs}{k}(h:k<bC):(z.clean fs).ρ k=z.ρ k:=ZAK λR=>ZBN.2 h R.1
theorem Z.clean_on{z:Z}{fs}{f k}(h:cH (f%16) fs=true):(z.clean fs).ρ (enc f k)=z.ρ (enc f k):=ZAK λR=>by simp_all[scZ]
theorem bI.clean{fs}(R:bI z H)(hs:∀id,DM fs id->bM H (rt id)=false)(hn:∀id e,bP H id=some e->e.b.famInT fs=true/\∀i∈e.ids,i<bC):bI (z.clean fs) H:=by
 have ac:vF fs z.ρ (z.clean fs).ρ:=λf k hf _=>Z.clean_on hf;have aa:∀id e,bP H id=some e->(z.clean fs).ρ id=z.ρ id:=λid e h=>by
  refine ZAK λho=> ?_;have:=hs id ho;rw[a8Z ho.1,auZ this] at h;cases h
 refine⟨λid e h=>(R.ent id e h).rho rfl rfl (.on ac (hn id e h).1) (aa id e h) (λi hi=>Z.clean_at ((hn id e h).2 i hi)) λ_ _ _ _ _ h=>h,
  λid ab e e' g sz n g' ad n' ae h1 h2 m1 m2 p3 p4=> ?_,λid h=> ?_,R.sub,R.fam,R.key,λid hd h hD=>R.dyn id hd h hD.1,λid h1 h2=>by rw[Z.clean_at h2];exact R.nos id h1 h2⟩
 .rw[aa id e h1] at p3;rw[aa ab e' h2] at p4;exact R.inj id ab e e' g sz n g' ad n' ae h1 h2 m1 m2 p3 p4
 .by_cases hd:DM fs id
  .exact .inl (ZAM hd)
  .rcases R.fresh id h with h|h
   .exact .inl (by rw[show(z.clean fs).ρ id=z.ρ id from ZAK hd];exact h)
   .exact .inr ⟨h,hd⟩
theorem eGZ:∀{l} {f},(∀i∈l,i<bC)->f<16->(cH f (iM l)=true↔bA+f∈l)
 |[],f,_,_=>by simp[iM,cH]
 |i::l,f,hl,hf=>by
  have ih:=eGZ (λi h=>hl i (ZAc _ h)) hf;simp[iM];by_cases hb:bA<=i
  .rw[ZAi hb,ZAL];simp only[cH];by_cases h:i-bA=f
   .rw[(afZ _ _).2 h]
    grind
   .rw[ahZ h,ZAD]
    grind
  .have:Nat.ble bA i=false:=by
    cases hc:Nat.ble bA i
    .rfl
    .exact absurd (ZBM hc) hb
   grind
theorem iwZ{l}(hl:∀i∈l,i<bC){k}:DM (iM l) k↔bC<=k/\rt k∉l:=by
 constructor
 .rintro⟨h1,h2⟩;refine⟨h1,λhm=> ?_⟩;unfold rt at hm
  grind[eGZ,ZCc]
 .rintro⟨h1,h2⟩;refine⟨h1,?_⟩;cases hc:cH ((k-bC)%16) (iM l)
  .rfl
  simp_all[rt,eGZ,ZCc]
theorem jAZ{s:Shp}{t}{fs}(hn:cZ fs s.tys=true){z}(hH:bI z (s.emb t).2){id}{e}(h:bP (s.emb t).2 id=some e):e.b.famInT fs=true:=by
 have h1:=λid e he=>hRZ s.hs (embL s.ks (fL s.hs []) (gA s.tys t)).2 (bPZ s.ks hn) id e he;by_cases hd:bC<=id
 .rw[a8Z hd] at h
  let⟨e0,p1,R⟩:=ZAG.1 h
  have p3:=h1 _ _ p1;unfold pick at R;split at R
  .rename_i e' s' ms hb;split at R
   .split at R
    .cases R
    .simp at R;subst R;rw[hb] at p3;exact p3
   .cases R
  simp_all
 .by_cases hf:bA<=id
  .simp_all[bP,ZAM]
  .rw[aqZ (by omega)] at h;exact h1 _ _ h
theorem shZ{e x}{k}(h:pick k e=some x):x.ids=[]:=(e1Z h some).2
theorem lJZ{s:Shp}{t:s.D}{zc0:Z}{vals:List Value}(hn:cZ (iM (bJ s.hs)) s.tys=true)(k4:bI zc0 (s.emb t).2)(k5:bQ zc0 (s.emb t).1 vals)(R:∀k,cH k (bJ s.hs)=true->k<bC)
 (ab:∀i,i∈s.ks.ids\/i∈vR s.hs->i∈bJ s.hs):
 ∃zc:Z,zc.w=zc0.w/\zc.M=zc0.M/\bI zc (s.emb t).2/\bQ zc (s.emb t).1 vals/\(∀k,k<bC\/rt k∈bJ s.hs->zc.ρ k=zc0.ρ k)/\zc.C=zc0.C/\(∀k,zc.D k->zc0.D k/\(k<bC\/rt k∈bJ s.hs))/\∀k,bC<=k->rt k∉bJ s.hs->zc.ρ k= .no:=by
 have hg:=λid=>c5Z s.hs (embL s.ks (fL s.hs []) (gA s.tys t)).2 id;have hl:∀i∈bJ s.hs,i<bC:=λi hi=>R i (ajZ.2 hi);have aa:∀i,i∈s.ks.ids\/i∈vR s.hs->i<bC:=λi hi=>R i (ajZ.2 (ab i hi));have ac:vF (iM (bJ s.hs)) zc0.ρ (zc0.clean (iM (bJ s.hs))).ρ:=λf k hf _=>Z.clean_on hf;refine⟨zc0.clean (iM (bJ s.hs)),rfl,rfl,k4.clean (λid ho=> ?_) (λid e he=>⟨jAZ hn k4 he,λi hi=> ?_⟩),?_,λk hk=> ?_,rfl,λk h=>⟨h.1,?_⟩,λk h1 h2=>ZAM ((iwZ hl).2 ⟨h1,h2⟩)⟩
 .have:=((iwZ hl).1 ho).2;rw[show bM (s.emb t).2 (rt id)=cH (rt id) (bJ s.hs) from(hg _).1]
  grind[ajZ]
 .by_cases hd:bC<=id
  .grind[a8Z,ZAG,shZ]
  .by_cases hf:bA<=id
   .unfold bP at he;rw[ZAK hd,ZAM hf] at he;cases he
   .rw[aqZ (by omega)] at he;exact aa i (.inr ((hg id).2.2 e he i hi))
 .refine k5.rho rfl rfl (.on ac (bvZ s.ks (r:=fL s.hs []) _ hn)) λi hi=>Z.clean_at (aa i (.inl ?_));rw[<-cyZ s.ks (r:=fL s.hs []) (gA s.tys t)];exact hi
 .refine ZAK λho=> ?_;have:=(iwZ hl).1 ho;rcases hk with hk|hk
  .exact ZBN.2 hk this.1
  .exact this.2 hk
 .by_cases hk:k<bC
  .exact .inl hk
  .right;by_cases hm:rt k∈bJ s.hs
   .exact hm
   .exact absurd ((iwZ hl).2 ⟨Nat.not_lt.1 hk,hm⟩) h.2
theorem fxZ{a b:Nat}(h:¬a<=b):Nat.ble a b=false:=by
 cases hc:Nat.ble a b
 .rfl
 simp_all[ZBM]
theorem aMZ:∀(l) (n),(cQ n l).length=l.length
 |[],_=>rfl
 |i::l,n=>by
  simp[cQ];by_cases h:bA<=i
  .rw[ZAi h];simp[aMZ l]
  .rw[fxZ h];simp[aMZ l]
theorem ceZ:∀{l} {n m k id:Nat},(cQ n l)[m]? =some k->l[m]? =some id->(bA<=id/\k=id)\/(id<bA/\n<=k/\k<n+l.length)
 |[],n,m,k,id,h,_=>by simp_all
 |i::l,n,m,k,id,h,R=>by
  simp[cQ] at h;by_cases hi:bA<=i
  .rw[ZAi hi] at h
   match m with
   |0=>simp_all
   |m+1=>
    rcases ceZ (by simpa using h) (by simpa using R) with h|⟨h1,h2,h3⟩
    .exact .inl h
    grind
  .rw[fxZ hi] at h
   match m with
   |0=>simp_all
   |m+1=>
    rcases ceZ (by simpa using h) (by simpa using R) with h|⟨h1,h2,h3⟩
    .exact .inl h
    grind
theorem fnZ:∀(l r) (n),∃m,n<=m/\m<=n+l.length/\cQ n (l++r)=cQ n l++cQ m r
 |[],r,n=>⟨n,ZAN _,by simp,rfl⟩
 |i::l,r,n=>by
  by_cases h:bA<=i
  .let⟨m,h1,h2,R⟩:=fnZ l r n
   refine⟨m,h1,by simp;omega,?_⟩
   simp_all[cQ,ZAi]
  .let⟨m,h1,h2,R⟩:=fnZ l r (n+1)
   refine⟨m,by omega,by simp;omega,?_⟩
   simp_all[cQ,fxZ]
theorem oeZ{l}{n m id:Nat}(h:l[m]? =some id):∃k,(cQ n l)[m]? =some k:=by
 grind[aMZ,ZAB,ZAC]
theorem fjZ:∀{l} {n m R k:Nat},l.Nodup->n+l.length<=bA->(cQ n l)[m]? =some k->(cQ n l)[R]? =some k->m=R
 |[],n,m,R,k,_,_,h,_=>by grind[cQ]
 |i::l,n,m,R,k,hn,hb,h,h'=>by
  simp only[List.nodup_cons] at hn;simp only[ZCQ] at hb;have q:∀(n' m k),(cQ n' l)[m]? =some k->∃id,l[m]? =some id/\((bA<=id/\k=id)\/(id<bA/\n'<=k/\k<n'+l.length)):=λn' m k h=>by
   have aa:=by have:=(ZAB.1 h).1;rwa [aMZ] at this
   exact⟨_,ZAC aa,ceZ h (ZAC aa)⟩
  simp only[cQ] at h h';by_cases hi:bA<=i
  .rw[ZAi hi,ZAL] at h h';have no:∀{m:Nat},(cQ n l)[m]?≠some i:=λ{m} h=>by
    grind
   match m,R with
   |0,0=>rfl
   |0,R+1=>simp_all
   |m+1,0=>simp_all
   |m+1,R+1=>exact congrArg (·+1) (fjZ (n:=n) hn.2 (by omega) (by simpa using h) (by simpa using h'))
  .rw[fxZ hi,ZAD] at h h';have no:∀{m},(cQ (n+1) l)[m]?≠some n:=λ{m} h=>by
    let⟨id,h1,h2⟩:=q (n+1) _ _ h
    rcases h2 with⟨h2,h3⟩|⟨_,h2,h3⟩
    .omega
    .omega
   match m,R with
   |0,0=>rfl
   |0,R+1=>simp at h;subst h;exact absurd (by simpa using h') no
   |m+1,0=>simp at h';subst h';exact absurd (by simpa using h) no
   |m+1,R+1=>exact congrArg (·+1) (fjZ (n:=n+1) hn.2 (by omega) (by simpa using h) (by simpa using h'))
theorem dqZ:∀{a b},a.length=b.length->lZ (lH a b)=a
 |[],[],_=>rfl
 |[],_::_,h=>by grind
 |_::_,[],h=>by grind
 |x::a,y::b,h=>by simp[lH,lZ,dqZ (by simpa using h)]
theorem uEZ{z1 zc zd}{H1 Hd}{sh ids}{fs}(hH:bI z1 H1)(aE:∀id∈ids,bM H1 id=false)(aM:∀id∈sh,bM H1 id=true)(a6:∀id∈ids,id<bC)(hd:∀id,rt id∈ids->¬z1.D id)(aN:(sh++ids).Nodup)(bh:sh.length+ids.length<=bA)
 (hw:zc.w=z1.w)(hM:zc.M=z1.M)(hC:∀g,zc.C g->∃id e sz n,rt id∈sh/\bP H1 id=some e/\e.fz=false/\z1.ρ id= .real g sz n)
 (a7:∀(m:Nat) k id,(cQ 0 sh)[m]? =some k->sh[m]? =some id->zc.ρ k=z1.ρ id/\(id<bA->zc.ρ k≠.no))(aO:∀id,bC<=id->rt id∈sh->zc.ρ id=z1.ρ id)(aP:∀k,zd.D k->k<bC/\k∈cQ 0 sh)(hn:Nx zc {zd with D:=zc.D})(ae:bI zd Hd)(aw:∀k,bM Hd k=true->∃e,bG Hd k=some e)(a8:∀k e,bP Hd k=some e->e.b.famInT fs=true)
 (a9:∀f,cH (f%16) fs=true->bZ f∈sh++ids)
 (hk:mZ (nA Hd) (lZ (lH (cQ 0 (sh++ids)) (sh++ids)))=true):
 ∃z3,z3.w=zd.w/\bI z3 (gG (gE H1 sh) (iT Hd (gB (lH (cQ 0 (sh++ids)) (sh++ids))) (lH (cQ 0 (sh++ids)) (sh++ids))))/\Nx z1 z3/\
  ∀a v,a.famInT fs=true->bE zd a v->bE z3 (AV.ren (gB (lH (cQ 0 (sh++ids)) (sh++ids))) a) v:=by
 have h0:=eIZ;have aQ:=aMZ (sh++ids) 0;obtain⟨ms,_,_,aR⟩:=fnZ sh ids 0;have aS:∀m k id,(cQ 0 (sh++ids))[m]? =some k->(sh++ids)[m]? =some id->(bA<=id/\k=id)\/(id<bA/\k<bA):=λm k id h1 h2=>by
  rcases ceZ h1 h2 with h|⟨h,_,h3⟩<;>grind
 have ax:∀m m' k,(cQ 0 (sh++ids))[m]? =some k->(cQ 0 (sh++ids))[m']? =some k->m=m':=λm m' k=>fjZ aN (by simp_all);have aF:∀m k id,(cQ 0 (sh++ids))[m]? =some k->(sh++ids)[m]? =some id->m<sh.length->(cQ 0 sh)[m]? =some k/\sh[m]? =some id:=λm k id h1 h2 h3=>by
  grind[ZAT,aMZ]
 have ay:∀k,k∈cQ 0 sh->∃m,(cQ 0 (sh++ids))[m]? =some k/\m<sh.length:=λk hk=>by
  obtain⟨m,hm⟩:=ZAR hk;have as:m<sh.length:=by have:=(ZAB.1 hm).1;rwa [aMZ] at this
  exact⟨m,by rw[aR,ZAT (by rw[aMZ];exact as)];exact hm,as⟩
 generalize R:sh++ids=all at*;generalize bk:cQ 0 all=sk at*;generalize aj:lH sk all=back at*;have ak:∀k id,(k,id)∈back↔∃m,sk[m]? =some k/\all[m]? =some id:=λk id=>by
  rw[<-aj];exact⟨λh=>jnZ h,λ⟨m,h1,h2⟩=>lTZ h1 h2⟩
 have ad:∀k id,(k,id)∈back->(bA<=id/\k=id)\/(id<bA/\k<bA):=λk id h=>by
  obtain⟨m,h1,h2⟩:=(ak k id).1 h;exact aS m k id h1 h2
 have aT:kG back=all:=by rw[<-aj];exact(myZ (by omega)).1
 have bi:lZ back=sk:=by rw[<-aj];exact dqZ aQ
 have ah:(kG back).Nodup:=by rw[aT];exact aN
 have au:∀k id,(k,id)∈back->gX back id=some k:=λk id h=>flZ ah h;have al:∀id,id∈all->∃k,(k,id)∈back:=λid h=>by
  obtain⟨m,hm⟩:=ZAR h;have as:m<sk.length:=by rw[aQ];exact(ZAB.1 hm).1
  exact⟨_,(ak _ id).2 ⟨m,ZAC as,hm⟩⟩
 have az:∀k id,(k,id)∈back->id∈all:=λk id h=>by
  obtain⟨m,h1,h2⟩:=(ak k id).1 h;exact ZAI h2
 have am:∀id,bA<=id->id∈all->(id,id)∈back:=λid h1 h2=>by
  obtain⟨k,hk⟩:=al id h2;rcases ad k id hk with⟨_,rfl⟩|h
  .exact hk
  .omega
 have bj:∀k k' id,(k,id)∈back->(k',id)∈back->k=k':=λk k' id h h'=>ZAf ((au k id h).symm.trans (au k' id h'));have aH:∀k id av,(k,id)∈back->(k,av)∈back->id=av:=λk id av h h'=>by
  obtain⟨m,h1,h2⟩:=(ak k id).1 h;obtain⟨m',h3,h4⟩:=(ak k av).1 h';have:=ax m m' k h1 h3;subst this;rw[h2] at h4;exact ZAf h4
 have af:∀id∈all,id<bC:=λid h=>by
  rw[<-R] at h;rcases ZAh.1 h with h|h
  .exact hH.key id (aM id h)
  .exact a6 id h
 have aI:∀k,bC<=k->¬zd.D k:=λk h h'=>by have:=(aP k h').1;omega
 let F:Nat->Bool:=λid=>cH id all
 have hF:∀id,F id=true↔id∈all:=λid=>ajZ
 let z2:Z:={w:=zd.w,M:=zd.M,ρ:=λid=>match gX back id with|some k=>zd.ρ k|none=>if bC<=id/\rt id∈all then zd.ρ id else z1.ρ id,
            C:=λg=>∃k e sz n,bP Hd k=some e/\e.fz=false/\zd.ρ k= .real g sz n,D:=(z1.foc H1 F).D}
 have ab:∀k id,(k,id)∈back->z2.ρ id=zd.ρ k:=λk id h=>by
  show(match gX back id with|some k=>zd.ρ k|none=>_)=_;rw[au k id h]
 have aU:∀id,id∉all->gX back id=none:=λid h=>by
  cases hk:gX back id with
  |none=>rfl
  |some k=>exact absurd (az k id (aKZ hk)) h
 have ag:∀id,bC<=id->rt id∈all->z2.ρ id=zd.ρ id:=λid h1 h2=>by
  show(match gX back id with|some k=>zd.ρ k|none=>_)=_;rw[aU id λh=>by have:=af id h;omega];exact ZAM ⟨h1,h2⟩
 have ac:∀id,id∉all->¬(bC<=id/\rt id∈all)->z2.ρ id=z1.ρ id:=λid h1 h2=>by
  show(match gX back id with|some k=>zd.ρ k|none=>_)=_;rw[aU id h1];exact ZAK h2
 have aA:∀k id,OfX back k id->z2.ρ id=zd.ρ k:=λk id h=>by
  rcases h with⟨h,_,_⟩|⟨rfl,h1,h2⟩
  .exact ab k id h
  .exact ag k h1 (az _ _ h2)
 have aJ:∀g,zc.C g->(z1.foc H1 F).C g:=λg h=>by
  obtain⟨id,e,sz,n,a1,a2,a3,a4⟩:=hC g h;exact⟨id,e,sz,n,ajZ.2 (by rw[<-R];exact ZBb _ a1),a2,a3,a4⟩
 have ba:∀g,zd.C g->(z1.foc H1 F).C g\/z1.w.heap.size<=g:=λg hg=>by
  rcases hn.subC g hg with h|h
  .exact .inl (aJ g h)
  .rw[hw] at h;exact .inr h
 have aV:∀g,z2.C g->zd.C g:=λg ⟨k,e,sz,n,a2,a3,a4⟩=>(ae.realX a2 a4).2.1 a3;have hN:Nx (z1.foc H1 F) z2:=by
  refine⟨hn.os.trans (by rw[hw];rfl),⟨hn.tape.1.trans (by rw[hw];rfl),by have:=hn.tape.2;rw[hw] at this;exact this⟩,hn.output.trans (by rw[hw];rfl),by have:=hn.size;rw[hw] at this;exact this,λb hb hc=> ?_,λg hg=> ?_,λg hg=>ba g (aV g hg),λg hg hm hc=> ?_,λid an=> ?_,rfl⟩
  .have:=hn.block b (by rw[hw];exact hb) λh=>hc (aJ b h);rw[hw] at this;exact this
  .have:=hn.subM g hg;rw[hw,hM] at this;exact this
  .exact hn.keepM g (by rw[hw];exact hg) (by rw[hM];exact hm) λh=>hc (aJ g h)
  .have an:z1.ρ id≠.no:=an;show z2.ρ id=z1.ρ id;have bl:¬(bA<=id/\id<bC):=λh=>an (hH.nos id h.1 h.2);by_cases hm:id∈all
   .obtain⟨k,hk⟩:=al id hm;rw[ab k id hk];obtain⟨m,h1,h2⟩:=(ak k id).1 hk;have aW:=af id hm;by_cases as:m<sh.length
    .obtain⟨b1,b2⟩:=aF m k id h1 h2 as;obtain⟨b3,b4⟩:=a7 m k id b1 b2;rw[hn.ext k (b4 (by omega)),b3]
    .rw[<-R,ZAU (by omega)] at h2;have aX:=ZAI h2;exact absurd ((hH.fresh id (by rw[aCZ (by omega)];exact aE id aX)).resolve_right (hd id (by rw[bbZ aW];exact aX))) an
   .by_cases ao:bC<=id/\rt id∈all
    .rw[ag id ao.1 ao.2];rw[<-R] at ao;rcases ZAh.1 ao.2 with h|h
     .have e1:=aO id ao.1 h;rw[<-e1] at an⊢;exact hn.ext id an
     .exfalso;refine an ((hH.fresh id ?_).resolve_right (hd id h));rw[ayZ ao.1,auZ (aE _ h)];exact aE _ h
    .exact ac id hm ao
 have ap:∀id e',bG (iT Hd (gB back) back) id=some e'->∃k e,(k,id)∈back/\bG Hd k=some e/\e'=e.ren (gB back):=λid e' h=>by
  rw[(bOZ ah id).1] at h;obtain⟨k,q1,q2⟩:=ZAG.1 h;obtain⟨e,q3,q4⟩:=ZAH.1 q2;exact⟨k,e,aKZ q1,q3,q4.symm⟩
 generalize aY:gG (gE [] sh) (iT Hd (gB back) back)=H2;have hg2:∀id,bG H2 id=if bM (iT Hd (gB back) back) id then bG (iT Hd (gB back) back) id else none:=λid=>by
  rw[<-aY,aOZ,beZ];split
  .rfl
  .split<;>rfl
 have aq:∀id,bM H2 id=(bM (iT Hd (gB back) back) id||cH id sh):=λid=>by
  rw[<-aY,aGZ,aNZ];simp[bM]
 have aK:∀id e',bG H2 id=some e'->bG (iT Hd (gB back) back) id=some e':=λid e' h=>by
  rw[hg2] at h;split at h
  .exact h
  .cases h
 have ar:∀id e',bP H2 id=some e'->∃k e,OfX back k id/\bP Hd k=some e/\e'=e.ren (gB back):=λid e' h=>by
  by_cases aa:bC<=id
  .rw[a8Z aa] at h;obtain⟨e0,q1,q2⟩:=ZAG.1 h;obtain⟨k,e1,q3,q4,rfl⟩:=ap _ _ (aK _ _ q1);have:k=rt id:=by
    rcases ad k _ q3 with⟨_,h⟩|⟨h,_⟩
    .exact h
    .have:=(bNZ aa).1;omega
   subst this;rw[(fdZ e1 _ _).2 (ZAN _)] at q2;exact⟨id,e',.inr ⟨rfl,aa,q3⟩,by rw[a8Z aa,q4];exact q2,(e1Z q2 _).1.symm⟩
  .by_cases hf:bA<=id
   .unfold bP at h;rw[ZAK aa,ZAM hf] at h;cases h
   .rw[aqZ (by omega)] at h;obtain⟨k,e1,q3,q4,rfl⟩:=ap _ _ (aK _ _ h);have aB:k<bA:=by
     rcases ad k _ q3 with⟨h,_⟩|⟨_,h⟩
     .omega
     .exact h
    exact⟨k,e1,.inl ⟨q3,aB,by omega⟩,by rw[aqZ aB];exact q4,rfl⟩
 have aZ:vF fs zd.ρ z2.ρ:=λf k hf _=>ag (enc f k) (ciZ f k) (by rw[ecZ];exact a9 f hf);have hR:bI z2 H2:=by
  refine⟨λid e' h=> ?_,λi i' e e' g sz n g' bb n' a0 p1 p2 m1 m2 p3 p4=> ?_,λid h=> ?_,λg h=>ae.sub g (aV g h),λid x h=> ?_,λid h=> ?_,λid aa h=> ?_,λid h1 h2=> ?_⟩
  .obtain⟨k,e,q1,q2,rfl⟩:=ar id e' h;have h0:=ae.ent _ _ q2;unfold eW at h0⊢;rw[aA k id q1];cases hr:zd.ρ k with
   |no=>rw[hr] at h0;exact h0.elim
   |virt=>
    rw[hr] at h0;obtain⟨fz,b⟩:=e;cases b<;>first|exact h0.elim|exact h0
   |real g sz n=>
    rw[hr] at h0;obtain⟨a1,a2,a3,a4⟩:=h0;exact⟨a1,λhf=>⟨k,e,sz,n,q2,hf,hr⟩,a3,a4.ren (fz:=e.fz) rfl rfl (.on aZ (a8 k e q2)) λav k' _ bc=>ab av k' (dOZ bc)⟩
  .obtain⟨k,e1,q1,q2,rfl⟩:=ar i e p1;obtain⟨k',e2,q3,q4,rfl⟩:=ar i' e' p2;rw[aA k i q1] at p3;rw[aA k' i' q3] at p4;have bd:k≠k':=λh=>by
    subst h;rcases q1 with⟨a1,a2,_⟩|⟨rfl,a1,_⟩<;>rcases q3 with⟨b1,b2,_⟩|⟨rfl,b1,_⟩
    .exact a0 (aH k i i' a1 b1)
    .omega
    .omega
    .exact a0 rfl
   exact λp5=>ae.inj k k' e1 e2 g sz n g' bb n' bd q2 q4 m1 m2 p3 p4 λh=>p5 ⟨OfX.ro q1 h.1,OfX.ro q3 h.2⟩
  .by_cases aa:bC<=id
   .by_cases hm:rt id∈all
    .left;rw[ag id aa hm];have a5:=am _ (bNZ aa).1 hm;refine(ae.fresh id ?_).resolve_right (aI id aa);rw[ayZ aa] at h⊢;cases hg:bG Hd (rt id) with
     |some e0=>
      have be:=((bOZ (H:=Hd) (f:=gB back) ah (rt id)).2).2 ⟨_,e0,au _ _ a5,hg⟩;rw[hg2,ZAM be,(bOZ ah (rt id)).1,au _ _ a5] at h;simp only[ZAA,hg,ZBS] at h;rw[(fdZ e0 _ _).1] at h;exact h
     |none=>
      show bM Hd (rt id)=false;cases aC:bM Hd (rt id)
      .rfl
      .obtain⟨e,he⟩:=aw _ aC;rw[he] at hg;cases hg
    .rw[ac id (λh=>by have:=af id h;omega) λh=>hm h.2];cases aD:dU H1 id
     .exact(hH.fresh id aD).imp (λh=>h) .inl
     .refine .inr (.inr ⟨aD,?_⟩);cases ai:F (rt id)
      .rfl
      .exact absurd ((hF _).1 ai) hm
   .by_cases hf:bA<=id
    .left;by_cases hm:id∈all
     .rw[ab id id (am id hf hm)];exact ae.nos id hf (by omega)
     .rw[ac id hm λh=>aa h.1];exact hH.nos id hf (by omega)
    .rw[aCZ (by omega),aq] at h;simp only[ZBX] at h;obtain⟨h,aG⟩:=h;by_cases hm:id∈all
     .obtain⟨k,hb⟩:=al id hm;have aB:k<bA:=by
       rcases ad k id hb with⟨h,_⟩|⟨_,h⟩
       .omega
       .exact h
      left;rw[ab k id hb];have aC:bM Hd k=false:=by
       cases aC:bM Hd k
       .rfl
       .obtain⟨e,he⟩:=aw k aC;rw[((bOZ (H:=Hd) (f:=gB back) ah id).2).2 ⟨k,e,au k id hb,he⟩] at h;cases h
      refine(ae.fresh k (by rw[aCZ aB];exact aC)).resolve_right λbf=> ?_;obtain⟨m',h1,h2⟩:=ay k (aP k bf).2;obtain⟨m,h3,h4⟩:=(ak k id).1 hb;have:=ax m m' k h3 h1;subst this;have h5:=(aF m k id h3 h4 h2).2;rw[ajZ.2 (ZAI h5)] at aG;cases aG
     .rw[ac id hm λh=>aa h.1];cases aD:dU H1 id
      .exact(hH.fresh id aD).imp (λh=>h) .inl
      .refine .inr (.inr ⟨aD,?_⟩);cases ai:F (rt id)
       .rfl
       .rw[bbZ (by omega)] at ai;exact absurd ((hF _).1 ai) hm
  .obtain⟨k,e1,q3,q4,rfl⟩:=ap _ _ (aK _ _ h);have aL:=ae.fam k e1 q4;obtain⟨fz,b⟩:=e1;cases b with
   |fam e s ms=>
    have:k=id:=by
     rcases ad k id q3 with⟨_,h⟩|⟨_,h⟩
     .exact h
     .have:=aL.1;omega
    subst this;exact aL
   |_=>
    have aB:k<bA:=aL;show id<bA;rcases ad k id q3 with⟨h,h'⟩|⟨h,_⟩
    .omega
    .exact h
  .rw[aq] at h;simp only[ZA3] at h;refine af id ?_;rcases h with h|h
   .obtain⟨k,e,h1,_⟩:=((bOZ ah id).2).1 h;exact az k id (aKZ h1)
   .rw[<-R];exact ZBb _ (ajZ.1 h)
  .have hm:rt id∈all:=by
    rw[aq] at h;simp only[ZA3] at h;rcases h with h|h
    .obtain⟨k,e,h1,_⟩:=((bOZ ah (rt id)).2).1 h;exact az k _ (aKZ h1)
    .rw[<-R];exact ZBb _ (ajZ.1 h)
   rintro(hD|⟨_,hD⟩)
   .rw[<-R] at hm;rcases ZAh.1 hm with h'|h'
    .exact hH.dyn id aa (aM _ h') hD
    .exact hd id h' hD
   .rw[(hF _).2 hm] at hD;cases hD
  .by_cases hm:id∈all
   .rw[ab id id (am id h1 hm)];exact ae.nos id h1 h2
   .rw[ac id hm λh=>by omega];exact hH.nos id h1 h2
 obtain⟨z3,r1,r2,r3,r4,r5⟩:=merge_ok (H3:=gG (gE H1 sh) (iT Hd (gB back) back)) hH hN hR (λid h=>by
  rw[aq] at h;simp only[ZA3] at h;rcases h with h|h
  .obtain⟨k,e,h1,_⟩:=((bOZ ah id).2).1 h;exact ajZ.2 (az k id (aKZ h1))
  .exact ajZ.2 (by rw[<-R];exact ZBb _ (ajZ.1 h))) (λid=>by
  rw[aOZ,beZ,aq,hg2];by_cases h2:bM (iT Hd (gB back) back) id=true
  .simp[h2]
  .simp only[h2,ZBI,ZCi,Bool.false_or];by_cases hs:cH id sh=true
   .simp[hs]
   .simp only[hs,ZBI,ZCi];by_cases ai:F id=true
    .rw[ZAM ai];have:=ajZ.1 ai;rw[<-R] at this;rcases ZAh.1 this with h|h
     .exact absurd (ajZ.2 h) hs
     .exact auZ (aE id h)
    .rw[ZAK ai]) (λid h=>by
  rw[aq] at h;rw[aGZ,aNZ];rcases h with h|h
  .simp only[ZA3] at h;rcases h with h|h
   .simp[h]
   .simp[h]
  .simp[h]) (λid h=>by
  rw[aGZ,aNZ] at h;rw[aq];simp only[ZA3] at h⊢;rcases h with h|h|h
  .exact .inl (.inl h)
  .exact .inl (.inr h)
  .exact .inr (.inl h))
 refine⟨z3,r1,r4,r5,λa v bg ha=> ?_⟩;exact(ha.ren (z':=z2) rfl rfl (.on aZ bg) λid k _ hk=>ab id k (dOZ hk)).less r1 r3 λg h=>by rw[<-r2];exact h
theorem nOZ{fs}{l}(h:AV.famInTL fs l=true):(nH l).famInT fs=true:=by
 match l with
 |[]=>rfl
 |[a]=>
  simp only[AV.famInTL,ZAE] at h;exact h.1
 |a::b::l=>exact h
theorem ckZ(id):bP [] id=none:=by
 unfold bP;split
 .rfl
 .split<;>rfl
theorem loZ{H}{l}(h:iU H l=true):∀id∈l,bM H id=true:=λid R=>by
 grind[elZ,aiZ]
theorem r3Z{e}{an}{ah}{vals}{K}{av:β}(hT:eZ P e)(h:vD P e ah an H K=some av)(hH:bI z H)(hd:∀id,rt id∈an.ids->¬z.D id)
 (aJ:∀m∈an.md,m<4\/¬z.D (m+100000))(ha:bQ z ah vals):
 vH P e.f vals.toArray z.w λen w'=>∃v x H' z',en= .returned v/\z'.w=w'/\bI z' H'/\Nx z z'/\bE z' x v/\K x H'=some av:=by
 have aW:=eIZ;unfold vD at h;rw[d4Z] at h;obtain⟨⟨aX,H1⟩,h1,h2⟩:=agZ.1 h;obtain⟨h3,h4⟩:=aeZ.1 h2;simp only[ZAE,lEZ,ZAm] at h3;obtain⟨⟨⟨⟨⟨f1,f2⟩,f3⟩,f4⟩,f5,f6⟩,f7,f8⟩:=h3;obtain⟨z1,Mf,q1,q2,q3,q4,q5,q6⟩:=jpZ hH aJ h1 ha;have ae:=λo ho=>(ZCP.1 f6) o ho;simp only at h4;by_cases hm:cH 2 an.md=true
 .rw[hm] at f4;simp only[ZAO,Bool.false_or,ZAE,afZ,ZCP] at f4;obtain⟨⟨g1,g2⟩,g3⟩:=f4;have e1:=ZAY g2;have e2:=ZAY g3;rw[e1,e2] at h4;rw[e1] at f3
  let aK:={z1 with M:=Mf,C:=λ_=>False,D:=λ_=>True}
  have aL:bI aK []:=⟨λid e h=>(by rw[ckZ] at h;cases h),λi i' e e' g sz n g' aw n' _ h=>(by rw[ckZ] at h;cases h),λid _=>.inr trivial,λg h=>h.elim,λi x h=>by simp[bG] at h,λi h=>by simp[bM] at h,λi _ h=>by simp[bM] at h,q2.nos⟩;obtain⟨t,zc0,k1,ai,aj,ak,al,ax,k7,am,ay,ac,aM,aN,af,ao⟩:=Shp.rco_ok (H:=[]) (λ_=>.no) (λ_ _ _=>rfl) h4 aL (q5.less rfl rfl λg h=>h);obtain⟨zc,x1,x2,k4,k5,x3,x4,x5,x6⟩:=lJZ f5 ak al af ao;have k2:=x1.trans ai;have k3:=x2.trans aj;have k8:=λg h=>am g (by rw[<-x4];exact h);have ap:∀id,¬zc.D id:=λid h=>by
   obtain⟨y1,y2⟩:=x5 id h;rw[ac] at y1;rcases y1.2 with h|h
   .rcases y2 with y2|y2
    .omega
    .have:=ajZ.2 y2;rw[this] at y1;cases y1.1
   .exact h rfl
  obtain⟨r,r1,r2⟩:=ZAG.1 k1;have hw:zc.w=z.w:=k2.trans q1;have R:=hT.spec t r r1 zc vals k4 k5 ap;rw[hw] at R;refine R.mono ?_;rintro en w' ⟨v,zd,rfl,rfl,hn,hDd,ho⟩;obtain⟨o,y,m1,m2,m3,m4⟩:=dS.on_both r2 ho;rw[Shp.embC_eq] at m2;obtain⟨p1,p2⟩:=aeZ.1 m2;have az:∀g,¬zc.C g:=λg h=>k8 g h
  let z3:Z:={z1 with w:=zd.w}
  have hN:Nx z1 z3:=by
   refine⟨hn.os.trans (by rw[k2]),⟨hn.tape.1.trans (by rw[k2]),by have:=hn.tape.2;rw[k2] at this;exact this⟩,hn.output.trans (by rw[k2]),by have:=hn.size;rw[k2] at this;exact this,λb hb _=> ?_,λg h=>.inl h,λg h=>.inl h,λ_ _ h _=>h,λ_ _=>rfl,rfl⟩;have:=hn.block b (by rw[k2];exact hb) (az b);rw[k2] at this;exact this
  have aO:bI z3 H1:=by
   refine⟨λid e he=>(q2.ent id e he).kp (hN.kp q2.sub) λg sz n hr=>⟨?_,λh=>h⟩,λi i' e e' g sz n g' aw n' aP h1 h2 f1 f2 h3 h4=>q2.inj i i' e e' g sz n g' aw n' aP h1 h2 f1 f2 h3 h4,λid ab=>q2.fresh id ab,λg hg=>q2.sub g hg,q2.fam,q2.key,q2.dyn,q2.nos⟩;have:=hn.block g (by rw[k2];exact(q2.realX he hr).1) (az g);rw[k2] at this;exact this
  obtain⟨vs,b1,b2⟩:=rvZ m4;have aQ:=g1 o m1;have aA:bQ z3 (AV.renL (gB []) (o.emb y).1) vs:=cVZ (z:=zd) (λid=>rfl) o.ks aQ b1;refine⟨v,_,_,z3,rfl,rfl,aO,q3.trans hN,?_,p2⟩;show bE z3 (AV.ren (gB []) (nH (o.emb y).1)) v;rw[sVZ];exact b2 aA (csZ _ _)
 .have hM:=q6 (by simpa using hm);subst hM;have ad:iU H1 (lZ (lH an.sh (cQ 0 an.sh)))=true:=by
   unfold Shp.rco at h4;have:=(aeZ.1 h4).1;simp only[ZAE] at this;exact this.2
  rw[dqZ (by rw[aMZ])] at ad;obtain⟨t,zc0,k1,ai,aj,ak,al,ax,k7,am,ay,ac,aM,aN,af,ao⟩:=Shp.rco_ok (λ_=>.no) (λ_ _ _=>rfl) h4 q2 q5;obtain⟨zc,x1,x2,k4,k5,x3,x4,x5,x6⟩:=lJZ f5 ak al af ao;have k2:=x1.trans ai;have k3:=x2.trans aj;have k8:∀g,zc.C g->_:=λg h=>am g (by rw[<-x4];exact h);have k9:∀g,zc.C g->_:=λg h=>ay g (by rw[<-x4];exact h);have ap:∀id,¬zc.D id:=λid h=>by
   obtain⟨y1,y2⟩:=x5 id h;rw[ac] at y1;rcases y1.2 with h|h
   .rcases y2 with y2|y2
    .omega
    .have:=ajZ.2 y2;rw[this] at y1;cases y1.1
   .exact h rfl
  obtain⟨r,r1,r2⟩:=ZAG.1 k1;have hw:zc.w=z.w:=k2.trans q1;have R:=hT.spec t r r1 zc vals k4 k5 ap;rw[hw] at R;refine R.mono ?_;rintro en w' ⟨v,zd,rfl,rfl,hn,hDd,ho⟩;obtain⟨o,y,m1,m2,m3,m4⟩:=dS.on_both r2 ho;rw[Shp.embC_eq] at m2;obtain⟨p1,p2⟩:=aeZ.1 m2;simp only[ZAE] at p1;have aq:∀id,id∈bJ e.i.hs->id<bC:=λid h=>af id (ajZ.2 h);have aB:∀(m) k id,(cQ 0 an.sh)[m]? =some k->an.sh[m]? =some id->zc.ρ k=z1.ρ id/\(id<bA->zc.ρ k≠.no):=λm k id ar aC=>by
   have aa:k∈bJ e.i.hs:=by rw[f3];exact ZAI ar
   have aR:=aq k aa;obtain⟨aD,a1,a2⟩:=ax k (ajZ.2 aa);have aE:(kG (lH an.sh (cQ 0 an.sh))).Nodup:=by
    unfold Shp.rco at h4;have:=(aeZ.1 h4).1;simp only[ZAE] at this;exact cQZ.1 this.1.2.1
   have ab:aD=id:=by
    have e1:=flZ aE a1;have e2:=flZ aE (lTZ aC ar);rw[e1] at e2;exact ZAf e2
   subst ab;have aS:zc.ρ k=z1.ρ aD:=(x3 k (.inl aR)).trans a2;refine⟨aS,λaV ae=> ?_⟩;obtain⟨ee,he⟩:=(c5Z e.i.hs (embL e.i.ks (fL e.i.hs []) (gA e.i.tys t)).2 k).2.1 (ajZ.2 aa);have aT:k<bA:=by
    rcases ceZ ar aC with⟨h,_⟩|⟨_,_,h⟩
    .omega
    .omega
   have as:=k4.ent k ee (by rw[aqZ aT];exact he);unfold eW at as;rw[ae] at as;exact as
  have aF:∀id,bC<=id->rt id∈an.sh->zc.ρ id=z1.ρ id:=λid aG aa=>by
   have h1:=(bNZ aG).1;have au:rt id∈bJ e.i.hs:=by
    rw[f3];obtain⟨m,hm⟩:=ZAR aa;obtain⟨k,hk⟩:=oeZ (n:=0) hm;rcases ceZ hk hm with⟨_,rfl⟩|⟨h,_⟩
    .exact ZAI hk
    .omega
   rw[x3 id (.inr au),k7 id,ZAM aG];cases hc:cH id (bJ e.i.hs)
   .rfl
   .have:=aq id (ajZ.1 hc);omega
  have ag:∀k∈bJ o.hs,k∈cQ 0 (an.sh++an.ids):=λk hk=>by
   have:=(cmZ.1 p1.2) k (ezZ.1 (by rw[show bM (o.emb y).2 k=cH k (bJ o.hs) from(c5Z o.hs (embL o.ks (fL o.hs []) (gA o.tys y)).2 k).1];exact ajZ.2 hk));rwa [dqZ (by rw[aMZ])] at this
  obtain⟨z3,c1,c2,c3,c4⟩:=uEZ (sh:=an.sh) (ids:=an.ids) (fs:=iM (bJ o.hs)) q2 (ftZ f1) (loZ ad) (λid ab=>bIZ f7 ab) (λid ab=>by rw[q3.dom];exact hd id ab) (cQZ.1 p1.1.1) f8 k2 k3
   (λg hg=>by
    obtain⟨id,ee,sz,n,a1,a2,a3,a4⟩:=k9 g hg;rw[dqZ (by rw[aMZ])] at a1;exact⟨id,ee,sz,n,a1,a2,a3,a4⟩) aB aF (λk hk=>by
    have:=hDd k hk;rw[f3] at this;exact⟨aq k (by rw[f3];exact this),this⟩) hn m3
   (λk hk=>by
    have hg:=c5Z o.hs (embL o.ks (fL o.hs []) (gA o.tys y)).2 k;exact hg.2.1 (by rw[<-hg.1];exact hk)) (λk ee he=>jAZ (ae o m1) m3 he) (λf hf=>by
    have aU:∀i∈bJ o.hs,i<bC:=λi hi=>m3.key i (by rw[show bM (o.emb y).2 i=cH i (bJ o.hs) from(c5Z o.hs (embL o.ks (fL o.hs []) (gA o.tys y)).2 i).1];exact ajZ.2 hi);have au:=ag _ ((eGZ aU (ZCc f (by omega))).1 hf);obtain⟨m,aH⟩:=ZAR au;have aI:m<(an.sh++an.ids).length:=by have:=(ZAB.1 aH).1;rwa [aMZ] at this
    rcases ceZ aH (ZAC aI) with⟨_,h⟩|⟨_,_,h⟩
    .show bA+f%16∈_;rw[h];exact ZBK aI
    .rw[ZAe] at h;omega) p1.2
  exact⟨v,_,_,z3,rfl,c1,c2,q3.trans c3,c4 _ _ (nOZ (bvZ o.ks (r:=fL o.hs []) _ (ae o m1))) m4,p2⟩
end
theorem Tr.get_put:∀(t:Tr) (k) (a) (k'),(k'≠k->(t.put k a).get k'=t.get k')/\((t.put k a).get k=a\/(t.put k a).get k= .junk)
 |.lf,k,a,k'=>⟨λ_=>rfl,.inr rfl⟩
 |.nd l v r,k,a,k'=>by
  by_cases h0:k=0
  .subst h0;simp[Tr.put,Tr.get]
   simp_all[ahZ]
  .have e0:=ahZ h0;by_cases h1:k%2=1
   .have e1:=(afZ _ _).2 h1;simp[Tr.put,e0,e1,Tr.get]
    let⟨q1,R⟩:=Tr.get_put l (k/2) a (k'/2)
    refine⟨λh=> ?_,R⟩;by_cases g0:k'=0
    .simp_all
    .rw[ahZ g0,ZAD];by_cases g1:k'%2=1
     .rw[(afZ _ _).2 g1,ZAL];exact q1 (by omega)
     simp_all[ahZ]
   .have e1:=ahZ h1;simp[Tr.put,e0,e1,Tr.get]
    let⟨q1,R⟩:=Tr.get_put r (k/2-1) a (k'/2-1)
    refine⟨λh=> ?_,R⟩;by_cases g0:k'=0
    .simp_all
    .by_cases g1:k'%2=1
     .rw[(afZ _ _).2 g1,ZAL,ZAL]
     grind
section
variable {P : Program} {T : Tbl} {z : Z} {H : Hp} {β : Type} {all : List Oper} {ops : Array Oper}
def Le(a b:AV):Prop:=∀(z) v,bE z a v->bE z b v
theorem Le.refl(a):Le a a:=λ_ _ h=>h
theorem Le.trans{a b c}(h:Le a b)(k:Le b c):Le a c:=λz v x=>k z v (h z v x)
theorem Le.junk(a):Le a .junk:=λ_ v _=>.junk v
theorem Le.bool{a}{t}(h:a.bool? =some t):Le a (.b t):=λz v hv=>by
 rw[bZZ h hv];exact .mkB t
theorem teZ(v):bE z (AV.lit v) v:=by
 cases v<;>first|exact .mkI _ _|exact .mkB _|exact .junk _|exact .p _ _ _ ⟨_,⟨rfl,rfl⟩,rfl⟩|skip;rename_i s;exact .mkS s.data.toList
theorem gGZ:∀{l},pB l=true->∀v∈l,v.oneCell'=true
 |[],_,v,h=>by cases h
 |u::l,h,v,hv=>by
  have R:u.oneCell'=true/\pB l=true:=by
   cases u<;>first|exact⟨rfl,h⟩|cases h
  rcases ZAj.1 hv with rfl|hv
  .exact R.1
  .exact gGZ R.2 v hv
def iH(t:Nat):Operand:=if t<1048576 then .tmp t else .global (t-1048576)
theorem eVZ{t}(h:t<1048576):iH t= .tmp t:=ZAM h
theorem qdZ(g):iH (1048576+g)= .global g:=by simp_all[iH,ZA5]
theorem esZ{st:St}{a:Act}(h:∀t,bE z (st.tm.get t) (a.eval (iH t)))(x):bE z (st.opnd x) (a.eval x):=by
 cases x with
 |tmp t=>
  simp[St.opnd];cases hb:Nat.blt t 1048576
  .exact .junk _
  .rw[ZBd] at hb;have:=h t
   simp_all[eVZ]
 |const v=>
  by_cases hv:∃cs,v= .agg cs
  .obtain⟨cs,rfl⟩:=hv;simp only[St.opnd];cases R:pB cs.toList
   .exact .junk _
   .have h1:=gGZ R;refine .agg _ _ (by simp) (λv hv=>h1 v (ZBJ.2 hv)) λi x v e1 e2=> ?_;have e2:=e2;rw[ZAW] at e1
    grind[ZAH,ZA6,ZAf,tCZ,ZAI]
  .have:st.opnd (.const v)= .lit v:=by
    cases v<;>first|rfl|simp_all
   rw[this];exact teZ v
 |global g=>have:=h (1048576+g);rw[qdZ] at this;exact this
 |func f=>exact .fn f [] [] #[] #[] rfl rfl (λi x v h=>by grind) (λi x v h=>by grind)
theorem uAZ{a}{x}{v}(h:a.fnv? =some x)(ha:bE z a v):∃R vc,v= .func (.func x.1) R vc/\bQ z x.2.1 R.toList/\bQ z x.2.2 vc.toList:=by
 unfold AV.fnv? at h;split at h
 .simp at h;subst h;cases ha with|fn _ _ _ R vc h1 h2 h3 h4=>
  exact⟨R,vc,rfl,⟨by simp[h1],λi x v p1 p2=>h3 i x v p1 (by simpa using p2)⟩,⟨by simp[h2],λi x v p1 p2=>h4 i x v p1 (by simpa using p2)⟩⟩
 .rename_i f l c;cases hb:(Nat.beq l.size 0&&Nat.beq c.size 0)<;>rw[hb] at h<;>simp only[bq_true,bq_false] at h
  .cases h
  simp[afZ] at hb;simp at h;subst h;obtain rfl:=ha.v.opq.1;exact⟨l,c,rfl,⟨by simp[hb.1],λi a v h=>by simp at h⟩,⟨by simp[hb.2],λi a v h=>by simp at h⟩⟩
 grind
theorem mHZ{f}:∀{T} {e},HP f T=some e->e∈T/\e.f=f
 |[],e,h=>by cases h
 |x::T,e,h=>by
  unfold HP at h;cases hb:Nat.beq x.f f<;>rw[hb] at h
  .let⟨h1,h2⟩:=mHZ h
   exact⟨ZAc _ h1,h2⟩
  simp_all
theorem suZ{T}{n}{f}{e}(h:KH T n f=some e):e∈T/\e.f=f:=by
 unfold KH at h;split at h
 .rename_i x hx;cases hb:Nat.beq x.f f<;>rw[hb] at h
  .exact mHZ h
  .simp[ZAV] at h;subst h;exact⟨ZAI hx,(afZ _ _).1 hb⟩
 grind
theorem tAZ{o}{an}{r}{a}{K}{ad:β}{next}{Q}(hT:∀e∈T,eZ P e)
 (h:evW P T o an r H K=some ad)(hH:bI z H)(ae:∀id,rt id∈an.ids->¬z.D id)(ag:tS P o=true->¬z.D (an.ids.headD 0))(ah:∀m∈an.md,m<4\/¬z.D (m+100000))(hr:∀x,bE z (r x) (a.eval x))
 (hk:∀x v H' z',bI z' H'->Nx z z'->bE z' x v->K x H'=some ad->next (a.put o.dst v) z'.w):o.wp P a z.w next Q:=by
 unfold Oper.wp;cases hc:BC o
 .let⟨x,H',z',nx,h1,h2,h3,h4,h5⟩:=vFZ h hH ag hr hc
  rw[h1];rcases h4 with⟨v,rfl,hv⟩|⟨rfl,rfl⟩
  .exact hk x v H' z' h2 h3 hv h5
  .exact hk .junk undef H' z' h2 h3 (.junk _) h5
 .unfold BC at hc;split at hc
  .rename_i c ho;split at hc
   .rename_i f ac;unfold evW at h;simp only[ho,ac] at h
    let⟨x,h1,h2⟩:=agZ.1 h
    let⟨va,vc,hv,q1,q2⟩:=uAZ h1 (hr f)
    split at h2
    .rename_i e he
     let⟨ai,hb⟩:=suZ he
     have aj:=hT e ai;have R:=r3Z aj h2 hH ae ah (.append (.append q1 (.map hr)) q2);have ab:va++c.args.map a.eval++vc=(va.toList++c.args.toList.map a.eval++vc.toList).toArray:=by
      apply ZBz;simp
     rcases R with⟨⟨fn,cd,e1,e2,e3⟩,R⟩|⟨v,w',af,v',x',H',z',ak,rfl,p1,p2,p3,p4⟩
     rotate_left
     .have aa:(execOp a.eval o).run P z.w= .ok (.value v) z'.w:=by
       unfold execOp;simp only[ho,resolve,ac,hv,Deferred.ofValue,Sem.run_bind,Sem.run_pure,Result.andThen_ok,invoke];rw[<-hb,ab];exact af
      rw[aa];cases ak;exact hk x' v H' z' p1 p2 p3 p4
     have aa:(execOp a.eval o).run P z.w= .ok (.enter e.f (va.toList++c.args.toList.map a.eval++vc.toList).toArray) z.w:=by
      have al:fn.body.isNone=false:=by rw[e2];rfl
      have ab:va++c.args.map a.eval++vc=(va.toList++c.args.toList.map a.eval++vc.toList).toArray:=by
       apply ZBz;simp
      unfold execOp;simp only[ho,resolve,ac,hv,Deferred.ofValue,Sem.run_bind,Sem.run_pure,Result.andThen_ok,invoke,callFunc,run_program];rw[<-hb] at*;simp only[e1,e3,al,ab]
      rfl
     rw[aa];show Calls P e.f _ z.w _;refine R.mono ?_;rintro en w' ⟨v,x',H',z',rfl,rfl,p1,p2,p3,p4⟩;exact hk x' v H' z' p1 p2 p3 p4
    .cases h2
   .cases hc
  simp_all
theorem txZ{o}{r}{a}{K}{R:β}{next}{Q}(h:evR P o r H K=some R)(hH:bI z H)(hr:∀x,bE z (r x) (a.eval x))
 (hk:∀x v,bE z x v->K x=some R->next (a.put o.dst v) z.w):o.wp P a z.w next Q:=by
 unfold Oper.wp
 let⟨x,v,h1,h2,h3⟩:=v5Z h hH hr
 rw[h1];exact hk x v h2 h3
def Inv(R:Z)(N:Nat)(L:List (Nat×AV))(st:St)(a:Act)(w:World):Prop:=
 ∃z,z.w=w/\Nx R z/\(∀id,¬z.D id)/\bI z st.hp/\(∀t,bE z (st.tm.get t) (a.eval (iH t)))/\(∀p∈L,bE z p.2 (a.eval (iH p.1)))/\a.defers=[]/\(st.nt<=N/\a.tmps.size=N)/\∀id,id<bC->R.ρ id≠.no->id<st.n0
theorem i9Z{a:Act}{d}{v}(h:d<a.tmps.size):(a.put (some d) v).eval (.tmp d)=v:=by
 simp[Act.eval,Act.put,h]
theorem edZ{a:Act}{d}{v}(h:d<a.tmps.size)(hb:d<1048576):(a.put (some d) v).eval (iH d)=v:=by
 simp_all[eVZ,i9Z]
theorem dbZ{a:Act}{o:Option Tmp}{t:Nat}{v}(h:o≠some t):(a.put o v).eval (iH t)=a.eval (iH t):=by
 cases o with
 |none=>rfl
 |some d=>
  have:d≠t:=λe=>h (by rw[e]);by_cases ht:t<1048576
  .rw[eVZ ht];simp[Act.eval,Act.put,Array.getElem?_setIfInBounds_ne this]
  .rw[iH,ZAK ht]
   rfl
theorem put_ok{R}{nt}{a:Act}{o:Option Tmp}{x}{v}(h:∀t,bE z (R.get t) (a.eval (iH t)))(hd:mH nt o=true)(hn:nt<=a.tmps.size)(hx:bE z x v):
 ∀t,bE z ((St.putO ⟨R,nt,0,[]⟩ o x).tm.get t) ((a.put o v).eval (iH t)):=by
 intro t;cases o with
 |none=>exact h t
 |some d=>
  simp[mH,ZBd] at hd;simp[St.putO];by_cases ht:t=d
  .subst ht;rw[edZ (by omega) hd.2];rcases(Tr.get_put R t x t).2 with e|e<;>rw[e]
   .exact hx
   .exact .junk _
  simp_all[Tr.get_put,dbZ,ZBj]
theorem cXZ(st:St)(o)(x):(st.putO o x).tm=(St.putO ⟨st.tm,st.nt,0,[]⟩ o x).tm/\(st.putO o x).nt=st.nt/\(st.putO o x).n0=st.n0/\(st.putO o x).hp=st.hp:=by
 cases o<;>exact⟨rfl,rfl,rfl,rfl⟩
theorem fEZ(a:Act)(o)(v):(a.put o v).tmps.size=a.tmps.size/\(a.put o v).defers=a.defers:=by
 cases o<;>simp[Act.put]
theorem Inv.put{z0 z'}{N}{L:List (Nat×AV)}{st:St}{a:Act}{o:Option Tmp}{x:AV}{v:Value}{H':Hp}(hn:Nx z0 z')(hD:∀id,¬z'.D id)(hH:bI z' H')(hs:∀t,bE z' (st.tm.get t) (a.eval (iH t)))
 (hL:∀p∈L,bE z' p.2 (a.eval (iH p.1)))(ad:∀p∈L,o≠some p.1)(aa:a.defers=[])(R:st.nt<=N/\a.tmps.size=N)(h0:∀id,id<bC->z0.ρ id≠.no->id<st.n0)(hd:mH st.nt o=true)(hx:bE z' x v):
 Inv z0 N L {st.putO o x with hp:=H'} (a.put o v) z'.w:=by
 obtain⟨e1,e2,e3,e4⟩:=cXZ st o x;refine⟨z',rfl,hn,hD,hH,?_,λp hp=> ?_,(fEZ a o v).2.trans aa,⟨by show(st.putO o x).nt<=N;rw[e2];exact R.1,by rw[(fEZ a o v).1];exact R.2⟩,λid ab ac=>by show id<(st.putO o x).n0;rw[e3];exact h0 id ab ac⟩
 .show∀t,bE z' ((st.putO o x).tm.get t) _;rw[e1];exact put_ok hs hd (by rw[R.2];exact R.1) hx
 grind[dbZ]
theorem vPZ{o}{an}{z0}{N}{L}{st}{a}{w}{K}{R:β}{next}{Q}(hT:∀e∈T,eZ P e)
 (h:ev1 P T o an st K=some R)(hd:mH st.nt o.dst=true)(hi:Inv z0 N L st a w)(hL:∀p∈L,o.dst≠some p.1)(hk:∀aa a' w',K aa=some R->Inv z0 N L aa a' w'->next a' w'):o.wp P a w next Q:=by
 obtain⟨z,rfl,hn,hD,hH,hs,ab,ac,ad,h0⟩:=hi;unfold ev1 at h;cases hR:isR P o<;>rw[hR] at h<;>simp[bq_false] at h
 .refine tAZ hT h hH (λid _=>hD id) (λ_=>hD _) (λ_ _=>.inr (hD _)) (esZ hs) λx v H' z' h1 h2 h3 h4=> ?_;have kp:=h2.kp hH.sub;exact hk _ _ _ h4 (.put (hn.trans h2) (λid=>by rw[h2.dom];simp_all) h1 (λt=>(hs t).kp kp) (λp hp=>(ab p hp).kp kp) hL ac ad h0 hd h3)
 .refine txZ h hH (esZ hs) λx v h1 h2=> ?_;have:=Inv.put hn hD hH hs ab hL ac ad h0 hd h1;refine hk _ _ _ h2 ?_;have e:({st.putO o.dst x with hp:=st.hp}:St)=st.putO o.dst x:=by cases o.dst<;>rfl
  simp_all
def wV(all:List Oper)(o:Oper)(aa:Nat->AV)(b:Bool):Prop:=
 (o.guard=none/\b=true)\/∃j R d,o.guard=some (j,R)/\(all[j]?).bind (·.dst)=some d/\d<1048576/\((aa d= .tup []/\b=false)\/∃t,(aa d).bool? =some t/\b=(t==R))
theorem wV.wanted{o}{aa}{b}{a:Act}(h:wV ops.toList o aa b)(hs:∀j R d,o.guard=some (j,R)->(ops.toList[j]?).bind (·.dst)=some d->bE z (aa d) (a.eval (iH d))):
 Region.wanted o (yielded ops a.tmps)=b:=by
 rcases h with⟨h1,rfl⟩|⟨j,R,d,h1,h2,ab,h3⟩
 .simp[Region.wanted,h1]
 .have hd:=hs j R d h1 h2;rw[eVZ ab] at hd;have e:(ops[j]?).bind (·.dst)=some d:=by rw[<-Array.getElem?_toList];exact h2
  simp[Region.wanted,h1,yielded,e];simp only[Act.eval] at hd;rcases h3 with⟨h3,rfl⟩|⟨t,h3,rfl⟩
  .rw[h3] at hd;cases hv:a.tmps[d]? with
   |none=>rfl
   |some v=>
    have e2:a.tmps.getD d undef=v:=by simp[hv]
    rw[e2] at hd;cases hd
    rfl
  .have hb:=bZZ h3 hd;cases hv:a.tmps[d]? with
   |none=>
    have e2:a.tmps.getD d undef=undef:=by simp[hv]
    rw[e2] at hb;cases hb
   |some v=>
    have e2:a.tmps.getD d undef=v:=by simp[hv]
    rw[e2] at hb;subst hb;cases t<;>cases R<;>rfl
theorem t4Z{o}{st}{go skip}{ab:β}(h:evG all o st go skip=some ab):
 mH st.nt o.dst=true/\∃aa b,aa.hp=st.hp/\aa.nt=st.nt/\aa.n0=st.n0/\(∀t,Le (st.tm.get t) (aa.tm.get t))/\wV all o st.tm.get b/\((b=true/\go aa=some ab)\/(b=false/\skip (aa.skip o)=some ab)):=by
 unfold evG at h;cases hd:mH st.nt o.dst<;>rw[hd] at h<;>simp only[bq_true,bq_false] at h
 .cases h
 refine⟨rfl,?_⟩;split at h
 .rename_i hg;exact⟨st,true,rfl,rfl,rfl,λ_=>.refl _,.inl ⟨hg,rfl⟩,.inl ⟨rfl,h⟩⟩
 .rename_i j R hg
  let⟨d,h1,h2⟩:=agZ.1 h
  let⟨oj,h3,h4⟩:=agZ.1 h1
  let⟨ac,h2⟩:=aeZ.1 h2
  rw[ZBd] at ac;have hj:(all[j]?).bind (·.dst)=some d:=by rw[h3];exact h4
  split at h2
  .rename_i ht;exact⟨st,false,rfl,rfl,rfl,λ_=>.refl _,.inr ⟨j,R,d,hg,hj,ac,.inl ⟨ht,rfl⟩⟩,.inr ⟨rfl,h2⟩⟩
  .rename_i ht
   let⟨t,h5,h6⟩:=agZ.1 h2
   have ad:∀k,Le (st.tm.get k) ((st.tm.put d (.b t)).get k):=λk=>by
    by_cases hk:k=d
    .subst hk;rcases(Tr.get_put st.tm k (.b t) k).2 with e|e<;>rw[e]
     .exact .bool h5
     .exact .junk _
    .rw[(Tr.get_put st.tm d (.b t) k).1 hk];exact .refl _
   refine⟨{st with tm:=st.tm.put d (.b t)},t==R,rfl,rfl,rfl,ad,.inr ⟨j,R,d,hg,hj,ac,.inr ⟨t,h5,rfl⟩⟩,?_⟩;cases t<;>cases R<;>simp[bq_false] at h6
   .exact .inl ⟨rfl,h6⟩
   .exact .inr ⟨rfl,h6⟩
   .exact .inr ⟨rfl,h6⟩
   .exact .inl ⟨rfl,h6⟩
theorem mGZ:bE z (.tup []) undef:=.tup [] #[] rfl λi x v h=>by grind
theorem Inv.le{z0}{N}{L}{st R}{a}{w}(hi:Inv z0 N L st a w)(h1:R.hp=st.hp)(h2:R.nt=st.nt)(h3:R.n0=st.n0)(h4:∀t,Le (st.tm.get t) (R.tm.get t)):Inv z0 N L R a w:=by
 obtain⟨z,rfl,hn,hD,hH,hs,aa,ab,ac,h0⟩:=hi;exact⟨z,rfl,hn,hD,by simp_all,λt=>h4 t _ _ (hs t),aa,ab,by omega,by simp_all⟩
theorem Inv.skip{z0}{N}{L}{st}{a}{w}{o:Oper}(hi:Inv z0 N L st a w)(hd:mH st.nt o.dst=true)(hL:∀p∈L,o.dst≠some p.1):Inv z0 N L (st.skip o) (a.put o.dst undef) w:=by
 obtain⟨z,rfl,hn,hD,hH,hs,R,aa,ab,h0⟩:=hi;have:=Inv.put hn hD hH hs R hL aa ab h0 hd (mGZ);have e:({st.putO o.dst (.tup []) with hp:=st.hp}:St)=st.skip o:=by unfold St.skip;cases o.dst<;>rfl
 simp_all
theorem gaZ{z0}{N}{L}{K}{ab:β}{Q}(hT:∀e∈T,eZ P e){tail}(hk:∀aa a' w',K aa=some ab->Inv z0 N L aa a' w'->wpOps P ops Q tail a' w'):
 ∀(l:List (Oper×Ann)) (k),(∀(i) x,l[i]? =some x->ops[k+i]? =some x.1)->(∀x∈l,∀p∈L,x.1.dst≠some p.1)->∀(st) (a) (w),xS P T l ops.toList st K=some ab->Inv z0 N L st a w->
  wpOps P ops Q (List.range' k l.length++tail) a w
 |[],k,_,_,st,a,w,h,hi=>hk st a w h hi
 |(o,an)::l,k,hl,hL,st,a,w,h,hi=>by
  simp[xS] at h
  let⟨hd,ai,b,e1,e2,e3,e4,hg,hb⟩:=t4Z h
  have ho:=by have:=hl 0 (o,an) rfl;simpa using this
  have R:∀(i) x,l[i]? =some x->ops[k+1+i]? =some x.1:=λi x hx=>by
   have:=hl (i+1) x hx
   grind
  have ac:=hL (o,an) (by simp);have hw:Region.wanted o (yielded ops a.tmps)=b:=by
   let⟨z,_,_,_,_,hs,_⟩:=hi
   exact hg.wanted λj ah d _ _=>hs d
  have ad:=hi.le e1 e2 e3 e4;simp[List.range'_succ,wpOps,ho,hw];rcases hb with⟨rfl,ae⟩|⟨rfl,af⟩
  .simp[ZCr];refine .inl (vPZ hT ae (by rw[e2];exact hd) ad ac λaa a' w' h' ag=> ?_);exact gaZ hT hk l (k+1) R (λx hx=>hL x (by simp[hx])) aa a' w' h' ag
  .simp only[ZBI,ZCi];exact gaZ hT hk l (k+1) R (λx hx=>hL x (by simp[hx])) _ _ w af (ad.skip (by rw[e2];exact hd) ac)
theorem s6Z{z0}{N}{L}{K}{R:β}{Q}(hT:∀e∈T,eZ P e)(hk:∀aa a' w',K aa=some R->Inv z0 N L aa a' w'->Q .normal a' w')
 (l:List (Oper×Ann))(k)(h1:∀(i) x,l[i]? =some x->ops[k+i]? =some x.1)(h2:∀x∈l,∀p∈L,x.1.dst≠some p.1)(st)(a)(w)(h:xS P T l ops.toList st K=some R)(hi:Inv z0 N L st a w):
  wpOps P ops Q (List.range' k l.length) a w:=by
 have:=gaZ (tail:=[]) hT hk l k h1 h2 st a w h hi
 simp_all
end
section
variable {P : Program} {T : Tbl} {z : Z} {H : Hp} {β : Type} {all : List Oper} {ops : Array Oper}
theorem cbZ{α β:Type}{f g:α->β}{l:List α}(h:∀x∈l,f x=g x):l.map f=l.map g:=ZCl h
theorem qEZ{o}{r R}{K:AV->Option β}(h:∀x∈o.op.operands,r x=R x):evR P o r H K=evR P o R H K:=by
 let⟨ad,op,ac,pos,aa,ab⟩:=o
 cases op<;>simp[Op.operands] at h<;>simp[evR]
 case build t ps=>
  grind[cbZ,ZBc]
 case makeFunc f a c=>
  have e1:a.toList.map r=a.toList.map R:=cbZ λx hx=>h x (by simp[ZBJ.1 hx]);have e2:c.toList.map r=c.toList.map R:=cbZ λx hx=>h x (by simp[ZBJ.1 hx])
  grind
 case slice t x lo hi mx=>cases lo<;>cases hi<;>cases mx<;>simp_all
 case call c=>
  have e1:c.args.toList.map r=c.args.toList.map R:=cbZ λx hx=>h x (by simp[Call.operands,ZBJ.1 hx]);have e2:∀a,c.args.toList=[a]->r a=R a:=λa ha=>by
   rw[ha] at e1;simpa using e1
  rw[e1];split<;>grind
 all_goals simp_all
theorem qaZ{o}{an}{r R}{K:AV->Hp->Option β}(h:∀x∈o.op.operands,r x=R x):evW P T o an r H K=evW P T o an R H K:=by
 let⟨ad,op,ac,pos,aa,ab⟩:=o
 cases op<;>simp[Op.operands] at h<;>simp[evW]
 case buildSlice t n ps=>
  grind[cbZ,ZBc]
 case makeMap t q=>cases q<;>simp_all
 case call c=>
  have e1:c.args.toList.map r=c.args.toList.map R:=cbZ λx hx=>h x (by simp[Call.operands,ZBJ.1 hx]);have e2:∀a b,c.args.toList=[a,b]->r a=R a/\r b=R b:=λa b ha=>by
   simp_all
  split
  .grind
  .grind
  .grind
  .rename_i f hc;rw[e1,h f (by simp[Call.operands,hc])]
  .rfl
 all_goals simp_all
structure Rc where
 i:Nat
 o:Oper
 an:Ann
 pre:Nat->AV
 st:St
 go:Bool
 x:AV
 H2:Option Hp
def Rc.ft(r:Rc):List Nat:=sG r.o r.an r.st.opnd
def Rc.wr(r:Rc):List Nat:=vU r.st.hp r.ft
theorem doZ(H)(id):∀l,cH id (xT H l)=(cH id l&&zJ H id)/\cH id (vU H l)=(cH id l&& !zJ H id)
 |[]=>⟨rfl,rfl⟩
 |i::l=>by
  let⟨h1,h2⟩:=doZ H id l
  unfold xT vU;by_cases h:id=i
  .subst h;cases hf:zJ H id<;>simp[cH,h1,h2,hf]
  .have e:=ahZ (ZBj h);cases hf:zJ H i<;>simp[cH,h1,h2,e]
theorem lbZ{H}{i}(h:zJ H i=true):i<bA/\∃b,bG H i=some ⟨true,b⟩:=by
 unfold zJ at h;rw[ZAE,ZBd] at h
 grind
def Rc.tmE(t:Nat)(r:Rc):Option AV:=if r.o.dst=some t then some r.x else none
def Rc.hpE(id:Nat)(r:Rc):Option (Bool×Option Ent):=
 match r.H2 with
 |some H2=>if cH id r.wr=true then some (true,if bM H2 id=true then bG H2 id else none) else none
 |none=>none
def iV{R:Type}(f:Rc->Option R):List Rc->R->R
 |[],b=>b
 |r::l,b=>iV f l ((f r).getD b)
def kX(H:Hp)(id:Nat):Bool×Option Ent:=(bM H id,bG H id)
structure Rc.Ok (P:Program) (T:Tbl) (all:List Oper) (r:Rc):Prop where
 dst:mH r.st.nt r.o.dst=true
 grd:wV all r.o r.pre r.go
 le:∀t,Le (r.pre t) (r.st.tm.get t)
 no:r.go=false->r.x= .tup []/\r.H2=none
 yes:r.go=true->(isR P r.o=true/\evR P r.o r.st.opnd (sH r.st.hp r.ft) some=some r.x/\r.H2=none)\/
  (isR P r.o=false/\(tS P r.o=true->r.an.ids≠[])/\IU r.an.md r.ft=true/\∃Hr,r.H2=some Hr/\evW P T r.o r.an r.st.opnd (sH r.st.hp r.ft) (fun x H=>some (x,H))=some (r.x,Hr)/\(mZ (nA Hr) r.ft=true/\tJ r.ft=true))
def lK(P:Program):List Rc->List Fp
 |[]=>[]
 |r::l=>if r.go=true then⟨r.i,r.ft,bq (isR P r.o) [] r.wr⟩::lK P l else lK P l
theorem lHZ{t}:∀{l} {a b},Le a b->Le (iV (Rc.tmE t) l a) (iV (Rc.tmE t) l b)
 |[],a,b,h=>h
 |r::l,a,b,h=>lHZ (l:=l) (by
   cases r.tmE t with
   |none=>exact h
   |some x=>exact .refl _)
theorem ndZ:∀(l) (st) (fs) {K} {ae:β},pG P T l all st fs K=some ae->
 ∃(aa:List Rc) (ab:St),aa.map (λr=>(r.i,r.o))=l.map (λx=>(x.1,x.2.1))/\(∀r∈aa,r.Ok P T all)/\K ab ((lK P aa).reverse++fs)=some ae/\
  (∀l1 r l2,aa=l1++r::l2->(∀t,Le (iV (Rc.tmE t) l1 (st.tm.get t)) (r.pre t))/\(∀id,iV (Rc.hpE id) l1 (kX st.hp id)=kX r.st.hp id)/\r.st.nt=st.nt)/\
  (∀t,Le (iV (Rc.tmE t) aa (st.tm.get t)) (ab.tm.get t))/\(∀id,iV (Rc.hpE id) aa (kX st.hp id)=kX ab.hp id)/\ab.nt=st.nt/\ab.n0=st.n0
 |[],st,fs,K,ae,h=>⟨[],st,rfl,λr h=>(by cases h),h,λl1 r l2 h=>(by simp_all),λt=>.refl _,λid=>rfl,rfl,rfl⟩
 |(i,o,an)::l,st,fs,K,ae,h=>by
  simp[pG] at h
  let⟨hd,R,b,e1,e2,e3,e4,hg,hb⟩:=t4Z h
  generalize hA:an.at R.hp=an' at hb;have step:∃(r:Rc) (ac:St) (ah:List Fp),r.i=i/\r.o=o/\r.pre=st.tm.get/\r.st=R/\r.Ok P T all/\pG P T l all ac ah K=some ae/\(∀t,Le ((r.tmE t).getD (st.tm.get t)) (ac.tm.get t))/\
   (∀id,(r.hpE id).getD (kX st.hp id)=kX ac.hp id)/\ac.nt=st.nt/\ac.n0=st.n0/\ah=lK P [r]++fs:=by
   have ad:∀(x) t,Le ((if o.dst=some t then some x else none:Option AV).getD (st.tm.get t)) ((R.putO o.dst x).tm.get t):=λx t=>by
    cases ho:o.dst with
    |none=>simp[St.putO];exact e4 t
    |some d=>
     simp[St.putO];by_cases ai:d=t
     .subst ai;rw[ZAM rfl];rcases(Tr.get_put R.tm d x d).2 with e|e<;>rw[e]
      .exact .refl _
      .exact .junk _
     .rw[ZAK ai,(Tr.get_put R.tm d x t).1 (ZBj ai)];exact e4 t
   rcases hb with⟨rfl,af⟩|⟨rfl,ak⟩
   .unfold TO at af;cases hR:isR P o<;>rw[hR] at af<;>simp[bq_false] at af
    .let⟨h1,h2⟩:=aeZ.1 af
     let⟨x,Hr,h3,h4⟩:=uzZ h2
     let⟨h5,h6⟩:=aeZ.1 h4
     simp[ZAk] at h1
     let r:Rc:=⟨i,o,an',st.tm.get,R,true,x,some Hr⟩
     have ag:r.Ok P T all:=⟨by show mH R.nt o.dst=true;rw[e2];exact hd,hg,e4,λh=>(by cases h),λ_=>.inr ⟨hR,λhm al=>(by
      rcases h1.1 with h|h
      .rw[hm] at h;cases h
      .rw[(al)] at h;cases h),h1.2,Hr,rfl,h3,Bool.and_eq_true_iff.1 h5⟩⟩
     refine⟨r,_,_,rfl,rfl,rfl,rfl,ag,h6,λt=>ad x t,λid=> ?_,?_,?_,?_⟩
     .show(Rc.hpE id r).getD (kX st.hp id)=kX (gG (gG (gE R.hp (sG o an' R.opnd)) Hr) (sH R.hp (xT R.hp (sG o an' R.opnd)))) id;unfold kX;rw[aGZ,aOZ,aGZ,aOZ,aNZ,beZ,(bYZ _ _ id).1,(bYZ _ _ id).2,(doZ R.hp id _).1,<-e1];simp only[Rc.hpE,Rc.ft,Rc.wr,r,(doZ R.hp id _).2];by_cases hm:cH id (sG o an' R.opnd)=true
      .cases hz:zJ R.hp id
       .simp[hm]
       .let⟨_,b,hb⟩:=lbZ hz
        simp[hm,aiZ hb]
      .have hk:bM Hr id=false:=by
        cases hk:bM Hr id
        .rfl
        .exact absurd (ajZ.2 (cmZ.1 (Bool.and_eq_true_iff.1 h5).1 id (ezZ.1 hk))) hm
       simp[hm,hk]
     .show(R.putO o.dst x).nt=st.nt;rw[(cXZ R o.dst x).2.1,e2]
     .show(R.putO o.dst x).n0=st.n0;rw[(cXZ R o.dst x).2.2.1,e3]
     .simp[lK,r,Rc.ft,Rc.wr,hR,e1]
    .let⟨h1,h2⟩:=aeZ.1 af
     let⟨x,h3,h4⟩:=tQZ h1 h2
     let r:Rc:=⟨i,o,an',st.tm.get,R,true,x,none⟩
     have ag:r.Ok P T all:=⟨by show mH R.nt o.dst=true;rw[e2];exact hd,hg,e4,λh=>(by cases h),λ_=>.inl ⟨hR,h3,rfl⟩⟩;refine⟨r,_,_,rfl,rfl,rfl,rfl,ag,h4,λt=>ad x t,λid=> ?_,?_,?_,?_⟩
     .show kX st.hp id=kX (R.putO o.dst x).hp id;rw[(cXZ R o.dst x).2.2.2,e1]
     .rw[(cXZ R o.dst x).2.1,e2]
     .rw[(cXZ R o.dst x).2.2.1,e3]
     .simp[lK,r,Rc.ft,hR]
   .let r:Rc:=⟨i,o,an',st.tm.get,R,false,.tup [],none⟩
    have ag:r.Ok P T all:=⟨by show mH R.nt o.dst=true;rw[e2];exact hd,hg,e4,λ_=>⟨rfl,rfl⟩,λh=>(by cases h)⟩;refine⟨r,_,_,rfl,rfl,rfl,rfl,ag,ak,λt=>ad (.tup []) t,λid=> ?_,?_,?_,?_⟩
    .show kX st.hp id=kX (R.putO o.dst (.tup [])).hp id;rw[(cXZ R o.dst (.tup [])).2.2.2,e1]
    .show(R.putO o.dst (.tup [])).nt=st.nt;rw[(cXZ R o.dst (.tup [])).2.1,e2]
    .show(R.putO o.dst (.tup [])).n0=st.n0;rw[(cXZ R o.dst (.tup [])).2.2.1,e3]
    .simp[lK,r]
  let⟨r,ac,ah,r1,r2,r4,r5,r6,r7,r8,r9,aj,am,ao⟩:=step
  let⟨aa,ab,q1,q2,q3,q4,q5,q6,q7,q8⟩:=ndZ l ac ah r7
  refine⟨r::aa,ab,by simp[r1,r2,q1],λx hx=> ?_,?_,λl1 r' l2 he=> ?_,λt=> ?_,λid=> ?_,q7.trans aj,q8.trans am⟩
  .rcases ZAj.1 hx with rfl|hx
   .exact r6
   .exact q2 x hx
  .rw[ao] at q3;have:(lK P (r::aa)).reverse++fs=(lK P aa).reverse++(lK P [r]++fs):=by
    simp only[lK];split<;>simp
   rw[this];exact q3
  .cases l1 with
   |nil=>
    simp only[ZBe,ZBR] at he;obtain⟨rfl,rfl⟩:=he;exact⟨λt=>by rw[r4];exact .refl _,λid=>by rw[r5,e1];rfl,by rw[r5];exact e2⟩
   |cons r0 l1=>
    simp only[List.cons_append,ZBR] at he;obtain⟨rfl,he⟩:=he
    let⟨a1,a2,a3⟩:=q4 l1 r' l2 he
    refine⟨λt=> ?_,λid=> ?_,a3.trans aj⟩
    .exact(lHZ (r8 t)).trans (a1 t)
    .simp only[iV];rw[r9];exact a2 id
  .exact(lHZ (r8 t)).trans (q5 t)
  .simp only[iV];rw[r9];exact q6 id
theorem gQZ{cl}:∀{l},qO cl l=true->l.Pairwise λb a=>BA cl a b=true
 |[],_=>.nil
 |b::l,h=>by
  simp[qO,ZCP] at h;exact .cons h.1 (gQZ h.2)
theorem k1Z{a}:∀{l},HS a l=true->∀b∈l,cH a.i b.cl=true\/vE a b=true
 |[],_,b,h=>by cases h
 |c::l,h,b,hb=>by
  simp[HS,ZA3] at h;rcases ZAj.1 hb with rfl|hb
  .exact h.1
  .exact k1Z h.2 b hb
theorem kMZ:∀{l},AA l=true->l.Pairwise λa b=>cH a.i b.cl=true\/vE a b=true
 |[],_=>.nil
 |a::l,h=>by
  simp[AA] at h;exact .cons (k1Z h.1) (kMZ h.2)
def Rc.nm(cl:List (Nat×List Nat))(all:List Oper)(r:Rc):Nm:=⟨r.i,(cl.lookup r.i).getD [],tU all r.o++pF r.o.op.operands.toList,r.o.dst⟩
theorem tDZ{cl}:∀{R:List Rc} {l:List (Oper×Ann)} {k},R.map (λr=>(r.i,r.o))=(pH k l).map (λx=>(x.1,x.2.1))->nms cl all k (l.map (·.1))=R.map (Rc.nm cl all)
 |[],[],k,_=>rfl
 |[],_::_,k,h=>by grind[pH]
 |_::_,[],k,h=>by grind[pH]
 |r::R,(o,an)::l,k,h=>by
  simp[pH,ZA0] at h;obtain⟨⟨rfl,rfl⟩,h⟩:=h;simp[nms,tDZ h]
  rfl
theorem pRZ{α}:∀{l:List α} {k},(pH k l).Pairwise λa b=>a.1<b.1
 |[],k=>.nil
 |a::l,k=>.cons (λb hb=>by
   have:∀{l} {k} {b:Nat×α},b∈pH k l->k<=b.1:=λ{l}=>by
    induction l with
    |nil=>intro k b h;cases h
    |cons a l ih=>
     intro k b h;rcases ZAj.1 h with rfl|h
     .exact ZAN _
     .exact Nat.le_of_succ_le (ih h)
   grind) pRZ
theorem i4Z{α}:∀{l:List α} {k i},(pH k l)[i]? =(l[i]?).map λa=>(k+i,a)
 |[],k,i=>by simp[pH]
 |a::l,k,0=>by simp[pH]
 |a::l,k,i+1=>by
  simp[pH,i4Z];congr 1;rw[show k+1+i=k+(i+1) by omega]
def qQ(all:List Oper)(S:Nat->Prop)(j:Nat):Prop:=∀o,all[j]? =some o->∀e∈o.after,Region.binds .any e=true->S e.on
theorem ilZ{done}:∀{es} {k},k∈DK done es->∃e∈es,Region.binds .any e=true/\(k=e.on\/k∈(done.lookup e.on).getD [])
 |[],k,h=>by cases h
 |e::es,k,h=>by
  simp[DK] at h;cases hb:Region.binds .any e<;>rw[hb] at h<;>simp only[bq_true,bq_false] at h
  .let⟨e',h1,h2⟩:=ilZ h
   exact⟨e',ZAc _ h1,h2⟩
  .rcases ZAj.1 h with rfl|h
   .exact⟨e,ZAq,hb,.inl rfl⟩
   .rcases ZAh.1 h with h|h
    .exact⟨e,ZAq,hb,.inr h⟩
    .let⟨e',h1,h2⟩:=ilZ h
     exact⟨e',ZAc _ h1,h2⟩
theorem psZ{S}(hc:∀j,S j->qQ all S j):∀(l) (k) (done),(∀i,l[i]? =all[k+i]?)->(∀j,qQ all S j->∀m∈(done.lookup j).getD [],S m)->
 ∀j,qQ all S j->∀m∈((AZ k l done).lookup j).getD [],S m
 |[],k,done,_,hd=>hd
 |o::l,k,done,hl,hd=>by
  refine psZ hc l (k+1) _ (λi=>by have:=hl (i+1);grind) λj R m hm=> ?_;simp[List.lookup_cons] at hm;cases hk:(j==k)
  .grind
  .have:=by simpa using hk
   subst this;simp[eOZ] at hm
   let⟨e,h1,h2,h3⟩:=ilZ hm
   have he:=R o (by have:=hl 0;simpa using this.symm) e (ZBJ.1 h1) h2
   grind
end
section
variable {P : Program} {T : Tbl} {β : Type} {ops : Array Oper}
theorem ehZ{ν}{f}{S:Nat->Bool}:∀{l} {b:ν},(∀r∈l,(f r).isSome=true->S r.i=true)->iV f (l.filter λr=>S r.i) b=iV f l b
 |[],b,_=>rfl
 |r::l,b,h=>by
  have h':=λx hx=>h x (ZAc _ hx);cases R:S r.i
  .rw[List.filter_cons_of_neg (by simp[R])];have hn:f r=none:=by
    cases hf:f r with
    |none=>rfl
    |some v=>have:=h r ZAq (by rw[hf];rfl);rw[R] at this;cases this
   rw[ehZ h'];simp[iV,hn]
  .rw[ZBx (by simp[R])];exact ehZ h'
theorem e8Z{ν}{f}{S:Nat->Bool}:∀{l:List Rc} {b:ν},(∀r∈l,(f r).isSome=true->S r.i=false)->iV f (l.filter λr=>S r.i) b=b
 |[],b,_=>rfl
 |r::l,b,h=>by
  have h':=λx hx=>h x (ZAc _ hx);cases R:S r.i
  .rw[List.filter_cons_of_neg (by simp[R])];exact e8Z h'
  .rw[ZBx (by simp[R])];have hn:f r=none:=by
    cases hf:f r with
    |none=>rfl
    |some v=>have:=h r ZAq (by rw[hf];rfl);rw[R] at this;cases this
   simp[iV,hn];exact e8Z h'
theorem cfZ{R}{f}:∀{l m} {b:R},iV f (l++m) b=iV f m (iV f l b)
 |[],m,b=>rfl
 |r::l,m,b=>by simp[iV];exact cfZ
theorem kgZ{ν}{f}{S:Nat->Bool}{l1 R}{r}{b:ν}(hr:S r.i=false)(h1:∀x∈l1,(f x).isSome=true->S x.i=true)(h2:∀x∈R,(f x).isSome=true->S x.i=false):
 iV f ((l1++r::R).filter λr=>S r.i) b=iV f l1 b:=by
 simp_all[cfZ,ehZ,e8Z]
theorem fOZ{ν}{f}{S S':Nat->Bool}{l1 R}{r}{b:ν}(hr:S r.i=false)(hS:S' r.i=true)(aa:∀x∈l1,S' x.i=S x.i)(ab:∀x∈R,S' x.i=S x.i):
 (∀v,f r=some v->(∀x∈R,(f x).isSome=true->S x.i=false)->iV f ((l1++r::R).filter λr=>S' r.i) b=v)/\
 (f r=none->iV f ((l1++r::R).filter λr=>S' r.i) b=iV f ((l1++r::R).filter λr=>S r.i) b):=by
 have e1:(l1.filter λr=>S' r.i)=l1.filter λr=>S r.i:=List.filter_congr λx hx=>by simp_all
 have e2:(R.filter λr=>S' r.i)=R.filter λr=>S r.i:=List.filter_congr λx hx=>by simp_all
 refine⟨λv hv h2=> ?_,λhv=> ?_⟩
 .rw[ZCn,ZBx (by simp[hS]),cfZ,e2]
  simp_all[iV,e8Z]
 .rw[ZCn,ZBx (by simp[hS]),cfZ,ZCn,cfZ]
  simp_all[iV]
theorem ggZ:∀{l} {k},qP k l=true->∀(i) o,l[i]? =some o->(∀e∈o.after,Region.binds .any e=true->e.on<k+i)/\∀cs b,o.op≠.select cs b
 |[],k,_,i,o,h=>by grind
 |x::l,k,h,i,o,R=>by
  simp[qP] at h
  let⟨⟨h1,h2⟩,h3⟩:=h
  cases i with
  |zero=>
   simp[ZAV] at R;subst R;refine⟨λe he hb=> ?_,λcs b hs=>by simp_all⟩;have:∀{es},wU k es=true->∀e∈es,Region.binds .any e=true->e.on<k:=λ{es}=>by
    induction es with
    |nil=>simp_all
    |cons e0 es ih=>
     intro h e he hb;simp[wU,ZBd] at h
     grind
   exact this h1 e (ZBJ.2 he) hb
  |succ i=>
   have:=ggZ h3 i o (by simpa using R);rwa [show k+1+i=k+(i+1) by omega] at this
def KL:Operand->Option Nat
 |.tmp t=>some t
 |.global g=>some (1048576+g)
 |_=>none
theorem hXZ{t}{x}(hx:KL x=some t):∀{l},x∈l->t∈pF l
 |[],h=>by cases h
 |y::l,h=>by
  rcases ZAj.1 h with rfl|h
  .cases x<;>cases hx<;>exact ZAq
  .have:=hXZ hx h;cases y<;>first|exact this|exact ZAc _ this
theorem rYZ{z}{st:St}{a:Act}(x)(h:∀t,KL x=some t->bE z (st.tm.get t) (a.eval (iH t))):bE z (st.opnd x) (a.eval x):=by
 cases x with
 |tmp t=>
  simp[St.opnd];cases hb:Nat.blt t 1048576
  ·exact .junk _
  ·have:=h t rfl
   simp_all[eVZ]
 |const v=>
  have e:st.opnd (.const v)=({st with tm:=.lf}:St).opnd (.const v):=by cases v<;>rfl
  rw[e];exact esZ (fun t=>.junk _) (.const v)
 |global g=>have:=h _ rfl;rw[qdZ] at this;exact this
 |func f=>exact esZ (st:={st with tm:=.lf}) (fun t=>.junk _) (.func f)
theorem gXZ{n}{listed:Array Bool}{i}(hs:listed.size=n)(hi:listed.getD i true=false):
 ((List.range n).filter fun j=> !listed.getD j true).length=((List.range n).filter fun j=> !(listed.setIfInBounds i true).getD j true).length+1:=by
 have hlt:i<n:=by
  rcases ZBy i listed.size with h|h
  ·omega
  ·simp[Array.getElem?_eq_none h] at hi
 have hmem:i∈(List.range n).filter fun j=> !listed.getD j true:=by
  rw[ZCo];exact⟨ZCS.2 hlt,by rw[hi];rfl⟩
 have hnd:((List.range n).filter fun j=> !listed.getD j true).Nodup:=List.Pairwise.sublist List.filter_sublist List.nodup_range;have he:((List.range n).filter fun j=> !(listed.setIfInBounds i true).getD j true)=((List.range n).filter fun j=> !listed.getD j true).erase i:=by
  rw[List.Nodup.erase_eq_filter hnd,List.filter_filter];refine List.filter_congr fun j hj=> ?_;by_cases hij:i=j
  ·subst hij;simp[show i<listed.size by omega]
  ·have:(j !=i)=true:=by simp;exact fun h=>hij h.symm
   rw[this,getD_set_ne true hij];simp
 grind
theorem bI.lay{z}{H}(R:bI z H){i}{e}(hi:i<bA)(he:eW z i e)(hf:e.fz=true)(ad:famOk i e):bI z (bS H i (some e)):=by
 have ae:bA<bC:=by unfold bA bC;omega
 refine⟨λid e' h=> ?_,λid aa e1 e2 g sz n g' ab n' ac h1 h2 f1 f2=> ?_,λid h=> ?_,R.sub,λid e' h=> ?_,λid h=> ?_,λid hd h=> ?_,R.nos⟩
 .rw[a7Z hi] at h;split at h
  .simp_all
  .exact R.ent id e' h
 .rw[a7Z hi] at h1 h2;split at h1
  .simp_all
  .split at h2
   .simp_all
   .exact R.inj id aa e1 e2 g sz n g' ab n' ac h1 h2 f1 f2
 .rw[buZ hi] at h;exact R.fresh id (by simp_all)
 .rw[apZ] at h;split at h
  .simp_all
  .exact R.fam id e' h
 .rw[atZ] at h;by_cases af:id=i
  .omega
  .exact R.key id (by simp_all)
 .rw[atZ] at h;have:rt id≠i:=by
   unfold rt;rw[ZAM hd];omega
  exact R.dyn id hd (by simp_all)
theorem bI.refz{z z3}{H H1 H3}(kp:Kp z z3)(R:bI z H)(h3:bI z3 H3):∀{F},(∀i∈F,∃b,i<bA/\bG H1 i=some ⟨true,b⟩/\bG H i=some ⟨true,b⟩)->bI z3 (gG H3 (sH H1 F))
 |[],_=>h3
 |i::F,h=>by
  have ih:=bI.refz kp R h3 λj hj=>h j (ZAc _ hj)
  let⟨b,q1,q2,q3⟩:=h i ZAq
  unfold sH;rw[aiZ q2];rw[q2];refine ih.lay q1 ?_ rfl (R.fam i _ q3);have he:=R.ent i ⟨true,b⟩ (by simp_all[aqZ]);refine he.kp kp λg sz n aa=> ?_;unfold eW at he;rw[aa] at he;exact⟨kp.block g he.1 (he.2.2.1 rfl),λhC=>absurd (R.sub g hC) (he.2.2.1 rfl)⟩
def J(z0:Z)(N:Nat)(L:List (Nat×AV))(ab:Array Oper)(aa:List Rc)(st:St)(R:Array Bool)(a:Act)(w:World):Prop:=
 ∃z H,z.w=w/\Nx z0 z/\(∀id,¬z.D id)/\bI z H/\(∀id,iV (Rc.hpE id) (aa.filter λr=>R.getD r.i false) (kX st.hp id)=kX H id)/\
  (∀t,bE z (iV (Rc.tmE t) (aa.filter λr=>R.getD r.i false) (st.tm.get t)) (a.eval (iH t)))/\(∀p∈L,bE z p.2 (a.eval (iH p.1)))/\a.defers=[]/\(st.nt<=N/\a.tmps.size=N)/\
  R.size=ab.size/\(∀j,R.getD j false=true->qQ ab.toList (λj=>R.getD j false=true) j)
theorem m1Z:∀{R l},IU R l=true↔∀m∈R,m<4\/m+100000∈l
 |[],l=>by simp[IU]
 |m::R,l=>by
  simp only[IU,ZAE,ZA3,ajZ,m1Z]
  simp_all
theorem s5Z{z0}{N}{L:List (Nat×AV)}{st}{a}{w}{K:St->Option β}{res}{Q}{opsA:List (Oper×Ann)}(hT:∀e∈T,eZ P e)(hops:opsA.map (·.1)=ops.toList)
 (hL:∀x∈opsA,∀p∈L,x.1.dst≠some p.1)(hk:∀st' a' w',K st'=some res->Inv z0 N L st' a' w'->Q .normal a' w')
 (hed:qP 0 ops.toList=true)(hnm:AA (nms (AZ 0 ops.toList []) ops.toList 0 ops.toList)=true)
 (h:pG P T (pH 0 opsA) ops.toList st [] (fun st' fs=>bO (qO (AZ 0 ops.toList []) fs) (K st'))=some res)(hi:Inv z0 N L st a w):
 wpAny P .any ops Q ops.size (Array.replicate ops.size false) a w:=by
 obtain⟨recs,st',t1,t2,t3,t4,t5,t6,t7,t8⟩:=ndZ _ _ _ h;obtain⟨hpair,hK⟩:=aeZ.1 t3;have hi0:=hi;obtain⟨_,_,_,_,_,_,_,_,_,hn0⟩:=hi0;rw[ZAr] at hpair;generalize hcl:AZ 0 ops.toList []=cl at*;have hnames:recs.Pairwise fun a b=>cH a.i ((cl.lookup b.i).getD [])=true\/vE (a.nm cl ops.toList) (b.nm cl ops.toList)=true:=by
  have:=kMZ hnm;have e:=tDZ (cl:=cl) (all:=ops.toList) t1;rw[hops] at e;rw[e,List.pairwise_map] at this;exact this
 have hfp:(lK P recs).Pairwise fun a b=>BA cl a b=true:=by
  have:=gQZ hpair;rwa [List.pairwise_reverse] at this
 have hrec:recs.Pairwise fun r1 r2=>r1.go=true->r2.go=true->cH r1.i ((cl.lookup r2.i).getD [])=true\/HR ⟨r1.i,r1.ft,bq (isR P r1.o) [] r1.wr⟩ ⟨r2.i,r2.ft,bq (isR P r2.o) [] r2.wr⟩=false:=by
  clear t1 t2 t3 t4 t5 t6 hpair hnames;have mem:∀{l:List Rc} {r:Rc},r∈l->r.go=true->(⟨r.i,r.ft,bq (isR P r.o) [] r.wr⟩:Fp)∈lK P l:=fun{l}=>by
   induction l with
   |nil=>simp_all
   |cons x l ih=>
    intro r h hg;simp only[lK]
    grind
  induction recs with
  |nil=>exact .nil
  |cons x l ih=>
   simp only[lK] at hfp;refine .cons (fun y hy hx hy'=> ?_) (ih ?_)
   ·rw[ZAM hx] at hfp;have:=(ZA4.1 hfp).1 _ (mem hy hy');simp only[BA,ZA3,ZAk] at this;exact this.symm
   grind
 have hat:∀(i:Nat) r,recs[i]? =some r->r.i=i/\ops[i]? =some r.o:=fun i r hr=>by
  have e:(recs.map fun r=>(r.i,r.o))[i]? =some (r.i,r.o):=by rw[ZAW,hr];rfl
  rw[t1,ZAW,i4Z,Option.map_map] at e;obtain⟨x,hx,hxe⟩:=ZAH.1 e;simp only[Function.comp,ZA0] at hxe;obtain⟨h1,h2⟩:=hxe;refine⟨by omega,?_⟩;have h3:(opsA.map (·.1))[i]? =some r.o:=by rw[ZAW,hx,<-h2];rfl
  simp_all
 have hlen:recs.length=ops.size:=by
  have h1:(recs.map fun r=>(r.i,r.o)).length=opsA.length:=by
   rw[t1,ZAs];have:∀{α:Type} (l:List α) k,(pH k l).length=l.length:=fun l=>by
    induction l<;>grind[pH]
   exact this _ _
  have h2:=congrArg List.length hops;simp at h1 h2;omega
 have hlt:∀{l1:List Rc} {r l2},recs=l1++r::l2->(∀x∈l1,x.i≠r.i)/\(∀x∈l2,x.i≠r.i):=fun{l1 r l2} he=>by
  have hp:recs.Pairwise fun a b=>a.i<b.i:=by
   have:=pRZ (l:=opsA) (k:=0);have h2:((pH 0 opsA).map fun x=>(x.1,x.2.1)).Pairwise fun a b=>a.1<b.1:=List.pairwise_map.2 this;rw[<-t1,List.pairwise_map] at h2;exact h2
  grind[ZBw,Nat.ne_of_lt,ZAq,ZA4]
 have main:∀(bB:Nat) (listed:Array Bool) (a:Act) (w:World),bB=((List.range ops.size).filter fun j=> !listed.getD j true).length->J z0 N L ops recs st listed a w->wpAny P .any ops Q bB listed a w:=by
  have fin:∀(listed:Array Bool) (a:Act) (w:World),Region.ready .any ops listed=[]->J z0 N L ops recs st listed a w->Q .normal a w:=by
   rintro listed a w hr ⟨z,H,rfl,hn,hD,hH,hhp,htm,hLs,hdf,hnt,hsz,hcs⟩;have hall:∀i,i<ops.size->listed.getD i false=true:=by
    intro i;induction i using Nat.strongRecOn with
    |_ i ih=>
     intro hi;cases hb:listed.getD i false
     ·exfalso;have hb':listed.getD i true=false:=by
       have:i<listed.size:=by omega
       simp[this] at hb⊢;exact hb
      have:i∈Region.ready .any ops listed:=by
       rw[mem_ready];refine⟨hb',ops[i],ZBC hi,fun e he hbd=> ?_⟩;have:=(ggZ hed i ops[i] (by rw[ZA6];exact ZBC hi)).1 e he hbd;rw[ZA1] at this;exact ih e.on this (by omega)
      grind
     ·rfl
   have hfil:(recs.filter fun r=>listed.getD r.i false)=recs:=by
    rw[ZB0];intro r hr';obtain⟨i,hi⟩:=ZAR hr';obtain⟨h1,h2⟩:=hat i r hi;rw[h1];exact hall i (ZBH.1 h2).1
   rw[hfil] at hhp htm;refine hk st' a z.w hK ⟨z,rfl,hn,hD,hH.same (fun id=> ?_) (fun id=> ?_),fun t=>t5 t _ _ (htm t),hLs,hdf,by omega,by grind⟩
   ·have:=(t6 id).symm.trans (hhp id);exact congrArg Prod.snd this
   ·have:=(t6 id).symm.trans (hhp id);exact congrArg Prod.fst this
  have step:∀(listed:Array Bool) (a:Act) (w:World) (i:Nat) (next:Act->World->Prop),i∈Region.ready .any ops listed->J z0 N L ops recs st listed a w->
   (∀a' w',J z0 N L ops recs st (listed.setIfInBounds i true) a' w'->next a' w')->wpOp P ops Q i next a w:=by
   rintro listed a w i next hr ⟨z,H,rfl,hn,hD,hH,hhp,htm,hLs,hdf,hnt,hsz,hcs⟩ hnext;obtain⟨hun,o,ho,hedge⟩:=mem_ready.1 hr;have hilt:i<ops.size:=(ZBH.1 ho).1;obtain⟨r,hri⟩:∃r,recs[i]? =some r:=⟨_,ZAC (by omega)⟩;obtain⟨hr1,hr2⟩:=hat i r hri;rw[ho] at hr2;simp only[ZAV] at hr2;subst hr2;obtain⟨l1,l2,hsplit⟩:=List.append_of_mem (ZAI hri);have hmem:=ZAI hri;have hok:=t2 r hmem;obtain⟨u1,u2,u3⟩:=t4 l1 r l2 hsplit;have hSi:listed.getD r.i false=false:=by
    rw[hr1];have:i<listed.size:=by omega
    simp[this] at hun⊢;exact hun
   have hclS:∀j,qQ ops.toList (fun j=>listed.getD j false=true) j->∀m∈(cl.lookup j).getD [],listed.getD m false=true:=fun j hj m hm=>by
    rw[<-hcl] at hm;exact psZ (S:=fun j=>listed.getD j false=true) hcs ops.toList 0 [] (fun i=>by rw[ZA1]) (fun j _ m hm=>by simp at hm) j hj m hm
   have hA:∀m∈(cl.lookup r.i).getD [],listed.getD m false=true:=hclS r.i fun o' ho' e he hb=>by
    rw[hr1,ZA6,ho] at ho';simp only[ZAV] at ho';subst ho';exact hedge e he hb
   have hB:∀x,r.i∈(cl.lookup x).getD []->listed.getD x false=false:=fun x hx=>by
    cases hb:listed.getD x false
    ·rfl
    ·have:=hclS x (hcs x hb) r.i hx;rw[hSi] at this;cases this
   rw[hsplit] at hnames hrec;have hn1:=ZBw.1 hnames;have hf1:=ZBw.1 hrec;have slot1:∀t,(t∈(r.nm cl ops.toList).rd\/r.o.dst=some t)->∀x∈l1,(x.tmE t).isSome=true->listed.getD x.i false=true:=fun t ht x hx hs=>by
    rcases hn1.2.2 x hx r ZAq with h|h
    ·exact hA _ (ajZ.1 h)
    ·exfalso;have hxd:x.o.dst=some t:=by
      unfold Rc.tmE at hs;split at hs
      ·assumption
      ·cases hs
     simp only[vE,ZAE,ZAk,Rc.nm,hxd,fC,KK] at h;rcases ht with ht|ht
     ·have ht':cH t (tU ops.toList r.o++pF r.o.op.operands.toList)=true:=ajZ.2 ht;rw[ht'] at h;exact absurd h.1.1 (by simp)
     ·rw[ht] at h;simp[Nat.beq_refl,afZ] at h
   have slot2:∀t,(t∈(r.nm cl ops.toList).rd\/r.o.dst=some t)->∀x∈l2,(x.tmE t).isSome=true->listed.getD x.i false=false:=fun t ht x hx hs=>by
    rcases(ZA4.1 hn1.2.1).1 x hx with h|h
    ·exact hB _ (ajZ.1 h)
    ·exfalso;have hxd:x.o.dst=some t:=by
      unfold Rc.tmE at hs;split at hs
      ·assumption
      ·cases hs
     simp only[vE,ZAE,ZAk,Rc.nm,hxd,fC,KK] at h;rcases ht with ht|ht
     ·have ht':cH t (tU ops.toList r.o++pF r.o.op.operands.toList)=true:=ajZ.2 ht;rw[ht'] at h;exact absurd h.1.2 (by simp)
     ·rw[ht] at h;simp[afZ] at h
   have hslot:∀t∈(r.nm cl ops.toList).rd,bE z (r.pre t) (a.eval (iH t)):=fun t ht=>by
    have:=htm t;rw[hsplit,kgZ (f:=Rc.tmE t) (S:=fun i=>listed.getD i false) hSi (slot1 t (.inl ht)) (slot2 t (.inl ht))] at this;exact u1 t _ _ this
   have hwant:Region.wanted r.o (yielded ops a.tmps)=r.go:=hok.grd.wanted fun j want d h1 h2=>hslot d (by
    obtain⟨x,h3,h4⟩:=ZAG.1 h2;simp[Rc.nm,tU,h1,h3,h4])
   have hopn:∀x∈r.o.op.operands,bE z (r.st.opnd x) (a.eval x):=fun x hx=>rYZ x fun t ht=>by
    exact hok.le t _ _ (hslot t (by
     simp only[Rc.nm,ZAh];exact .inr (hXZ ht (ZBJ.2 hx))))
   have hS':(listed.setIfInBounds i true).getD r.i false=true:=by rw[hr1];simp[show i<listed.size by omega]
   have hSo:∀x,x≠i->(listed.setIfInBounds i true).getD x false=listed.getD x false:=fun x hx=>getD_set_ne false (ZBj hx);obtain⟨v1,v2⟩:=hlt hsplit;have hS1:∀x∈l1,(listed.setIfInBounds i true).getD x.i false=listed.getD x.i false:=fun x hx=>hSo _ (by rw[<-hr1];exact v1 x hx);have hS2:∀x∈l2,(listed.setIfInBounds i true).getD x.i false=listed.getD x.i false:=fun x hx=>hSo _ (by rw[<-hr1];exact v2 x hx);have hcs':∀j,(listed.setIfInBounds i true).getD j false=true->qQ ops.toList (fun j=>(listed.setIfInBounds i true).getD j false=true) j:=fun j hj o' ho' e he hb=>by
    refine getD_set_true ?_;by_cases hji:j=i
    ·subst hji;rw[ZA6,ho] at ho';simp only[ZAV] at ho';subst ho';exact hedge e he hb
    ·rw[hSo j hji] at hj;exact hcs j hj o' ho' e he hb
   have hLr:∀p∈L,r.o.dst≠some p.1:=by
    have h3:(recs.map fun r=>(r.i,r.o))[i]? =some (r.i,r.o):=by rw[ZAW,hri];rfl
    rw[t1,ZAW,i4Z,Option.map_map] at h3;obtain⟨x,hx,hxe⟩:=ZAH.1 h3;simp only[Function.comp,ZA0] at hxe;have:=hL x (ZAI hx);rw[hxe.2] at this;exact this
   have hdst:=hok.dst;rw[u3] at hdst;have put:∀(z3:Z) (H3:Hp) (v:Value),Nx z z3->bI z3 H3->bE z3 r.x v->(∀id,iV (Rc.hpE id) (recs.filter fun r=>(listed.setIfInBounds i true).getD r.i false) (kX st.hp id)=kX H3 id)->
    J z0 N L ops recs st (listed.setIfInBounds i true) (a.put r.o.dst v) z3.w:=fun z3 H3 v k1 k2 k3 k4=>by
    have kp:=k1.kp hH.sub;refine⟨z3,H3,rfl,hn.trans k1,fun id=>by rw[k1.dom];exact hD id,k2,k4,fun t=> ?_,fun p hp=> ?_,(fEZ _ _ _).2.trans hdf,by rw[(fEZ _ _ _).1];exact hnt,by simpa using hsz,hcs'⟩
    ·by_cases ht:r.o.dst=some t
     ·rw[hsplit,(fOZ (f:=Rc.tmE t) (S:=fun i=>listed.getD i false) (S':=fun j=>(listed.setIfInBounds i true).getD j false) hSi hS' hS1 hS2).1 r.x (by simp[Rc.tmE,ht]) (slot2 t (.inr ht)),ht,edZ (by
       rw[ht] at hdst;simp only[mH,ZAE,ZBd] at hdst;omega) (by
       rw[ht] at hdst;simp only[mH,ZAE,ZBd] at hdst;exact hdst.2)]
      exact k3
     ·rw[hsplit,(fOZ (f:=Rc.tmE t) (S:=fun i=>listed.getD i false) (S':=fun j=>(listed.setIfInBounds i true).getD j false) hSi hS' hS1 hS2).2 (by simp[Rc.tmE,ht]),dbZ ht,<-hsplit];exact(htm t).kp kp
    ·rw[dbZ (hLr p hp)];exact(hLs p hp).kp kp
   have same:r.H2=none->∀id,iV (Rc.hpE id) (recs.filter fun r=>(listed.setIfInBounds i true).getD r.i false) (kX st.hp id)=kX H id:=fun h2 id=>by
    rw[hsplit,(fOZ (f:=Rc.hpE id) (S:=fun i=>listed.getD i false) (S':=fun j=>(listed.setIfInBounds i true).getD j false) hSi hS' hS1 hS2).2 (by simp[Rc.hpE,h2]),<-hsplit];exact hhp id
   unfold wpOp;simp only[ho,hwant];cases hgo:r.go
   ·simp only[ZBI,ZCi];obtain⟨x1,x2⟩:=hok.no hgo;exact hnext _ _ (put z H undef (Nx.refl z) hH (by rw[x1];exact mGZ) (same x2))
   ·simp only[ZCr];refine .inl ?_;have foot1:∀id∈r.ft,∀x∈l1,(x.hpE id).isSome=true->listed.getD x.i false=true:=fun id hid x hx hs=>by
     have hxt:=t2 x (by rw[hsplit];exact ZBb _ hx);have hxg:x.go=true:=by
      cases hxg:x.go
      ·have:=(hxt.no hxg).2;simp[Rc.hpE,this] at hs
      ·rfl
     have hxw:isR P x.o=false/\cH id x.wr=true:=by
      rcases hxt.yes hxg with⟨_,_,y⟩|⟨y,_⟩
      ·simp[Rc.hpE,y] at hs
      ·refine⟨y,?_⟩;unfold Rc.hpE at hs;split at hs
       ·split at hs
        ·assumption
        ·cases hs
       ·cases hs
     rcases hf1.2.2 x hx r ZAq hxg hgo with h|h
     ·exact hA _ (ajZ.1 h)
     ·exfalso;have hmt:tT x.wr r.ft=true:=by
       have:∀{l:List Nat},id∈l->tT l r.ft=true:=fun{l}=>by
        induction l with
        |nil=>intro h;cases h
        |cons y l ih=>
         intro h;simp only[tT,ZA3];rcases ZAj.1 h with rfl|h
         ·exact .inl (ajZ.2 hid)
         ·exact .inr (ih h)
       exact this (ajZ.1 hxw.2)
      simp[HR,hxw.1,hmt] at h
    have foot2:∀id∈r.ft,∀x∈l2,(x.hpE id).isSome=true->listed.getD x.i false=false:=fun id hid x hx hs=>by
     have hxt:=t2 x (by rw[hsplit];exact ZCa _ (ZAc _ hx));have hxg:x.go=true:=by
      cases hxg:x.go
      ·have:=(hxt.no hxg).2;simp[Rc.hpE,this] at hs
      ·rfl
     have hxw:isR P x.o=false/\cH id x.wr=true:=by
      rcases hxt.yes hxg with⟨_,_,y⟩|⟨y,_⟩
      ·simp[Rc.hpE,y] at hs
      ·refine⟨y,?_⟩;unfold Rc.hpE at hs;split at hs
       ·split at hs
        ·assumption
        ·cases hs
       ·cases hs
     rcases(ZA4.1 hf1.2.1).1 x hx hgo hxg with h|h
     ·exact hB _ (ajZ.1 h)
     ·exfalso;have hmt:tT x.wr r.ft=true:=by
       have:∀{l:List Nat},id∈l->tT l r.ft=true:=fun{l}=>by
        induction l with
        |nil=>intro h;cases h
        |cons y l ih=>
         intro h;simp only[tT,ZA3];rcases ZAj.1 h with rfl|h
         ·exact .inl (ajZ.2 hid)
         ·exact .inr (ih h)
       exact this (ajZ.1 hxw.2)
      simp[HR,hxw.1,hmt] at h
    have hfoot:∀id∈r.ft,kX H id=kX r.st.hp id:=fun id hid=>by
     rw[<-hhp id,hsplit,kgZ (f:=Rc.hpE id) (S:=fun i=>listed.getD i false) hSi (foot1 id hid) (foot2 id hid)];exact u2 id
    let F:Nat->Bool:=fun id=>cH id r.ft
    have hfoc:bI (z.foc H F) (sH r.st.hp r.ft):=v8Z hH (fun id=>by
     rw[(bYZ _ _ id).1];show _=if cH id r.ft=true then _ else _;split
     ·rename_i hm;exact(congrArg Prod.snd (hfoot id (ajZ.1 hm))).symm
     ·rfl) (fun id=>by
     rw[(bYZ _ _ id).2];show _=(cH id r.ft&&_);cases hm:cH id r.ft
     ·rfl
     ·rw[show bM r.st.hp id=bM H id from(congrArg Prod.fst (hfoot id (ajZ.1 hm))).symm])
    classical
    let r':Operand->AV:=fun x=>if x∈r.o.op.operands then r.st.opnd x else .junk
    have hr':∀x∈r.o.op.operands,r.st.opnd x=r' x:=fun x hx=>(ZAM hx).symm;have hrep:∀x,bE (z.foc H F) (r' x) (a.eval x):=fun x=>by
     by_cases hx:x∈r.o.op.operands
     ·rw[<-hr' x hx];exact(hopn x hx).less rfl rfl fun g h=>h
     ·show bE _ (if x∈r.o.op.operands then r.st.opnd x else .junk) _;rw[ZAK hx];exact .junk _
    rcases hok.yes hgo with⟨_,y1,y2⟩|⟨_,y1,y2,Hr,y3,y4,y5'⟩
    ·rw[qEZ hr'] at y1;refine txZ (z:=z.foc H F) y1 hfoc hrep fun x v q1 q2=> ?_;simp only[ZAV] at q2;subst q2;exact hnext _ _ (put z H v (Nx.refl z) hH (q1.less rfl rfl fun g h=>h) (same y2))
    ·have y5:=y5'.1;rw[qaZ hr'] at y4;have hidF:∀id,rt id∈r.an.ids->¬(z.foc H F).D id:=fun id hid hd=>by
      rcases hd with hd|⟨_,hd⟩
      ·exact hD id hd
      ·have:F (rt id)=true:=ajZ.2 (by
        unfold Rc.ft sG;rw[eOZ];exact ZBb _ (ZCa _ hid))
       rw[this] at hd;cases hd
     refine tAZ (z:=z.foc H F) hT y4 hfoc hidF (fun hm hdd=>by
      have hmem:r.an.ids.headD 0∈r.an.ids:=by
       cases hids:r.an.ids with
       |nil=>exact absurd hids (y1 hm)
       |cons x l=>simp
      rcases hdd with hdd|⟨hkx,hdd⟩
      ·exact hD _ hdd
      ·have hst:=bIZ y5'.2 (show r.an.ids.headD 0∈r.ft from by
        unfold Rc.ft sG;rw[eOZ];exact ZBb _ (ZCa _ hmem))
       exact hidF _ (by rw[bbZ hst];exact hmem) (.inr ⟨hkx,hdd⟩)) (fun m hm=>by
      rcases m1Z.1 y2 m hm with h4|h4
      ·exact .inl h4
      ·refine .inr fun hdd=> ?_;rcases hdd with hdd|⟨_,hdd⟩
       ·exact hD _ hdd
       ·have hst:=bIZ y5'.2 h4;rw[bbZ hst] at hdd;have:F (m+100000)=true:=ajZ.2 h4;rw[this] at hdd;cases hdd) hrep fun x v H' z' q1 q2 q3 q4=> ?_
     simp only[ZAV,ZA0] at q4;obtain⟨rfl,rfl⟩:=q4;have hkF:∀id,bM H' id=true->F id=true:=fun id hkk=>ajZ.2 (cmZ.1 y5 id (ezZ.1 hkk));obtain⟨z3,m1,m2,m3,m4,m5⟩:=merge_ok (H3:=gG (gE H r.ft) H') hH q2 q1 hkF (fun id=>by
      rw[aOZ,beZ]) (fun id hh=>by
      rw[aGZ,aNZ];rcases hh with hh|hh<;>simp[hh]) (fun id hh=>by
      rw[aGZ,aNZ] at hh;simp only[ZA3] at hh;rcases hh with hh|hh|hh
      ·exact .inl hh
      ·exact .inr (.inr ⟨bIZ y5'.2 (ajZ.1 hh),fun x _=>hD x⟩)
      ·exact .inr (.inl hh))
     rw[<-m1];have m6:=bI.refz (F:=xT r.st.hp r.ft) (m5.kp hH.sub) hH m4 (H1:=r.st.hp) fun i hi=>by
      have hi2:=ajZ.2 hi;rw[(doZ r.st.hp i _).1,ZAE] at hi2;obtain⟨q5,b,q6⟩:=lbZ hi2.2;exact⟨b,q5,q6,by rw[<-q6];exact congrArg Prod.snd (hfoot i (ajZ.1 hi2.1))⟩
     refine hnext _ _ (put z3 _ v m5 m6 (q3.less m1 m3 fun g h=>by rw[<-m2];exact h) fun id=> ?_);by_cases hm:cH id r.wr=true
     ·have hm':=hm;rw[show r.wr=vU r.st.hp r.ft from rfl,(doZ r.st.hp id _).2,ZAE,ZAk] at hm';rw[hsplit,(fOZ (f:=Rc.hpE id) (S:=fun i=>listed.getD i false) (S':=fun j=>(listed.setIfInBounds i true).getD j false) hSi hS' hS1 hS2).1 (true,if bM H' id=true then bG H' id else none) (by simp[Rc.hpE,y3,hm]) (foot2 id (ajZ.1 hm'.1))];unfold kX;rw[aGZ,aOZ,aGZ,aOZ,aNZ,beZ,(bYZ _ _ id).1,(bYZ _ _ id).2,(doZ r.st.hp id _).1];simp[hm'.1,hm'.2]
     ·rw[hsplit,(fOZ (f:=Rc.hpE id) (S:=fun i=>listed.getD i false) (S':=fun j=>(listed.setIfInBounds i true).getD j false) hSi hS' hS1 hS2).2 (by simp[Rc.hpE,y3,hm]),<-hsplit];rw[hhp id];have hm':=Bool.eq_false_iff.2 hm;rw[show r.wr=vU r.st.hp r.ft from rfl,(doZ r.st.hp id _).2] at hm';unfold kX;rw[aGZ,aOZ,aGZ,aOZ,aNZ,beZ,(bYZ _ _ id).1,(bYZ _ _ id).2,(doZ r.st.hp id _).1];cases hft:cH id r.ft
      ·have hk0:bM H' id=false:=by
        cases hk0:bM H' id
        ·rfl
        ·have:=hkF id hk0;rw[show F id=cH id r.ft from rfl,hft] at this;cases this
       simp[hk0]
      ·rw[hft] at hm';have hz:zJ r.st.hp id=true:=by simpa using hm'
       obtain⟨_,b,hb⟩:=lbZ hz;have hh:=hfoot id (ajZ.1 hft);simp only[kX,ZA0] at hh;simp[hz,aiZ hb,hh.1,hh.2,hb]
  intro bB;induction bB with
  |zero=>
   intro listed a w hf hj;have hr:Region.ready .any ops listed=[]:=by
    cases hr:Region.ready .any ops listed with
    |nil=>rfl
    |cons i l=>
     have hi:i∈Region.ready .any ops listed:=by rw[hr];exact ZAq
     obtain⟨h1,o,h2,_⟩:=mem_ready.1 hi;have:i∈(List.range ops.size).filter fun j=> !listed.getD j true:=by
      rw[ZCo];exact⟨ZCS.2 (ZBH.1 h2).1,by rw[h1];rfl⟩
     have:=List.length_pos_of_mem this;omega
   exact⟨hr,fin listed a w hr hj⟩
  |succ bB ih=>
   intro listed a w hf hj;refine⟨fun hr=>fin listed a w hr hj,fun i hi=> ?_⟩;refine step listed a w i _ hi hj fun a' w' hj'=>ih _ a' w' ?_ hj';obtain⟨_,_,_,_,_,_,_,_,_,_,_,hsz,_⟩:=hj;have:=gXZ hsz (mem_ready.1 hi).1;omega
 obtain⟨z,rfl,hn,hD,hH,hs,hLs,hdf,hnt,_⟩:=hi;have hempty:(recs.filter fun r=>(Array.replicate ops.size false).getD r.i false)=[]:=by
  rw[List.filter_eq_nil_iff];intro r _;simp[Array.getElem?_replicate];split<;>rfl
 refine main ops.size _ a z.w ?_ ⟨z,st.hp,rfl,hn,hD,hH,fun id=>by rw[hempty];rfl,fun t=>by rw[hempty];exact hs t,hLs,hdf,hnt,by simp,fun j hj=> ?_⟩
 ·have:((List.range ops.size).filter fun j=> !(Array.replicate ops.size false).getD j true)=List.range ops.size:=by
   rw[ZB0];intro j hj;simp[ZCS.1 hj]
  rw[this];simp
 ·exfalso;simp[Array.getElem?_replicate] at hj;split at hj<;>simp at hj
end
theorem ibZ(H):∀(n id),bG (rQ H n) id=bG H id/\bM (rQ H n) id=(bM H id||(decide (id<n)&&decide (id<bA)))
 |0,id=>by simp[rQ]
 |n+1,id=>by
  let⟨q1,q2⟩:=ibZ H n id
  have key:bM H n=true\/bA<=n->(bM H id||(decide (id<n)&&decide (id<bA)))=(bM H id||(decide (id<n+1)&&decide (id<bA))):=λh=>by
   by_cases hi:id=n
   .subst hi;rcases h with h|h
    .simp[h]
    .simp[show¬id<bA by omega]
   .have:(id<n+1)↔id<n:=by omega
    simp[this]
  simp[rQ];cases hk:bM H n
  .cases hb:Nat.ble bA n
   .have R:=ZBN.1 λh=>by rw[ZAi h] at hb;cases hb
    simp[bG,bM];by_cases h:n=id
    .subst h;simp[hk];refine⟨(auZ hk).symm,?_⟩;simp[R]
    .simp only[ahZ h,ZAD,q1,q2];have:(id<n+1)↔id<n:=by omega
     simp[this]
   .simp only[Bool.or_true,ZAL,q1,q2];exact⟨trivial,key (.inr (ZBM hb))⟩
  simp_all
theorem cZZ{id}:∀{l},id∈sB l↔id∈l/\bA<=id
 |[]=>by simp[sB]
 |i::l=>by
  simp only[sB];by_cases h:bA<=i
  .rw[ZAi h,ZAL,ZAj,cZZ]
   grind
  .rw[fxZ h,ZAD,cZZ]
   grind
theorem gCZ{id}:∀{l},id∈kT l↔id∈l/\id<bA
 |[]=>by simp[kT]
 |i::l=>by
  simp only[kT];by_cases h:bA<=i
  .rw[ZAi h,ZAL,gCZ]
   grind
  .rw[fxZ h,ZAD,ZAj,gCZ]
   grind
theorem gWZ{i k}:∀{l},(i,k)∈zQ l↔i=k/\k∈l
 |[]=>by simp[zQ]
 |x::l=>by
  simp[zQ,gWZ];constructor
  .rintro(⟨rfl,rfl⟩|⟨rfl,h⟩)
   .exact⟨rfl,.inl rfl⟩
   .exact⟨rfl,.inr h⟩
  .rintro⟨rfl,rfl|h⟩
   .exact .inl ⟨rfl,rfl⟩
   .exact .inr ⟨rfl,h⟩
theorem vlZ{sh:fP}{H}{vs}{i k}(h:(i,k)∈sh.ps H vs):k∈bJ sh.s.hs:=by
 rcases ZAh.1 h with h|h
 .let⟨n,_,q⟩:=jnZ h
  exact(gCZ.1 (ZAI q)).1
 simp_all[cZZ,gWZ]
theorem qxZ{n}:∀{R},NX n R=true->∀i k,(i,k)∈R->i=k\/(n<=i/\n<=k)
 |[],_,i,k,h=>by cases h
 |(a,b)::R,h,i,k,hm=>by
  simp[NX,ZAm] at h;rcases ZAj.1 hm with hm|hm
  .simp_all
  .exact qxZ h.2 i k hm
theorem qPZ{z}{f}:∀{ks} {vs} {t},(∀k,bE z (t.get k) (f k))->bQ z vs (ks.map f)->∀k,bE z ((NY ks vs t).get k) (f k)
 |[],vs,t,h,_,k=>by cases vs<;>exact h k
 |k0::ks,[],t,h,_,k=>h k
 |k0::ks,a::vs,t,h,hv,k=>by
  refine qPZ (λj=> ?_) hv.tail k;by_cases R:j=k0
  .subst R;rcases(Tr.get_put t j a j).2 with e|e<;>rw[e]
   .exact hv.head
   .exact .junk _
  .rw[(Tr.get_put t k0 a j).1 R];exact h j
theorem isZ:∀(t:Tr) (k),t.keep.get k= .junk\/(t.keep.get k=t.get k/\(t.get k).noRef=true)
 |.lf,k=>.inl rfl
 |.nd l v r,k=>by
  simp[Tr.keep,Tr.get];by_cases h0:k=0
  .subst h0;simp[ZAL];cases hv:v.noRef
   .exact .inl rfl
   .exact .inr ⟨rfl,rfl⟩
  .simp[ahZ h0];by_cases h1:k%2=1
   .simp[(afZ _ _).2 h1];exact isZ l _
   .simp[ahZ h1];exact isZ r _
theorem jlZ:∀(l) (t:Tr) (k),(k∈l->(t.junk l).get k= .junk)/\(k∉l->(t.junk l).get k=t.get k)
 |[],t,k=>⟨λh=>(by cases h),λ_=>rfl⟩
 |i::l,t,k=>by
  let⟨h1,h2⟩:=jlZ l (t.put i .junk) k
  simp only[Tr.junk];refine⟨λh=> ?_,λh=> ?_⟩
  .by_cases hk:k∈l
   .exact h1 hk
   .rw[h2 hk];have:=(ZAj.1 h).resolve_right hk;subst this;rcases(Tr.get_put t k .junk k).2 with e|e<;>exact e
  .rw[ZAj,not_or] at h;rw[h2 h.2,(Tr.get_put t i .junk k).1 h.1]
theorem iDZ:∀(t:Tr),∃n,∀k,n<=k->t.get k= .junk
 |.lf=>⟨0,λ_ _=>rfl⟩
 |.nd l v r=>by
  let⟨R,hl⟩:=iDZ l
  let⟨nr,hr⟩:=iDZ r
  refine⟨2*(R+nr)+3,λk hk=> ?_⟩;have h0:k≠0:=by omega
  simp[Tr.get,ahZ h0];by_cases h1:k%2=1
  .simp[(afZ _ _).2 h1];exact hl _ (by omega)
  .simp[ahZ h1];exact hr _ (by omega)
theorem rnZ{a}(h:a.noRef=true):AV.ids a=[]:=by
 cases a<;>first|rfl|simp_all[AV.noRef]
theorem uiZ{p:Nat->Prop}(h:∃n,p n):∃n,p n/\∀m,p m->n<=m:=by
 let⟨n,R⟩:=h
 induction n using Nat.strongRecOn<;>grind
section
variable {P : Program} {T : Tbl} {β : Type} {z0 : Z} {N : Nat} {L : List (Nat × AV)}
theorem Inv.sub{L'}{st}{a}{w}(hi:Inv z0 N L' st a w)(h:∀p∈L,p∈L'):Inv z0 N L st a w:=by
 obtain⟨z,rfl,hn,hD,hH,hs,R,aa,ab,h0⟩:=hi;exact⟨z,rfl,hn,hD,hH,hs,λp hp=>R p (h p hp),aa,ab,h0⟩
theorem m6Z:∀{R} {i i' k},(kG R).Nodup->(i,k)∈R->(i',k)∈R->i=i'
 |(a,b)::R,i,i',k,hn,h,h'=>by
  simp[kG] at hn;have hm:∀{R} {x},(x,k)∈R->k∈kG R:=λ{R}=>by
   induction R with
   |nil=>intro x h;cases h
   |cons p R ih=>
    intro x h;rcases ZAj.1 h with rfl|h
    .exact ZAq
    .exact ZAc _ (ih h)
  rcases ZAj.1 h with e|q<;>rcases ZAj.1 h' with e'|q'
  .injection e with e1 e2;injection e' with e3 e4;rw[e1,e3]
  .injection e with e1 e2;exact absurd (e2▸hm q') hn.1
  .injection e' with e1 e2;exact absurd (e2▸hm q) hn.1
  .exact m6Z hn.2 q q'
theorem vkZ{st:St}{sh}{K}{r:β}{a:Act}{base:Tr}{nt n0:Nat}{z:Z}(h:st.prj sh K=some r)(hn:Nx z0 z)(hD:∀id,¬z.D id)(hH:bI z st.hp)(hs:∀t,bE z (st.tm.get t) (a.eval (iH t)))(hLs:∀p∈L,bE z p.2 (a.eval (iH p.1)))
 (h0':∀id,id<bC->z0.ρ id≠.no->id<st.n0)(hLn:∀p∈L,AV.ids p.2=[])
 (hb:∀k,base.get k= .junk\/(k,base.get k)∈L)(h0:∀id,id<bC->z0.ρ id≠.no->id<n0):∃t z2,K t=some r/\z2.w=z.w/\Nx z0 z2/\(∀id,¬z2.D id)/\bI z2 (sh.inj base nt n0 t).hp/\(∀k,bE z2 ((sh.inj base nt n0 t).tm.get k) (a.eval (iH k)))/\(∀p∈L,bE z2 p.2 (a.eval (iH p.1)))/\
  z2.M=z.M/\(∀g,z2.C g->z.C g)/\∀i k,KG (sh.ps st.hp (sh.live.map st.tm.get)) i k=true->z2.ρ k=z.ρ i:=by
 unfold St.prj at h;obtain⟨h1,h2⟩:=aeZ.1 h;simp only[ZAE] at h1;have hfix:=qxZ h1.1;have hb0:=eIZ;have hall:=cmZ.1 h1.2;have hdyn:∀id,bC<=id->cH (rt id) (bJ sh.s.hs)=false->z.ρ id= .no:=fun id hd hm=>by
  have hk:bM st.hp (rt id)=false:=by
   cases hk:bM st.hp (rt id)
   ·rfl
   ·have:=(cZZ.1 (hall _ (cZZ.2 ⟨ezZ.1 hk,(bNZ hd).1⟩))).1;rw[ajZ.2 this] at hm;cases hm
  refine(hH.fresh id ?_).resolve_right (hD id)
  simp_all[ayZ,auZ]
 obtain⟨t,z',k1,k2,k3,k4,k5,k6,k7,k8,k9,k10,k11,k12,k13,k14⟩:=Shp.rco_ok (vals:=sh.live.map fun k=>a.eval (iH k)) (fun k=>if k<n0 then z.ρ k else .no) (fun k h1 h2=>by rw[hH.nos k h1 h2,ite_self]) h2 hH ⟨by simp,fun i x v e1 e2=>by
  grind⟩
 have hρ:∀id,z0.ρ id≠.no->z'.ρ id=z0.ρ id:=fun id hid=>by
  cases hk:cH id (bJ sh.s.hs)
  ·rw[k7 id hk];by_cases hdy:bC<=id
   ·rw[ZAM hdy];exact hn.ext id hid
   ·rw[ZAK hdy,ZAM (h0 id (by omega) hid)];exact hn.ext id hid
  ·obtain⟨id',q1,q2⟩:=k6 id hk;rcases hfix id' id q1 with rfl|⟨_,q4⟩
   ·rw[q2];exact hn.ext id' hid
   ·have:=h0' id (k13 id hk) hid;omega
 let z2:Z:={z' with D:=fun _=>False}
 have hn2:Nx z0 z2:=⟨by show z'.w.os=_;rw[k2];exact hn.os,⟨by show z'.w.tape=_;rw[k2];exact hn.tape.1,by show _<=z'.w.drawn;rw[k2];exact hn.tape.2⟩,by show z'.w.output=_;rw[k2];exact hn.output,by show _<=z'.w.heap.size;rw[k2];exact hn.size,
  fun b hb hc=>by show z'.w.heap[b]? =_;rw[k2];exact hn.block b hb hc,fun g hg=>hn.subM g (by rw[<-k3];exact hg),fun g hg=>hn.subC g (k8 g hg),fun g hg hm hc=>by show z'.M g;rw[k3];exact hn.keepM g hg hm hc,hρ,by
   funext id;have h1:¬z.D id:=hD id;rw[hn.dom] at h1;exact propext ⟨fun h=>h.elim,fun h=>h1 h⟩⟩
 have hL2:∀p∈L,bE z2 p.2 (a.eval (iH p.1)):=fun p hp=>(hLs p hp).rho (z':=z2) k2 k3 (.inl k12) fun id hid=>by rw[hLn p hp] at hid;cases hid
 refine⟨t,z2,k1,k2,hn2,fun _ h=>h,?_⟩;rw[fP.inj_eq];refine⟨?_,?_,hL2,k3,k8,fun i k hp=> ?_⟩
 ·have eq:=ibZ (sh.s.emb t).2 n0;have eqX:∀id,bP (rQ (sh.s.emb t).2 n0) id=bP (sh.s.emb t).2 id:=fun id=>c0Z (eq _).1;refine⟨fun id e' he=> ?_,fun i i' e e' g sz n g' sz' n' hii p1 p2 m1 m2 p3 p4=> ?_,fun id hid=> ?_,k4.sub,fun i x h=>k4.fam i x (by rw[<-(eq i).1];exact h),fun i h=> ?_,fun i _ _ h=>h,k4.nos⟩
  ·rw[eqX id] at he;exact(k4.ent id e' he).rho rfl rfl (.inl (.eq rfl)) rfl (fun _ _=>rfl) fun _ _ _ _ _ h=>h
  ·rw[eqX i] at p1;rw[eqX i'] at p2;exact k4.inj i i' _ _ g sz n g' sz' n' hii p1 p2 m1 m2 p3 p4
  ·left;show z'.ρ id= .no;by_cases hdy:bC<=id
   ·have hr:=(bNZ hdy).1;have hkk:bM (rQ (sh.s.emb t).2 n0) (rt id)=bM (sh.s.emb t).2 (rt id):=by
     rw[(eq (rt id)).2];simp[show¬rt id<bA by omega]
    rw[dFZ (H:=(sh.s.emb t).2) (eq _).1 hkk] at hid;cases hm:cH (rt id) (bJ sh.s.hs)
    ·have hmi:cH id (bJ sh.s.hs)=false:=by
      cases hc:cH id (bJ sh.s.hs)
      ·rfl
      ·have:=k13 id hc;omega
     rw[k7 id hmi,ZAM hdy];exact hdyn id hdy hm
    ·refine(k4.fresh id hid).resolve_right fun hD'=> ?_;rw[k10,hm] at hD';cases hD'.1
   ·by_cases hf:bA<=id
    ·exact k4.nos id hf (by omega)
    ·rw[aCZ (by omega),(eq id).2] at hid;simp only[ZBX,ZB8,ZBA] at hid;rw[k11] at hid;rw[k7 id hid.1,ZAK hdy,ZAK (by omega)]
  ·rw[(eq i).2] at h;simp only[ZA3,ZAE,ZAp] at h;rcases h with h|h
   ·exact k4.key i h
   ·omega
 ·refine qPZ (z:=z2) (f:=fun k=>a.eval (iH k)) (fun k=> ?_) (k5.less rfl rfl fun g h=>h);rcases hb k with e|e
  ·rw[e];exact .junk _
  ·exact hL2 _ e
 ·unfold KG at hp;split at hp
  ·rename_i j hj;rw[afZ] at hp;subst hp;have hm:=dOZ hj;have hk:cH j (bJ sh.s.hs)=true:=ajZ.2 (vlZ hm);obtain⟨id',q1,q2⟩:=k6 j hk;have hnd:(kG (sh.ps st.hp (sh.live.map st.tm.get))).Nodup:=by
    unfold Shp.rco at h2;have:=(aeZ.1 h2).1;simp only[ZAE] at this;exact cQZ.1 this.1.2.1
   rw[show z2.ρ j=z'.ρ j from rfl,q2,m6Z hnd q1 hm]
  ·cases hp
theorem kbZ{st}{sh}{K}{r:β}{a}{w}{R}{nt n0}(h:st.prj sh K=some r)(hi:Inv z0 N L st a w)(ab:∀p∈L,AV.ids p.2=[])
 (hb:∀k,R.get k= .junk\/(k,R.get k)∈L)(ac:nt<=N)(h0:∀id,id<bC->z0.ρ id≠.no->id<n0):∃t,K t=some r/\Inv z0 N L (sh.inj R nt n0 t) a w:=by
 obtain⟨z,rfl,hn,hD,hH,hs,ad,ae,aa,af⟩:=hi;obtain⟨t,z2,k1,k2,k3,k4,k5,k6,k7,_⟩:=vkZ h hn hD hH hs ad af ab hb h0;refine⟨t,k1,z2,k2,k3,k4,k5,k6,k7,ae,?_,?_⟩
 .rw[fP.inj_eq];exact⟨ac,aa.2⟩
 simp_all[fP.inj_eq]
theorem Out.on_inl{γ}{ac}{nt n0}:∀{rt} {l} {i} {st} {K} {r:γ} {a} {w},Out.mk st rt l i K=some r->Inv z0 N L st a w->(∀p∈L,AV.ids p.2=[])->
 (∀k,ac.get k= .junk\/(k,ac.get k)∈L)->nt<=N->(∀id,id<bC->z0.ρ id≠.no->id<n0)->∃o,K o=some r/\∀(X) (R:β->Option β),∃ad,Inv z0 N L ad a w/\Out.on ac nt n0 rt l o X R=X i ad
 |rt,[],i,st,K,r,a,w,h,_,_,_,_,_=>by cases rt<;>cases h
 |true,[(j,s)],i,st,K,r,a,w,h,hi,aa,hb,ab,h0=>by
  simp[Out.mk] at h;cases hj:Nat.beq j i<;>rw[hj] at h<;>simp only[bq_true,bq_false] at h
  .cases h
  rw[afZ] at hj;subst hj
  let⟨t,h1,h2⟩:=kbZ h hi aa hb ab h0
  exact⟨.inl t,h1,λX R=>⟨_,h2,rfl⟩⟩
 |false,[(j,s)],i,st,K,r,a,w,h,hi,aa,hb,ab,h0=>by
  simp[Out.mk] at h;cases hj:Nat.beq j i<;>rw[hj] at h<;>simp only[bq_true,bq_false] at h
  .cases h
  rw[afZ] at hj;subst hj
  let⟨t,h1,h2⟩:=kbZ h hi aa hb ab h0
  exact⟨t,h1,λX R=>⟨_,h2,rfl⟩⟩
 |rt,(j,s)::o::l,i,st,K,r,a,w,h,hi,aa,hb,ab,h0=>by
  have h':bq (Nat.beq j i) (st.prj s λt=>K (.inl t)) (Out.mk st rt (o::l) i λx=>K (.inr x))=some r:=by cases rt<;>exact h
  cases hj:Nat.beq j i<;>rw[hj] at h'<;>simp[bq_false] at h'
  .let⟨x,h1,h2⟩:=Out.on_inl h' hi aa hb ab h0
   refine⟨.inr x,h1,λX R=> ?_⟩
   let⟨ad,h3,h4⟩:=h2 X R
   exact⟨ad,h3,by cases rt<;>exact h4⟩
  .rw[afZ] at hj;subst hj
   let⟨t,h1,h2⟩:=kbZ h' hi aa hb ab h0
   exact⟨.inl t,h1,λX R=>⟨_,h2,by cases rt<;>rfl⟩⟩
theorem Out.on_ret{aa}{nt n0}{b}{X}{R:β->Option β}:∀{l},Out.on aa nt n0 true l (Out.ret l b) X R=R b
 |[]=>rfl
 |[(_,_)]=>rfl
 |(_,_)::o::l=>Out.on_ret (l:=o::l)
theorem Tr.ren_get(f):∀(t:Tr) (k),(t.ren f).get k=AV.ren f (t.get k)
 |.lf,k=>rfl
 |.nd l v r,k=>by
  simp[Tr.ren,Tr.get];cases Nat.beq k 0
  .cases Nat.beq (k%2) 1
   .exact Tr.ren_get f r _
   .exact Tr.ren_get f l _
  .rfl
theorem cFZ(f):∀(H) (id),bG (pJ f H) id=(bG H id).map (Ent.ren f)/\bM (pJ f H) id=bM H id
 |[],id=>⟨rfl,rfl⟩
 |(i,none)::H,id=>by
  let⟨h1,h2⟩:=cFZ f H id
  simp[pJ,bG,bM];cases Nat.beq i id
  .exact⟨h1,h2⟩
  .exact⟨rfl,rfl⟩
 |(i,some e)::H,id=>by
  let⟨h1,h2⟩:=cFZ f H id
  simp[pJ,bG,bM];cases Nat.beq i id
  .exact⟨h1,h2⟩
  .exact⟨rfl,rfl⟩
theorem tSZ{R aa id k}(h:oC R aa id=some k):(id=R/\k=aa)\/(id≠R/\k=id):=by
 unfold oC at h
 grind[afZ,bq_true,ZAf,ahZ,bq_false]
theorem skZ{z}{H}{aa R}{e}(hH:bI z H)(hg:bG H aa=some e)(hk:bM H R=false)(ad:R<bA)(ab:aa<bA)(hd:¬z.D R):
 ∃z',z'.w=z.w/\bI z' (bS (bS (pJ (oC aa R) H) aa none) R (some (e.ren (oC aa R))))/\Nx z z'/\∀a v,bE z a v->bE z' (AV.ren (oC aa R) a) v:=by
 have ar:=(hH.fresh R (by simp_all[aCZ])).resolve_right hd;have as:R≠aa:=λh=>by simp_all[aiZ]
 let z':={z with ρ:=λi=>if i=R then z.ρ aa else z.ρ i}
 have e1:∀i,i≠R->z'.ρ i=z.ρ i:=λi hi=>ZAK hi;have e2:z'.ρ R=z.ρ aa:=ZAM rfl;have hn:Nx z z':=⟨rfl,⟨rfl,ZAN _⟩,rfl,ZAN _,λ_ _ _=>rfl,λ_ h=>.inl h,λ_ h=>.inl h,λ_ _ h _=>h,λi hi=>e1 i (by grind),rfl⟩;have hf:∀{id k},z.ρ id≠.no->oC aa R id=some k->z'.ρ k=z.ρ id:=λ{id k} hl h=>by
  grind[tSZ]
 have au:∀i ee,bG H i=some ee->i≠R:=λi ee h hi=>by simp_all[aiZ]
 have af:∀i ee,eW z i ee->∀k,z'.ρ k=z.ρ i->eW z' k (ee.ren (oC aa R)):=λi ee h k ak=>by
  unfold eW at h⊢;rw[ak];cases hr:z.ρ i with
  |no=>simp_all
  |virt=>
   rw[hr] at h;obtain⟨fz,b⟩:=ee;cases b<;>first|exact h.elim|exact h
  |real g sz n=>
   rw[hr] at h;obtain⟨a1,a2,a3,a4⟩:=h;refine⟨a1,a2,a3,a4.ren' (.of hn.ext) ?_⟩;omega
 have ag:∀i,bP (pJ (oC aa R) H) i=(bP H i).map (Ent.ren (oC aa R))/\dU (pJ (oC aa R) H) i=dU H i:=λi=>by
  obtain⟨q1,q2⟩:=cFZ (oC aa R) H (rt i);by_cases hd:bC<=i
  .rw[a8Z hd,a8Z hd,ayZ hd,ayZ hd,q1,q2];cases bG H (rt i) with
   |none=>simp_all
   |some e0=>
    simp only[ZBS,ZAA];rw[(fdZ e0 _ _).2 (ZAN _),(fdZ e0 _ _).1];refine⟨?_,rfl⟩
    grind[pick,bC,ZBS,e1Z]
  .unfold bP dU;rw[ZAK hd,ZAK hd,ZAK hd,ZAK hd];by_cases hf:bA<=i
   .rw[ZAM hf,ZAM hf,ZAM hf,ZAM hf];exact⟨rfl,rfl⟩
   simp_all[ZAK,bbZ]
 have key:∀i ee,bP (bS (bS (pJ (oC aa R) H) aa none) R (some (e.ren (oC aa R)))) i=some ee->∃j e0,bP H j=some e0/\ee=e0.ren (oC aa R)/\((i=R/\j=aa)\/(i≠R/\i≠aa/\j=i)):=λi ee h=>by
  rw[a7Z ad] at h;by_cases hi:i=R
  .rw[ZAM hi] at h;exact⟨aa,e,by rw[aqZ ab];exact hg,(ZAf h).symm,.inl ⟨hi,rfl⟩⟩
  .rw[ZAK hi,a7Z ab] at h;by_cases ho:i=aa
   .rw[ZAM ho] at h;cases h
   .rw[ZAK ho,(ag i).1] at h;obtain⟨e0,h1,h2⟩:=ZAH.1 h;exact⟨i,e0,h1,h2.symm,.inr ⟨hi,ho,rfl⟩⟩
 have av:=eIZ;have ah:∀(i) (x),Ab.famOk i x->Ab.famOk i (x.ren (oC aa R)):=λi x h=>by
  obtain⟨fz,b⟩:=x;cases b<;>exact h
 have ac:∀i j,((i=R/\j=aa)\/(i≠R/\i≠aa/\j=i))->z'.ρ i=z.ρ j:=λi j h=>by
  rcases h with⟨rfl,rfl⟩|⟨h1,_,rfl⟩
  .exact e2
  .exact e1 _ h1
 refine⟨z',rfl,⟨λi ee h=> ?_,λi i' ee al g sz n g' am n' ai p1 p2 m1 m2 p3 p4=> ?_,λi h=> ?_,hH.sub,λi x h=> ?_,λi h=> ?_,λi aj h=> ?_,λi h1 h2=>by rw[e1 i (by omega)];exact hH.nos i h1 h2⟩,hn,λa v h=>h.ren rfl rfl (.inl (.of hn.ext)) λid k hi hk=>hf (h.live id hi) hk⟩
 .obtain⟨j,e0,q1,rfl,q3⟩:=key i ee h;exact af j e0 (hH.ent _ _ q1) i (ac i j q3)
 .obtain⟨j,e0,q1,rfl,q3⟩:=key i ee p1;obtain⟨j',an,ao,rfl,ae⟩:=key i' al p2;rw[ac i j q3] at p3;rw[ac i' j' ae] at p4;have ap:j≠j':=by
   rcases q3 with⟨rfl,rfl⟩|⟨h1,h2,rfl⟩<;>rcases ae with⟨rfl,rfl⟩|⟨aw,aq,rfl⟩
   .exact absurd rfl ai
   .exact ZBj aq
   .exact h2
   .exact ai
  have rr:∀{i j},((i=R/\j=aa)\/(i≠R/\i≠aa/\j=i))->Ro j->Ro i:=λh hr=>by
   rcases h with⟨_,rfl⟩|⟨_,_,rfl⟩
   .exact absurd hr (bUZ ab)
   .exact hr
  exact λp5=>hH.inj j j' e0 an g sz n g' am n' ap q1 ao m1 m2 p3 p4 λh=>p5 ⟨rr q3 h.1,rr ae h.2⟩
 .rw[buZ ad,buZ ab,(ag i).2] at h;simp only[ZBX,ZBA] at h;rw[e1 i h.1];exact hH.fresh i h.2.2
 .rw[apZ] at h;by_cases hi:i=R
  .rw[ZAM hi] at h;injection h with h;subst h;subst hi;exact ah _ _ ((hH.fam aa e hg).other ab i ad e.fz)
  .rw[ZAK hi,apZ] at h;by_cases ho:i=aa
   .rw[ZAM ho] at h;cases h
   .rw[ZAK ho,(cFZ _ H i).1] at h;obtain⟨e0,h1,rfl⟩:=ZAH.1 h;exact ah _ _ (hH.fam i e0 h1)
 .rw[atZ,atZ,(cFZ _ H i).2] at h;simp only[ZA3,ZAp] at h;rcases h with rfl|rfl|h
  .omega
  .omega
  .exact hH.key i h
 .rw[atZ,atZ,(cFZ _ H _).2] at h;simp only[ZA3,ZAp] at h;have:=(bNZ aj).1;refine hH.dyn i aj ?_;rcases h with h|h|h
  .omega
  .omega
  .exact h
theorem bI.reent{z}{H}{id}{b0 b}(R:bI z H)(aa:id<bA)(hg:bG H id=some ⟨false,b0⟩)(hb:eW z id ⟨false,b0⟩->eW z id ⟨false,b⟩)(hf:Ab.famOk id ⟨false,b⟩):bI z (bS H id (some ⟨false,b⟩)):=by
 have hu:=Upd.stat aa hg hf;have ac:bP H id=some ⟨false,b0⟩:=by rw[aqZ aa];exact hg
 refine⟨λi e hi=> ?_,λi i' e e' a sa na a' ae af ad h1 h2 m1 m2 h3 h4=> ?_,λi hi=>R.fresh i (hu.K i hi),R.sub,λi x h=>(hu.fam i x h).elim (R.fam i x) λh=>h,λi h=>R.key i (hu.key i h),λi hd h=>R.dyn i hd (hu.key _ h),R.nos⟩
 .rw[hu.X] at hi;by_cases h:i=id
  .subst h;rw[ZAM rfl] at hi;cases hi;exact hb (R.ent _ _ ac)
  .rw[ZAK h] at hi;exact R.ent _ _ hi
 .rw[hu.X] at h1 h2;have q:∀j ee,(if j=id then some (⟨false,b⟩:Ent) else bP H j)=some ee->ee.fz=false->∃ab,bP H j=some ab/\ab.fz=false:=λj ee hj hf=>by
   grind
  let⟨e1,q1,f1⟩:=q _ _ h1 m1
  let⟨e2,q2,f2⟩:=q _ _ h2 m2
  exact R.inj i i' _ _ _ _ _ _ _ _ ad q1 q2 f1 f2 h3 h4
theorem n1Z{t:Ty}(h:t.unref= .byte):t= .byte:=by
 cases t<;>simp[Ty.unref] at h⊢
theorem rtZ{z}{id}{e}{t}{l}(h:eW z id ⟨false,.rows e t.unref l⟩):eW z id ⟨false,.rows e t (l.map (dE t))⟩:=by
 unfold eW at h⊢;cases R:z.ρ id with
 |no=>simp_all
 |virt=>
  rw[R] at h;obtain⟨rfl,h2⟩:=h;rw[a5Z] at h2;exact⟨rfl,h2⟩
 |real g sz n=>
  rw[R] at h
  let⟨h1,h2,h3,cs,fr,a1,a2,a3,a4,a5,a6,a7⟩:=h
  rw[a5Z] at a5 a6;refine⟨h1,h2,h3,cs,fr,a1,a2.imp (λh=>h) (λh=>⟨n1Z h.1,h.2⟩),a3,by rw[ZAs];exact a4,by rw[ZAs];exact a5,a6,λi x hx=> ?_⟩;rw[ZAW] at hx;obtain⟨y,hy,rfl⟩:=ZAH.1 hx
  let⟨u,b1,b2⟩:=a7 i y hy
  rw[a5Z] at b2;exact⟨u,eSZ b1,b2⟩
theorem bI.newFam{z}{H}{f}{e}{s}(R:bI z H)(hD:∀id,¬z.D id)(hk:bM H (bZ f)=false)(hs:s.noRef=true)(hc:0<s.cells):bI z (bS H (bZ f) (some ⟨false,.fam e s []⟩)):=by
 have hX:∀i,bP (bS H (bZ f) (some ⟨false,.fam e s []⟩)) i=bP H i:=λi=>by
  by_cases hi:∃k,i=enc f k
  .obtain⟨k,rfl⟩:=hi;rw[(bLZ H f _ 0).1 k,cIZ,auZ hk]
   rfl
  simp_all[bLZ]
 refine⟨λi ee h=>R.ent i ee (by simp_all),λi i' ee aa g sz n g' ab n' ac p1 p2 m1 m2 p3 p4=>R.inj i i' ee aa g sz n g' ab n' ac (by simp_all) (by simp_all) m1 m2 p3 p4,λi h=> ?_,R.sub,λi x h=> ?_,λi h=> ?_,λi _ _=>hD i,R.nos⟩
 .by_cases hi:∃k,i=enc f k
  .obtain⟨k,rfl⟩:=hi;refine R.fresh _ ?_
   simp_all[ayZ,ciZ,ecZ,auZ]
  .rw[(crZ H f _ i).2 λk h=>hi ⟨k,h⟩] at h;exact R.fresh i h
 .rw[apZ] at h;by_cases hi:i=bZ f
  .rw[ZAM hi] at h;injection h with h;subst h;rw[hi];exact⟨(caZ f).1,(caZ f).2,hs,hc,rfl⟩
  .rw[ZAK hi] at h;exact R.fam i x h
 .rw[atZ] at h;simp only[ZA3,ZAp] at h;rcases h with rfl|h
  .grind[caZ]
  .exact R.key i h
theorem gtZ{β}{g}{st}{K}{r:β}(h:xU P g st K=some r):∃R,AB P g st=some R/\K R=some r:=by
 cases g with
 |pureCell b o=>
  unfold xU at h;unfold AB;dsimp at h⊢;split at h
  .split at h
   .rw[gfZ] at h
    let⟨⟨x,H'⟩,h1,h2⟩:=agZ.1 h
    rw[h1];simp at h2⊢;split at h2
    .exact⟨_,rfl,h2⟩
    .cases h2
   .exact⟨_,rfl,h⟩
  .exact⟨_,rfl,h⟩
 |opn k m=>
  unfold xU at h;unfold AB;dsimp at h⊢;cases hb:Nat.blt m 10<;>rw[hb] at h<;>simp only[bq_true,bq_false] at h⊢
  .rw[mMZ] at h
   let⟨x,h1,h2⟩:=agZ.1 h
   rw[h1];exact⟨_,rfl,h2⟩
  .cases h
 |_=>exact agZ.1 h
theorem mNZ{g}{st aj}{a}{w}(h:AB P g st=some aj)(hi:Inv z0 N L st a w)(ap:∀k,((∃e id,g= .ownNil k e id)\/g= .pure k)->∀p∈L,p.1≠k)(aq:∀p∈L,AV.ids p.2=[]):Inv z0 N L aj a w:=by
 obtain⟨z,rfl,hn,hD,hH,hs,R,aa,ab,h0⟩:=hi;unfold AB at h;split at h
 .rename_i ak ag;split at h
  .rename_i e hg;cases hk:(bM st.hp ag||Nat.ble bA ag||Nat.ble bA ak)<;>rw[hk] at h<;>simp only[bq_true,bq_false] at h
   .simp only[ZAV] at h;subst h;simp only[ZBX] at hk;have ad:∀{n},Nat.ble bA n=false->n<bA:=λ{n} h=>ZBN.1 λh'=>by rw[ZAi h'] at h;cases h
    obtain⟨z',q1,q2,q3,q4⟩:=skZ hH hg hk.1.1 (ad hk.1.2) (ad hk.2) (hD ag);have kp:=q3.kp hH.sub;refine⟨z',q1,hn.trans q3,λid=>by rw[q3.dom];exact hD id,q2,λt=> ?_,λp hp=>(R p hp).kp kp,aa,ab,h0⟩;show bE z' ((st.tm.ren (oC ak ag)).get t) _;rw[Tr.ren_get];exact q4 _ _ (hs t)
   .cases h
  grind
 .rename_i k;obtain⟨⟨x,H'⟩,h1,h2⟩:=ZAH.1 h;subst h2;obtain⟨z',q1,q2,q3,q4,q5⟩:=fFZ hH h1 (hs k);have kp:=q3.kp hH.sub;refine⟨z',q1,hn.trans q3,λid=>by rw[q3.dom];simp_all,q2,λt=> ?_,λp hp=>(R p hp).kp kp,aa,ab,h0⟩;show bE z' ((st.tm.put k x).get t) _;by_cases ht:t=k
  .subst ht;rcases(Tr.get_put st.tm t x t).2 with e|e<;>rw[e]
   .omega
   .exact .junk _
  .rw[(Tr.get_put st.tm k x t).1 ht];exact(hs t).kp kp
 .rename_i k;simp only[ZAV] at h;subst h;obtain⟨z',q1,q2,q3,q4⟩:=pwZ (st.tm.get k) hH;have kp:=q3.kp hH.sub;exact⟨z',q1,hn.trans q3,λid=>by rw[q3.dom];simp_all,q2,λt=>(hs t).kp kp,λp hp=>(R p hp).kp kp,aa,ab,h0⟩
 .rename_i id;simp only[ZAV] at h;subst h;obtain⟨z',q1,q2,q3,q4⟩:=niZ id hH;have kp:=q3.kp hH.sub;exact⟨z',q1,hn.trans q3,λid=>by rw[q3.dom];simp_all,q2,λt=>(hs t).kp kp,λp hp=>(R p hp).kp kp,aa,ab,h0⟩
 .rename_i b o;split at h
  .rename_i c hg;split at h
   .rename_i x hc;split at h
    .rename_i y H' hp;split at h
     .rename_i c' ao;simp only[ZAV] at h;subst h;have af:=hH.fam b _ hg;have ac:=hH.ent b _ (by rw[aqZ af];exact hg);unfold eW at ac;cases ae:z.ρ b with
      |no=>rw[ae] at ac;exact ac.elim
      |virt=>rw[ae] at ac;exact ac.elim
      |real g sz n=>
       rw[ae] at ac;obtain⟨_,_,_,cs,e',fr,a1,a2,a3,⟨a4,an⟩,a5,a6⟩:=ac;have ho:=(ZAB.1 hc).1;obtain⟨v,hv⟩:∃v,cs[o]? =some v:=⟨_,ZBC (by omega)⟩;obtain⟨z1,p1,p2,p3,p4,p5⟩:=fFZ hH hp (a5 o x v hc hv);have kp:=p3.kp hH.sub;have al:z1.ρ b= .real g sz n:=by rw[p4];exact ae
       obtain⟨r1,r2⟩:=p2.write (b:=.vars (c.set o y)) ao al rfl ⟨rfl,ZAN _⟩ rfl rfl (λ_ _=>rfl) (λ_=>by
        refine⟨cs,e',fr,by rw[p1];exact a1,a2,a3,⟨by simpa using a4,an⟩,λi x' v' q1 q2=> ?_,a6⟩;rw[List.getElem?_set] at q1;split at q1
        .rename_i ah;subst ah;rw[hv] at q2;simp only[ZAV] at q2;subst q2;have:=by simpa[ho] using q1
         subst this;exact p5
        .exact(a5 i x' v' q1 q2).kp kp)
       exact⟨z1,p1,hn.trans p3,λid=>by rw[p3.dom];exact hD id,r1,λt=>(hs t).kp kp,λp hp=>(R p hp).kp kp,aa,ab,h0⟩
     grind
    .simp only[ZAV] at h;subst h;exact⟨z,rfl,hn,hD,hH,hs,R,aa,ab,h0⟩
   .simp only[ZAV] at h;subst h;exact⟨z,rfl,hn,hD,hH,hs,R,aa,ab,h0⟩
  .simp only[ZAV] at h;subst h;exact⟨z,rfl,hn,hD,hH,hs,R,aa,ab,h0⟩
 .rename_i k e id;split at h
  .rename_i hq;obtain⟨u,h1,h2⟩:=agZ.1 h;cases hk:(bM st.hp id||Nat.ble bA id)<;>rw[hk] at h2<;>simp only[bq_true,bq_false] at h2
   .simp only[ZAV] at h2;subst h2;simp only[ZBX] at hk;have ad:=ZBN.1 λh'=>by rw[ZAi h'] at hk;cases hk.2
    obtain⟨z1,p1,p2,p3,p4⟩:=hH.newV ⟨hk.1,ad⟩ (hD id) (b:=.rows e u []) ⟨rfl,(dnZ h1).2.1⟩;have kp:=p3.kp hH.sub;have hv:=hs k;rw[hq] at hv;have hv:=hv.v.opq.1;refine⟨z1,p1,hn.trans p3,λid=>by rw[p3.dom];exact hD id,p2,λt=> ?_,λp hp=>(R p hp).kp kp,aa,ab,h0⟩;by_cases ht:t=k
    .subst ht;show bE z1 ((st.tm.put t (.slf u.cells id)).get t) _;rcases(Tr.get_put st.tm t (.slf u.cells id) t).2 with e|e<;>rw[e]
     .rw[hv];exact .slfV _ _ _ p4
     .exact .junk _
    .show bE z1 ((st.tm.put k (.slf u.cells id)).get t) _;rw[(Tr.get_put st.tm k (.slf u.cells id) t).1 ht];exact(hs t).kp kp
   simp_all
  .simp only[ZAV] at h;subst h;exact⟨z,rfl,hn,hD,hH,hs,R,aa,ab,h0⟩
 .rename_i b o e id;split at h
  .rename_i c hg;split at h
   .rename_i hc;obtain⟨u,h1,h2⟩:=agZ.1 h;cases hk:(bM st.hp id||Nat.ble bA id)<;>rw[hk] at h2<;>simp only[bq_true,bq_false] at h2
    .simp only[ZAV] at h2;subst h2;simp only[ZBX] at hk;have ad:=ZBN.1 λh'=>by rw[ZAi h'] at hk;cases hk.2
     replace hk:=hk.1
     obtain⟨z1,p1,p2,p3,p4⟩:=hH.newV ⟨hk,ad⟩ (hD id) (b:=.rows e u []) ⟨rfl,(dnZ h1).2.1⟩;have kp:=p3.kp hH.sub;have am:b≠id:=λh=>by subst h;rw[aiZ hg] at hk;cases hk
     have hg1:bG (bS st.hp id (some ⟨false,.rows e u []⟩)) b=some ⟨false,.vars c⟩:=by rw[apZ,ZAK am];exact hg
     have af:b<bA:=hH.fam b _ hg;have ac:=p2.ent b _ (by rw[aqZ af];exact hg1);have ai:∀H1 H2,H1=bS (bS st.hp b (some ⟨false,.vars (c.set o (.slf u.cells id))⟩)) id (some ⟨false,.rows e u []⟩)->H2=bS (bS st.hp id (some ⟨false,.rows e u []⟩)) b (some ⟨false,.vars (c.set o (.slf u.cells id))⟩)->
      (∀i,bG H1 i=bG H2 i)/\∀i,bM H1 i=bM H2 i:=by
      rintro _ _ rfl rfl;refine⟨λi=> ?_,λi=> ?_⟩
      .simp only[apZ];by_cases h1:i=id
       .subst h1;simp[ZBj am]
       .simp[h1]
      .simp only[atZ];cases decide (i=id)<;>cases decide (i=b)<;>rfl
     obtain⟨s1,s2⟩:=ai _ _ rfl rfl;unfold eW at ac;cases ae:z1.ρ b with
     |no=>rw[ae] at ac;exact ac.elim
     |virt=>rw[ae] at ac;exact ac.elim
     |real g sz n=>
      rw[ae] at ac;obtain⟨_,_,_,cs,e',fr,a1,a2,a3,⟨a4,an⟩,a5,a6⟩:=ac;obtain⟨r1,r2⟩:=p2.write (w':=z1.w) (b:=.vars (c.set o (.slf u.cells id))) hg1 ae rfl ⟨rfl,ZAN _⟩ rfl rfl (λ_ _=>rfl) (λ_=>by
       refine⟨cs,e',fr,a1,a2,a3,⟨by simpa using a4,an⟩,λi x v q1 q2=> ?_,a6⟩;rw[List.getElem?_set] at q1;split at q1
       .rename_i ah;subst ah;split at q1
        .simp only[ZAV] at q1;subst q1;have:=a5 o _ v hc q2;obtain rfl:=this.v.opq.1;exact .slfV _ _ _ p4
        .cases q1
       .exact a5 i x v q1 q2)
      exact⟨z1,p1,hn.trans p3,λid=>by rw[p3.dom];exact hD id,r1.same s1 s2,λt=>(hs t).kp kp,λp hp=>(R p hp).kp kp,aa,ab,h0⟩
    .cases h2
   .simp only[ZAV] at h;subst h;exact⟨z,rfl,hn,hD,hH,hs,R,aa,ab,h0⟩
  .simp only[ZAV] at h;subst h;exact⟨z,rfl,hn,hD,hH,hs,R,aa,ab,h0⟩
 .rename_i f e s;cases hk:(bM st.hp (bZ f)|| !s.noRef||Nat.beq s.cells 0)<;>rw[hk] at h<;>simp only[bq_true,bq_false] at h
  .simp only[ZAV] at h;subst h;simp only[ZBX,Bool.not_eq_false'] at hk;have hc:0<s.cells:=Nat.pos_of_ne_zero λh=>by rw[(afZ _ _).2 h] at hk;cases hk.2
   exact⟨z,rfl,hn,hD,hH.newFam hD hk.1.1 hk.1.2 hc,hs,R,aa,ab,h0⟩
  .cases h
 .rename_i k f;split at h
  .rename_i e s ms hg;obtain⟨⟨x,H'⟩,h1,h2⟩:=ZAH.1 h;subst h2;obtain⟨z',q1,q2,q3,q5⟩:=l8Z hH h1 (hs k);have kp:=q3.kp hH.sub;refine⟨z',q1,hn.trans q3,λid=>by rw[q3.dom];exact hD id,q2,λt=> ?_,λp hp=>(R p hp).kp kp,aa,ab,h0⟩;show bE z' ((st.tm.put k x).get t) _;by_cases ht:t=k
   .subst ht;rcases(Tr.get_put st.tm t x t).2 with e|e<;>rw[e]
    .exact q5
    .exact .junk _
   .rw[(Tr.get_put st.tm k x t).1 ht];exact(hs t).kp kp
  .cases h
 .rename_i k m;cases hb:Nat.blt m 10<;>rw[hb] at h<;>simp only[bq_true,bq_false] at h
  .obtain⟨⟨x,H'⟩,h1,h2⟩:=ZAH.1 h;subst h2;have hm:¬m<10:=λhc=>by rw[show Nat.blt m 10=true from ZAi hc] at hb;cases hb
   obtain⟨z',Mf,q1,q2,q3,q4,q5,q6⟩:=qRZ hH (.inr (hD _)) h1 (hs k);have q6:=q6 (by omega);subst q6;have kp:=q3.kp hH.sub;refine⟨z',q1,hn.trans q3,λid=>by rw[q3.dom];exact hD id,q2,λt=> ?_,λp hp=>(R p hp).kp kp,aa,ab,h0⟩;show bE z' ((st.tm.put k x).get t) _;by_cases ht:t=k
   .subst ht;rcases(Tr.get_put st.tm t x t).2 with e|e<;>rw[e]
    .exact q5
    .exact .junk _
   .rw[(Tr.get_put st.tm k x t).1 ht];exact(hs t).kp kp
  .cases h
 .rename_i id t;split at h
  .rename_i e u l hg;rcases aUZ h with⟨hu,h'⟩|h'
   .subst hu;have:=ZAf h';subst this;exact⟨z,rfl,hn,hD,hH.reent (hH.fam id _ hg) hg rtZ (show id<bA from hH.fam id _ hg),hs,R,aa,ab,h0⟩
   .cases h'
  .cases h
def AC.of:AC->Code->Prop
 |.skip,c=>c= .skip
 |.ret,c=>c= .ret
 |.exit i,c=>c= .exit i
 |.seq a b,c=>∃x y,c= .seq x y/\a.of x/\b.of y
 |.cond o a b,c=>∃x y,c= .cond o x y/\a.of x/\b.of y
 |.block i a,c=>∃x,c= .block i x/\a.of x
 |.loop _ _ _ a,c=>∃x,c= .loop x/\a.of x
 |.region i R d,c=>∃arr,c= .region i arr d/\R.map (·.1)=arr.toList
 |.join _ _ _ a,c=>a.of c
 |.pre _ a,c=>a.of c
 |.sel _ a b,c=>a.of c/\b.of c
 |.post _ a,c=>a.of c
 |.round a r,c=>∃x,c= .loop x/\a.of x/\r.of c
 |.bad _,_=>True
theorem fcZ(l):∀(k) (R),(xP l k R).map (·.1)=R
 |_,[]=>rfl
 |k,o::r=>by simp[xP,fcZ l (k+1) r]
theorem bzZ:(c:Code)->(plain c).of c
 |.ret=>rfl
 |.exit i=>rfl
 |.seq a b=>⟨a,b,rfl,bzZ a,bzZ b⟩
 |.cond o a b=>⟨a,b,rfl,bzZ a,bzZ b⟩
 |.block i a=>⟨a,rfl,bzZ a⟩
 |.region i R d=>⟨R,rfl,fcZ _ _ _⟩
 |.skip=>rfl
 |.loop _|.rangeFunc _ _ _ _|.scope _|.label _|.goto _|.refuse _=>trivial
theorem blZ:(ov:Ov)->(c:Code)->(build ov c).of c
 |.join sh rt R x,c=>blZ x c
 |.pre g x,c=>blZ x c
 |.sel q x y,c=>⟨blZ x c,blZ y c⟩
 |.post g x,c=>blZ x c
 |.round x y,c=>by cases c<;>first|exact⟨_,rfl,blZ x _,blZ y _⟩|exact bzZ _
 |.one x,c=>by cases c<;>first|exact⟨_,rfl,blZ x _⟩|exact bzZ _
 |.two x y,c=>by cases c<;>first|exact⟨_,_,rfl,blZ x _,blZ y _⟩|exact bzZ _
 |.loop sh rt R x,c=>by cases c<;>first|exact⟨_,rfl,blZ x _⟩|exact bzZ _
 |.reg l,c=>by cases c<;>first|exact⟨_,rfl,fcZ _ _ _⟩|exact bzZ _
 |.leaf,c=>bzZ c
theorem Inv.drew{st}{a}{w}(hi:Inv z0 N L st a w):Inv z0 N L st a {w with drawn:=w.drawn+1}:=by
 obtain⟨z,rfl,hn,hD,hH,hs,hLs,hdf,hnt,h0⟩:=hi
 let z1:={z with w:={z.w with drawn:=z.w.drawn+1}}
 have hn1:Nx z z1:=⟨rfl,⟨rfl,ZBa _⟩,rfl,ZAN _,fun _ _ _=>rfl,fun _ h=>.inl h,fun _ h=>.inl h,fun _ _ h _=>h,fun _ _=>rfl,rfl⟩;have kp:=hn1.kp hH.sub;exact⟨z1,rfl,hn.trans hn1,hD,⟨fun id e he=>(hH.ent id e he).kp kp fun _ _ _ _=>⟨rfl,fun h=>h⟩,hH.inj,hH.fresh,hH.sub,hH.fam,hH.key,hH.dyn,hH.nos⟩,fun t=>(hs t).kp kp,fun p hp=>(hLs p hp).kp kp,hdf,hnt,h0⟩
end
section
variable {P : Program} {T : Tbl} {N fu : Nat}
theorem pGZ{z0}{L}{st}{a}{w}(hi:Inv z0 N L st a w)(aa:∀p∈L,AV.ids p.2=[])(wr)(ag:∀p∈L,p.1∉wr):
 ∃L',(∀p∈L,p∈L')/\Inv z0 N L' st a w/\(∀p∈L',AV.ids p.2=[])/\(∀k,((st.tm.keep).junk wr).get k= .junk\/(k,((st.tm.keep).junk wr).get k)∈L')/\∀p∈L',p.1∉wr:=by
 let⟨n,hn⟩:=iDZ ((st.tm.keep).junk wr)
 have bG:∀k,k∉wr->((st.tm.keep).junk wr).get k= .junk\/(((st.tm.keep).junk wr).get k=st.tm.get k/\(st.tm.get k).noRef=true):=λk hk=>by
  rw[(jlZ wr st.tm.keep k).2 hk];exact isZ st.tm k
 let ex:=(List.range n).filterMap λk=>if cH k wr=true then none else some (k,((st.tm.keep).junk wr).get k)
 have R:∀p∈ex,p.1∉wr/\p.2=((st.tm.keep).junk wr).get p.1:=λp hp=>by
  let⟨k,_,h⟩:=List.mem_filterMap.1 hp
  split at h
  .cases h
  .rename_i hm;simp at h;subst h;exact⟨λh=>hm (ajZ.2 h),rfl⟩
 refine⟨L++ex,λp hp=>ZBb _ hp,?_,λp hp=> ?_,λk=> ?_,λp hp=> ?_⟩
 .obtain⟨z,rfl,ab,hD,hH,hs,ac,ad,ae,h0⟩:=hi;refine⟨z,rfl,ab,hD,hH,hs,λp hp=> ?_,ad,ae,h0⟩;rcases ZAh.1 hp with hp|hp
  .exact ac p hp
  .let⟨h1,h2⟩:=R p hp
   rw[h2];rcases bG p.1 h1 with e|⟨e,_⟩<;>rw[e]
   .exact .junk _
   .exact hs p.1
 .rcases ZAh.1 hp with hp|hp
  .exact aa p hp
  .let⟨h1,h2⟩:=R p hp
   rw[h2];rcases bG p.1 h1 with e|⟨e,h3⟩<;>rw[e]
   .rfl
   .exact rnZ h3
 .by_cases hk:k∈wr
  .exact .inl ((jlZ wr st.tm.keep k).1 hk)
  .by_cases af:k<n
   .right;refine ZCa _ (List.mem_filterMap.2 ⟨k,ZCS.2 af,?_⟩);rw[ZAK λh=>hk (ajZ.1 h)]
   .exact .inl (hn k (by omega))
 grind
theorem q4Z{β γ}{rt}{aa}{b}{K}{r:γ}(h:Out.retO rt aa b K=some r):
 ∃o,K o=some r/\∀(ab) (nt n0) (X) (R:β->Option β),Out.on ab nt n0 rt aa o X R=R b:=by
 cases rt with
 |false=>cases h
 |true=>exact⟨_,h,λab nt n0 X R=>Out.on_ret⟩
def AC.nr:AC->Nat
 |.round _ r=>r.nr+1
 |_=>0
def Gl(P:Program)(ac:AC)(c:Code)(Q:Exit->Act->World->Prop)(a:Act)(w:World):Prop:=
 match ac with
 |.round x r=>∃R,c= .loop R/\Code.rounds P R Q (AC.nr (.round x r)) a w
 |_=>c.wp P Q a w
theorem Gl.wp{R}{c}{Q}{a}{w}(h:Gl P R c Q a w):c.wp P Q a w:=by
 cases R
 case round x y=>
  obtain⟨cx,rfl,h⟩:=h;exact wp_loop_rounds _ h
 all_goals exact h
theorem c4Z(hT:∀e∈T,eZ P e)(hm:P.follows .mixedOrders=true):(ac:AC)->{z0:Z}->{β:Type}->{st:St}->{K:St->Option β}->{X:Nat->St->Option β}->{R:St->Option β}->{res:β}->{c:Code}->{L:List (Nat×AV)}->{a:Act}->{w:World}->
 {Q:Exit->Act->World->Prop}->evS P T fu ac st K X R=some res->ac.of c->Inv z0 N L st a w->(∀p∈L,AV.ids p.2=[])->(∀p∈L,p.1∉ac.wr)->
 (∀st' a' w',K st'=some res->Inv z0 N L st' a' w'->Q .normal a' w')->(∀i st' a' w',X i st'=some res->Inv z0 N L st' a' w'->Q (.exit i) a' w')->
 (∀st' a' w',R st'=some res->Inv z0 N L st' a' w'->Q .ret a' w')->Gl P ac c Q a w
 |.skip,z0,β,st,K,X,R,res,c,L,a,w,Q,h,hc,hi,hLn,hLw,hK,hX,hR=>by
  obtain rfl:=hc;exact wp_skip (hK _ _ _ h hi)
 |.ret,z0,β,st,K,X,R,res,c,L,a,w,Q,h,hc,hi,hLn,hLw,hK,hX,hR=>by
  obtain rfl:=hc;exact wp_ret (hR _ _ _ h hi)
 |.exit i,z0,β,st,K,X,R,res,c,L,a,w,Q,h,hc,hi,hLn,hLw,hK,hX,hR=>by
  obtain rfl:=hc;exact wp_exit (hX _ _ _ _ h hi)
 |.seq x y,z0,β,st,K,X,R,res,c,L,a,w,Q,h,hc,hi,hLn,hLw,hK,hX,hR=>by
  obtain⟨cx,cy,rfl,h1,h2⟩:=hc;simp only[AC.wr,ZAh,not_or] at hLw;refine wp_seq (Gl.wp (c4Z hT hm x h h1 hi hLn (fun p hp=>(hLw p hp).1) (fun st' a' w' h' hi'=> ?_) hX hR));exact Gl.wp (c4Z hT hm y h' h2 hi' hLn (fun p hp=>(hLw p hp).2) hK hX hR)
 |.cond o x y,z0,β,st,K,X,R,res,c,L,a,w,Q,h,hc,hi,hLn,hLw,hK,hX,hR=>by
  obtain⟨cx,cy,rfl,h1,h2⟩:=hc;simp only[AC.wr,ZAh,not_or] at hLw;obtain⟨t,h3,h4⟩:=agZ.1 h;have hb:a.eval o= .bool t:=by
   obtain⟨z,_,_,_,_,hs,_⟩:=hi;exact bZZ h3 (esZ hs o)
  cases t
  ·exact wp_cond_false hb (Gl.wp (c4Z hT hm y h4 h2 hi hLn (fun p hp=>(hLw p hp).2) hK hX hR))
  ·exact wp_cond_true hb (Gl.wp (c4Z hT hm x h4 h1 hi hLn (fun p hp=>(hLw p hp).1) hK hX hR))
 |.block i x,z0,β,st,K,X,R,res,c,L,a,w,Q,h,hc,hi,hLn,hLw,hK,hX,hR=>by
  obtain⟨cx,rfl,h1⟩:=hc;refine wp_block (Gl.wp (c4Z hT hm x h h1 hi hLn hLw hK (fun j st' a' w' h' hi'=> ?_) hR));show if j=i then Q .normal a' w' else Q (.exit j) a' w';by_cases hj:j=i
  ·rw[(afZ j i).2 hj,bq_true] at h'
   grind
  ·rw[ahZ hj,bq_false] at h'
   grind
 |.region i opsA d,z0,β,st,K,X,R,res,c,L,a,w,Q,h,hc,hi,hLn,hLw,hK,hX,hR=>by
  obtain⟨arr,rfl,h1⟩:=hc;have hLd:∀x∈opsA,∀p∈L,x.1.dst≠some p.1:=fun x hx p hp he=>hLw p hp (by
   grind[AC.wr])
  have hsz:=by
   have:=congrArg List.length h1;simpa using this
  have h:bq d (bO (qP 0 (opsA.map (·.1))&&AA (nms (AZ 0 (opsA.map (·.1)) []) (opsA.map (·.1)) 0 (opsA.map (·.1))))<|pG P T (pH 0 opsA) (opsA.map (·.1)) st [] fun st' fs=>bO (qO (AZ 0 (opsA.map (·.1)) []) fs)<|K st') (xS P T opsA (opsA.map (·.1)) st K)=some res:=h
  rw[h1] at h;cases d
  ·rw[bq_false] at h;refine wp_region ?_;have:=s6Z hT hK opsA 0 (fun i x hx=>by
    have e:(opsA.map (·.1))[i]? =some x.1:=by rw[ZAW,hx];rfl
    rw[h1] at e;rw[ZA1,<-Array.getElem?_toList];exact e) hLd st a w h hi
   simp_all[List.range_eq_range']
  ·rw[bq_true] at h;obtain⟨h2,h3⟩:=aeZ.1 h;simp only[ZAE] at h2;exact wp_region_any hm (s5Z hT h1 hLd hK h2.1 h2.2 h3 hi.drew)
 |.join sh rt outs x,z0,β,st,K,X,R,res,c,L,a,w,Q,h,hc,hi,hLn,hLw,hK,hX,hR=>by
  obtain⟨o,h1,h2⟩:=ZAG.1 h;obtain⟨L',q1,q2,q3,q4,q5⟩:=pGZ hi hLn x.wr hLw;obtain⟨_,_,_,_,_,_,_,_,hnt,h0⟩:=hi;refine Gl.wp (c4Z hT hm x h1 hc q2 q3 q5 (fun st' a' w' h' hi'=> ?_) (fun i st' a' w' h' hi'=> ?_) (fun st' a' w' h' hi'=> ?_))
  ·obtain⟨o',e1,e2⟩:=Out.on_inl h' hi' q3 q4 hnt.1 h0;simp only[ZAV] at e1;subst e1;obtain⟨st1,e3,e4⟩:=e2 (fun i st''=>match i with|0=>K st''|i+1=>X i st'') some
   exact hK st1 a' w' (e4.symm.trans h2) (e3.sub q1)
  ·obtain⟨o',e1,e2⟩:=Out.on_inl h' hi' q3 q4 hnt.1 h0;simp only[ZAV] at e1;subst e1;obtain⟨st1,e3,e4⟩:=e2 (fun i st''=>match i with|0=>K st''|i+1=>X i st'') some
   exact hX i st1 a' w' (e4.symm.trans h2) (e3.sub q1)
  ·obtain⟨b,e1,e2⟩:=agZ.1 h';obtain⟨o',e3,e4⟩:=q4Z e2;simp only[ZAV] at e3;subst e3;have:some b=some res:=(e4 _ _ _ _ _).symm.trans h2;exact hR st' a' w' (e1.trans this) (hi'.sub q1)
 |.pre g x,z0,β,st,K,X,R,res,c,L,a,w,Q,h,hc,hi,hLn,hLw,hK,hX,hR=>by
  obtain⟨st1,h1,h2⟩:=gtZ h;have hg:Inv z0 N L st1 a w:=mNZ h1 hi (fun k he p hp hk=>hLw p hp (by
   rcases he with⟨e,id,he⟩|he
   ·subst he;simp[AC.wr,hk]
   ·subst he;simp[AC.wr,hk])) hLn
  refine Gl.wp (c4Z hT hm x h2 hc hg hLn (fun p hp hmem=>hLw p hp ?_) hK hX hR);cases g with
  |ownNil k e id=>exact ZAc _ hmem
  |pure k=>exact ZAc _ hmem
  |mem k f=>exact ZAc _ hmem
  |opn k m=>exact ZAc _ hmem
  |_=>exact hmem
 |.sel q x y,z0,β,st,K,X,R,res,c,L,a,w,Q,h,hc,hi,hLn,hLw,hK,hX,hR=>by
  simp only[AC.wr,ZAh,not_or] at hLw;have h:bq (Cn.holds st q) (evS P T fu x st K X R) (evS P T fu y st K X R)=some res:=h;cases hf:Cn.holds st q<;>rw[hf] at h
  ·exact Gl.wp (c4Z hT hm y h hc.2 hi hLn (fun p hp=>(hLw p hp).2) hK hX hR)
  ·exact Gl.wp (c4Z hT hm x h hc.1 hi hLn (fun p hp=>(hLw p hp).1) hK hX hR)
 |.bad c',z0,β,st,K,X,R,res,c,L,a,w,Q,h,hc,hi,hLn,hLw,hK,hX,hR=>by cases h
 |.post g x,z0,β,st,K,X,R,res,c,L,a,w,Q,h,hc,hi,hLn,hLw,hK,hX,hR=>by
  refine Gl.wp (c4Z hT hm x h hc hi hLn (fun p hp hmem=>hLw p hp ?_) (fun st' a' w' h' hi'=> ?_) hX hR)
  ·cases g with
   |ownNil k e id=>exact ZAc _ hmem
   |pure k=>exact ZAc _ hmem
   |mem k f=>exact ZAc _ hmem
   |opn k m=>exact ZAc _ hmem
   |_=>exact hmem
  ·obtain⟨st1,h1,h2⟩:=gtZ h';refine hK st1 a' w' h2 (mNZ h1 hi' (fun k he p hp hk=>hLw p hp ?_) hLn);rcases he with⟨e,id,he⟩|he
   ·subst he;simp[AC.wr,hk]
   ·subst he;simp[AC.wr,hk]
 |.round x y,z0,β,st,K,X,R,res,c,L,a,w,Q,h,hc,hi,hLn,hLw,hK,hX,hR=>by
  obtain⟨cx,rfl,h1,h2⟩:=hc;simp only[AC.wr,ZAh,not_or] at hLw;obtain⟨h3,h4⟩:=aeZ.1 h;refine⟨cx,rfl,Gl.wp (c4Z hT hm x h4 h1 hi hLn (fun p hp=>(hLw p hp).1) (fun st' a' w' h' hi'=> ?_) (fun i st' a' w' h' hi'=>hX i st' a' w' h' hi') (fun st' a' w' h' hi'=>hR st' a' w' h' hi'))⟩;have hy:=c4Z hT hm y h' h2 hi' hLn (fun p hp=>(hLw p hp).2) hK hX hR;cases y with
  |round x' y'=>
   obtain⟨cx',e,hn⟩:=hy;injection e with e;subst e;exact hn
  |bad c'=>cases h'
  |_=>cases h3
 |.loop sh rt outs x,z0,β,st,K,X,R,res,c,L,a,w,Q,h,hc,hi,hLn,hLw,hK,hX,hR=>by
  obtain⟨cx,rfl,h1⟩:=hc;obtain⟨L',q1,q2,q3,q4,q5⟩:=pGZ hi hLn x.wr hLw;obtain⟨t0,p1,p2⟩:=kbZ (r:=res) h q2 q3 q4 (nt:=st.nt) (n0:=st.n0) (by obtain⟨_,_,_,_,_,_,_,_,hnt,_⟩:=hi<;>grind) (by obtain⟨_,_,_,_,_,_,_,_,_,h0⟩:=hi;omega);obtain⟨_,_,_,_,_,_,_,_,hnt,h0⟩:=hi;obtain⟨o,r1,r2⟩:=ZAG.1 p1;generalize hbase:(st.tm.keep).junk x.wr=base at*;generalize hf:(fun t=>evS P T fu (β:=sh.D⊕Out rt outs β) x (sh.inj base st.nt st.n0 t) (fun st''=>st''.prj sh fun t'=>some (.inl t'))
   (fun i st''=>Out.mk st'' rt outs i fun o=>some (.inr o))
   (fun st''=>(R st'').ob fun b=>Out.retO rt outs b fun o=>some (.inr o)))=f at*
  let p:Act->World->Nat->Prop:=fun a' w' n=>∃t,iter n f t=some o/\Inv z0 N L' (sh.inj base st.nt st.n0 t) a' w'
  classical
  let μ:Act->World->Nat:=fun a' w'=>if h:∃n,p a' w' n then Classical.choose (uiZ h) else 0
  have hμ:∀a' w' n,p a' w' n->μ a' w'<=n/\p a' w' (μ a' w'):=fun a' w' n hn=>by
   have hex:∃n,p a' w' n:=⟨n,hn⟩;have e:μ a' w'=Classical.choose (uiZ hex):=dif_pos hex;have hs:=Classical.choose_spec (uiZ hex)
   simp_all
  refine wp_loop (fun a' w'=>∃n,p a' w' n) μ ⟨fu,t0,r1,p2⟩ fun a1 w1 ⟨n1,hn1⟩=> ?_;obtain⟨_,t,ht,hit⟩:=hμ a1 w1 n1 hn1;obtain⟨m,hm'⟩:∃m,μ a1 w1=m+1:=by
   cases hz:μ a1 w1 with
   |zero=>rw[hz] at ht;cases ht
   |succ m=>simp_all
  rw[hm'] at ht⊢;obtain⟨r,ht1,ht2⟩:=agZ.1 (show(f t).ob _=some o from ht);have hft:evS P T fu (β:=sh.D⊕Out rt outs β) x (sh.inj base st.nt st.n0 t) (fun st''=>st''.prj sh fun t'=>some (.inl t'))
   (fun i st''=>Out.mk st'' rt outs i fun o=>some (.inr o))
   (fun st''=>(R st'').ob fun b=>Out.retO rt outs b fun o=>some (.inr o))=some r:=by rw[<-ht1,<-hf]
  refine Gl.wp (c4Z hT hm x hft h1 hit q3 q5 (fun st' a' w' h' hi'=> ?_) (fun i st' a' w' h' hi'=> ?_) (fun st' a' w' h' hi'=> ?_))
  ·obtain⟨t',e1,e2⟩:=kbZ h' hi' q3 q4 (nt:=st.nt) (n0:=st.n0) hnt.1 h0;simp only[ZAV] at e1;subst e1;have hp:p a' w' m:=⟨t',ht2,e2⟩;exact⟨⟨m,hp⟩,Nat.lt_succ_of_le (hμ a' w' m hp).1⟩
  ·obtain⟨o',e1,e2⟩:=Out.on_inl h' hi' q3 q4 (nt:=st.nt) (n0:=st.n0) hnt.1 h0;simp only[ZAV] at e1;subst e1;simp only[ZAV] at ht2;subst ht2;obtain⟨st1,e3,e4⟩:=e2 X some;exact hX i st1 a' w' (e4.symm.trans r2) (e3.sub q1)
  ·obtain⟨b,e1,e2⟩:=agZ.1 h';obtain⟨o',e3,e4⟩:=q4Z e2;simp only[ZAV] at e3;subst e3;simp only[ZAV] at ht2;subst ht2;have:some b=some res:=(e4 _ _ _ _ _).symm.trans r2;exact hR st' a' w' (e1.trans this) (hi'.sub q1)
theorem v2Z{z0}(hT:∀e∈T,eZ P e)(hm:P.follows .mixedOrders=true)(ac){β}{st}{K}{X}{R}{ab:β}{c}{L}{a}{w}
 {Q}(h:evS P T fu ac st K X R=some ab)(hc:ac.of c)(hi:Inv z0 N L st a w)(ad:∀p∈L,AV.ids p.2=[])(ae:∀p∈L,p.1∉ac.wr)
 (hK:∀aa a' w',K aa=some ab->Inv z0 N L aa a' w'->Q .normal a' w')(hX:∀i aa a' w',X i aa=some ab->Inv z0 N L aa a' w'->Q (.exit i) a' w')
 (hR:∀aa a' w',R aa=some ab->Inv z0 N L aa a' w'->Q .ret a' w'):c.wp P Q a w:=(Gl.wp (c4Z hT hm ac h hc hi ad ae hK hX hR))
end
section
variable {P : Program} {T : Tbl} {β : Type} {z : Z} {H : Hp}
theorem joZ:∀(d k),(Tr.full d).get k= .junk
 |0,k=>rfl
 |d+1,k=>by
  simp[Tr.full,Tr.get];cases Nat.beq k 0
  .cases Nat.beq (k%2) 1
   .exact joZ d _
   .exact joZ d _
  .rfl
theorem kcZ{f:Nat->Value}:∀{vs} {k0} {t},(∀k,bE z (t.get k) (f k))->(∀(j) a,vs[j]? =some a->bE z a (f (k0+j)))->∀k,bE z ((xV t k0 vs).get k) (f k)
 |[],k0,t,h,_,k=>h k
 |a::vs,k0,t,h,hv,k=>by
  simp[xV];refine kcZ (λj=> ?_) (λj a' h'=>by have:=hv (j+1) a' (by simpa using h');rwa [show k0+(j+1)=k0+1+j by omega] at this) k;by_cases R:j=k0
  .subst R;rcases(Tr.get_put t j a j).2 with e|e<;>rw[e]
   .exact hv 0 a rfl
   .exact .junk _
  .rw[(Tr.get_put t k0 a j).1 R];exact h j
theorem lOZ{t}{pv v}{w w'}(h:(Instr.loadAt t pv).run P w= .ok v w'):((do loadVar t (<-asAddr pv)):Sem Value).run P w= .ok v w':=by
 unfold Instr.loadAt at h;cases pv
 case pointer x=>cases x<;>first|exact h|(simp[Instr.sureAddr] at h)
 all_goals(simp[Instr.sureAddr] at h)
def bN(R:Array Value)(r:ResultVar):Sem Value:=
 match r with
 |.tmp t=>pure (R.getD t undef)
 |.cell a t=>do loadVar t (<-asAddr (R.getD a undef))
theorem onZ(fn)(tmps):results fn tmps=(do
 let vs<-fn.results.mapM (bN tmps)
 pure (if h:vs.size=1 then vs[0] else .tuple vs)):=rfl
theorem foZ{st}{a:Act}(hH:bI z st.hp)(hs:∀t,bE z (st.tm.get t) (a.eval (iH t))):∀{rs} {K} {R:β},tV P rs st K=some R->
 ∃l vs,K l=some R/\bQ z l vs/\(rs.mapM (bN a.tmps)).run P z.w= .ok vs z.w
 |[],K,R,h=>⟨[],[],h,.nil,rfl⟩
 |.tmp t::rs,K,R,h=>by
  let⟨l,vs,h1,h2,h3⟩:=foZ hH hs (rs:=rs) h
  refine⟨_,a.eval (.tmp t)::vs,h1,.cons (esZ hs (.tmp t)) h2,?_⟩;rw[List.mapM_cons];simp only[bN,Sem.run_bind,Sem.run_pure,Result.andThen_ok,h3]
  rfl
 |.cell x t::rs,K,R,h=>by
  let⟨y,v,h1,h2,h3⟩:=ktZ h hH (esZ hs (.tmp x))
  let⟨l,vs,h4,h5,h6⟩:=foZ hH hs h3
  refine⟨_,v::vs,h4,.cons h2 h5,?_⟩;have aa:(bN a.tmps (.cell x t)).run P z.w= .ok v z.w:=lOZ h1
  simp_all
theorem odZ{st}{a:Act}{fn}{K}{aa:β}(hH:bI z st.hp)(hs:∀t,bE z (st.tm.get t) (a.eval (iH t)))(h:tV P fn.results.toList st K=some aa):
 ∃l v vs,K l=some aa/\bQ z l vs/\(results fn a.tmps).run P z.w= .ok v z.w/\∀{z'} {l'},bQ z' l' vs->bE z' (nH l') v:=by
 let⟨l,vs,h1,h2,h3⟩:=foZ hH hs h
 refine⟨l,if h:vs.toArray.size=1 then vs.toArray[0] else .tuple vs.toArray,vs,h1,h2,?_,λ{z' l'} R=> ?_⟩
 .rw[onZ,Array.mapM_eq_mapM_toList,map_eq_pure_bind,Sem.run_bind,Sem.run_bind,h3]
  rfl
 .have hl:=R.1
  match vs,l',R,hl with
  |[],[],R,_=>exact .tup [] #[] rfl λi x v h=>by grind
  |[v],[b],R,_=>exact R.head
  |u::v::vs,b::c::l',R,hl=>
   refine .tup _ _ (by simp_all) λi x y q1 q2=>R.2 i x y q1 (by simp_all)
theorem dS.one_ok{s:Shp}{vs}{ps}{vals}{K}{aa:β}(R:Rho)(ab:∀k,bA<=k->k<bC->R k= .no)(af:∀k,bC<=k->R k= .no)(hH:bI z H)(hv:bQ z vs vals)(hn:cZ (iM (bJ s.hs)) s.tys=true)(h:s.rco vs H ps K=some aa):
 ∃t,K t=some aa/\∃z',z'.w=z.w/\z'.M=z.M/\bI z' (s.emb t).2/\bQ z' (s.emb t).1 vals/\(∀k,cH k (bJ s.hs)=true->∃id,(id,k)∈ps/\z'.ρ k=z.ρ id)/\(∀k,k<bC->cH k (bJ s.hs)=false->z'.ρ k=R k)/\
  (∀g,z'.C g->z.C g)/\(∀k,z'.D k->R k≠.no)/\∀k,bC<=k->rt k∈bJ s.hs->z'.ρ k=z.ρ k:=by
 obtain⟨t,z0,k1,k2,k3,k4,k5,k6,k7,k8,k9,ad,ag,ah,ac,ae⟩:=Shp.rco_ok R ab h hH hv;obtain⟨z',x1,x2,x3,x4,x5,x6,x7,x8⟩:=lJZ hn k4 k5 ac ae;refine⟨t,k1,z',x1.trans k2,x2.trans k3,x3,x4,λk hk=> ?_,λk hd hk=> ?_,λg h=>k8 g (by rw[<-x6];exact h),λk hk=> ?_,λk hd hk=> ?_⟩
 .obtain⟨id,a1,a2⟩:=k6 k hk;exact⟨id,a1,(x5 k (.inl (ac k hk))).trans a2⟩
 .rw[x5 k (.inl hd),k7 k hk,ZAK (ZBN.2 hd)]
 .obtain⟨y1,y2⟩:=x7 k hk;rw[ad] at y1;rcases y1.2 with h|h
  .rcases y2 with y2|y2
   .omega
   .rw[ajZ.2 y2] at y1;cases y1.1
  .exact h
 grind
theorem dS.rco_ok{vs}{ps}{vals}(R:Rho)(ab:∀k,bA<=k->k<bC->R k= .no)(ac:∀k,bC<=k->R k= .no)(hH:bI z H)(hv:bQ z vs vals):∀{l} {K} {aa:β},(∀o∈l,cZ (iM (bJ o.hs)) o.tys=true)->dS.rco vs H ps l K=some aa->
 ∃(x:dS l),K x=some aa/\dS.on l x λo t=>o∈l/\∃z',z'.w=z.w/\z'.M=z.M/\bI z' (o.emb t).2/\bQ z' (o.emb t).1 vals/\(∀k,cH k (bJ o.hs)=true->∃id,(id,k)∈ps/\z'.ρ k=z.ρ id)/\(∀k,k<bC->cH k (bJ o.hs)=false->z'.ρ k=R k)/\
  (∀g,z'.C g->z.C g)/\(∀k,z'.D k->R k≠.no)/\∀k,bC<=k->rt k∈bJ o.hs->z'.ρ k=z.ρ k
 |[],K,aa,hn,h=>by cases h
 |[s],K,aa,hn,h=>by
  let⟨t,k1,k2⟩:=dS.one_ok R ab ac hH hv (hn s ZAq) h
  exact⟨t,k1,by simp,k2⟩
 |s::o::r,K,aa,hn,h=>by
  have h':bq (s.ks.fits (AV.renL (gB ps) vs)&&AN s.hs (iT H (gB ps) ps)) (s.rco vs H ps λx=>K (.inl x)) (dS.rco vs H ps (o::r) λx=>K (.inr x))=some aa:=h;cases hb:(s.ks.fits (AV.renL (gB ps) vs)&&AN s.hs (iT H (gB ps) ps))<;>rw[hb] at h'<;>simp[bq_false] at h'
  .let⟨x,h1,h2⟩:=dS.rco_ok R ab ac hH hv (λo ho=>hn o (ZAc _ ho)) h'
   refine⟨.inr x,h1,?_⟩;have up:∀{l} {x} {Q Q'},(∀o t,Q o t->Q' o t)->dS.on l x Q->dS.on l x Q':=λ{l}=>by
    induction l with
    |nil=>intro x;exact Empty.elim x
    |cons a l ih=>
     cases l with
     |nil=>intro x Q Q' hq h;exact hq _ _ h
     |cons b l=>
      intro x Q Q' hq h;cases x with
      |inl y=>exact hq _ _ h
      |inr y=>exact ih hq h
   exact up (λo t ⟨a,b⟩=>⟨ZAc _ a,b⟩) h2
  .let⟨t,k1,k2⟩:=dS.one_ok R ab ac hH hv (hn s ZAq) h'
   exact⟨.inl t,k1,ZAq,k2⟩
theorem fiZ:∀{l} {n k},k∈cQ n l->k<bA->n<=k/\k<n+(kT l).length
 |[],n,k,h,_=>by cases h
 |i::l,n,k,h,hk=>by
  simp[cQ] at h;by_cases hi:bA<=i
  .rw[ZAi hi] at h;rcases ZAj.1 h with rfl|h
   .omega
   .have:=fiZ h hk
    simp_all[kT,ZAi]
  .rw[fxZ hi] at h;simp[kT,fxZ hi,ZCQ];rcases ZAj.1 h with rfl|h
   .omega
   .have:=fiZ h hk;omega
theorem dS.on_up:∀{l} {x} {Q Q'},(∀o t,Q o t->Q' o t)->dS.on l x Q->dS.on l x Q'
 |[],x,_,_,_,_=>Empty.elim x
 |[s],x,Q,Q',hq,h=>hq _ _ h
 |s::t::r,.inl y,Q,Q',hq,h=>hq _ _ h
 |s::t::r,.inr y,Q,Q',hq,h=>dS.on_up (x:=y) hq h
theorem dS.on_ex:∀{l} {x} {Q:(s:Shp)->s.D->Z->Prop},(dS.on l x λo t=>∃z',Q o t z')->∃z',dS.on l x λo t=>Q o t z'
 |[],x,_,_=>Empty.elim x
 |[s],x,Q,h=>h
 |s::t::r,.inl y,Q,h=>h
 |s::t::r,.inr y,Q,h=>dS.on_ex (x:=y) h
def FQ(fn:Func)(vals:List Value):Act:={tmps:=vals.toArray++Array.replicate (fn.ntmps-vals.toArray.size) undef,defers:=[]}
theorem u1Z{fu}{f}{fn}{fa}(hT:∀e∈T,eZ P e)(hm:P.follows .mixedOrders=true)(hf:P.funcs[f]? =some fn){c}(hb:fn.body=some c){t}{r}{z}{vals}{tm}
 (h1:(eqN (bJ fa.i.hs) (cQ 0 (bJ fa.i.hs))&& !cH 2 fa.md&&(Nat.ble fa.i.hs.length bA&&fa.os.all fun o=>cZ (iM (bJ o.hs)) o.tys&&mZ (sB (bJ fa.i.hs)) (sB (bJ o.hs))))=true)
 (h3:evS P T fu (build fa.ov c) ⟨tm,fn.ntmps,(kT (bJ fa.i.hs)).length,(fa.i.emb t).2⟩ (fin P fn fa) (fun _ _=>none) (fin P fn fa)=some r)(hH:bI z (fa.i.emb t).2)(hD:∀id,¬z.D id)
 (htm:∀k,bE z (tm.get k) ((FQ fn vals).eval (iH k))):
 Calls P f vals.toArray z.w fun en w'=>∃v z',en= .returned v/\z'.w=w'/\Nx z {z' with D:=z.D}/\(∀k,z'.D k->k∈bJ fa.i.hs)/\dS.on fa.os r fun o x=>bI z' (o.emb x).2/\bE z' (nH (o.emb x).1) v:=by
 simp only[ZAE,lEZ,ZAk] at h1;obtain⟨⟨nA,hmd⟩,hlen,hno'⟩:=h1;have hb0:=eIZ;have hnoL:∀o∈fa.os,(cZ (iM (bJ o.hs)) o.tys=true/\mZ (sB (bJ fa.i.hs)) (sB (bJ o.hs))=true):=fun o ho=>by
  grind
 have hno:∀o∈fa.os,cZ (iM (bJ o.hs)) o.tys=true:=fun o ho=>(hnoL o ho).1;refine calls_of_wp hf hb ?_
 let a:Act:=FQ fn vals
 have bM:∀id,bM (fa.i.emb t).2 id=cH id (bJ fa.i.hs):=fun id=>(c5Z fa.i.hs (embL fa.i.ks (fL fa.i.hs []) (gA fa.i.tys t)).2 id).1;have hlow:∀id,id<bC->z.ρ id≠.no->id∈bJ fa.i.hs/\id<bA:=fun id hdy hid=>by
  have hf:id<bA:=ZBN.1 fun h=>hid (hH.nos id h hdy);refine⟨?_,hf⟩;cases hk:cH id (bJ fa.i.hs)
  ·rw[<-bM id] at hk;exact absurd ((hH.fresh id (by rw[aCZ hf];exact hk)).resolve_right (hD id)) hid
  grind[ajZ]
 have hlown:∀id,id<bC->z.ρ id≠.no->id<(kT (bJ fa.i.hs)).length:=fun id hdy hid=>by
  obtain⟨h1,h2⟩:=hlow id hdy hid;rw[nA] at h1;have:=(fiZ h1 h2).2;omega
 have hlowd:∀id,bC<=id->z.ρ id≠.no->rt id∈bJ fa.i.hs:=fun id hdy hid=>by
  cases hk:cH (rt id) (bJ fa.i.hs)
  ·rw[<-bM] at hk;refine absurd ((hH.fresh id ?_).resolve_right (hD id)) hid;rw[ayZ hdy,auZ hk];exact hk
  grind[ajZ]
 have hi:Inv z a.tmps.size [] ⟨tm,fn.ntmps,(kT (bJ fa.i.hs)).length,(fa.i.emb t).2⟩ a z.w:=
  ⟨z,rfl,Nx.refl z,hD,hH,htm,fun p hp=>(by grind),rfl,⟨by grind[FQ],rfl⟩,fun id hdy hid=>hlown id hdy hid⟩
 have fin:∀(Q:Exit->Act->World->Prop),(∀a' w',(a'.defers=[]/\∃v,(results fn a'.tmps).run P w'= .ok v w'/\∃v' z',Ending.returned v= .returned v'/\z'.w=w'/\Nx z {z' with D:=z.D}/\(∀k,z'.D k->k∈bJ fa.i.hs)/\dS.on fa.os r fun o x=>bI z' (o.emb x).2/\bE z' (nH (o.emb x).1) v')->Q .normal a' w')->
  ∀st' a' w',fin P fn fa st'=some r->Inv z a.tmps.size [] st' a' w'->Q .normal a' w':=fun Q hQ st' a' w' hfin hi'=>by
  refine hQ a' w' ?_;obtain⟨z1,rfl,hn,hD1,hH1,hs1,_,hdf,_,h0⟩:=hi';unfold Ab.fin at hfin;obtain⟨l,v,vs,e1,e2,e3,e4⟩:=odZ hH1 hs1 hfin;rw[d4Z] at e1;obtain⟨⟨l',H'⟩,e5,e6⟩:=agZ.1 e1;obtain⟨z2,Mf,g1,g2,g3,g4,g5,g6⟩:=jpZ hH1 (fun _ _=>.inr (hD1 _)) e5 e2;have hM:=g6 hmd;subst hM;have hn2:=hn.trans g3;obtain⟨x,k1,k2⟩:=dS.rco_ok (fun k=>if cH k (bJ fa.i.hs)=true/\k<bC then z2.ρ k else .no) (fun k h1 h2=>by rw[g2.nos k h1 h2,ite_self]) (fun k h=>ZAK fun h'=>by omega) g2 g5 hno e6;simp only[ZAV] at k1;subst k1;obtain⟨z3,k3⟩:=dS.on_ex (dS.on_up (Q':=fun o t=>∃z',o∈fa.os/\_) (fun o t ⟨h,z',k⟩=>⟨z',h,k⟩) k2);have common:z3.w=z2.w/\z3.M=z2.M/\(∀g,z3.C g->z2.C g)/\(∀k,z3.D k->k∈bJ fa.i.hs)/\∀id,z.ρ id≠.no->z3.ρ id=z.ρ id:=by
   have pick:∀{l:List Shp} {x:dS l} {Q:(s:Shp)->s.D->Prop} {G:Prop},(dS.on l x Q)->(∀o t,Q o t->G)->G:=fun{l}=>by
    induction l with
    |nil=>intro x;exact Empty.elim x
    |cons a l ih=>
     cases l with
     |nil=>intro x Q G h hq;exact hq _ _ h
     |cons b l=>
      intro x Q G h hq;cases x with
      |inl y=>exact hq _ _ h
      |inr y=>exact ih (x:=y) h hq
   refine pick k3 fun o t k=> ?_;obtain⟨ho,q1,q2,q3,q4,q5,q6,q7,q8,q9⟩:=k;refine⟨q1,q2,q7,fun k hk=> ?_,fun id hid=> ?_⟩
   ·have:=q8 k hk;cases hm:cH k (bJ fa.i.hs)
    ·simp[hm] at this
    ·exact ajZ.1 hm
   ·by_cases hdy:bC<=id
    ·have hm:=hlowd id hdy hid;have hmo:=(cZZ.1 ((cmZ.1 (hnoL o ho).2) _ (cZZ.2 ⟨hm,(bNZ hdy).1⟩))).1;rw[q9 id hdy hmo];exact hn2.ext id hid
    have hstat:id<bC:=by omega
    obtain⟨hmem,hfl⟩:=hlow id hstat hid;have hidlt:=hlown id hstat hid;cases hk:cH id (bJ o.hs)
    ·rw[q6 id hstat hk,ZAM ⟨ajZ.2 hmem,hstat⟩];exact hn2.ext id hid
    ·obtain⟨id',p1,p2⟩:=q5 id hk;have:id'=id:=by
      rcases ZAh.1 p1 with p1|p1
      ·obtain⟨m,b1,b2⟩:=jnZ p1;rcases ZBy m ((reach H' uV (nX 0 (kT (bJ fa.i.hs)).length++AV.idsL l') []).filter fun i=>Nat.blt i (kT (bJ fa.i.hs)).length).length with hlt|hge
       ·rw[ZAT hlt] at b1 b2;rw[b1] at b2;exact ZAf b2
       ·rw[ZAU hge] at b2;have:=(oQZ b2).1;omega
      ·exact(gWZ.1 p1).1
     rw[p2,this];exact hn2.ext id hid
  obtain⟨c1,c2,c3,c4,c5⟩:=common;refine⟨hdf,v,e3,v,z3,rfl,c1.trans g1,⟨by show z3.w.os=_;rw[c1];exact hn2.os,⟨by show z3.w.tape=_;rw[c1];exact hn2.tape.1,by show _<=z3.w.drawn;rw[c1];exact hn2.tape.2⟩,by show z3.w.output=_;rw[c1];exact hn2.output,by show _<=z3.w.heap.size;rw[c1];exact hn2.size,
   fun b hb hc=>by show z3.w.heap[b]? =_;rw[c1];exact hn2.block b hb hc,fun g hg=>hn2.subM g (by rw[<-c2];exact hg),fun g hg=>hn2.subC g (c3 g hg),fun g hg hm hc=>by show z3.M g;rw[c2];exact hn2.keepM g hg hm hc,c5,rfl⟩,c4,dS.on_up (fun o t k=> ?_) k3⟩
  obtain⟨_,q1,q2,q3,q4,q5,q6,q7,q8,q9⟩:=k;exact⟨q3,e4 q4⟩
 refine v2Z hT hm (build fa.ov c) h3 (blZ _ _) hi (fun p hp=>by cases hp) (fun p hp=>by cases hp) ?_ (fun i st' a' w' h' _=>by cases h') ?_
 ·exact fin (bodyPost P fn _) fun a' w' h=>h
 ·exact fin (fun e a' w'=>bodyPost P fn _ .ret a' w') fun a' w' h=>h
theorem s7Z{fn}{vals}{j:Nat}{v}(h:vals[j]? =some v):(FQ fn vals).eval (.tmp j)=v:=by
 have hlt:=(ZAB.1 h).1;simp[Act.eval,FQ]
 simp_all[ZBO,ZCR]
theorem u4Z{z}{fn}{vs}{vals}{d}(hl:vs.length<=1048576)(hv:bQ z vs vals)(k):bE z ((xV (Tr.full d) 0 vs).get k) ((FQ fn vals).eval (iH k)):=by
 refine kcZ (f:=λk=>(FQ fn vals).eval (iH k)) (λk=>by rw[joZ];exact .junk _) (λj x hx=> ?_) k
 let⟨v,R,aa⟩:=hv.get hx
 have ab:=(ZAB.1 hx).1;rw[ZA1,eVZ (by omega),s7Z R];omega
theorem uDZ{fu}{f}{fn}{fa}{R}(hT:∀e∈T,eZ P e)(hm:P.follows .mixedOrders=true)(hf:P.funcs[f]? =some fn)(aa:(fn.name== "runtime.NumGoroutine")=false)(ab:fn.body.isSome=true)
 (hs:∀t,evF P T fu fn fa t=R t):eZ P ⟨f,fa.i,fa.os,R⟩:=by
 let⟨c,hb⟩:=ZBt.1 ab
 refine eZ.of ⟨fn,c,hf,hb,aa⟩ λt r hr z vals hH hv hD=> ?_;have h:=(hs t).trans hr;unfold evF at h;rw[Shp.embC_eq] at h
 let⟨h1,h2⟩:=aeZ.1 h
 let⟨hl,h2⟩:=aeZ.1 h2
 let⟨c',ac,h3⟩:=agZ.1 h2
 rw[hb] at ac;simp at ac;subst ac;exact u1Z hT hm hf hb h1 h3 hH hD (u4Z (ZBM hl) hv)
end
theorem abZ{P}:∀e∈([]:Tbl),eZ P e:=λe h=>by cases h
theorem aaZ{P}{a}{r:Tbl}(h:eZ P a)(R:∀e∈r,eZ P e):∀e∈a::r,eZ P e:=λe he=>by
 grind
end Go.Ab
