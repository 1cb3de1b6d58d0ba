/- An evaluator of the model's code over plain values, and its soundness; of no program. -/
import Derived.Test.YtjngohmkdmdecaaGreatE2
import Derived.Orders
import Derived.Laws.IdiomRangeMap
import Derived.LoopN
set_option linter.all false
namespace Go.Ab
theorem ZA4:type_of% @List.pairwise_cons:=@List.pairwise_cons
theorem ZBS:type_of% @Array.getElem?_append_left:=@Array.getElem?_append_left
theorem ZBY:type_of% @Bool.or_eq_false_iff:=@Bool.or_eq_false_iff
theorem ZBe:type_of% @List.mem_append_left:=@List.mem_append_left
theorem ZBy:type_of% @List.pairwise_append:=@List.pairwise_append
theorem ZB0:type_of% @List.filter_cons_of_pos:=@List.filter_cons_of_pos
theorem ZB7:type_of% @List.filter_eq_self:=@List.filter_eq_self
theorem ZCA:type_of% @List.length_cons:=@List.length_cons
theorem ZCB:type_of% @Option.getD_some:=@Option.getD_some
theorem ZCH:type_of% @Bool.and_eq_false_iff:=@Bool.and_eq_false_iff
theorem ZCW:type_of% @List.mem_range:=@List.mem_range
theorem ZCd:type_of% @List.mem_append_right:=@List.mem_append_right
theorem ZCg:type_of% @List.getElem?_set:=@List.getElem?_set
theorem ZCr:type_of% @List.filter_append:=@List.filter_append
theorem ZCs:type_of% @List.mem_filter:=@List.mem_filter
section
variable {P : Program} {β γ : Type} {H : Hp} {F : γ → Option β}
theorem auZ{α}{x:Option α}{f}{g}(h:∀a,f a=(g a).bind F):x.ob f=(x.ob g).bind F:=by
 cases x with
 |none=>rfl
 |some a=>exact h a
theorem a7Z{α:Type}{x:Option α}{f}{g}(h:∀a,f a=(g a).bind F):x.bind f=(x.bind g).bind F:=by
 cases x<;>grind
theorem akZ{b}{f}{g}(h:f=g.bind F):bO b f=(bO b g).bind F:=by
 cases b
 .rfl
 .exact h
theorem aKZ{b}{f d}{g j:Option γ}(h:f=g.bind F)(p:d=j.bind F):bq b f d=(bq b g j).bind F:=by
 cases b<;>simp_all
theorem c5Z{t u}{f}{d}{g}{j}(h:∀e,f e=(g e).bind F)(p:d=j.bind F):dq t u f d=(dq t u g j).bind F:=by
 unfold dq;split<;>grind
theorem l1Z{B}{d}{j}(p:∀c (k) (k':B->Option γ),(∀x,k x=(k' x).bind F)->d c k=(j c k').bind F)(c):
 ∀(n) (cs) {k} {k'},(∀x,k x=(k' x).bind F)->FQ d c n cs k=(FQ j c n cs k').bind F
 |0,cs,k,k',h=>h _
 |n+1,cs,k,k',h=>p _ _ _ λx=>l1Z p c n _ λl=>h _
theorem hZZ:(t:Ty)->{cs:List AV}->{k:t.den->Option β}->{k':t.den->Option γ}->(∀x,k x=(k' x).bind F)->asm t cs k=(asm t cs k').bind F
 |.byte,cs,k,k',h=>auZ λn=>a7Z h
 |.one t,cs,k,k',h=>hZZ t h
 |.pair a b,cs,k,k',h=>hZZ a λx=>hZZ b λy=>h _
 |.arr n t,cs,k,k',h=>l1Z (λc _ _ h=>hZZ t (cs:=c) h) t.cells n cs h
 |.int _,cs,k,k',h|.bool,cs,k,k',h|.str,cs,k,k',h|.opq,cs,k,k',h|.nat,cs,k,k',h|.sl _,cs,k,k',h|.ref _ _,cs,k,k',h=>auZ h
 |.ptr t,cs,k,k',h=>by
  simp[asm]
  grind[c5Z,a7Z,auZ]
theorem vDZ{u}{a}{k}{k'}(h:∀x,k x=(k' x).bind F):asC u a k=(asC u a k').bind F:=
 auZ λ_=>akZ (hZZ u h)
theorem bKZ{u}{a}{k}{k'}(h:∀x,k x=(k' x).bind F):asA u a k=(asA u a k').bind F:=by
 unfold asA
 grind[c5Z,vDZ]
theorem neZ:(t:Ty)->{x:t.den}->{o:Nat}->{u:Ty}->{k:u.den->Option β}->{k':u.den->Option γ}->(∀x,k x=(k' x).bind F)->sub t x o u k=(sub t x o u k').bind F
 |.one t,x,o,u,k,k',h=>c5Z (λ_=>aKZ (h _) rfl) (neZ t h)
 |.pair a b,x,o,u,k,k',h=>c5Z (λ_=>aKZ (h _) rfl) (aKZ (neZ a h) (neZ b h))
 |.int _,x,o,u,k,k',h|.bool,x,o,u,k,k',h|.byte,x,o,u,k,k',h|.str,x,o,u,k,k',h|.opq,x,o,u,k,k',h|.nat,x,o,u,k,k',h|.ptr _,x,o,u,k,k',h|.sl _,x,o,u,k,k',h|.arr _ _,x,o,u,k,k',h|.ref _ _,x,o,u,k,k',h=>c5Z (λ_=>aKZ (h _) rfl) rfl
theorem irZ:(t:Ty)->{x:t.den}->{o:Nat}->{u:Ty}->{y:u.den}->{k:t.den->Option β}->{k':t.den->Option γ}->(∀x,k x=(k' x).bind F)->upd t x o u y k=(upd t x o u y k').bind F
 |.one t,x,o,u,y,k,k',h=>c5Z (λ_=>aKZ (h _) rfl) (irZ t h)
 |.pair a b,x,o,u,y,k,k',h=>c5Z (λ_=>aKZ (h _) rfl) (aKZ (irZ a λ_=>h _) (irZ b λ_=>h _))
 |.int _,x,o,u,y,k,k',h|.bool,x,o,u,y,k,k',h|.byte,x,o,u,y,k,k',h|.str,x,o,u,y,k,k',h|.opq,x,o,u,y,k,k',h|.nat,x,o,u,y,k,k',h|.ptr _,x,o,u,y,k,k',h|.sl _,x,o,u,y,k,k',h|.arr _ _,x,o,u,y,k,k',h|.ref _ _,x,o,u,y,k,k',h=>c5Z (λ_=>aKZ (h _) rfl) rfl
theorem jyZ:(t:Ty)->{x:t.den}->{o:Nat}->{u:Ty}->{k:AV->Option β}->{k':AV->Option γ}->(∀x,k x=(k' x).bind F)->zP t x o u k=(zP t x o u k').bind F
 |.one t,x,o,u,k,k',h=>aKZ (h _) (jyZ t h)
 |.pair a b,x,o,u,k,k',h=>aKZ (h _) (aKZ (jyZ a h) (jyZ b h))
 |.int _,x,o,u,k,k',h|.bool,x,o,u,k,k',h|.byte,x,o,u,k,k',h|.str,x,o,u,k,k',h|.opq,x,o,u,k,k',h|.nat,x,o,u,k,k',h|.ptr _,x,o,u,k,k',h|.sl _,x,o,u,k,k',h|.arr _ _,x,o,u,k,k',h|.ref _ _,x,o,u,k,k',h=>aKZ (h _) rfl
theorem j0Z:(t:Ty)->{x:t.den}->{o:Nat}->{u:Ty}->{v:AV}->{k:t.den->Option β}->{k':t.den->Option γ}->(∀x,k x=(k' x).bind F)->xS t x o u v k=(xS t x o u v k').bind F
 |.one t,x,o,u,v,k,k',h=>aKZ (bKZ h) (j0Z t h)
 |.pair a b,x,o,u,v,k,k',h=>aKZ (bKZ h) (aKZ (j0Z a λ_=>h _) (j0Z b λ_=>h _))
 |.int _,x,o,u,v,k,k',h|.bool,x,o,u,v,k,k',h|.byte,x,o,u,v,k,k',h|.str,x,o,u,v,k,k',h|.opq,x,o,u,v,k,k',h|.nat,x,o,u,v,k,k',h|.ptr _,x,o,u,v,k,k',h|.sl _,x,o,u,v,k,k',h|.arr _ _,x,o,u,v,k,k',h|.ref _ _,x,o,u,v,k,k',h=>aKZ (bKZ h) rfl
section
variable {k : AV → Option β} {k' : AV → Option γ}
theorem mVZ{u}{t}{x}{j}(h:∀x,k x=(k' x).bind F):rZ P u t x j k=(rZ P u t x j k').bind F:=auZ λ_=>aKZ (neZ u λ_=>h _) (jyZ u h)
theorem gqZ{u}{t}{l}{i j}(h:∀x,k x=(k' x).bind F):pD P t u l i j k=(pD P t u l i j k').bind F:=by
 grind[pD,aKZ,akZ,a7Z,mVZ]
theorem qDZ{t}{c}{j}(h:∀x,k x=(k' x).bind F):xT P t c j k=(xT P t c j k').bind F:=aKZ (akZ (h _)) (aKZ (auZ h) rfl)
theorem rFZ{t}{a}(h:∀x,k x=(k' x).bind F):sM P t a H k=(sM P t a H k').bind F:=by
 unfold sM;split
 .grind[qDZ,aKZ,gqZ]
 .exact gqZ h
 .grind[a7Z,akZ,gqZ]
 .rfl
theorem qeZ{t}{c a b}(h:∀x,k x=(k' x).bind F):xW P t c a b k=(xW P t c a b k').bind F:=by
 grind[xW,auZ,akZ,aKZ]
theorem pcZ{t}{d}(h:∀x,k x=(k' x).bind F):uA P t d k=(uA P t d k').bind F:=by
 grind[uA,auZ]
theorem tgZ{d}{j}{a b}(h:∀x,k x=(k' x).bind F):AE d j a b k=(AE d j a b k').bind F:=by
 unfold AE
 grind[akZ]
theorem sAZ{d}{a b}(h:∀x,k x=(k' x).bind F):AF d a b k=(AF d a b k').bind F:=by
 unfold AF
 grind[akZ]
theorem uhZ{d}{t}{a}(h:∀x,k x=(k' x).bind F):JG P d t a k=(JG P d t a k').bind F:=by
 unfold JG
 grind[auZ]
theorem gCZ{u}{a}{k}{k'}(h:∀x,k x=(k' x).bind F):pE H u a k=(pE H u a k').bind F:=by
 unfold pE;split
 .grind[c5Z,auZ]
 .grind[c5Z,aKZ]
 .grind[c5Z,aKZ]
 .rfl
theorem f2Z{s d}{a}(h:∀x,k x=(k' x).bind F):jO P s d a H k=(jO P s d a H k').bind F:=by
 unfold jO
 grind[auZ,aKZ,gCZ]
theorem dCZ{es id}{k}{k'}(h:∀u x,k u x=(k' u x).bind F):kZ H es id k=(kZ H es id k').bind F:=by
 unfold kZ
 grind[aKZ]
theorem vrZ{a}{k}{k'}(h:∀x,k x=(k' x).bind F):BB H a k=(BB H a k').bind F:=by
 unfold BB
 grind[dCZ]
theorem ueZ{a}{k}{k'}(h:∀x,k x=(k' x).bind F):KQ H a k=(KQ H a k').bind F:=by
 unfold KQ
 grind
theorem veZ{t}{a}{k}{k'}(h:∀x,k x=(k' x).bind F):JE P t H a k=(JE P t H a k').bind F:=by
 grind[JE,auZ,vrZ,ueZ]
theorem h3Z{s}{a}{f}(h:∀x,k x=(k' x).bind F):iP P s a f k=(iP P s a f k').bind F:=by
 unfold iP
 grind
theorem goZ{a}{d m}{k}{k'}(h:∀x,k x=(k' x).bind F):tX a d m k=(tX a d m k').bind F:=by
 unfold tX
 grind[auZ,a7Z]
theorem lVZ{α}{l}{lo hi}{k}{k':List α->Option γ}(h:∀x,k x=(k' x).bind F):FT l lo hi k=(FT l lo hi k').bind F:=by
 unfold FT;split
 .exact h _
 .exact auZ λ_=>a7Z λ_=>h _
 .exact auZ λ_=>a7Z λ_=>h _
 grind[auZ,a7Z]
theorem pwZ{t}{a}{lo hi}(h:∀x,k x=(k' x).bind F):qM P t a lo hi H k=(qM P t a lo hi H k').bind F:=by
 unfold qM;split
 .grind[auZ,lVZ]
 .split
  .grind[aKZ,dCZ,goZ]
  .grind[aKZ,goZ]
  .grind[aKZ,lVZ]
  .grind[akZ,goZ]
  .grind[aKZ,goZ]
  .rfl
 .grind[aKZ,dCZ,akZ,goZ,lVZ]
 .rfl
theorem l2Z{t}{a hi d}{lo}(h:∀x,k x=(k' x).bind F):nI P t a lo hi d k=(nI P t a lo hi d k').bind F:=by
 unfold nI;split
 .split
  .refine aKZ (auZ λ_=>a7Z λ_=>auZ λ_=>a7Z λ_=> ?_) rfl;split
   .exact h _
   .exact auZ λ_=>a7Z λ_=>h _
  .rfl
 .rfl
theorem oBZ{t}{a d}(h:∀x,k x=(k' x).bind F):tW P t a d k=(tW P t a d k').bind F:=by
 refine auZ λx=> ?_;split
 .grind[auZ,a7Z]
 .exact auZ λ_=>bKZ λ_=>a7Z λ_=>a7Z λ_=>h _
 .rfl
theorem hfZ{t}{a d}(h:∀x,k x=(k' x).bind F):jY P t a d H k=(jY P t a d H k').bind F:=by
 refine auZ λx=> ?_;split
 .refine akZ ?_;split<;>first|rfl|grind[aKZ,a7Z]
 .refine akZ ?_;split
  .refine aKZ ?_ rfl;split
   .exact a7Z λ_=>h _
   .exact dCZ λ_ _=>a7Z λ_=>h _
  .exact aKZ (a7Z λ_=>h _) rfl
  .exact aKZ (a7Z λ_=>h _) rfl
  .exact aKZ (a7Z λ_=>a7Z λ_=>h _) rfl
  .rfl
 .rfl
theorem nSZ{s}{a}{f}(h:∀x,k x=(k' x).bind F):qL P s a f k=(qL P s a f k').bind F:=by
 unfold qL
 grind[aKZ,akZ,auZ,mVZ]
theorem k8Z{d:Ty}{x}{k}{k'}(h:∀x,k x=(k' x).bind F):∀l:List (d.den×AV),vL l x k=(vL l x k').bind F
 |[]=>h _
 |(_,_)::r=>aKZ (h _) (k8Z h r)
theorem lQZ{t}{m d}{c}(h:∀x,k x=(k' x).bind F):nJ P t m d c H k=(nJ P t m d c H k').bind F:=by
 unfold nJ;split
 .split
  .exact akZ (bKZ λ_=>h _)
  .grind[akZ,bKZ,k8Z]
  .rfl
 .split
  .exact auZ λ_=>auZ λ_=>akZ (bKZ λ_=>h _)
  .rfl
 .rfl
theorem u6Z{t}{a b}{k}{k'}(d:BG P t=true)(h:∀x,k x=(k' x).bind F):FX P t a b H k=(FX P t a b H k').bind F:=by
 unfold FX
 grind[auZ,BG,akZ,bKZ]
theorem tlZ{d}{t u}{a b}(j:BG P t=true)(h:∀x,k x=(k' x).bind F):AG P d t u a b H k=(AG P d t u a b H k').bind F:=by
 unfold AG;split
 .split
  .exact auZ λ_=>auZ λ_=>akZ (tgZ h)
  .rfl
 .exact auZ λ_=>auZ λ_=>sAZ h
 grind[u6Z]
theorem v6Z{o}{r}(d:OS P o=true)(h:∀x,k x=(k' x).bind F):evR P o r H k=(evR P o r H k').bind F:=by
 unfold evR;unfold OS at d;split
 .grind
 .grind
 .exact qeZ h
 .exact pcZ h
 .exact rFZ h
 .grind[akZ]
 .grind[tlZ]
 .exact lQZ h
 .exact uhZ h
 .exact f2Z h
 .grind
 .exact pwZ h
 .exact l2Z h
 .exact h3Z h
 .exact nSZ h
 .exact hfZ h
 .exact oBZ h
 .grind[auZ]
 .grind[veZ,auZ]
 .rfl
end
section
variable {k : AV → Hp → Option β} {k' : AV → Hp → Option γ}
theorem aXZ{id}{b}{k}{k'}(h:∀H,k H=(k' H).bind F):gJ H id b k=(gJ H id b k').bind F:=aKZ rfl (h _)
theorem oLZ{t}{id}(h:∀x H,k x H=(k' x H).bind F):qK P t id H k=(qK P t id H k').bind F:=by
 grind[qK,auZ,akZ,aXZ]
theorem sCZ{t}{v}{id}(h:∀x H,k x H=(k' x H).bind F):AB P t v id H k=(AB P t v id H k').bind F:=by
 unfold AB;split
 .exact auZ λ_=>auZ λ_=>bKZ λ_=>akZ (aXZ λ_=>h _ _)
 grind[auZ,aXZ]
theorem lrZ{t}{id}(h:∀x H,k x H=(k' x H).bind F):tV P t id H k=(tV P t id H k').bind F:=
 auZ λ_=>akZ (aXZ λ_=>h _ _)
theorem pEZ{t}{v}{id}(h:∀x H,k x H=(k' x H).bind F):BA P t v id H k=(BA P t v id H k').bind F:=
 auZ λ_=>auZ λ_=>bKZ λ_=>aXZ λ_=>h _ _
theorem p4Z{t e}{u}{l}{i j id}{v}(h:∀x H,k x H=(k' x H).bind F):vI P t e u l i j id v H k=(vI P t e u l i j id v H k').bind F:=by
 unfold vI;split
 .grind[aKZ,akZ,bKZ,a7Z,irZ]
 .grind[bKZ,a7Z,irZ]
 .rfl
theorem oSZ{t}{a v}(h:∀x H,k x H=(k' x H).bind F):qJ P t a v H k=(qJ P t a v H k').bind F:=by
 unfold qJ;split
 .split
  .grind[auZ,akZ]
  .exact aKZ (aKZ (auZ λ_=>akZ (p4Z h)) (auZ λ_=>auZ λ_=>auZ λ_=>auZ λ_=>akZ (a7Z λ_=>j0Z _ λ_=>h _ _))) rfl
  .rfl
 .refine auZ λ_=>auZ λ_=> ?_;split
  .exact akZ (a7Z λ_=>akZ (bKZ λ_=>a7Z λ_=>irZ _ λ_=>h _ _))
  .rfl
 .rfl
theorem izZ{s d}{a}{id}(h:∀x H,k x H=(k' x H).bind F):jP P s d a id H k=(jP P s d a id H k').bind F:=by
 unfold jP
 grind[aKZ,auZ,akZ,aXZ]
theorem q6Z{t}{l c}{id}(h:∀x H,k x H=(k' x H).bind F):vK P t l c id H k=(vK P t l c id H k').bind F:=by
 unfold vK;split
 .exact auZ λ_=>auZ λ_=>a7Z λ_=>a7Z λ_=>auZ λ_=>akZ (aXZ λ_=>h _ _)
 .rfl
theorem kTZ{t}{q}{d}{id}(h:∀x H,k x H=(k' x H).bind F):lG P t q d id H k=(lG P t q d id H k').bind F:=by
 unfold lG;split
 .grind[auZ,akZ,aKZ,aXZ]
 .rfl
theorem gPZ{t}{m key x}(h:∀x H,k x H=(k' x H).bind F):nK P t m key x H k=(nK P t m key x H k').bind F:=by
 unfold nK;split
 .split
  .exact akZ (bKZ λ_=>akZ (auZ λ_=>akZ (h _ _)))
  .refine auZ λ_=> ?_;split
   .exact akZ (bKZ λ_=>bKZ λ_=>h _ _)
   .rfl
 .rfl
theorem guZ{t}{n}{j}{vs}{d}{id}(h:∀x H,k x H=(k' x H).bind F):gP P t n j vs d id H k=(gP P t n j vs d id H k').bind F:=by
 unfold gP;simp[eBZ];split
 .exact auZ λ_=>auZ λu=>akZ (auZ λ_=>aKZ (akZ (aXZ λ_=>h _ _))<|auZ λ_=>l1Z (λc _ _ h=>hZZ (AD _ d u) (cs:=c) h) _ _ _ λ_=>aXZ λ_=>h _ _)
 .rfl
theorem lmZ{t}{s x}{id}(h:∀x H,k x H=(k' x H).bind F):lK P t s x id H k=(lK P t s x id H k').bind F:=by
 unfold lK;split
 .refine auZ λ_=>gCZ λ_=> ?_;split
  .exact akZ (aXZ λ_=>h _ _)
  .split
   .exact c5Z (λ_=>akZ (aXZ λ_=>h _ _)) (c5Z (λ_=>akZ (aXZ λ_=>h _ _)) rfl)
   .rfl
  .split
   .exact c5Z (λ_=>akZ (aXZ λ_=>h _ _)) rfl
   .rfl
  .rfl
 .rfl
theorem jHZ{t}{s x}{id}(h:∀x H,k x H=(k' x H).bind F):lF P t s x id H k=(lF P t s x id H k').bind F:=by
 unfold lF;split
 .refine auZ λ_=>akZ (auZ λ_=>a7Z λ_=> ?_)
  grind[akZ,aXZ,c5Z]
 .rfl
theorem qzZ{t}{s x}(h:∀x H,k x H=(k' x H).bind F):vJ P t s x H k=(vJ P t s x H k').bind F:=by
 unfold vJ;split
 .refine auZ λ_=>gCZ λ_=> ?_;split
  .split
   .exact c5Z (λ_=>akZ (h _ _)) rfl
   .rfl
  .split
   .exact c5Z (λ_=>akZ (h _ _)) rfl
   .rfl
  .refine akZ ?_;split
   .exact c5Z (λ_=>c5Z (λ_=>a7Z λ_=>h _ _) rfl) rfl
   .rfl
  .rfl
 .rfl
theorem o8Z{t}{d}(h:∀x H,k x H=(k' x H).bind F):qN P t d H k=(qN P t d H k').bind F:=by
 unfold qN;split
 .refine auZ λ_=>akZ ?_;split
  .exact h _ _
  .split
   .exact c5Z (λ_=>akZ (h _ _)) rfl
   .rfl
  .split
   .exact c5Z (λ_=>akZ (h _ _)) rfl
   .rfl
  .rfl
 .rfl
theorem dW.on_nt:∀{l} {x} {k} {k':(s:Shp)->s.D->Option γ},(∀s t,k s t=(k' s t).bind F)->dW.on l x k=(dW.on l x k').bind F
 |[],x,_,_,_=>Empty.elim x
 |[s],x,k,k',h=>h s x
 |s::t::r,.inl y,k,k',h=>h s y
 |s::t::r,.inr y,k,k',h=>dW.on_nt (x:=y) h
mutual
theorem co_nt:(q:Kd)->{r:List Ty}->{a:AV}->{x:HL r}->{k:HL (q.lv r)->Option β}->{k':HL (q.lv r)->Option γ}->(∀y,k y=(k' y).bind F)->co q r a x k=(co q r a x k').bind F
 |.p t,r,a,x,k,k',h=>bKZ (u:=t) (k:=λy=>k (y,x)) (k':=λy=>k' (y,x)) λy=>h _
 |.pt t,r,a,x,k,k',h=>auZ λ_=>h _
 |.own es id i j,r,a,x,k,k',h=>akZ (h _)
 |.ownx es id j,r,a,x,k,k',h=>auZ λ_=>h _
 |.sl es id,r,a,x,k,k',h=>auZ λ_=>h _
 |.slf es id,r,a,x,k,k',h=>akZ (h _)
 |.mp id,r,a,x,k,k',h=>akZ (h _)
 |.any,r,a,x,k,k',h=>h _
 |.fn f d B,r,a,x,k,k',h=>auZ λ_=>akZ (gdZ B λ_=>gdZ d h)
 |.agg l,r,a,x,k,k',h=>auZ λ_=>akZ (gdZ l h)
 |.tup l,r,a,x,k,k',h=>auZ λ_=>akZ (gdZ l h)
 |.nilp v,r,a,x,k,k',h=>akZ (h _)
theorem gdZ:(q:KdL)->{r:List Ty}->{c:List AV}->{x:HL r}->{k:HL (q.lv r)->Option β}->{k':HL (q.lv r)->Option γ}->(∀y,k y=(k' y).bind F)->coL q r c x k=(coL q r c x k').bind F
 |.nil,r,c,x,k,k',h=>h _
 |.cons q l,r,c,x,k,k',h=>gdZ l λ_=>co_nt q h
end
theorem woZ{q}{r}{b}{x}{k}{k'}(h:∀y,k y=(k' y).bind F):coB q r b x k=(coB q r b x k').bind F:=by
 cases q with
 |vars l=>exact auZ λ_=>gdZ l h
 |rows e t=>exact auZ λ_=>h _
 |map d j=>exact auZ λ_=>h _
 |fam e s=>exact auZ λ_=>h _
theorem tGZ:(d:HK)->{r:List Ty}->{x:HL r}->{k:HL (fP d r)->Option β}->{k':HL (fP d r)->Option γ}->(∀y,k y=(k' y).bind F)->coH d r H x k=(coH d r H x k').bind F
 |[],r,x,k,k',h=>h _
 |(_,_,q)::l,r,x,k,k',h=>auZ λ_=>tGZ l λ_=>woZ h
theorem Shp.co_nt{s:Shp}{vs}{k}{k'}(h:∀y,k y=(k' y).bind F):s.co vs H k=(s.co vs H k').bind F:=
 akZ (tGZ s.hs λ_=>gdZ s.ks λ_=>h _)
theorem Shp.rco_nt{s:Shp}{vs}{d}{k}{k'}(h:∀y,k y=(k' y).bind F):s.rco vs H d k=(s.rco vs H d k').bind F:=
 akZ (Shp.co_nt h)
theorem pYZ{e}{d}{j}(h:∀x H,k x H=(k' x H).bind F):vN P e d j H k=(vN P e d j H k').bind F:=by
 unfold vN;rw[dwZ,dwZ];exact auZ λ_=>akZ (Shp.rco_nt λ_=>a7Z λ_=>dW.on_nt λ_ _=>by
  grind[Shp.embC_eq,akZ])
theorem v2Z{T}{o}{d}{r}(h:∀x H,k x H=(k' x H).bind F):evW P T o d r H k=(evW P T o d r H k').bind F:=by
 unfold evW;split
 .grind[aKZ,oLZ,lrZ]
 .grind[aKZ,sCZ,pEZ]
 .exact guZ h
 .exact oSZ h
 .grind[f2Z,izZ]
 .exact q6Z h
 .exact kTZ h
 .exact gPZ h
 .exact gPZ h
 .split
  .grind[jHZ,lmZ]
  .grind[qzZ]
  .grind[o8Z]
  .grind[auZ,pYZ]
  .rfl
 .rfl
theorem uHZ{o}{r}{k}{d:β}(j:OS P o=true)(h:evR P o r H k=some d):∃x,evR P o r H some=some x/\k x=some d:=by
 have e:evR P o r H k=(evR P o r H some).bind k:=v6Z j λ_=>rfl
 simp_all[ZAG]
theorem u8Z{T}{o}{j}{r}{k}{d:β}(h:evW P T o j r H k=some d):∃x H',evW P T o j r H (λx H'=>some (x,H'))=some (x,H')/\k x H'=some d:=by
 have e:evW P T o j r H k=(evW P T o j r H λx H'=>some (x,H')).bind λp=>k p.1 p.2:=v2Z λ_ _=>rfl
 simp_all[ZAG]
end
end
theorem awZ{H}{id}(h:bM H id=false):bF H id=none:=by
 cases hg:bF H id<;>grind[aiZ]
section
variable {z z' : Z} {H : Hp}
theorem bE.live{a}{v}(h:bE z a v):∀id∈AV.ids a,z.ρ id≠.no:=by
 have E:∀{l},(∀(i:Nat) (x),l[i]? =some x->∀id∈AV.ids x,z.ρ id≠.no)->∀id∈AV.idsL l,z.ρ id≠.no:=by
  intro l;induction l with
  |nil=>intro _ id h;cases h
  |cons a l B=>
   intro h id hi;simp[AV.idsL] at hi;rcases hi with hi|hi
   .exact h 0 a rfl id hi
   .exact B (λi x hx=>h (i+1) x hx) id hi
 induction h with
 |p t x v h=>intro id h;cases h
 |pt t l i j b off K h2 U=>intro id h;cases h
 |own es id i j g C n h=>intro k hk;simp[AV.ids] at hk;subst hk;rw[h];intro h;cases h
 |rp f es k' i j g C n h=>intro k hk;cases hk
 |slV es id off A h=>intro k hk;simp[AV.ids] at hk;subst hk;rw[h];intro h;cases h
 |slE es id off g C m o h=>intro k hk;simp[AV.ids] at hk;subst hk;rw[h];intro h;cases h
 |sl es id off n g C m c h O D hm=>intro k hk;simp[AV.ids] at hk;subst hk;rw[h];intro h;cases h
 |slfV es id A h=>intro k hk;simp[AV.ids] at hk;subst hk;rw[h];intro h;cases h
 |slf es id g C n c h O D hm=>intro k hk;simp[AV.ids] at hk;subst hk;rw[h];intro h;cases h
 |mp id g C n h=>intro k hk;simp[AV.ids] at hk;subst hk;rw[h];intro h;cases h
 |fn f a c L N R T K h2 G I=>
  intro k hk;simp[AV.ids] at hk;rcases hk with hk|hk
  .refine E (λi x hx=> ?_) k hk;have d:i<L.size:=by rw[R];exact(ZAC.1 hx).1
   exact G i x L[i] hx (ZBE d)
  .refine E (λi x hx=> ?_) k hk;have d:i<N.size:=by rw[T];exact(ZAC.1 hx).1
   exact I i x N[i] hx (ZBE d)
 |agg l cs D K h B=>
  intro k hk;refine E (λi x hx=> ?_) k hk;have d:i<cs.size:=by rw[D];exact(ZAC.1 hx).1
  exact B i x cs[i] hx (ZBE d)
 |tup l vs D h B=>
  intro k hk;refine E (λi x hx=> ?_) k hk;have d:i<vs.size:=by rw[D];exact(ZAC.1 hx).1
  exact B i x vs[i] hx (ZBE d)
 |junk v=>intro k hk;cases hk
theorem gV.ren'{g T n}{b}{f}{j}(h:gV z g T n b)(D:fE z.ρ j)(U:∀{id k},z.ρ id≠.no->f id=some k->j k=z.ρ id):gV {z with ρ:=j} g T n (b.ren f):=by
 cases b with
 |vars c=>
  let⟨cs,e,N,p,B,d,⟨I,X⟩,K,O⟩:=h
  refine⟨cs,e,N,p,B,d,⟨by simp_all[c2Z],X⟩,λi a v p1 V=> ?_,O⟩;rw[dhZ] at p1;obtain⟨y,W,rfl⟩:=ZAH.1 p1;exact(K i y v W V).ren rfl rfl (.inl D) λid k hi hk=>U ((K i y v W V).live id hi) hk
 |rows e t l=>
  let⟨cs,N,p,B,d,I,K,O,Y⟩:=h
  refine⟨cs,N,p,B,d,I,K,O,λi x hx=> ?_⟩
  let⟨u,R,L⟩:=Y i x hx
  exact⟨u,R.dyn D,L⟩
 |map kt vt m=>
  let⟨es,p,B,d,I⟩:=h
  exact⟨es,p,B,λi x e E G=>⟨(d i x e E G).1.dyn D,(d i x e E G).2.1.dyn D,(d i x e E G).2.2⟩,I⟩
 |fmap kt l=>
  let⟨es,C,p,B,d⟩:=h
  refine⟨es,C,p,by simp[B],λi x e E G=> ?_⟩;rw[ZAV] at E;obtain⟨y,q3,rfl⟩:=ZAH.1 E
  let⟨R,L⟩:=d i y e q3 G
  exact⟨R.dyn D,L.ren rfl rfl (.inl D) λid k hi hk=>U (L.live id hi) hk⟩
 |fam e s ms=>exact h.elim
def Z.foc(z:Z)(H:Hp)(F:Nat->Bool):Z:=
 {z with C:=λg=>∃id e d n,F (rt id)=true/\bP H id=some e/\e.fz=false/\z.ρ id= .real g d n,D:=λid=>z.D id\/(dX H id=true/\F (rt id)=false)}
theorem vWZ{H1}{F:Nat->Bool}(d:bH z H)(I:∀id,bF H1 id=if F id then bF H id else none)(h2:∀id,bM H1 id=(F id&&bM H id)):bH (z.foc H F) H1:=by
 have q:∀id e,bP H1 id=some e->F (rt id)=true/\bP H id=some e:=λid e h=>by
  cases B:F (rt id)
  .exfalso;have C:bF H1 (rt id)=none:=by rw[I,B];rfl
   have:bP H1 id=none:=by
    by_cases j:bC<=id
    .rw[a9Z j,C];rfl
    .rw[beZ (by omega)] at C;unfold bP;rw[ZAJ j,C,ite_self]
   rw[this] at h;cases h
  grind[cuZ]
 refine⟨λid e h=> ?_,λid D e e' g p n N E n' G p1 O R T U V=> ?_,λid h=> ?_,λg ⟨id,e,p,n,q1,W,X,Y⟩=> ?_,λid x h=> ?_,λid h=> ?_,λid j h=> ?_,d.nos⟩
 .obtain⟨a1,K⟩:=q id e h;exact(d.ent _ _ K).rho rfl rfl (.inl (.eq rfl)) rfl (λ_ _=>rfl) λg p n hr hf _=>⟨id,e,p,n,a1,K,hf,hr⟩
 .exact d.inj id D e e' g p n N E n' G (q _ _ p1).2 (q _ _ O).2 R T U V
 .cases B:F (rt id)
  .cases hk:dX H id
   .exact(d.fresh id hk).imp (λh=>h) .inl
   .exact .inr (.inr ⟨hk,B⟩)
  .rw[d8Z (show bF H1 (rt id)=bF H (rt id) by simp_all) (by simp_all)] at h;exact(d.fresh id h).imp (λh=>h) .inl
 .exact d.sub _ ((d.realX W Y).2.1 X)
 .rw[I] at h;split at h
  .exact d.fam id x h
  grind
 .rw[h2,ZAF] at h;exact d.key id h.2
 .rw[h2,ZAF] at h;rintro(L|⟨_,L⟩)
  .exact d.dyn id j h.2 L
  simp_all
theorem merge_ok{H2 H3}{F}{U}(K:bH z H)(G:Nx (z.foc H F) U)(h2:bH U H2)(hF:∀id,bM H2 id=true->F id=true)
 (h3:∀id,bF H3 id=if bM H2 id then bF H2 id else if F id then none else bF H id)(h4:∀id,bM H2 id=true\/bM H id=true->bM H3 id=true)(h5:∀id,bM H3 id=true->bM H2 id=true\/bM H id=true\/(id<bC/\∀x,rt x=id->¬z.D x)):
 ∃X,X.w=U.w/\X.M=U.M/\X.ρ=U.ρ/\bH X H3/\Nx z X:=by
 let X:Z:={U with C:=λg=>U.C g\/(z.C g/\¬(z.foc H F).C g/\g<z.w.heap.size),D:=z.D}
 have aa:∀g,(z.foc H F).C g->z.C g:=λg ⟨id,e,N,n,_,Y,q3,q4⟩=>(K.realX Y q4).2.1 q3;have hN:Nx z X:=⟨G.os,G.tape,G.output,G.size,λb hb hc=>G.block b hb λh=>hc (aa b h),G.subM,λg hg=>by
  rcases hg with hg|hg
  .rcases G.subC g hg with h|h
   .exact .inl (aa g h)
   .exact .inr h
  simp_all,λg hg hM hC=>G.keepM g hg hM λh=>hC (aa g h),G.ext,rfl⟩
 have ah:=hN.kp K.sub;have key:∀id e,bP H3 id=some e->(bP H2 id=some e)\/(F (rt id)=false/\bP H id=some e):=λid e h=>by
  have d:=h3 (rt id);cases hk:bM H2 (rt id)
  .rw[hk] at d;simp only[ZBK,ZCl] at d;cases O:F (rt id)
   .rw[O] at d;exact .inr ⟨rfl,by rw[<-cuZ (H':=H3) (H:=H) d];exact h⟩
   .exfalso;rw[O] at d;have e1:bF H3 (rt id)=none:=d;have:bP H3 id=none:=by
     by_cases B:bC<=id
     .rw[a9Z B,e1];rfl
     .rw[beZ (by omega)] at e1;unfold bP;rw[ZAJ B,e1,ite_self]
    rw[this] at h;cases h
  grind[cuZ]
 have R:∀id e g N n,F (rt id)=false->bP H id=some e->z.ρ id= .real g N n->¬(z.foc H F).C g:=by
  rintro id e g N n O hg hr ⟨j,e',L,n',a1,a2,a3,a4⟩;have ai:id≠j:=λh=>by simp_all
  exact K.ne ai hg a2 a3 hr a4 (λh=>by rw[h.1.rt,<-h.2.rt,a1] at O;grind) rfl
 have p:∀id e,F (rt id)=false->bP H id=some e->z.ρ id≠.no:=λid e _ hg hr=>by
  have:=K.ent _ _ hg
  simp_all[fC]
 refine⟨X,rfl,rfl,rfl,⟨λid e h=> ?_,λid j e e' g N n g' L n' ad p1 p2 m1 m2 p3 p4=> ?_,λid h=> ?_,λg hg=> ?_,λid x h=> ?_,λid h=> ?_,λid B h=> ?_,h2.nos⟩,hN⟩
 .rcases key id e h with h|⟨O,h⟩
  .exact(h2.ent _ _ h).rho rfl rfl (.inl (.eq rfl)) rfl (λ_ _=>rfl) λg _ _ _ _ hC=>.inl hC
  .refine(K.ent _ _ h).kp ah λg N n hr=>⟨G.block g (K.realX h hr).1 (R id e g N n O h hr),λhC=>.inr ⟨hC,R id e g N n O h hr,(K.realX h hr).1⟩⟩
 .have T:∀i i' ee V gg ae nn ab I W,bP H2 i=some ee->F (rt i')=false->bP H i'=some V->ee.fz=false->U.ρ i= .real gg ae nn->U.ρ i'= .real ab I W->gg≠ab:=by
   rintro i i' ee V gg ae nn ab I W a1 a2 a3 a4 a5 a6 rfl;have af:z.ρ i'= .real gg I W:=by rw[<-hN.ext i' (p i' V a2 a3)];exact a6
   have ac:=(K.realX a3 af).1;rcases G.subC gg ((h2.realX a1 a5).2.1 a4) with h|h
   .exact R i' V gg I W a2 a3 af h
   .exact ZBR.2 ac h
  rcases key id e p1 with q1|⟨f1,q1⟩<;>rcases key j e' p2 with Y|⟨f2,Y⟩
  .exact h2.inj id j e e' g N n g' L n' ad q1 Y m1 m2 p3 p4
  .exact λ_=>T id j e e' g N n g' L n' q1 f2 Y m1 p3 p4
  .exact λ_ h=>T j id e' e g' L n' g N n Y f1 q1 m2 p4 p3 h.symm
  .have r1:z.ρ id= .real g N n:=by rw[<-hN.ext id (p id e f1 q1)];exact p3
   have r2:z.ρ j= .real g' L n':=by rw[<-hN.ext j (p j e' f2 Y)];exact p4
   exact K.inj id j e e' g N n g' L n' ad q1 Y m1 m2 r1 r2
 ·
  have h0:=eQZ;by_cases ag:bA<=id/\id<bC
  .exact .inl (h2.nos id ag.1 ag.2)
  have E:∀(H:Hp),(bC<=id->dX H id=(match bF H (rt id) with|some e=>e.has ((id-bC)/16)|none=>bM H (rt id)))/\(¬bC<=id->dX H id=bM H (rt id)):=λH=>
   ⟨λB=>azZ B,λB=>by rw[aEZ (by omega),beZ (by omega)]⟩
  have k2:dX H2 id=false:=by
   by_cases B:bC<=id
   .rw[(E H2).1 B];rw[(E H3).1 B] at h;cases hk:bM H2 (rt id)
    .rw[awZ hk]
    .have d:=h3 (rt id);rw[hk] at d;rw[ZAL rfl] at d;rw[d] at h;cases hg:bF H2 (rt id) with
     |none=>
      rw[hg] at h;have h:bM H3 (rt id)=false:=h;rw[h4 (rt id) (.inl hk)] at h;cases h
     |some e=>rw[hg] at h;exact h
   .rw[(E H2).2 B];rw[(E H3).2 B] at h;cases hk:bM H2 (rt id)
    .rfl
    .rw[h4 (rt id) (.inl hk)] at h;cases h
  have k1:F (rt id)=false->dX H id=false:=λO=>by
   have aj:bM H2 (rt id)=false:=by
    cases hk:bM H2 (rt id)
    .rfl
    .have:=hF _ hk;rw[O] at this;cases this
   by_cases B:bC<=id
   .rw[(E H).1 B];rw[(E H3).1 B] at h;have d:=h3 (rt id);rw[aj,O] at d;simp only[ZBK,ZCl] at d;rw[d] at h;cases hg:bF H (rt id) with
    |none=>
     rw[hg] at h;have h:bM H3 (rt id)=false:=h;show bM H (rt id)=false;cases hk:bM H (rt id)
     .rfl
     .rw[h4 (rt id) (.inr hk)] at h;cases h
    |some e=>rw[hg] at h;exact h
   .rw[(E H).2 B];rw[(E H3).2 B] at h;cases hk:bM H (rt id)
    .rfl
    .rw[h4 (rt id) (.inr hk)] at h;cases h
  rcases h2.fresh id k2 with h0|h0
  .exact .inl h0
  .rw[G.dom] at h0;rcases h0 with h0|⟨h0,O⟩
   .exact .inr h0
   .rw[k1 O] at h0;cases h0
 .rcases hg with hg|⟨hg,ak,ac⟩
  .exact h2.sub g hg
  .exact G.keepM g ac (K.sub g hg) ak
 .rw[h3] at h;split at h
  .exact h2.fam id x h
  .split at h
   .cases h
   .exact K.fam id x h
 .rcases h5 id h with h|h|h
  .exact h2.key id h
  .exact K.key id h
  .exact h.1
 .rcases h5 _ h with h|h|h
  .have:=h2.dyn id B h;rw[G.dom] at this;exact λhD=>this (.inl hD)
  .exact K.dyn id B h
  .exact h.2 id rfl
def JJ(e:Ent):Ent:=
 match e.b with
 |.fam e' s d=>⟨e.fz,.fam e' s (d.map bV)⟩
 |_=>e
theorem d5Z:∀(H) (id),bF (vH H) id=(bF H id).map JJ/\bM (vH H) id=bM H id
 |[],id=>⟨rfl,rfl⟩
 |(i,none)::H,id=>by
  let⟨d,h2⟩:=d5Z H id
  simp[vH,bF,bM];cases Nat.beq i id
  .exact⟨d,h2⟩
  .exact⟨rfl,rfl⟩
 |(i,some ⟨fz,b⟩)::H,id=>by
  let⟨d,h2⟩:=d5Z H id
  cases b<;>simp[vH,bF,bM]<;>cases Nat.beq i id<;>first|exact⟨d,h2⟩|exact⟨rfl,rfl⟩
theorem sfZ(k)(e):pick k (JJ e)=(pick k e).map λx=>⟨true,x.b⟩:=by
 let⟨fz,b⟩:=e
 cases b with
 |fam e s d=>
  simp[JJ,pick];cases hm:d[k]? with
  |none=>rfl
  |some m=>
   let⟨st,l⟩:=m
   simp[bV];by_cases h:st=0
   .subst h;rfl
   simp_all[ahZ]
 |_=>rfl
theorem tqZ(e)(k):(JJ e).has k=e.has k:=by
 grind[JJ,Ent.has]
theorem tAZ(j:bH z H)(id):bP (vH H) id=(bP H id).map (λx=>⟨x.fz||decide (bC<=id),x.b⟩)/\dX (vH H) id=dX H id:=by
 let⟨h,h2⟩:=d5Z H (rt id)
 by_cases d:bC<=id
 .rw[a9Z d,a9Z d,azZ d,azZ d,h];refine⟨?_,?_⟩
  .cases bF H (rt id) with
   |none=>rfl
   |some e=>
    simp[sfZ,d,Bool.or_true]
  grind[ZBM,tqZ]
 .rw[beZ (by omega)] at h h2;by_cases p:bA<=id
  .unfold bP dX
   grind
  .rw[arZ (by omega),arZ (by omega),aEZ (by omega),aEZ (by omega),h,h2];refine⟨?_,rfl⟩;cases hg:bF H id with
   |none=>rfl
   |some e=>
    have:=j.fam id e hg
    let⟨fz,b⟩:=e
    cases b<;>first|grind[JJ]|(have:=this.1;omega)
theorem ulZ(d:bH z H):∃z',z'.w=z.w/\bH z' (vH H)/\Nx z z'/\z'.ρ=z.ρ:=by
 let mem:=λg=>∃id e D n,bC<=id/\bP H id=some e/\e.fz=false/\z.ρ id= .real g D n
 let z':={z with M:=λx=>z.M x/\¬mem x,C:=λx=>z.C x/\¬mem x}
 have G:∀g,mem g->z.C g:=λg ⟨id,e,D,n,_,j,I,W⟩=>(d.realX j W).2.1 I;have O:Nx z z':=⟨rfl,⟨rfl,ZAN _⟩,rfl,ZAN _,λ_ _ _=>rfl,λx hx=>.inl hx.1,λx hx=>.inl hx.1,λx _ X hx=>⟨X,λh=>hx (G x h)⟩,λ_ _=>rfl,rfl⟩;have K:=O.kp d.sub;have R:=λid=>(tAZ d id).1;have Y:=λid=>(tAZ d id).2;refine⟨z',rfl,⟨λi e hi=> ?_,λi i' e e' a sa na a' aa ab L T h2 U V h3 h4=> ?_,λi hi=> ?_,λx hx=>⟨d.sub x hx.1,hx.2⟩,λi x h=> ?_,λi h=>d.key i (by simp_all[d5Z]),λi hd h=>d.dyn i hd (by simp_all[d5Z]),d.nos⟩,O,rfl⟩
 .rw[R] at hi;obtain⟨E,j,rfl⟩:=ZAH.1 hi;have h0:=d.ent _ _ j;unfold fC at h0⊢;show match z.ρ i with|.no=>False|.virt=>_|.real g D n=>_
  cases B:z.ρ i with
  |no=>simp_all
  |virt=>simp_all
  |real g D n=>
   rw[B] at h0
   let⟨b1,b2,b3,b4⟩:=h0
   refine⟨b1,λp=> ?_,λp hm=> ?_,b4.kp K rfl⟩
   .simp only[ZBY,ZBB] at p;refine⟨b2 p.1,?_⟩;rintro⟨N,e',ac,n',p1,p2,p3,p4⟩;exact d.inj i N _ _ _ _ _ _ _ _ (λh=>p.2 (h▸p1)) j p2 p.1 p3 B p4 (λh=>p.2 h.1.1) rfl
   .simp[ZAq] at p;cases he:E.fz
    .rw[he] at p;exact hm.2 ⟨i,E,D,n,p.resolve_left (by simp),j,he,B⟩
    .exact b3 he hm.1
 .rw[R] at T h2;obtain⟨e1,j,rfl⟩:=ZAH.1 T;obtain⟨e2,I,rfl⟩:=ZAH.1 h2;simp at U V;exact d.inj i i' e1 e2 _ _ _ _ _ _ L j I U.1 V.1 h3 h4
 .rw[Y] at hi;exact d.fresh i hi
 .rw[(d5Z H i).1] at h;obtain⟨E,j,rfl⟩:=ZAH.1 h;have:=d.fam i E j
  let⟨fz,b⟩:=E
  cases b<;>exact this
theorem m8Z{H}{f}{s}:∀{n} {d},KM f s (tU H n)=some d->∃fz e,bF H (bZ f)=some ⟨fz,.fam e s d⟩
 |0,d,h=>by cases h
 |n+1,d,h=>by
  simp[tU] at h;split at h
  .rename_i fz e B j hg;simp[KM] at h;cases hb:Nat.beq n (f%16)<;>rw[hb] at h<;>simp[bq_false] at h
   .exact m8Z h
   .rw[afZ] at hb;subst hb;rcases aRZ h with⟨p,h⟩|h
    .subst p;have:=ZAg h;subst this;exact⟨fz,e,hg⟩
    .cases h
  .exact m8Z h
theorem wlZ(p:bH z H){f}{s}{j}(h:KM f s (AA H)=some j){k st}{l}(hm:j[k]? =some (st,l))(d:2<=st):∃e,fC z (enc f k) ⟨true,.rows e s l⟩:=by
 let⟨fz,e,hg⟩:=m8Z h
 have:=hbZ hg hm (by omega);have h2:=p.ent _ _ this;rw[show(fz||Nat.ble 2 st)=true by rw[ZAi d,Bool.or_true]] at h2
 grind
theorem drZ(C:bH z H):{t:Ty}->{x:t.den}->{y:t.unref.den}->{vs:List Value}->bU (AA H) t x=some y->Cl z.w z.M z.ρ t x vs->Cl z.w z.M z.ρ t.unref y vs
 |.one t,x,y,vs,h,d=>drZ C (t:=t) h d
 |.pair a b,x,y,vs,h,d=>by
  obtain⟨u,v,rfl,D,h2⟩:=d
  let⟨p,E,h4⟩:=ZAG.1 h
  obtain⟨q,h5,rfl⟩:=ZAH.1 h4;exact⟨u,v,rfl,drZ C E D,drZ C h5 h2⟩
 |.ref f t,.inl l,y,vs,h,d=>by
  obtain rfl:=ZAg h;exact d
 |.ref f t,.inr none,y,vs,h,d=>by
  obtain rfl:=ZAg h;obtain rfl:vs=[.slice none 0 0]:=d;exact⟨none,0,rfl,ZAN _,by omega,λ_=>rfl,λh=>absurd rfl h⟩
 |.ref f t,.inr (some (k,off,n)),y,vs,h,d=>by
  let⟨O,D,h2⟩:=agZ.1 h
  unfold FR at h2;split at h2
  .rename_i st l hm;cases hb:(Nat.ble 2 st&&Nat.ble (off+n) l.length)<;>rw[hb] at h2<;>simp only[bq_true,bq_false] at h2
   .cases h2
   simp[ZAm] at hb
   let⟨G,R⟩:=hb
   obtain rfl:(l.drop off).take n=y:=ZAg h2
   let⟨e,I⟩:=wlZ C D hm G
   have j:((l.drop off).take n).length=n:=by rw[ZAQ,ZAv];omega
   unfold fC at I;rcases d with⟨A,B,rfl,rfl⟩|⟨g,T,m,c,B,E,h4,h5,rfl⟩
   .refine⟨A,0,?_,?_,by unfold maxLen;omega,λ_=>rfl,λh=>absurd j h⟩
    .rw[(j)]
    .rw[(j)];omega
   .rw[B] at I
    let⟨K,_,L,N⟩:=I
    refine⟨some ⟨g,off*t.cells,none⟩,c,?_,?_,h5,(λh=>by cases h),λ_=>⟨g,off*t.cells,rfl,L rfl,K,?_⟩⟩
    .rw[(j)]
    .rw[(j)];exact E
    .have:=N.rowAt.sub off n;rwa [ZAz] at this
  simp_all
 |.int _,x,y,vs,h,d|.byte,x,y,vs,h,d|.bool,x,y,vs,h,d|.str,x,y,vs,h,d|.opq,x,y,vs,h,d|.nat,x,y,vs,h,d|.ptr _,x,y,vs,h,d|.sl _,x,y,vs,h,d|.arr _ _,x,y,vs,h,d=>by
  obtain rfl:=ZAg h;exact d
theorem iqZ{α j}{g}:∀{l:List α} {d:List j},cJ g l=some d->d.length=l.length/\∀(i:Nat) y,d[i]? =some y->∃x,l[i]? =some x/\g x=some y
 |[],d,h=>by
  obtain rfl:=ZAg h<;>grind
 |x::l,d,h=>by
  let⟨y,p,h2⟩:=ZAG.1 h
  obtain⟨G,B,rfl⟩:=ZAH.1 h2
  let⟨C,D⟩:=iqZ B
  refine⟨by simp[C],λi E hi=> ?_⟩
  match i with
  |0=>simp at hi;subst hi;exact⟨x,rfl,p⟩
  |i+1=>exact D i E (by simpa using hi)
theorem nwZ{t}{g}(hg:∀{x} {y} {vs},g x=some y->Cl z.w z.M z.ρ t x vs->Cl z.w z.M z.ρ t.unref y vs){l}{j}{v}(h:cJ g l=some j)(hv:cU z.w z.M z.ρ (.sl t) l v):cU z.w z.M z.ρ (.sl t.unref) j v:=by
 obtain⟨A,c,rfl,L,h2,p,h4⟩:=hv.sl
 let⟨B,C⟩:=iqZ h
 refine .mkSc ⟨A,c,?_,?_,h2,p,λh0=> ?_⟩ rfl
 .simp_all
 .omega
 .rw[(B)] at h0
  let⟨b,off,p1,D,E,G⟩:=h4 h0
  refine⟨b,off,p1,D,E,λi e he=> ?_⟩
  let⟨x,hx,d⟩:=C i e he
  let⟨u,I,K⟩:=G i x hx
  exact⟨u,hg d I,by rw[a5Z];exact K⟩
theorem cU.unref{t}{x}{y}{v}(hv:cU z.w z.M z.ρ t x v)(h:∀vs,Cl z.w z.M z.ρ t x vs->Cl z.w z.M z.ρ t.unref y vs):cU z.w z.M z.ρ t.unref y v:=by
 let⟨vs,d,h2⟩:=hv
 exact⟨vs,h vs d,by simp_all[glZ]⟩
section
variable {β : Type}
theorem jVZ(D:bH z H){a}{K}{r:β}{v}(h:sK (AA H) a K=some r)(d:bE z a v):∃x,bE z x v/\K x=some r:=by
 unfold sK at h;split at h
 .rename_i t l;cases j:t.noRef<;>rw[j] at h<;>simp[bq_false] at h
  .let⟨E,B,h2⟩:=ZAG.1 h
   exact⟨_,.p _ _ _ (nwZ (λh C=>drZ D h C) B d.v),h2⟩
  .exact⟨_,d,h⟩
 .rename_i t x _;cases j:t.noRef<;>rw[j] at h<;>simp[bq_false] at h
  .let⟨y,B,h2⟩:=ZAG.1 h
   exact⟨_,.p _ _ _ (d.v.unref λvs C=>drZ D B C),h2⟩
  .exact⟨_,d,h⟩
 .exact⟨_,d,(aeZ.1 h).2⟩
 grind
theorem iiZ(j:bH z H):∀{l} {K} {r:β} {vs},qO (AA H) l K=some r->bQ z l vs->∃d,bQ z d vs/\K d=some r
 |[],K,r,vs,h,hv=>⟨[],hv,h⟩
 |a::l,K,r,[],h,hv=>by have:=hv.1;simp_all
 |a::l,K,r,v::vs,h,hv=>by
  let⟨x,p,h2⟩:=jVZ j h hv.head
  let⟨d,B,h4⟩:=iiZ j h2 hv.tail
  exact⟨x::d,.cons p B,h4⟩
theorem qgZ{a}{K}{r:β}{v}(h:FS a K=some r)(d:bE z a v):∃x,bE z x v/\K x=some r:=by
 unfold FS at h;split at h
 .rename_i t l;cases j:t.noRef<;>rw[j] at h<;>simp[bq_false] at h
  .let⟨D,B,h2⟩:=ZAG.1 h
   exact⟨_,.p _ _ _ (nwZ (λh C=>gNZ h C) B d.v),h2⟩
  .exact⟨_,d,h⟩
 .rename_i t x _;cases j:t.noRef<;>rw[j] at h<;>simp[bq_false] at h
  .let⟨y,B,h2⟩:=ZAG.1 h
   exact⟨_,.p _ _ _ (d.v.unref λvs C=>gNZ B C),h2⟩
  .exact⟨_,d,h⟩
 grind
theorem nvZ:∀{l} {K} {r:β} {vs},AH l K=some r->bQ z l vs->∃d,bQ z d vs/\K d=some r
 |[],K,r,vs,h,hv=>⟨[],hv,h⟩
 |a::l,K,r,[],h,hv=>by have:=hv.1;simp_all
 |a::l,K,r,v::vs,h,hv=>by
  let⟨x,j,h2⟩:=qgZ h hv.head
  let⟨d,p,h4⟩:=nvZ h2 hv.tail
  exact⟨x::d,.cons j p,h4⟩
theorem tCZ{l}{cs}(j:bE z (.agg l) (.agg cs)){z'}{d}(h:bQ z' d cs.toList):bE z' (.agg d) (.agg cs):=by
 cases j with|agg _ _ B p h2=>
 exact .agg _ _ (by have:=h.1;simp_all) p λi x v p1 C=>h.2 i x v p1 (by simp_all)
theorem sIZ{a}{K}{r:β}{v}(h:xY a K=some r)(d:bE z a v):∃x,bE z x v/\K x=some r:=by
 unfold xY at h;split at h
 .cases hv:v<;>rw[hv] at d<;>first|(cases d;done)|skip
  let⟨p,j,h2⟩:=nvZ h d.reps
  exact⟨_,tCZ d j,h2⟩
 grind[qgZ]
theorem pkZ{a}{K}{r:β}{v}(p:bH z H)(h:oE H a K=some r)(d:bE z a v):∃x H' z',z'.w=z.w/\bH z' H'/\Nx z z'/\z'.ρ=z.ρ/\bE z' x v/\K x H'=some r:=by
 let⟨z',E,j,B,G⟩:=ulZ p
 have C:=B.kp p.sub;unfold oE at h;split at h
 .rename_i l;cases hb:BF l<;>rw[hb] at h<;>simp[bq_false] at h
  .grind[Nx.refl]
  .cases hv:v<;>rw[hv] at d<;>first|(cases d;done)|skip;rename_i cs
   let⟨I,D,h2⟩:=iiZ j h (d.reps.kp C)
   exact⟨_,_,z',E,j,B,G,tCZ d D,h2⟩
 .cases hb:a.anyRef<;>rw[hb] at h<;>simp[bq_false] at h
  .grind[Nx.refl]
  .let⟨x,D,h2⟩:=jVZ j h (d.kp C)<;>grind
theorem fEZ{a d}{H'}{v}(j:bH z H)(h:wC H a=some (d,H'))(p:bE z a v):
 ∃z',z'.w=z.w/\bH z' H'/\Nx z z'/\z'.ρ=z.ρ/\bE z' d v:=by
 let⟨⟨x,H1⟩,B,h2⟩:=agZ.1 h
 let⟨U,p1,C,D,E,G⟩:=bUZ j B p
 let⟨y,H2,I,K,L,N,O,R,T⟩:=pkZ C h2 G
 obtain⟨rfl,rfl⟩:=Prod.mk.inj (ZAg T);exact⟨I,K.trans p1,L,D.trans N,O.trans E,R⟩
end
end
section
variable {P : Program} {z : Z} {H : Hp} {β : Type}
theorem aQZ(H):∀(K) (id),bF (gK H K) id=if bM K id then bF K id else bF H id
 |[],id=>by simp[gK,bM]
 |(i,e)::K,id=>by
  simp only[gK,apZ,bM,bF];by_cases h:id=i
  .subst h;simp
  .simp[ahZ (ZBk h),h,aQZ H K id]
theorem aJZ(H):∀(K) (id),bM (gK H K) id=(bM K id||bM H id)
 |[],id=>by simp[gK,bM]
 |(i,e)::K,id=>by
  simp[gK,atZ,bM];by_cases h:id=i
  .subst h;simp
  .simp[ahZ (ZBk h),h,aJZ H K id]
theorem bdZ:∀(l) (H) (id),bF (gH H l) id=if cH id l then none else bF H id
 |[],H,id=>by simp[gH,cH]
 |i::l,H,id=>by
  rw[gH,bdZ l,apZ];simp only[cH];by_cases h:id=i
  .subst h;simp
  .simp[ahZ (ZBk h),h]
theorem aOZ:∀(l) (H) (id),bM (gH H l) id=(cH id l||bM H id)
 |[],H,id=>by simp[gH,cH]
 |i::l,H,id=>by
  rw[gH,aOZ l,atZ];simp[cH];by_cases h:id=i
  .subst h;simp
  .simp[ahZ (ZBk h),h]
theorem bVZ(H):∀(l) (id),bF (sQ H l) id=(if cH id l then bF H id else none)/\bM (sQ H l) id=(cH id l&&bM H id)
 |[],id=>by grind[sQ,cH,bF,bM]
 |i::l,id=>by
  let⟨d,h2⟩:=bVZ H l id
  simp[sQ,cH];cases hk:bM H i
  .simp;rw[d,h2];by_cases h:i=id
   .subst h;simp only[hk,Bool.and_false,ZBl];rw[awZ hk];split<;>rfl
   grind[ahZ]
  .simp[bF,bM]
   grind[afZ,ahZ]
theorem eLZ:∀{H} {id},bM H id=true↔id∈nF H
 |[],id=>by simp[bM,nF]
 |(i,e)::H,id=>by
  simp[bM,nF];by_cases h:i=id
  .subst h;simp
  simp_all[eLZ,ZBk]
theorem ePZ{id}:∀{l},id∈FZ l↔id∈l
 |[]=>by simp[FZ]
 |i::l=>by
  simp[FZ];cases hm:cH i l
  .simp[ePZ]
  .simp only[bq_true,ePZ];exact⟨.inr,λh=>h.elim (λe=>e▸ajZ.1 hm) λh=>h⟩
theorem mbZ:∀{l r},eqN l r=true↔l=r
 |[],[]=>by simp[eqN]
 |[],_::_=>by simp[eqN]
 |_::_,[]=>by simp[eqN]
 |i::l,k::r=>by simp[eqN,mbZ]
theorem bE.less{z'}{a}{v}(h:bE z a v)(d:z'.w=z.w)(j:z'.ρ=z.ρ)(p:∀g,z'.M g->z.M g):bE z' a v:=
 h.kp ⟨by simp_all,λ_ _ _=>by rw[d],λg hg=>.inl (p g hg),λ_ _=>by rw[j]⟩
theorem bQ.less{z'}{l}{vs}(h:bQ z l vs)(d:z'.w=z.w)(j:z'.ρ=z.ρ)(p:∀g,z'.M g->z.M g):bQ z' l vs:=
 ⟨h.1,λi a v B h2=>(h.2 i a v B h2).less d j p⟩
theorem qqZ{α}(f)(ms)(l)(y:List α×List (Nat×List α)):wD f ms (.inl l)≠some y:=by
 unfold wD;cases nro f<;>exact λh=>by cases h
theorem pXZ{α}{f}{j d}{l:List α}(h:wD f j (.inr none)=some (l,d)):[]=l/\j=d:=by
 unfold wD at h;cases p:nro f<;>rw[p] at h
 .cases h
 .exact Prod.mk.inj (ZAg h)
theorem rXZ{α}{f k off n}{j d}{B:List α}(h:wD f j (.inr (some (k,off,n)))=some (B,d)):
 ∃l,j[k]? =some (1,l)/\0=off/\n<=l.length/\l.take n=B/\d.length=j.length/\∀k' p,d[k']? =some p->p.1≠0->j[k']? =some p/\k'≠k/\nro f=true:=by
 unfold wD at h;cases C:nro f<;>rw[C] at h
 .obtain⟨⟨st,l⟩,D,h4⟩:=ZAG.1 ((h));obtain⟨h5,E⟩:=aeZ.1 h4;simp only[ZAF,afZ,ZAm] at h5
  grind
 .obtain⟨⟨st,l⟩,D,h4⟩:=ZAG.1 ((h));obtain⟨h5,E⟩:=aeZ.1 h4;simp only[ZAF,afZ,ZAm] at h5
  grind
theorem qVZ{m}{a a'}{H'}{v}(B:bH z H)(ac:m<4\/¬z.D (m+100000))(h:FY P H m a=some (a',H'))(N:bE z a v):
 ∃d Mf,d.w=z.w/\bH d H'/\Nx z d/\(∀g,Mf g->d.M g)/\bE {d with M:=Mf} a' v/\(m≠2->Mf=d.M):=by
 unfold FY at h;split at h
 .simp only[ZAW,ZA1] at h;obtain⟨rfl,rfl⟩:=h;exact⟨z,z.M,rfl,B,Nx.refl z,λ_ h=>h,N,λ_=>rfl⟩
 .obtain⟨z',O,R,q3,q4,q5⟩:=fEZ B h N;exact⟨z',z'.M,O,R,q3,λ_ h=>h,q5,λ_=>rfl⟩
 .obtain⟨⟨x,H1⟩,C,h2⟩:=ZAH.1 h;simp only[ZA1] at h2;obtain⟨rfl,rfl⟩:=h2;obtain⟨z',O,R,q3,q4,q5⟩:=fEZ B C N;refine⟨z,λg=>z.M g/\z'.M g,rfl,B,Nx.refl z,λ_ h=>h.1,?_,λh=>absurd rfl h⟩;exact q5.less O.symm q4.symm λg h=>h.2
 .obtain⟨x,C,h2⟩:=sIZ h N;obtain⟨rfl,rfl⟩:=Prod.mk.inj (ZAg h2);exact⟨z,z.M,rfl,B,Nx.refl z,λ_ h=>h,C,λ_=>rfl⟩
 .rename_i m' h0 C h2 ai;have T:=by
   refine ac.resolve_left λhm=> ?_;have:m=0\/m=1\/m=2\/m=3:=by omega
   rcases this with rfl|rfl|rfl|rfl
   .simp_all
   .simp_all
   .simp_all
   .simp_all
  clear h0 C h2 ai ac;split at h
  .rename_i f s x;split at h
   .rename_i e s' ms hg;rcases aRZ h with⟨hs,hh⟩|hh
    .clear h;subst hs;obtain⟨hb,h⟩:=aeZ.1 hh;simp only[ZAF,afZ,ZBg,ZAl] at hb;obtain⟨⟨rfl,hk⟩,p⟩:=hb;obtain⟨⟨l',ad⟩,C,h2⟩:=ZAG.1 h;obtain⟨rfl,rfl⟩:=Prod.mk.inj (ZAg h2);have ae:=B.fam _ _ hg;have U:=T;have aj:bZ f≠m+100000:=by have:=(bTZ f).1;omega
     clear h2 hh h;have hv:=N.v.scal rfl rfl
     match x,C,hv with
     |.inl l,C,hv=>exact absurd C (qqZ f ms l _)
     |.inr none,C,hv=>
      obtain⟨rfl,rfl⟩:=pXZ C;have hv:[v]=[Value.slice none 0 0]:=hv;simp only[ZBV,ZBl] at hv;subst hv;have V:bH z (bR H (bZ f) (some ⟨false,.fam ((m-10)%5000) s' ms⟩)):=by
       refine B.same (λid=> ?_) λid=> ?_
       .rw[apZ];by_cases hi:id=bZ f
        .rw[ZAL hi,hi];exact hg.symm
        .rw[ZAJ hi]
       .rw[atZ];by_cases hi:id=bZ f
        .rw[hi,aiZ hg];simp
        .simp[hi]
      obtain⟨d,p1,E,G,I⟩:=V.newV ⟨by rw[atZ,hk];simp[ZBk aj],p⟩ U (b:=.rows ((m-10)%5000) s' []) ⟨rfl,ae.2.2.2.1⟩;exact⟨d,d.M,p1,E,G,λ_ h=>h,.slfV _ _ _ I,λ_=>rfl⟩
     |.inr (some (k,off,n)),C,hv=>
      obtain⟨l,h3,rfl,hn,rfl,af,W⟩:=rXZ C;have X:=hbZ hg h3 (by simp);obtain⟨ag,hX,ak⟩:=B.cut hg af λk' m' O R=>(W k' m' O R).1;have al:∀i e,bP (bR H (bZ f) (some ⟨false,.fam ((m-10)%5000) s' ad⟩)) i=some e->bP H i=some e/\i≠enc f k/\¬(Ro i/\Ro (enc f k)):=λi e h=>by
       obtain⟨O,R⟩:=hX i e h;refine⟨O,λhi=> ?_,λhr=> ?_⟩
       .obtain⟨m',r1,r2⟩:=R k hi;exact(W k m' r1 r2).2.1 rfl
       .obtain⟨k',L⟩:=iWZ hr.1.1 (by rw[hr.1.rt,bZ,r5Z.1 hr.2]);obtain⟨m',r1,r2⟩:=R k' L;exact mjZ (W _ _ r1 r2).2.2 hr.2
      have ah:bM (bR H (bZ f) (some ⟨false,.fam ((m-10)%5000) s' ad⟩)) (m+100000)=false:=by rw[ak];exact hk
      rcases hv with⟨A,j,rfl,hv⟩|⟨g,Y,m',c,j,h7,h8,h9,hv⟩
      .simp only[ZBV,ZBl] at hv;subst hv;have hE:=B.ent _ _ X;unfold fC at hE;rw[j] at hE;obtain⟨d,p1,E,G,I⟩:=ag.newV ⟨ah,p⟩ U (b:=.rows ((m-10)%5000) s' (l.take 0)) ⟨by simp,ae.2.2.2.1⟩;exact⟨d,d.M,p1,E,G,λ_ h=>h,.slfV _ _ _ I,λ_=>rfl⟩
      .simp only[ZBV,ZBl] at hv;subst hv;obtain⟨d,p1,E,G,I⟩:=B.moveX (n':=n) (b:=.rows ((m-10)%5000) s' (l.take n)) X j ag al ⟨ah,p⟩ U rfl ⟨rfl,ZAN _⟩ rfl rfl (λ_ _=>rfl) (λd hw kp=>by
        have hB:=(B.realX X j).2.2.2;obtain⟨cs,fr,a1,a2,a3,a4,a5,a6,a7⟩:=hB.kp kp (by rw[hw]);refine⟨cs,fr,a1,a2,a3,by rw[ZAQ];omega,?_,a6,λi x hx=> ?_⟩
        .rw[ZAQ];exact ZBC (ZAe _ (Nat.min_le_right _ _)) a5
        .rw[ZAn] at hx;split at hx
         .exact a7 i x hx
         .cases hx)
       refine⟨d,d.M,p1,E,G,λ_ h=>h,?_,λ_=>rfl⟩;rw[ZBq];exact .slf _ _ _ _ _ _ I h7 (by rw[ZAz] at h8;exact h8) h9
    .cases hh
   grind
  .obtain⟨u,h3,h4⟩:=agZ.1 h;cases hk:(bM H (m+100000)||Nat.ble bA (m+100000))<;>rw[hk] at h4<;>simp only[bq_true,bq_false] at h4
   .simp only[ZAW,ZA1] at h4;obtain⟨rfl,rfl⟩:=h4;simp only[ZBY] at hk;have p:m+100000<bA:=ZBR.1 λh=>by rw[ZAi h] at hk;cases hk.2
    obtain⟨d,p1,E,G,I⟩:=B.newV ⟨hk.1,p⟩ (T) (b:=.rows ((m-10)%5000) u []) ⟨rfl,(cTZ h3).2.1⟩;obtain rfl:=N.v.opq.1;exact⟨d,d.M,p1,E,G,λ_ h=>h,.slfV _ _ _ I,λ_=>rfl⟩
   simp_all
  .rename_i es K n;split at h
   .rename_i e t l hg;cases hb:(Nat.beq es t.cells&& !bM H (m+100000)&&Nat.blt (m+100000) bA&&Nat.ble n l.length)<;>rw[hb] at h<;>simp only[bq_true,bq_false] at h
    .cases h
    simp only[ZAF,afZ,ZAm,ZBg,ZAl] at hb;obtain⟨⟨⟨rfl,hk⟩,p⟩,hn⟩:=hb;simp only[ZAW,ZA1] at h;obtain⟨rfl,rfl⟩:=h;have L:bM (bR H K none) (m+100000)=false:=by
     rw[atZ,hk];have:m+100000≠K:=λh=>by simp_all[aiZ]
     simp[this]
    have U:=T;have aa:z.ρ K= .virt->∃d,d.w=z.w/\bH d (bR (bR H K none) (m+100000) (some ⟨false,.rows e t (l.take n)⟩))/\Nx z d/\d.ρ (m+100000)= .virt:=λj=>by
     obtain⟨rfl,hc⟩:=B.virt hg j;exact(B.kill (aiZ hg)).newV ⟨L,p⟩ U ⟨by simp,hc⟩
    have ab:∀g Y k,z.ρ K= .real g Y k->∃d,d.w=z.w/\bH d (bR (bR H K none) (m+100000) (some ⟨false,.rows e t (l.take n)⟩))/\Nx z d/\d.ρ (m+100000)= .real g Y n:=λg Y k j=>by
     refine B.move (w':=z.w) hg j ⟨L,p⟩ U rfl ⟨rfl,ZAN _⟩ rfl rfl (λ_ _=>rfl) λd hw kp=> ?_;have hB:=(B.real hg j).2.2.2;obtain⟨cs,fr,a1,a2,a3,a4,a5,a6,a7⟩:=hB.kp kp (by rw[hw]);refine⟨cs,fr,a1,a2,a3,by rw[ZAQ];omega,?_,a6,λi x hx=> ?_⟩
     .rw[ZAQ];exact ZBC (ZAe _ (Nat.min_le_right _ _)) a5
     grind
    cases N with
    |slV _ _ _ A j=>
     obtain⟨d,p1,E,G,I⟩:=aa j;exact⟨d,d.M,p1,E,G,λ_ h=>h,.slfV _ _ _ I,λ_=>rfl⟩
    |slE _ _ _ g Y k o j=>
     obtain⟨_,_,_,cs,fr,a1,a2,a3,a4,a5,a6,a7⟩:=B.real hg j;obtain⟨d,p1,E,G,I⟩:=(B.kill (aiZ hg)).newV ⟨L,p⟩ U (b:=.rows e t (l.take 0)) ⟨by simp,a6⟩;exact⟨d,d.M,p1,E,G,λ_ h=>h,.slfV _ _ _ I,λ_=>rfl⟩
    |sl _ _ _ _ g Y k c j am hs hm=>
     obtain⟨d,p1,E,G,I⟩:=ab g Y k j;refine⟨d,d.M,p1,E,G,λ_ h=>h,?_,λ_=>rfl⟩;rw[ZBq];exact .slf _ _ _ _ _ _ I am (by simp_all) hm
   .simp only[ZAW,ZA1] at h;obtain⟨rfl,rfl⟩:=h;exact⟨z,z.M,rfl,B,Nx.refl z,λ_ h=>h,N,λ_=>rfl⟩
  .simp only[ZAW,ZA1] at h;obtain⟨rfl,rfl⟩:=h;exact⟨z,z.M,rfl,B,Nx.refl z,λ_ h=>h,N,λ_=>rfl⟩
theorem iGZ:∀{as} {ms} {as'} {z} {H H'} {vs},bH z H->(∀m∈ms,m<4\/¬z.D (m+100000))->AI P H ms as=some (as',H')->bQ z as vs->
 ∃z1 Mf,z1.w=z.w/\bH z1 H'/\Nx z z1/\(∀g,Mf g->z1.M g)/\bQ {z1 with M:=Mf} as' vs/\(cH 2 ms=false->Mf=z1.M)
 |[],ms,as',z,H,H',vs,hH,hmd,h,hr=>by
  obtain⟨rfl,rfl⟩:=h;exact⟨z,z.M,rfl,hH,Nx.refl z,fun _ h=>h,hr,fun _=>rfl⟩
 |a::as,ms,as',z,H,H',vs,hH,hmd,h,hr=>by
  let⟨⟨x,H1⟩,h1,h2⟩:=agZ.1 h
  let⟨⟨y,H2⟩,h3,h4⟩:=ZAH.1 h2
  simp at h4;obtain⟨rfl,rfl⟩:=h4
  match vs,hr with
  |[],hr=>have:=hr.1;simp_all
  |v::vs,hr=>
   have e1:ms.headD 0<4\/¬z.D (ms.headD 0+100000):=by cases ms with|nil=>exact .inl (by simp)|cons m ms=>exact hmd m (by simp)
   let⟨z1,Mf,q1,q2,q3,q4,q5,q6⟩:=qVZ hH e1 h1 hr.head
   have e2:∀m∈ms.tail,m<4\/¬z1.D (m+100000):=fun m hm=>(hmd m (List.mem_of_mem_tail hm)).imp_right fun h=>by rw[q3.dom];exact h
   let⟨z2,Mg,p1,p2,p3,p4,p5,p6⟩:=iGZ q2 e2 h3 (hr.tail.kp (q3.kp hH.sub))
   have k:=p3.kp q2.sub;refine⟨z2,fun g=>Mg g/\(Mf g\/z1.w.heap.size<=g),p1.trans q1,p2,q3.trans p3,fun g h=>p4 g h.1,.cons ?_ (p5.less rfl rfl fun g h=>h.1),fun hm=> ?_⟩
   ·have kk:Kp {z1 with M:=Mf} {z2 with M:=fun g=>Mg g/\(Mf g\/z1.w.heap.size<=g)}:=⟨k.size,fun b _ _=>by show z2.w.heap[b]? =z1.w.heap[b]?;rw[p1],fun g h=>h.2,k.ext⟩;exact q5.kp kk
   ·have m1:ms.headD 0≠2/\cH 2 ms.tail=false:=by
     cases ms with
     |nil=>exact⟨by simp,rfl⟩
     |cons m ms=>
      simp[cH] at hm;cases hb:Nat.beq m 2<;>rw[hb] at hm<;>simp at hm;exact⟨fun h=>by simp at h;rw[h] at hb;simp at hb,hm⟩
    have a1:=q6 m1.1;have a2:=p6 m1.2;subst a1;subst a2;funext g;refine propext ⟨fun h=>h.1,fun h=>⟨h,?_⟩⟩;exact k.subM g h
end
section
variable {P : Program} {z : Z} {H : Hp} {β : Type}
theorem Cl.scal{w w'}{M M'}{ρ j}:{t:Ty}->{x:t.den}->{vs:List Value}->t.scal=true->Cl w M ρ t x vs->Cl w' M' j t x vs
 |.int _,_,_,_,h|.byte,_,_,_,h|.bool,_,_,_,h|.str,_,_,_,h=>h
 |.nat,_,_,_,h=>h.elim
 |.opq,_,_,d,_=>by cases d
 |.sl _,_,_,d,_=>by cases d
 |.ref _ _,_,_,d,_=>by cases d
 |.one t,_,_,d,h=>Cl.scal (t:=t) d h
 |.pair a b,_,_,d,h=>by
  obtain⟨u,v,rfl,p,h2⟩:=h;simp[Ty.scal] at d;exact⟨u,v,rfl,Cl.scal d.1 p,Cl.scal d.2 h2⟩
 |.arr n t,l,_,d,h=>by
  obtain⟨B,css,p,rfl,h2⟩:=h;exact⟨B,css,p,rfl,λi e u he C=>Cl.scal d (h2 i e u he C)⟩
mutual
theorem qCZ:(k:Kd)->{r:List Ty}->iF (k.lv r)=true->iF r=true
 |.p _,r,h|.pt _,r,h|.ownx _ _ _,r,h=>by simp only[Kd.lv,iF,ZAF] at h;exact h.2
 |.sl _ _,r,h=>by simp only[Kd.lv,iF,ZAF] at h;exact h.2.2
 |.own _ _ _ _,r,h|.slf _ _,r,h|.mp _,r,h|.any,r,h|.nilp _,r,h=>h
 |.fn _ a c,r,h=>d6Z c (d6Z a h)
 |.agg l,r,h=>d6Z l h
 |.tup l,r,h=>d6Z l h
theorem d6Z:(k:KdL)->{r:List Ty}->iF (k.lv r)=true->iF r=true
 |.nil,r,h=>h
 |.cons k l,r,h=>d6Z l (qCZ k h)
end
mutual
theorem mDZ{fs:List Nat}:(k:Kd)->{r:List Ty}->cZ fs (k.lv r)=true->cZ fs r=true
 |.p _,r,h|.pt _,r,h|.ownx _ _ _,r,h=>by simp only[Kd.lv,cZ,ZAF] at h;exact h.2
 |.sl _ _,r,h=>by simp only[Kd.lv,cZ,ZAF] at h;exact h.2.2
 |.own _ _ _ _,r,h|.slf _ _,r,h|.mp _,r,h|.any,r,h|.nilp _,r,h=>h
 |.fn _ a c,r,h=>bNZ c (bNZ a h)
 |.agg l,r,h=>bNZ l h
 |.tup l,r,h=>bNZ l h
theorem bNZ{fs:List Nat}:(k:KdL)->{r:List Ty}->cZ fs (k.lv r)=true->cZ fs r=true
 |.nil,r,h=>h
 |.cons k l,r,h=>bNZ l (mDZ k h)
end
mutual
theorem qrZ{fs:List Nat}:(k:Kd)->{r:List Ty}->(y:HL (k.lv r))->cZ fs (k.lv r)=true->(emb k r y).1.famInT fs=true
 |.p t,r,y,h|.pt t,r,y,h=>by
  simp only[Kd.lv,cZ,ZAF] at h;exact h.1
 |.own _ _ _ _,r,y,h|.ownx _ _ _,r,y,h|.sl _ _,r,y,h|.slf _ _,r,y,h|.mp _,r,y,h|.any,r,y,h|.nilp _,r,y,h=>rfl
 |.fn g a c,r,y,h=>by
  simp only[emb,AV.famInT,ZAF];exact⟨buZ a (r:=c.lv r) y h,buZ c (r:=r) _ (bNZ a h)⟩
 |.agg l,r,y,h=>buZ l (r:=r) y h
 |.tup l,r,y,h=>buZ l (r:=r) y h
theorem buZ{fs:List Nat}:(k:KdL)->{r:List Ty}->(y:HL (k.lv r))->cZ fs (k.lv r)=true->AV.famInTL fs (embL k r y).1=true
 |.nil,r,y,h=>rfl
 |.cons k l,r,y,h=>by
  simp only[embL,AV.famInTL,ZAF];exact⟨qrZ k (r:=l.lv r) y h,buZ l (r:=r) _ (mDZ k h)⟩
end
theorem hUZ{fs}:(d:HK)->{r:List Ty}->(y:HL (fP d r))->cZ fs (fP d r)=true->∀id e,bF (kY d r y).1 id=some e->e.b.famInT fs=true
 |[],r,y,h,id,e,he=>by simp_all[kY,bF]
 |(j,fz,k)::d,r,y,h,id,e,he=>by
  have hb:(mD k (fP d r) y).1.famInT fs=true/\cZ fs (fP d r)=true:=by
   cases k with
   |vars l=>exact⟨buZ l y h,bNZ l h⟩
   |rows e t=>
    simp[fP,BKd.lv,cZ,Ty.famIn] at h;exact⟨h.1,h.2⟩
   |map B C=>
    simp only[fP,BKd.lv,cZ,ZAF,Ty.famIn] at h;exact⟨by simp[mD,Blk.famInT];exact⟨h.1.1.1.1,h.1.1.1.2⟩,h.2⟩
   |fam e s=>
    simp only[fP,BKd.lv,cZ,ZAF,Ty.famIn] at h;exact⟨by simp[Blk.famInT];exact h.1.2,h.2⟩
  simp[kY,bF] at he;cases p:Nat.beq j id<;>rw[p] at he<;>simp[ZAD] at he
  .exact hUZ d _ hb.2 id e he
  grind
variable {z' : Z} {f : Nat → Option Nat}
mutual
theorem sDZ(C:∀id,f id=none):(k:Kd)->{r:List Ty}->{y:HL (k.lv r)}->{v:Value}->iF (k.lv r)=true->bE z (emb k r y).1 v->bE z' (AV.ren f (emb k r y).1) v
 |.p t,r,y,v,d,h=>by
  simp only[Kd.lv,iF,ZAF] at d;obtain⟨vs,G,h2⟩:=h.v;exact .p _ _ _ ⟨vs,Cl.scal d.1 G,h2⟩
 |.pt t,r,y,v,d,h=>by simp[Kd.lv,iF,Ty.scal] at d
 |.own _ _ _ _,r,y,v,d,h|.ownx _ _ _,r,y,v,d,h|.sl _ _,r,y,v,d,h|.slf _ _,r,y,v,d,h|.mp _,r,y,v,d,h=>by
  simp only[emb,AV.ren,C];exact .junk v
 |.any,r,y,v,d,h=>.junk v
 |.fn g a c,r,y,v,d,h=>by
  simp only[emb,AV.ren];simp only[emb] at h;cases h with|fn _ _ _ L N D I E O=>
  have p1:=c8Z C a (r:=c.lv r) (y:=y) (vs:=L.toList) d ⟨by simp[D],λi x v j B=>E i x v j (by simpa using B)⟩;have K:=c8Z C c (r:=r) (y:=(embL a (c.lv r) y).2) (vs:=N.toList) (d6Z a d) ⟨by simp[I],λi x v j B=>O i x v j (by simpa using B)⟩;exact .fn _ _ _ _ _ (by have:=p1.1;simpa using this.symm) (by have:=K.1;simpa using this.symm) (λi x v j B=>p1.2 i x v j (by simpa using B)) (λi x v j B=>K.2 i x v j (by simpa using B))
 |.agg l,r,y,v,d,h=>by
  simp only[emb,AV.ren];simp only[emb] at h;cases h with|agg _ cs D I E=>
  have p1:=c8Z C l (r:=r) (y:=y) (vs:=cs.toList) d ⟨by simp[D],λi x v j B=>E i x v j (by simpa using B)⟩;exact .agg _ _ (by have:=p1.1;simpa using this.symm) I λi x v j B=>p1.2 i x v j (by simpa using B)
 |.tup l,r,y,v,d,h=>by
  simp only[emb,AV.ren];simp only[emb] at h;cases h with|tup _ cs D E=>
  have p1:=c8Z C l (r:=r) (y:=y) (vs:=cs.toList) d ⟨by simp[D],λi x v j B=>E i x v j (by simpa using B)⟩;exact .tup _ _ (by have:=p1.1;simpa using this.symm) λi x v j B=>p1.2 i x v j (by simpa using B)
 |.nilp u,r,y,v,d,h=>by
  obtain⟨vs,G,h2⟩:=h.v;exact .p _ _ _ ⟨vs,G,h2⟩
theorem c8Z(j:∀id,f id=none):(k:KdL)->{r:List Ty}->{y:HL (k.lv r)}->{vs:List Value}->iF (k.lv r)=true->bQ z (embL k r y).1 vs->bQ z' (AV.renL f (embL k r y).1) vs
 |.nil,r,y,vs,d,h=>⟨h.1,λi a v p h2=>by simp[embL,AV.renL] at p⟩
 |.cons k l,r,y,[],d,h=>by have:=h.1;simp[embL] at this
 |.cons k l,r,y,v::vs,d,h=>by
  simp only[embL] at h;simp only[embL,AV.renL];exact .cons (sDZ j k d h.head) (c8Z j l (qCZ k d) h.tail)
end
theorem sWZ(l):AV.ren f (nL l)=nL (AV.renL f l):=by
 match l with
 |[]=>simp[nL,AV.ren,AV.renL]
 |[a]=>simp[nL,AV.renL]
 |a::b::l=>simp[nL,AV.ren,AV.renL]
theorem q3Z{l}{v}(h:bE z (nL l) v):∃vs,bQ z l vs/\∀{z'} {j},bQ z' j vs->j.length=l.length->bE z' (nL j) v:=by
 match l with
 |[a]=>exact⟨[v],.cons h .nil,λ{z' j} p B=>by
    match j,B with
    |[b],_=>exact p.head⟩
 |[]=>
  obtain⟨vs,rfl,E,h2⟩:=iYZ rfl h;refine⟨vs.toList,⟨by grind,λi a v h=>by grind⟩,λ{z' j} p B=> ?_⟩
  match j,B with
  |[],_=>exact .tup _ _ (by omega) λi x v C D=>p.2 i x v C (by simp_all)
 |a::b::l=>
  obtain⟨vs,rfl,E,h2⟩:=iYZ rfl h;refine⟨vs.toList,⟨by grind,λi a v C D=>h2 i a v C (by simp_all)⟩,λ{z' j} p B=> ?_⟩
  match j,B with
  |c::d::j,_=>exact .tup _ _ (by omega) λi x v C D=>p.2 i x v C (by simp_all)
def vQ(P:Program)(f:FuncId):Prop:=∃fn c,P.funcs[f]? =some fn/\fn.body=some c/\(fn.name== "runtime.NumGoroutine")=false
def vR(P:Program)(f:FuncId)(d:Array Value)(w:World)(R:Ending->World->Prop):Prop:=
 (vQ P f/\Calls P f d w R)\/∃v w',(callFunc f d).run P w= .ok (.value v) w'/\R (.returned v) w'
theorem vR.mono{P}{f}{d}{w}{R R'}(h:vR P f d w R)(p:∀e w',R e w'->R' e w'):vR P f d w R':=by
 rcases h with⟨j,h2⟩|⟨v,w',j,h2⟩
 .exact .inl ⟨j,h2.mono p⟩
 .exact .inr ⟨v,w',j,p _ _ h2⟩
theorem vR.calls{P}{f}{d}{w}{R}(h:vR P f d w R)(hb:vQ P f):Calls P f d w R:=by
 rcases h with⟨_,h⟩|⟨v,w',h,_⟩
 .exact h
 .let⟨fn,c,j,h2,p⟩:=hb
  unfold callFunc at h
  simp_all
structure fF (P:Program) (e:FnT):Prop where
 spec:∀t r,e.spec t=some r->∀(z:Z) (vals:List Value),bH z (e.i.emb t).2->bQ z (e.i.emb t).1 vals->(∀id,¬z.D id)->
  vR P e.f vals.toArray z.w fun en w'=>∃v z',en= .returned v/\z'.w=w'/\Nx z {z' with D:=z.D}/\(∀k,z'.D k->k∈bI e.i.hs)/\dW.on e.os r fun o x=>bH z' (o.emb x).2/\bE z' (nL (o.emb x).1) v
theorem fF.of{P}{e}(j:vQ P e.f)(d:∀t r,e.spec t=some r->∀(z) (vals),bH z (e.i.emb t).2->bQ z (e.i.emb t).1 vals->(∀id,¬z.D id)->
 Calls P e.f vals.toArray z.w λp w'=>∃v z',p= .returned v/\z'.w=w'/\Nx z {z' with D:=z.D}/\(∀k,z'.D k->k∈bI e.i.hs)/\dW.on e.os r λo x=>bH z' (o.emb x).2/\bE z' (nL (o.emb x).1) v):fF P e:=
 ⟨λt r h z vals B h2 C=>.inl ⟨j,d t r h z vals B h2 C⟩⟩
theorem dW.on_both:∀{l} {x} {K} {Q} {d:β},dW.on l x K=some d->dW.on l x Q->∃o y,o∈l/\K o y=some d/\Q o y
 |[],x,_,_,_,_,_=>Empty.elim x
 |[s],x,K,Q,d,h,j=>⟨s,x,by simp,h,j⟩
 |s::t::r,.inl y,K,Q,d,h,j=>⟨s,y,by simp,h,j⟩
 |s::t::r,.inr y,K,Q,d,h,j=>by
  let⟨o,x,p,h2,B⟩:=dW.on_both (x:=y) h j
  exact⟨o,x,ZAc _ p,h2,B⟩
theorem bGZ{H}{f}:∀{d},(kI d).Nodup->∀k,bF (iU H f d) k=(gZ d k).bind (λid=>(bF H id).map (Ent.ren f))/\(bM (iU H f d) k=true↔∃id e,gZ d k=some id/\bF H id=some e)
 |[],_,k=>⟨rfl,by simp[iU,bM,gZ]⟩
 |(i,j)::d,h,k=>by
  simp[kI] at h;obtain⟨D,E⟩:=bGZ h.2 k;have C:j=k->gZ d k=none:=λp=>by
   cases hk:gZ d k with
   |none=>rfl
   |some id=>exact absurd (dAZ (aLZ hk)) (p▸h.1)
  cases hg:bF H i with
  |none=>
   simp only[iU,hg,gZ];by_cases p:j=k
   .rw[(afZ j k).2 p,ZAM];rw[C p] at D E;refine⟨by rw[D];simp[hg],⟨λh=> ?_,λ⟨id,e,B,h2⟩=> ?_⟩⟩
    .let⟨id,e,B,_⟩:=E.1 h;cases B
    .simp at B;subst B;rw[hg] at h2;cases h2
   simp_all[ahZ]
  |some e=>
   simp only[iU,hg,gZ,bF,bM]
   grind
theorem mEZ:∀{a b},b.length<=a.length->kI (lH a b)=b/\∀i k,(i,k)∈lH a b->i∈a
 |[],[],_=>⟨rfl,λi k h=>by cases h⟩
 |[],_::_,h=>by grind
 |_::_,[],_=>⟨rfl,λi k h=>by cases h⟩
 |x::a,y::b,h=>by
  obtain⟨d,j⟩:=mEZ (by simpa using h);refine⟨by simp[lH,kI,d],λi k hm=> ?_⟩;simp[lH,ZA1] at hm;rcases hm with⟨rfl,_⟩|hm
  .simp
  .exact ZAc _ (j i k hm)
theorem hFZ:∀(n k),(oC k n).length=n
 |0,k=>rfl
 |n+1,k=>by simp[oC,hFZ n]
theorem jAZ:∀{a b} {i k},(i,k)∈lH a b->∃n:Nat,a[n]? =some i/\b[n]? =some k
 |[],_,i,k,h=>by cases h
 |_::_,[],i,k,h=>by cases h
 |x::a,y::b,i,k,h=>by
  simp[lH,ZA1] at h;rcases h with⟨rfl,rfl⟩|h
  .exact⟨0,rfl,rfl⟩
  .let⟨n,d,h2⟩:=jAZ h
   exact⟨n+1,d,h2⟩
theorem l9Z:∀{a b} {n i k:Nat},a[n]? =some i->b[n]? =some k->(i,k)∈lH a b
 |[],_,n,i,k,h,_=>by grind
 |_::_,[],n,i,k,_,h=>by grind
 |x::a,y::b,0,i,k,d,h2=>by simp_all[lH]
 |x::a,y::b,n+1,i,k,d,h2=>by
  simp[lH];exact .inr (l9Z (by simpa using d) (by simpa using h2))
theorem lcZ:∀{n k m},m<n->(oC k n)[m]? =some (k+m)
 |0,k,m,h=>by omega
 |n+1,k,0,h=>rfl
 |n+1,k,m+1,h=>by
  simp[oC];rw[lcZ (by omega)];congr 1;omega
theorem nNZ{n k m i}(h:(oC k n)[m]? =some i):i=k+m/\m<n:=by
 grind[ZAC,hFZ,lcZ,ZAg]
end
section
variable {P : Program} {z : Z} {H : Hp} {β : Type}
theorem fsZ{H}:∀{l},uB H l=true->∀id∈l,bM H id=false
 |[],_,id,h=>by cases h
 |i::l,h,id,hm=>by
  simp[uB,ZAl] at h;rcases ZAj.1 hm with rfl|hm
  .exact h.1
  .exact fsZ h.2 id hm
def DW(fs:List Nat)(k:Nat):Prop:=bC<=k/\cH ((k-bC)%16) fs=false
instance (fs:List Nat) (k:Nat):Decidable (DW fs k):=inferInstanceAs (Decidable (_/\_))
theorem syZ{fs}{f k}:DW fs (enc f k)↔cH (f%16) fs=false:=by
 simp_all[enc,DW]
def Z.clean(fs:List Nat)(z:Z):Z:={z with ρ:=λk=>if DW fs k then .no else z.ρ k,D:=λk=>z.D k/\¬DW fs k}
theorem Z.clean_at{z:Z}{fs}{k}(h:k<bC):(z.clean fs).ρ k=z.ρ k:=ZAJ λd=>ZBR.2 h d.1
theorem Z.clean_on{z:Z}{fs}{f k}(h:cH (f%16) fs=true):(z.clean fs).ρ (enc f k)=z.ρ (enc f k):=ZAJ λd=>by simp_all[syZ]
theorem bH.clean{fs}(d:bH z H)(O:∀id,DW fs id->bM H (rt id)=false)(I:∀id e,bP H id=some e->e.b.famInT fs=true/\∀i∈e.ids,i<bC):bH (z.clean fs) H:=by
 have D:vP fs z.ρ (z.clean fs).ρ:=λf k R _=>Z.clean_on R;have j:∀id e,bP H id=some e->(z.clean fs).ρ id=z.ρ id:=λid e h=>by
  refine ZAJ λK=> ?_;have:=O id K;rw[a9Z K.1,awZ this] at h;cases h
 refine⟨λid e h=>(d.ent id e h).rho rfl rfl (.on D (I id e h).1) (j id e h) (λi hi=>Z.clean_at ((I id e h).2 i hi)) λ_ _ _ _ _ h=>h,
  λid p e e' g T n U E n' G C h2 V W L N=> ?_,λid h=> ?_,d.sub,d.fam,d.key,λid B h X=>d.dyn id B h X.1,λid C h2=>by rw[Z.clean_at h2];exact d.nos id C h2⟩
 .rw[j id e C] at L;rw[j p e' h2] at N;exact d.inj id p e e' g T n U E n' G C h2 V W L N
 .by_cases B:DW fs id
  .exact .inl (ZAL B)
  .rcases d.fresh id h with h|h
   .exact .inl (by rw[show(z.clean fs).ρ id=z.ρ id from ZAJ B];exact h)
   .exact .inr ⟨h,B⟩
theorem e1Z:∀{l} {f},(∀i∈l,i<bC)->f<16->(cH f (iO l)=true↔bA+f∈l)
 |[],f,_,_=>by simp[iO,cH]
 |i::l,f,d,j=>by
  have B:=e1Z (λi h=>d i (ZAc _ h)) j;simp[iO];by_cases hb:bA<=i
  .rw[ZAi hb,ZAM];simp only[cH];by_cases h:i-bA=f
   .rw[(afZ _ _).2 h]
    grind
   .rw[ahZ h,ZAD]
    grind
  .have:Nat.ble bA i=false:=by
    cases p:Nat.ble bA i
    .rfl
    .exact absurd (ZBQ p) hb
   grind
theorem iQZ{l}(h:∀i∈l,i<bC){k}:DW (iO l) k↔bC<=k/\rt k∉l:=by
 constructor
 .rintro⟨d,h2⟩;refine⟨d,λhm=> ?_⟩;unfold rt at hm
  grind[e1Z,ZCV]
 .rintro⟨d,h2⟩;refine⟨d,?_⟩;cases j:cH ((k-bC)%16) (iO l)
  .rfl
  simp_all[rt,e1Z,ZCV]
theorem kLZ{s:Shp}{t}{fs}(B:cZ fs s.tys=true){z}(D:bH z (s.emb t).2){id}{e}(h:bP (s.emb t).2 id=some e):e.b.famInT fs=true:=by
 have j:=λid e he=>hUZ s.hs (embL s.ks (fP s.hs []) (gD s.tys t)).2 (bNZ s.ks B) id e he;by_cases C:bC<=id
 .rw[a9Z C] at h
  let⟨E,p1,d⟩:=ZAG.1 h
  have p:=j _ _ p1;unfold pick at d;split at d
  .rename_i e' G I hb;split at d
   .split at d
    .cases d
    .simp at d;subst d;rw[hb] at p;exact p
   .cases d
  simp_all
 .by_cases K:bA<=id
  .simp_all[bP,ZAL]
  .rw[arZ (by omega)] at h;exact j _ _ h
theorem sKZ{e x}{k}(h:pick k e=some x):x.ids=[]:=(eRZ h some).2
theorem lUZ{s:Shp}{t:s.D}{d:Z}{vals:List Value}(N:cZ (iO (bI s.hs)) s.tys=true)(O:bH d (s.emb t).2)(R:bQ d (s.emb t).1 vals)(p:∀k,cH k (bI s.hs)=true->k<bC)
 (G:∀i,i∈s.ks.ids\/i∈wB s.hs->i∈bI s.hs):
 ∃j:Z,j.w=d.w/\j.M=d.M/\bH j (s.emb t).2/\bQ j (s.emb t).1 vals/\(∀k,k<bC\/rt k∈bI s.hs->j.ρ k=d.ρ k)/\j.C=d.C/\(∀k,j.D k->d.D k/\(k<bC\/rt k∈bI s.hs))/\∀k,bC<=k->rt k∉bI s.hs->j.ρ k= .no:=by
 have hg:=λid=>cyZ s.hs (embL s.ks (fP s.hs []) (gD s.tys t)).2 id;have E:∀i∈bI s.hs,i<bC:=λi hi=>p i (ajZ.2 hi);have B:∀i,i∈s.ks.ids\/i∈wB s.hs->i<bC:=λi hi=>p i (ajZ.2 (G i hi));have I:vP (iO (bI s.hs)) d.ρ (d.clean (iO (bI s.hs))).ρ:=λf k K _=>Z.clean_on K;refine⟨d.clean (iO (bI s.hs)),rfl,rfl,O.clean (λid L=> ?_) (λid e he=>⟨kLZ N O he,λi hi=> ?_⟩),?_,λk hk=> ?_,rfl,λk h=>⟨h.1,?_⟩,λk T h2=>ZAL ((iQZ E).2 ⟨T,h2⟩)⟩
 .have:=((iQZ E).1 L).2;rw[show bM (s.emb t).2 (rt id)=cH (rt id) (bI s.hs) from(hg _).1]
  grind[ajZ]
 .by_cases U:bC<=id
  .grind[a9Z,ZAG,sKZ]
  .by_cases K:bA<=id
   .unfold bP at he;rw[ZAJ U,ZAL K] at he;cases he
   .rw[arZ (by omega)] at he;exact B i (.inr ((hg id).2.2 e he i hi))
 .refine R.rho rfl rfl (.on I (buZ s.ks (r:=fP s.hs []) _ N)) λi hi=>Z.clean_at (B i (.inl ?_));rw[<-c1Z s.ks (r:=fP s.hs []) (gD s.tys t)];exact hi
 .refine ZAJ λL=> ?_;have:=(iQZ E).1 L;rcases hk with hk|hk
  .exact ZBR.2 hk this.1
  .exact this.2 hk
 .by_cases hk:k<bC
  .exact .inl hk
  .right;by_cases hm:rt k∈bI s.hs
   .exact hm
   .exact absurd ((iQZ E).2 ⟨Nat.not_lt.1 hk,hm⟩) h.2
theorem fyZ{a b:Nat}(h:¬a<=b):Nat.ble a b=false:=by
 cases d:Nat.ble a b
 .rfl
 simp_all[ZBQ]
theorem aMZ:∀(l) (n),(cQ n l).length=l.length
 |[],_=>rfl
 |i::l,n=>by
  simp[cQ];by_cases h:bA<=i
  .rw[ZAi h];simp[aMZ l]
  .rw[fyZ h];simp[aMZ l]
theorem clZ:∀{l} {n m k id:Nat},(cQ n l)[m]? =some k->l[m]? =some id->(bA<=id/\k=id)\/(id<bA/\n<=k/\k<n+l.length)
 |[],n,m,k,id,h,_=>by simp_all
 |i::l,n,m,k,id,h,d=>by
  simp[cQ] at h;by_cases hi:bA<=i
  .rw[ZAi hi] at h
   match m with
   |0=>simp_all
   |m+1=>
    rcases clZ (by simpa using h) (by simpa using d) with h|⟨j,h2,p⟩
    .exact .inl h
    grind
  .rw[fyZ hi] at h
   match m with
   |0=>simp_all
   |m+1=>
    rcases clZ (by simpa using h) (by simpa using d) with h|⟨j,h2,p⟩
    .exact .inl h
    grind
theorem foZ:∀(l r) (n),∃m,n<=m/\m<=n+l.length/\cQ n (l++r)=cQ n l++cQ m r
 |[],r,n=>⟨n,ZAN _,by simp,rfl⟩
 |i::l,r,n=>by
  by_cases h:bA<=i
  .let⟨m,d,h2,j⟩:=foZ l r n
   refine⟨m,d,by simp;omega,?_⟩
   simp_all[cQ,ZAi]
  .let⟨m,d,h2,j⟩:=foZ l r (n+1)
   refine⟨m,by omega,by simp;omega,?_⟩
   simp_all[cQ,fyZ]
theorem oyZ{l}{n m id:Nat}(h:l[m]? =some id):∃k,(cQ n l)[m]? =some k:=by
 grind[aMZ,ZAC,ZAB]
theorem ffZ:∀{l} {n m d k:Nat},l.Nodup->n+l.length<=bA->(cQ n l)[m]? =some k->(cQ n l)[d]? =some k->m=d
 |[],n,m,d,k,_,_,h,_=>by grind[cQ]
 |i::l,n,m,d,k,B,hb,h,j=>by
  simp only[List.nodup_cons] at B;simp only[ZCA] at hb;have q:∀(n' m k),(cQ n' l)[m]? =some k->∃id,l[m]? =some id/\((bA<=id/\k=id)\/(id<bA/\n'<=k/\k<n'+l.length)):=λn' m k h=>by
   have p:=by have:=(ZAC.1 h).1;rwa [aMZ] at this
   exact⟨_,ZAB p,clZ h (ZAB p)⟩
  simp only[cQ] at h j;by_cases hi:bA<=i
  .rw[ZAi hi,ZAM] at h j;have no:∀{m:Nat},(cQ n l)[m]?≠some i:=λ{m} h=>by
    grind
   match m,d with
   |0,0=>rfl
   |0,d+1=>simp_all
   |m+1,0=>simp_all
   |m+1,d+1=>exact congrArg (·+1) (ffZ (n:=n) B.2 (by omega) (by simpa using h) (by simpa using j))
  .rw[fyZ hi,ZAD] at h j;have no:∀{m},(cQ (n+1) l)[m]?≠some n:=λ{m} h=>by
    let⟨id,D,h2⟩:=q (n+1) _ _ h
    rcases h2 with⟨h2,C⟩|⟨_,h2,C⟩
    .omega
    .omega
   match m,d with
   |0,0=>rfl
   |0,d+1=>simp at h;subst h;exact absurd (by simpa using j) no
   |m+1,0=>simp at j;subst j;exact absurd (by simpa using h) no
   |m+1,d+1=>exact congrArg (·+1) (ffZ (n:=n+1) B.2 (by omega) (by simpa using h) (by simpa using j))
theorem dmZ:∀{a b},a.length=b.length->mC (lH a b)=a
 |[],[],_=>rfl
 |[],_::_,h=>by grind
 |_::_,[],h=>by grind
 |x::a,y::b,h=>by simp[lH,mC,dmZ (by simpa using h)]
theorem u3Z{O zc G}{H1 Hd}{sh ids}{fs}(hH:bH O H1)(ap:∀id∈ids,bM H1 id=false)(ay:∀id∈sh,bM H1 id=true)(aO:∀id∈ids,id<bC)(hd:∀id,rt id∈ids->¬O.D id)(az:(sh++ids).Nodup)(aZ:sh.length+ids.length<=bA)
 (hw:zc.w=O.w)(hM:zc.M=O.M)(hC:∀g,zc.C g->∃id e sz n,rt id∈sh/\bP H1 id=some e/\e.fz=false/\O.ρ id= .real g sz n)
 (aP:∀(m:Nat) k id,(cQ 0 sh)[m]? =some k->sh[m]? =some id->zc.ρ k=O.ρ id/\(id<bA->zc.ρ k≠.no))(aA:∀id,bC<=id->rt id∈sh->zc.ρ id=O.ρ id)(aB:∀k,G.D k->k<bC/\k∈cQ 0 sh)(hn:Nx zc {G with D:=zc.D})(K:bH G Hd)(ah:∀k,bM Hd k=true->∃e,bF Hd k=some e)(aQ:∀k e,bP Hd k=some e->e.b.famInT fs=true)
 (aR:∀f,cH (f%16) fs=true->bZ f∈sh++ids)
 (hk:nE (nF Hd) (mC (lH (cQ 0 (sh++ids)) (sh++ids)))=true):
 ∃z3,z3.w=G.w/\bH z3 (gK (gH H1 sh) (iU Hd (gE (lH (cQ 0 (sh++ids)) (sh++ids))) (lH (cQ 0 (sh++ids)) (sh++ids))))/\Nx O z3/\
  ∀a v,a.famInT fs=true->bE G a v->bE z3 (AV.ren (gE (lH (cQ 0 (sh++ids)) (sh++ids))) a) v:=by
 have h0:=eQZ;have aC:=aMZ (sh++ids) 0;obtain⟨ms,_,_,aD⟩:=foZ sh ids 0;have aE:∀m k id,(cQ 0 (sh++ids))[m]? =some k->(sh++ids)[m]? =some id->(bA<=id/\k=id)\/(id<bA/\k<bA):=λm k id d h2=>by
  rcases clZ d h2 with h|⟨h,_,h3⟩<;>grind
 have ai:∀m m' k,(cQ 0 (sh++ids))[m]? =some k->(cQ 0 (sh++ids))[m']? =some k->m=m':=λm m' k=>ffZ az (by simp_all);have aq:∀m k id,(cQ 0 (sh++ids))[m]? =some k->(sh++ids)[m]? =some id->m<sh.length->(cQ 0 sh)[m]? =some k/\sh[m]? =some id:=λm k id d h2 h3=>by
  grind[ZAS,aMZ]
 have aj:∀k,k∈cQ 0 sh->∃m,(cQ 0 (sh++ids))[m]? =some k/\m<sh.length:=λk hk=>by
  obtain⟨m,hm⟩:=ZAT hk;have ae:m<sh.length:=by have:=(ZAC.1 hm).1;rwa [aMZ] at this
  exact⟨m,by rw[aD,ZAS (by rw[aMZ];exact ae)];exact hm,ae⟩
 generalize j:sh++ids=all at*;generalize a6:cQ 0 all=sk at*;generalize U:lH sk all=back at*;have V:∀k id,(k,id)∈back↔∃m,sk[m]? =some k/\all[m]? =some id:=λk id=>by
  rw[<-U];exact⟨λh=>jAZ h,λ⟨m,d,h2⟩=>l9Z d h2⟩
 have I:∀k id,(k,id)∈back->(bA<=id/\k=id)\/(id<bA/\k<bA):=λk id h=>by
  obtain⟨m,d,h2⟩:=(V k id).1 h;exact aE m k id d h2
 have aF:kI back=all:=by rw[<-U];exact(mEZ (by omega)).1
 have a0:mC back=sk:=by rw[<-U];exact dmZ aC
 have R:(kI back).Nodup:=by rw[aF];exact az
 have af:∀k id,(k,id)∈back->gZ back id=some k:=λk id h=>fbZ R h;have W:∀id,id∈all->∃k,(k,id)∈back:=λid h=>by
  obtain⟨m,hm⟩:=ZAT h;have ae:m<sk.length:=by rw[aC];exact(ZAC.1 hm).1
  exact⟨_,(V _ id).2 ⟨m,ZAB ae,hm⟩⟩
 have ak:∀k id,(k,id)∈back->id∈all:=λk id h=>by
  obtain⟨m,d,h2⟩:=(V k id).1 h;exact ZAI h2
 have X:∀id,bA<=id->id∈all->(id,id)∈back:=λid d h2=>by
  obtain⟨k,hk⟩:=W id h2;rcases I k id hk with⟨_,rfl⟩|h
  .exact hk
  .omega
 have a5:∀k k' id,(k,id)∈back->(k',id)∈back->k=k':=λk k' id h h'=>ZAg ((af k id h).symm.trans (af k' id h'));have as:∀k id ag,(k,id)∈back->(k,ag)∈back->id=ag:=λk id ag h h'=>by
  obtain⟨m,d,h2⟩:=(V k id).1 h;obtain⟨m',h3,h4⟩:=(V k ag).1 h';have:=ai m m' k d h3;subst this;rw[h2] at h4;exact ZAg h4
 have L:∀id∈all,id<bC:=λid h=>by
  rw[<-j] at h;rcases ZAh.1 h with h|h
  .exact hH.key id (ay id h)
  .exact aO id h
 have au:∀k,bC<=k->¬G.D k:=λk h h'=>by have:=(aB k h').1;omega
 let F:Nat->Bool:=λid=>cH id all
 have hF:∀id,F id=true↔id∈all:=λid=>ajZ
 let z2:Z:={w:=G.w,M:=G.M,ρ:=λid=>match gZ back id with|some k=>G.ρ k|none=>if bC<=id/\rt id∈all then G.ρ id else O.ρ id,
            C:=λg=>∃k e sz n,bP Hd k=some e/\e.fz=false/\G.ρ k= .real g sz n,D:=(O.foc H1 F).D}
 have B:∀k id,(k,id)∈back->z2.ρ id=G.ρ k:=λk id h=>by
  show(match gZ back id with|some k=>G.ρ k|none=>_)=_;rw[af k id h]
 have aG:∀id,id∉all->gZ back id=none:=λid h=>by
  cases hk:gZ back id with
  |none=>rfl
  |some k=>exact absurd (ak k id (aLZ hk)) h
 have N:∀id,bC<=id->rt id∈all->z2.ρ id=G.ρ id:=λid d h2=>by
  show(match gZ back id with|some k=>G.ρ k|none=>_)=_;rw[aG id λh=>by have:=L id h;omega];exact ZAL ⟨d,h2⟩
 have E:∀id,id∉all->¬(bC<=id/\rt id∈all)->z2.ρ id=O.ρ id:=λid d h2=>by
  show(match gZ back id with|some k=>G.ρ k|none=>_)=_;rw[aG id d];exact ZAJ h2
 have al:∀k id,OfX back k id->z2.ρ id=G.ρ k:=λk id h=>by
  rcases h with⟨h,_,_⟩|⟨rfl,d,h2⟩
  .exact B k id h
  .exact N k d (ak _ _ h2)
 have av:∀g,zc.C g->(O.foc H1 F).C g:=λg h=>by
  obtain⟨id,e,sz,n,a1,a2,a3,a4⟩:=hC g h;exact⟨id,e,sz,n,ajZ.2 (by rw[<-j];exact ZBe _ a1),a2,a3,a4⟩
 have aS:∀g,G.C g->(O.foc H1 F).C g\/O.w.heap.size<=g:=λg hg=>by
  rcases hn.subC g hg with h|h
  .exact .inl (av g h)
  .rw[hw] at h;exact .inr h
 have aH:∀g,z2.C g->G.C g:=λg ⟨k,e,sz,n,a2,a3,a4⟩=>(K.realX a2 a4).2.1 a3;have hN:Nx (O.foc H1 F) z2:=by
  refine⟨hn.os.trans (by rw[hw];rfl),⟨hn.tape.1.trans (by rw[hw];rfl),by have:=hn.tape.2;rw[hw] at this;exact this⟩,hn.output.trans (by rw[hw];rfl),by have:=hn.size;rw[hw] at this;exact this,λb hb hc=> ?_,λg hg=> ?_,λg hg=>aS g (aH g hg),λg hg hm hc=> ?_,λid Y=> ?_,rfl⟩
  .have:=hn.block b (by rw[hw];exact hb) λh=>hc (av b h);rw[hw] at this;exact this
  .have:=hn.subM g hg;rw[hw,hM] at this;exact this
  .exact hn.keepM g (by rw[hw];exact hg) (by rw[hM];exact hm) λh=>hc (av g h)
  .have Y:O.ρ id≠.no:=Y;show z2.ρ id=O.ρ id;have a7:¬(bA<=id/\id<bC):=λh=>Y (hH.nos id h.1 h.2);by_cases hm:id∈all
   .obtain⟨k,hk⟩:=W id hm;rw[B k id hk];obtain⟨m,d,h2⟩:=(V k id).1 hk;have aI:=L id hm;by_cases ae:m<sh.length
    .obtain⟨b1,b2⟩:=aq m k id d h2 ae;obtain⟨b3,b4⟩:=aP m k id b1 b2;rw[hn.ext k (b4 (by omega)),b3]
    .rw[<-j,ZAU (by omega)] at h2;have aJ:=ZAI h2;exact absurd ((hH.fresh id (by rw[aEZ (by omega)];exact ap id aJ)).resolve_right (hd id (by rw[beZ aI];exact aJ))) Y
   .by_cases aa:bC<=id/\rt id∈all
    .rw[N id aa.1 aa.2];rw[<-j] at aa;rcases ZAh.1 aa.2 with h|h
     .have e1:=aA id aa.1 h;rw[<-e1] at Y⊢;exact hn.ext id Y
     .exfalso;refine Y ((hH.fresh id ?_).resolve_right (hd id h));rw[azZ aa.1,awZ (ap _ h)];exact ap _ h
    .exact E id hm aa
 have ab:∀id e',bF (iU Hd (gE back) back) id=some e'->∃k e,(k,id)∈back/\bF Hd k=some e/\e'=e.ren (gE back):=λid e' h=>by
  rw[(bGZ R id).1] at h;obtain⟨k,q1,q2⟩:=ZAG.1 h;obtain⟨e,q3,q4⟩:=ZAH.1 q2;exact⟨k,e,aLZ q1,q3,q4.symm⟩
 generalize aK:gK (gH [] sh) (iU Hd (gE back) back)=H2;have hg2:∀id,bF H2 id=if bM (iU Hd (gE back) back) id then bF (iU Hd (gE back) back) id else none:=λid=>by
  rw[<-aK,aQZ,bdZ];split
  .rfl
  .split<;>rfl
 have ac:∀id,bM H2 id=(bM (iU Hd (gE back) back) id||cH id sh):=λid=>by
  rw[<-aK,aJZ,aOZ];simp[bM]
 have aw:∀id e',bF H2 id=some e'->bF (iU Hd (gE back) back) id=some e':=λid e' h=>by
  rw[hg2] at h;split at h
  .exact h
  .cases h
 have ad:∀id e',bP H2 id=some e'->∃k e,OfX back k id/\bP Hd k=some e/\e'=e.ren (gE back):=λid e' h=>by
  by_cases p:bC<=id
  .rw[a9Z p] at h;obtain⟨e0,q1,q2⟩:=ZAG.1 h;obtain⟨k,e1,q3,q4,rfl⟩:=ab _ _ (aw _ _ q1);have:k=rt id:=by
    rcases I k _ q3 with⟨_,h⟩|⟨h,_⟩
    .exact h
    .have:=(bFZ p).1;omega
   subst this;rw[(fkZ e1 _ _).2 (ZAN _)] at q2;exact⟨id,e',.inr ⟨rfl,p,q3⟩,by rw[a9Z p,q4];exact q2,(eRZ q2 _).1.symm⟩
  .by_cases hf:bA<=id
   .unfold bP at h;rw[ZAJ p,ZAL hf] at h;cases h
   .rw[arZ (by omega)] at h;obtain⟨k,e1,q3,q4,rfl⟩:=ab _ _ (aw _ _ h);have am:k<bA:=by
     rcases I k _ q3 with⟨h,_⟩|⟨_,h⟩
     .omega
     .exact h
    exact⟨k,e1,.inl ⟨q3,am,by omega⟩,by rw[arZ am];exact q4,rfl⟩
 have aL:vP fs G.ρ z2.ρ:=λf k hf _=>N (enc f k) (cjZ f k) (by rw[dXZ];exact aR f hf);have hR:bH z2 H2:=by
  refine⟨λid e' h=> ?_,λi i' e e' g sz n g' aT n' aM p1 p2 m1 m2 p3 p4=> ?_,λid h=> ?_,λg h=>K.sub g (aH g h),λid x h=> ?_,λid h=> ?_,λid p h=> ?_,λid d h2=> ?_⟩
  .obtain⟨k,e,q1,q2,rfl⟩:=ad id e' h;have h0:=K.ent _ _ q2;unfold fC at h0⊢;rw[al k id q1];cases hr:G.ρ k with
   |no=>rw[hr] at h0;exact h0.elim
   |virt=>
    rw[hr] at h0;obtain⟨fz,b⟩:=e;cases b<;>first|exact h0.elim|exact h0
   |real g sz n=>
    rw[hr] at h0;obtain⟨a1,a2,a3,a4⟩:=h0;exact⟨a1,λhf=>⟨k,e,sz,n,q2,hf,hr⟩,a3,a4.ren (fz:=e.fz) rfl rfl (.on aL (aQ k e q2)) λag k' _ aU=>B ag k' (dEZ aU)⟩
  .obtain⟨k,e1,q1,q2,rfl⟩:=ad i e p1;obtain⟨k',e2,q3,q4,rfl⟩:=ad i' e' p2;rw[al k i q1] at p3;rw[al k' i' q3] at p4;have aV:k≠k':=λh=>by
    subst h;rcases q1 with⟨a1,a2,_⟩|⟨rfl,a1,_⟩<;>rcases q3 with⟨b1,b2,_⟩|⟨rfl,b1,_⟩
    .exact aM (as k i i' a1 b1)
    .omega
    .omega
    .exact aM rfl
   exact λp5=>K.inj k k' e1 e2 g sz n g' aT n' aV q2 q4 m1 m2 p3 p4 λh=>p5 ⟨OfX.ro q1 h.1,OfX.ro q3 h.2⟩
  .by_cases p:bC<=id
   .by_cases hm:rt id∈all
    .left;rw[N id p hm];have aN:=X _ (bFZ p).1 hm;refine(K.fresh id ?_).resolve_right (au id p);rw[azZ p] at h⊢;cases hg:bF Hd (rt id) with
     |some e0=>
      have aW:=((bGZ (H:=Hd) (f:=gE back) R (rt id)).2).2 ⟨_,e0,af _ _ aN,hg⟩;rw[hg2,ZAL aW,(bGZ R (rt id)).1,af _ _ aN] at h;simp only[ZAA,hg,ZBM] at h;rw[(fkZ e0 _ _).1] at h;exact h
     |none=>
      show bM Hd (rt id)=false;cases an:bM Hd (rt id)
      .rfl
      .obtain⟨e,he⟩:=ah _ an;rw[he] at hg;cases hg
    .rw[E id (λh=>by have:=L id h;omega) λh=>hm h.2];cases ao:dX H1 id
     .exact(hH.fresh id ao).imp (λh=>h) .inl
     .refine .inr (.inr ⟨ao,?_⟩);cases T:F (rt id)
      .rfl
      .exact absurd ((hF _).1 T) hm
   .by_cases hf:bA<=id
    .left;by_cases hm:id∈all
     .rw[B id id (X id hf hm)];exact K.nos id hf (by omega)
     .rw[E id hm λh=>p h.1];exact hH.nos id hf (by omega)
    .rw[aEZ (by omega),ac] at h;simp only[ZBY] at h;obtain⟨h,ar⟩:=h;by_cases hm:id∈all
     .obtain⟨k,hb⟩:=W id hm;have am:k<bA:=by
       rcases I k id hb with⟨h,_⟩|⟨_,h⟩
       .omega
       .exact h
      left;rw[B k id hb];have an:bM Hd k=false:=by
       cases an:bM Hd k
       .rfl
       .obtain⟨e,he⟩:=ah k an;rw[((bGZ (H:=Hd) (f:=gE back) R id).2).2 ⟨k,e,af k id hb,he⟩] at h;cases h
      refine(K.fresh k (by rw[aEZ am];exact an)).resolve_right λaX=> ?_;obtain⟨m',d,h2⟩:=aj k (aB k aX).2;obtain⟨m,h3,h4⟩:=(V k id).1 hb;have:=ai m m' k h3 d;subst this;have h5:=(aq m k id h3 h4 h2).2;rw[ajZ.2 (ZAI h5)] at ar;cases ar
     .rw[E id hm λh=>p h.1];cases ao:dX H1 id
      .exact(hH.fresh id ao).imp (λh=>h) .inl
      .refine .inr (.inr ⟨ao,?_⟩);cases T:F (rt id)
       .rfl
       .rw[beZ (by omega)] at T;exact absurd ((hF _).1 T) hm
  .obtain⟨k,e1,q3,q4,rfl⟩:=ab _ _ (aw _ _ h);have ax:=K.fam k e1 q4;obtain⟨fz,b⟩:=e1;cases b with
   |fam e s ms=>
    have:k=id:=by
     rcases I k id q3 with⟨_,h⟩|⟨_,h⟩
     .exact h
     .have:=ax.1;omega
    subst this;exact ax
   |_=>
    have am:k<bA:=ax;show id<bA;rcases I k id q3 with⟨h,h'⟩|⟨h,_⟩
    .omega
    .exact h
  .rw[ac] at h;simp only[ZA2] at h;refine L id ?_;rcases h with h|h
   .obtain⟨k,e,d,_⟩:=((bGZ R id).2).1 h;exact ak k id (aLZ d)
   .rw[<-j];exact ZBe _ (ajZ.1 h)
  .have hm:rt id∈all:=by
    rw[ac] at h;simp only[ZA2] at h;rcases h with h|h
    .obtain⟨k,e,d,_⟩:=((bGZ R (rt id)).2).1 h;exact ak k _ (aLZ d)
    .rw[<-j];exact ZBe _ (ajZ.1 h)
   rintro(hD|⟨_,hD⟩)
   .rw[<-j] at hm;rcases ZAh.1 hm with h'|h'
    .exact hH.dyn id p (ay _ h') hD
    .exact hd id h' hD
   .rw[(hF _).2 hm] at hD;cases hD
  .by_cases hm:id∈all
   .rw[B id id (X id d hm)];exact K.nos id d h2
   .rw[E id hm λh=>by omega];exact hH.nos id d h2
 obtain⟨z3,r1,r2,r3,r4,r5⟩:=merge_ok (H3:=gK (gH H1 sh) (iU Hd (gE back) back)) hH hN hR (λid h=>by
  rw[ac] at h;simp only[ZA2] at h;rcases h with h|h
  .obtain⟨k,e,d,_⟩:=((bGZ R id).2).1 h;exact ajZ.2 (ak k id (aLZ d))
  .exact ajZ.2 (by rw[<-j];exact ZBe _ (ajZ.1 h))) (λid=>by
  rw[aQZ,bdZ,ac,hg2];by_cases h2:bM (iU Hd (gE back) back) id=true
  .simp[h2]
  .simp only[h2,ZBK,ZCl,Bool.false_or];by_cases hs:cH id sh=true
   .simp[hs]
   .simp only[hs,ZBK,ZCl];by_cases T:F id=true
    .rw[ZAL T];have:=ajZ.1 T;rw[<-j] at this;rcases ZAh.1 this with h|h
     .exact absurd (ajZ.2 h) hs
     .exact awZ (ap id h)
    .rw[ZAJ T]) (λid h=>by
  rw[ac] at h;rw[aJZ,aOZ];rcases h with h|h
  .simp only[ZA2] at h;rcases h with h|h
   .simp[h]
   .simp[h]
  .simp[h]) (λid h=>by
  rw[aJZ,aOZ] at h;rw[ac];simp only[ZA2] at h⊢;rcases h with h|h|h
  .exact .inl (.inl h)
  .exact .inl (.inr h)
  .exact .inr (.inl h))
 refine⟨z3,r1,r4,r5,λa v aY ha=> ?_⟩;exact(ha.ren (z':=z2) rfl rfl (.on aL aY) λid k _ hk=>B id k (dEZ hk)).less r1 r3 λg h=>by rw[<-r2];exact h
theorem osZ{fs}{l}(h:AV.famInTL fs l=true):(nL l).famInT fs=true:=by
 match l with
 |[]=>rfl
 |[a]=>
  simp only[AV.famInTL,ZAF] at h;exact h.1
 |a::b::l=>exact h
theorem cgZ(id):bP [] id=none:=by
 unfold bP;split
 .rfl
 .split<;>rfl
theorem lZZ{H}{l}(h:iV H l=true):∀id∈l,bM H id=true:=λid d=>by
 grind[etZ,aiZ]
theorem pNZ{e}{j}{V}{vals}{K}{ai:β}(hT:fF P e)(h:vN P e V j H K=some ai)(hH:bH z H)(hd:∀id,rt id∈j.ids->¬z.D id)
 (ay:∀m∈j.md,m<4\/¬z.D (m+100000))(ha:bQ z V vals):
 vR P e.f vals.toArray z.w λen w'=>∃v x H' z',en= .returned v/\z'.w=w'/\bH z' H'/\Nx z z'/\bE z' x v/\K x H'=some ai:=by
 have aM:=eQZ;unfold vN at h;rw[dwZ] at h;obtain⟨⟨aN,H1⟩,h1,h2⟩:=agZ.1 h;obtain⟨h3,h4⟩:=aeZ.1 h2;simp only[ZAF,mbZ,ZAm] at h3;obtain⟨⟨⟨⟨⟨f1,f2⟩,f3⟩,f4⟩,f5,f6⟩,f7,f8⟩:=h3;obtain⟨z1,Mf,q1,G,q3,q4,q5,q6⟩:=iGZ hH ay h1 ha;have O:=λo ho=>(ZCU.1 f6) o ho;simp only at h4;by_cases hm:cH 2 j.md=true
 .rw[hm] at f4;simp only[ZAO,Bool.false_or,ZAF,afZ,ZCU] at f4;obtain⟨⟨g1,g2⟩,g3⟩:=f4;have e1:=ZAY g2;have e2:=ZAY g3;rw[e1,e2] at h4;rw[e1] at f3
  let az:={z1 with M:=Mf,C:=λ_=>False,D:=λ_=>True}
  have aA:bH az []:=⟨λid e h=>(by rw[cgZ] at h;cases h),λi i' e e' g sz n g' aj n' _ h=>(by rw[cgZ] at h;cases h),λid _=>.inr trivial,λg h=>h.elim,λi x h=>by simp[bF] at h,λi h=>by simp[bM] at h,λi _ h=>by simp[bM] at h,G.nos⟩;obtain⟨t,aB,k1,W,X,Y,aa,ak,k7,ab,al,L,aC,aD,R,ac⟩:=Shp.rco_ok (H:=[]) (λ_=>.no) (λ_ _ _=>rfl) h4 aA (q5.less rfl rfl λg h=>h);obtain⟨E,x1,x2,k4,k5,x3,x4,x5,x6⟩:=lUZ f5 Y aa R ac;have I:=x1.trans W;have k3:=x2.trans X;have k8:=λg h=>ab g (by rw[<-x4];exact h);have ad:∀id,¬E.D id:=λid h=>by
   obtain⟨T,y2⟩:=x5 id h;rw[L] at T;rcases T.2 with h|h
   .rcases y2 with y2|y2
    .omega
    .have:=ajZ.2 y2;rw[this] at T;cases T.1
   .exact h rfl
  obtain⟨r,r1,r2⟩:=ZAG.1 k1;have hw:E.w=z.w:=I.trans q1;have d:=hT.spec t r r1 E vals k4 k5 ad;rw[hw] at d;refine d.mono ?_;rintro en w' ⟨v,zd,rfl,rfl,hn,hDd,ho⟩;obtain⟨o,y,m1,m2,m3,m4⟩:=dW.on_both r2 ho;rw[Shp.embC_eq] at m2;obtain⟨p1,p2⟩:=aeZ.1 m2;have am:∀g,¬E.C g:=λg h=>k8 g h
  let z3:Z:={z1 with w:=zd.w}
  have hN:Nx z1 z3:=by
   refine⟨hn.os.trans (by rw[I]),⟨hn.tape.1.trans (by rw[I]),by have:=hn.tape.2;rw[I] at this;exact this⟩,hn.output.trans (by rw[I]),by have:=hn.size;rw[I] at this;exact this,λb hb _=> ?_,λg h=>.inl h,λg h=>.inl h,λ_ _ h _=>h,λ_ _=>rfl,rfl⟩;have:=hn.block b (by rw[I];exact hb) (am b);rw[I] at this;exact this
  have aE:bH z3 H1:=by
   refine⟨λid e he=>(G.ent id e he).kp (hN.kp G.sub) λg sz n hr=>⟨?_,λh=>h⟩,λi i' e e' g sz n g' aj n' aF h1 h2 f1 f2 h3 h4=>G.inj i i' e e' g sz n g' aj n' aF h1 h2 f1 f2 h3 h4,λid B=>G.fresh id B,λg hg=>G.sub g hg,G.fam,G.key,G.dyn,G.nos⟩;have:=hn.block g (by rw[I];exact(G.realX he hr).1) (am g);rw[I] at this;exact this
  obtain⟨vs,b1,b2⟩:=q3Z m4;have aG:=g1 o m1;have ao:bQ z3 (AV.renL (gE []) (o.emb y).1) vs:=c8Z (z:=zd) (λid=>rfl) o.ks aG b1;refine⟨v,_,_,z3,rfl,rfl,aE,q3.trans hN,?_,p2⟩;show bE z3 (AV.ren (gE []) (nL (o.emb y).1)) v;rw[sWZ];exact b2 ao (c2Z _ _)
 .have hM:=q6 (by simpa using hm);subst hM;have N:iV H1 (mC (lH j.sh (cQ 0 j.sh)))=true:=by
   unfold Shp.rco at h4;have:=(aeZ.1 h4).1;simp only[ZAF] at this;exact this.2
  rw[dmZ (by rw[aMZ])] at N;obtain⟨t,aB,k1,W,X,Y,aa,ak,k7,ab,al,L,aC,aD,R,ac⟩:=Shp.rco_ok (λ_=>.no) (λ_ _ _=>rfl) h4 G q5;obtain⟨E,x1,x2,k4,k5,x3,x4,x5,x6⟩:=lUZ f5 Y aa R ac;have I:=x1.trans W;have k3:=x2.trans X;have k8:∀g,E.C g->_:=λg h=>ab g (by rw[<-x4];exact h);have k9:∀g,E.C g->_:=λg h=>al g (by rw[<-x4];exact h);have ad:∀id,¬E.D id:=λid h=>by
   obtain⟨T,y2⟩:=x5 id h;rw[L] at T;rcases T.2 with h|h
   .rcases y2 with y2|y2
    .omega
    .have:=ajZ.2 y2;rw[this] at T;cases T.1
   .exact h rfl
  obtain⟨r,r1,r2⟩:=ZAG.1 k1;have hw:E.w=z.w:=I.trans q1;have d:=hT.spec t r r1 E vals k4 k5 ad;rw[hw] at d;refine d.mono ?_;rintro en w' ⟨v,zd,rfl,rfl,hn,hDd,ho⟩;obtain⟨o,y,m1,m2,m3,m4⟩:=dW.on_both r2 ho;rw[Shp.embC_eq] at m2;obtain⟨p1,p2⟩:=aeZ.1 m2;simp only[ZAF] at p1;have ae:∀id,id∈bI e.i.hs->id<bC:=λid h=>R id (ajZ.2 h);have ap:∀(m) k id,(cQ 0 j.sh)[m]? =some k->j.sh[m]? =some id->E.ρ k=z1.ρ id/\(id<bA->E.ρ k≠.no):=λm k id af aq=>by
   have p:k∈bI e.i.hs:=by rw[f3];exact ZAI af
   have aH:=ae k p;obtain⟨ar,a1,a2⟩:=ak k (ajZ.2 p);have as:(kI (lH j.sh (cQ 0 j.sh))).Nodup:=by
    unfold Shp.rco at h4;have:=(aeZ.1 h4).1;simp only[ZAF] at this;exact cGZ.1 this.1.2.1
   have B:ar=id:=by
    have e1:=fbZ as a1;have e2:=fbZ as (l9Z aq af);rw[e1] at e2;exact ZAg e2
   subst B;have aI:E.ρ k=z1.ρ ar:=(x3 k (.inl aH)).trans a2;refine⟨aI,λaL O=> ?_⟩;obtain⟨ee,he⟩:=(cyZ e.i.hs (embL e.i.ks (fP e.i.hs []) (gD e.i.tys t)).2 k).2.1 (ajZ.2 p);have aJ:k<bA:=by
    rcases clZ af aq with⟨h,_⟩|⟨_,_,h⟩
    .omega
    .omega
   have ag:=k4.ent k ee (by rw[arZ aJ];exact he);unfold fC at ag;rw[O] at ag;exact ag
  have au:∀id,bC<=id->rt id∈j.sh->E.ρ id=z1.ρ id:=λid av p=>by
   have h1:=(bFZ av).1;have ah:rt id∈bI e.i.hs:=by
    rw[f3];obtain⟨m,hm⟩:=ZAT p;obtain⟨k,hk⟩:=oyZ (n:=0) hm;rcases clZ hk hm with⟨_,rfl⟩|⟨h,_⟩
    .exact ZAI hk
    .omega
   rw[x3 id (.inr ah),k7 id,ZAL av];cases hc:cH id (bI e.i.hs)
   .rfl
   .have:=ae id (ajZ.1 hc);omega
  have U:∀k∈bI o.hs,k∈cQ 0 (j.sh++j.ids):=λk hk=>by
   have:=(bZZ.1 p1.2) k (eLZ.1 (by rw[show bM (o.emb y).2 k=cH k (bI o.hs) from(cyZ o.hs (embL o.ks (fP o.hs []) (gD o.tys y)).2 k).1];exact ajZ.2 hk));rwa [dmZ (by rw[aMZ])] at this
  obtain⟨z3,c1,c2,c3,c4⟩:=u3Z (sh:=j.sh) (ids:=j.ids) (fs:=iO (bI o.hs)) G (fsZ f1) (lZZ N) (λid B=>bLZ f7 B) (λid B=>by rw[q3.dom];exact hd id B) (cGZ.1 p1.1.1) f8 I k3
   (λg hg=>by
    obtain⟨id,ee,sz,n,a1,a2,a3,a4⟩:=k9 g hg;rw[dmZ (by rw[aMZ])] at a1;exact⟨id,ee,sz,n,a1,a2,a3,a4⟩) ap au (λk hk=>by
    have:=hDd k hk;rw[f3] at this;exact⟨ae k (by rw[f3];exact this),this⟩) hn m3
   (λk hk=>by
    have hg:=cyZ o.hs (embL o.ks (fP o.hs []) (gD o.tys y)).2 k;exact hg.2.1 (by rw[<-hg.1];exact hk)) (λk ee he=>kLZ (O o m1) m3 he) (λf hf=>by
    have aK:∀i∈bI o.hs,i<bC:=λi hi=>m3.key i (by rw[show bM (o.emb y).2 i=cH i (bI o.hs) from(cyZ o.hs (embL o.ks (fP o.hs []) (gD o.tys y)).2 i).1];exact ajZ.2 hi);have ah:=U _ ((e1Z aK (ZCV f (by omega))).1 hf);obtain⟨m,aw⟩:=ZAT ah;have ax:m<(j.sh++j.ids).length:=by have:=(ZAC.1 aw).1;rwa [aMZ] at this
    rcases clZ aw (ZAB ax) with⟨_,h⟩|⟨_,_,h⟩
    .show bA+f%16∈_;rw[h];exact ZBN ax
    .rw[ZAf] at h;omega) p1.2
  exact⟨v,_,_,z3,rfl,c1,c2,q3.trans c3,c4 _ _ (osZ (buZ o.ks (r:=fP o.hs []) _ (O o m1))) m4,p2⟩
end
theorem Tr.get_put:∀(t:Tr) (k) (a) (k'),(k'≠k->(t.put k a).get k'=t.get k')/\((t.put k a).get k=a\/(t.put k a).get k= .junk)
 |.lf,k,a,k'=>⟨λ_=>rfl,.inr rfl⟩
 |.nd l v r,k,a,k'=>by
  by_cases h0:k=0
  .subst h0;simp[Tr.put,Tr.get]
   simp_all[ahZ]
  .have B:=ahZ h0;by_cases C:k%2=1
   .have d:=(afZ _ _).2 C;simp[Tr.put,B,d,Tr.get]
    let⟨D,j⟩:=Tr.get_put l (k/2) a (k'/2)
    refine⟨λh=> ?_,j⟩;by_cases E:k'=0
    .simp_all
    .rw[ahZ E,ZAD];by_cases p:k'%2=1
     .rw[(afZ _ _).2 p,ZAM];exact D (by omega)
     simp_all[ahZ]
   .have d:=ahZ C;simp[Tr.put,B,d,Tr.get]
    let⟨D,j⟩:=Tr.get_put r (k/2-1) a (k'/2-1)
    refine⟨λh=> ?_,j⟩;by_cases E:k'=0
    .simp_all
    .by_cases p:k'%2=1
     .rw[(afZ _ _).2 p,ZAM,ZAM]
     grind
section
variable {P : Program} {T : Tbl} {z : Z} {H : Hp} {β : Type} {all : List Oper} {ops : Array Oper}
def Le(a b:AV):Prop:=∀(z) v,bE z a v->bE z b v
theorem Le.refl(a):Le a a:=λ_ _ h=>h
theorem Le.trans{a b c}(h:Le a b)(k:Le b c):Le a c:=λz v x=>k z v (h z v x)
theorem Le.junk(a):Le a .junk:=λ_ v _=>.junk v
theorem Le.bool{a}{t}(h:a.bool? =some t):Le a (.b t):=λz v hv=>by
 rw[bSZ h hv];exact .mkB t
theorem srZ(v):bE z (AV.lit v) v:=by
 cases v<;>first|exact .mkI _ _|exact .mkB _|exact .junk _|exact .p _ _ _ ⟨_,⟨rfl,rfl⟩,rfl⟩|skip;rename_i s;exact .mkS s.data.toList
theorem g2Z:∀{l},pC l=true->∀v∈l,v.oneCell'=true
 |[],_,v,h=>by cases h
 |u::l,h,v,hv=>by
  have d:u.oneCell'=true/\pC l=true:=by
   cases u<;>first|exact⟨rfl,h⟩|cases h
  rcases ZAj.1 hv with rfl|hv
  .exact d.1
  .exact g2Z d.2 v hv
def iI(t:Nat):Operand:=if t<1048576 then .tmp t else .global (t-1048576)
theorem fdZ{t}(h:t<1048576):iI t= .tmp t:=ZAL h
theorem qpZ(g):iI (1048576+g)= .global g:=by simp_all[iI,ZA6]
theorem esZ{st:St}{a:Act}(h:∀t,bE z (st.tm.get t) (a.eval (iI t)))(x):bE z (st.opnd x) (a.eval x):=by
 cases x with
 |tmp t=>
  simp[St.opnd];cases hb:Nat.blt t 1048576
  .exact .junk _
  .rw[ZBg] at hb;have:=h t
   simp_all[fdZ]
 |const v=>
  by_cases hv:∃cs,v= .agg cs
  .obtain⟨cs,rfl⟩:=hv;simp only[St.opnd];cases j:pC cs.toList
   .exact .junk _
   .have p:=g2Z j;refine .agg _ _ (by simp) (λv hv=>p v (ZBH.2 hv)) λi x v B d=> ?_;have d:=d;rw[ZAV] at B
    grind[ZAH,ZA7,ZAg,tUZ,ZAI]
  .have:st.opnd (.const v)= .lit v:=by
    cases v<;>first|rfl|simp_all
   rw[this];exact srZ v
 |global g=>have:=h (1048576+g);rw[qpZ] at this;exact this
 |func f=>exact .fn f [] [] #[] #[] rfl rfl (λi x v h=>by grind) (λi x v h=>by grind)
theorem uVZ{a}{x}{v}(h:a.fnv? =some x)(B:bE z a v):∃d j,v= .func (.func x.1) d j/\bQ z x.2.1 d.toList/\bQ z x.2.2 j.toList:=by
 unfold AV.fnv? at h;split at h
 .simp at h;subst h;cases B with|fn _ _ _ d j C h2 D h4=>
  exact⟨d,j,rfl,⟨by simp[C],λi x v p1 p=>D i x v p1 (by simpa using p)⟩,⟨by simp[h2],λi x v p1 p=>h4 i x v p1 (by simpa using p)⟩⟩
 .rename_i f l c;cases hb:(Nat.beq l.size 0&&Nat.beq c.size 0)<;>rw[hb] at h<;>simp only[bq_true,bq_false] at h
  .cases h
  simp[afZ] at hb;simp at h;subst h;obtain rfl:=B.v.opq.1;exact⟨l,c,rfl,⟨by simp[hb.1],λi a v h=>by simp at h⟩,⟨by simp[hb.2],λi a v h=>by simp at h⟩⟩
 grind
theorem mRZ{f}:∀{T} {e},ID f T=some e->e∈T/\e.f=f
 |[],e,h=>by cases h
 |x::T,e,h=>by
  unfold ID at h;cases hb:Nat.beq x.f f<;>rw[hb] at h
  .let⟨d,h2⟩:=mRZ h
   exact⟨ZAc _ d,h2⟩
  simp_all
theorem taZ{T}{n}{f}{e}(h:KW T n f=some e):e∈T/\e.f=f:=by
 unfold KW at h;split at h
 .rename_i x hx;cases hb:Nat.beq x.f f<;>rw[hb] at h
  .exact mRZ h
  .simp[ZAW] at h;subst h;exact⟨ZAI hx,(afZ _ _).1 hb⟩
 grind
theorem tFZ{o}{O}{r}{a}{K}{C:β}{next}{Q}(hT:∀e∈T,fF P e)
 (h:evW P T o O r H K=some C)(hH:bH z H)(E:∀id,rt id∈O.ids->¬z.D id)(R:sR P o=true->¬z.D (O.ids.headD 0))(U:∀m∈O.md,m<4\/¬z.D (m+100000))(V:∀x,bE z (r x) (a.eval x))
 (hk:∀x v H' z',bH z' H'->Nx z z'->bE z' x v->K x H'=some C->next (a.put o.dst v) z'.w):o.wp P a z.w next Q:=by
 unfold Oper.wp;cases G:BK o
 .let⟨x,H',z',nx,W,h2,h3,h4,h5⟩:=vOZ h hH R V G
  rw[W];rcases h4 with⟨v,rfl,hv⟩|⟨rfl,rfl⟩
  .exact hk x v H' z' h2 h3 hv h5
  .exact hk .junk undef H' z' h2 h3 (.junk _) h5
 .unfold BK at G;split at G
  .rename_i c X;split at G
   .rename_i f B;unfold evW at h;simp only[X,B] at h
    let⟨x,W,h2⟩:=agZ.1 h
    let⟨I,L,hv,q1,q2⟩:=uVZ W (V f)
    split at h2
    .rename_i e he
     let⟨Y,hb⟩:=taZ he
     have aa:=hT e Y;have d:=pNZ aa h2 hH E U (.append (.append q1 (.map V)) q2);have p:I++c.args.map a.eval++L=(I.toList++c.args.toList.map a.eval++L.toList).toArray:=by
      apply ZB4;simp
     rcases d with⟨⟨fn,cd,e1,e2,e3⟩,d⟩|⟨v,w',N,v',x',H',z',ab,rfl,p1,p2,p3,p4⟩
     rotate_left
     .have j:(execOp a.eval o).run P z.w= .ok (.value v) z'.w:=by
       unfold execOp;simp only[X,resolve,B,hv,Deferred.ofValue,Sem.run_bind,Sem.run_pure,Result.andThen_ok,invoke];rw[<-hb,p];exact N
      rw[j];cases ab;exact hk x' v H' z' p1 p2 p3 p4
     have j:(execOp a.eval o).run P z.w= .ok (.enter e.f (I.toList++c.args.toList.map a.eval++L.toList).toArray) z.w:=by
      have ac:fn.body.isNone=false:=by rw[e2];rfl
      have p:I++c.args.map a.eval++L=(I.toList++c.args.toList.map a.eval++L.toList).toArray:=by
       apply ZB4;simp
      unfold execOp;simp only[X,resolve,B,hv,Deferred.ofValue,Sem.run_bind,Sem.run_pure,Result.andThen_ok,invoke,callFunc,run_program];rw[<-hb] at*;simp only[e1,e3,ac,p]
      rfl
     rw[j];show Calls P e.f _ z.w _;refine d.mono ?_;rintro en w' ⟨v,x',H',z',rfl,rfl,p1,p2,p3,p4⟩;exact hk x' v H' z' p1 p2 p3 p4
    .cases h2
   .cases G
  simp_all
theorem t9Z{o}{r}{a}{K}{d:β}{next}{Q}(h:evR P o r H K=some d)(j:bH z H)(p:∀x,bE z (r x) (a.eval x))
 (hk:∀x v,bE z x v->K x=some d->next (a.put o.dst v) z.w):o.wp P a z.w next Q:=by
 unfold Oper.wp
 let⟨x,v,B,h2,C⟩:=vMZ h j p
 rw[B];exact hk x v h2 C
def Inv(d:Z)(N:Nat)(L:List (Nat×AV))(st:St)(a:Act)(w:World):Prop:=
 ∃z,z.w=w/\Nx d z/\(∀id,¬z.D id)/\bH z st.hp/\(∀t,bE z (st.tm.get t) (a.eval (iI t)))/\(∀p∈L,bE z p.2 (a.eval (iI p.1)))/\a.defers=[]/\(st.nt<=N/\a.tmps.size=N)/\∀id,id<bC->d.ρ id≠.no->id<st.n0
theorem jfZ{a:Act}{d}{v}(h:d<a.tmps.size):(a.put (some d) v).eval (.tmp d)=v:=by
 simp[Act.eval,Act.put,h]
theorem edZ{a:Act}{d}{v}(h:d<a.tmps.size)(hb:d<1048576):(a.put (some d) v).eval (iI d)=v:=by
 simp_all[fdZ,jfZ]
theorem cZZ{a:Act}{o:Option Tmp}{t:Nat}{v}(h:o≠some t):(a.put o v).eval (iI t)=a.eval (iI t):=by
 cases o with
 |none=>rfl
 |some d=>
  have:d≠t:=λe=>h (by rw[e]);by_cases ht:t<1048576
  .rw[fdZ ht];simp[Act.eval,Act.put,Array.getElem?_setIfInBounds_ne this]
  .rw[iI,ZAJ ht]
   rfl
theorem put_ok{j}{nt}{a:Act}{o:Option Tmp}{x}{v}(h:∀t,bE z (j.get t) (a.eval (iI t)))(p:mJ nt o=true)(B:nt<=a.tmps.size)(hx:bE z x v):
 ∀t,bE z ((St.putO ⟨j,nt,0,[]⟩ o x).tm.get t) ((a.put o v).eval (iI t)):=by
 intro t;cases o with
 |none=>exact h t
 |some d=>
  simp[mJ,ZBg] at p;simp[St.putO];by_cases ht:t=d
  .subst ht;rw[edZ (by omega) p.2];rcases(Tr.get_put j t x t).2 with e|e<;>rw[e]
   .exact hx
   .exact .junk _
  simp_all[Tr.get_put,cZZ,ZBk]
theorem deZ(st:St)(o)(x):(st.putO o x).tm=(St.putO ⟨st.tm,st.nt,0,[]⟩ o x).tm/\(st.putO o x).nt=st.nt/\(st.putO o x).n0=st.n0/\(st.putO o x).hp=st.hp:=by
 cases o<;>exact⟨rfl,rfl,rfl,rfl⟩
theorem fGZ(a:Act)(o)(v):(a.put o v).tmps.size=a.tmps.size/\(a.put o v).defers=a.defers:=by
 cases o<;>simp[Act.put]
theorem Inv.put{h z'}{N}{L:List (Nat×AV)}{st:St}{a:Act}{o:Option Tmp}{x:AV}{v:Value}{H':Hp}(E:Nx h z')(G:∀id,¬z'.D id)(I:bH z' H')(K:∀t,bE z' (st.tm.get t) (a.eval (iI t)))
 (W:∀p∈L,bE z' p.2 (a.eval (iI p.1)))(O:∀p∈L,o≠some p.1)(j:a.defers=[])(d:st.nt<=N/\a.tmps.size=N)(h0:∀id,id<bC->h.ρ id≠.no->id<st.n0)(R:mJ st.nt o=true)(hx:bE z' x v):
 Inv h N L {st.putO o x with hp:=H'} (a.put o v) z'.w:=by
 obtain⟨T,U,V,X⟩:=deZ st o x;refine⟨z',rfl,E,G,I,?_,λp hp=> ?_,(fGZ a o v).2.trans j,⟨by show(st.putO o x).nt<=N;rw[U];exact d.1,by rw[(fGZ a o v).1];exact d.2⟩,λid B C=>by show id<(st.putO o x).n0;rw[V];exact h0 id B C⟩
 .show∀t,bE z' ((st.putO o x).tm.get t) _;rw[T];exact put_ok K R (by rw[d.2];exact d.1) hx
 grind[cZZ]
theorem wpZ{o}{an}{R}{N}{L}{st}{a}{w}{K}{d:β}{next}{Q}(hT:∀e∈T,fF P e)
 (h:ev1 P T o an st K=some d)(U:mJ st.nt o.dst=true)(hi:Inv R N L st a w)(V:∀p∈L,o.dst≠some p.1)(hk:∀j W w',K j=some d->Inv R N L j W w'->next W w'):o.wp P a w next Q:=by
 obtain⟨z,rfl,X,E,G,I,B,C,D,h0⟩:=hi;unfold ev1 at h;cases hR:isR P o<;>rw[hR] at h<;>simp[bq_false] at h
 .refine tFZ hT h G (λid _=>E id) (λ_=>E _) (λ_ _=>.inr (E _)) (esZ I) λx v H' z' O h2 h3 h4=> ?_;have Y:=h2.kp G.sub;exact hk _ _ _ h4 (.put (X.trans h2) (λid=>by rw[h2.dom];simp_all) O (λt=>(I t).kp Y) (λp hp=>(B p hp).kp Y) V C D h0 U h3)
 .refine t9Z h G (esZ I) λx v O h2=> ?_;have:=Inv.put X E G I B V C D h0 U O;refine hk _ _ _ h2 ?_;have e:({st.putO o.dst x with hp:=st.hp}:St)=st.putO o.dst x:=by cases o.dst<;>rfl
  simp_all
def xD(all:List Oper)(o:Oper)(p:Nat->AV)(b:Bool):Prop:=
 (o.guard=none/\b=true)\/∃j h d,o.guard=some (j,h)/\(all[j]?).bind (·.dst)=some d/\d<1048576/\((p d= .tup []/\b=false)\/∃t,(p d).bool? =some t/\b=(t==h))
theorem xD.wanted{o}{C}{b}{a:Act}(h:xD ops.toList o C b)(K:∀j p d,o.guard=some (j,p)->(ops.toList[j]?).bind (·.dst)=some d->bE z (C d) (a.eval (iI d))):
 Region.wanted o (yielded ops a.tmps)=b:=by
 rcases h with⟨G,rfl⟩|⟨j,p,d,G,h2,I,D⟩
 .simp[Region.wanted,G]
 .have B:=K j p d G h2;rw[fdZ I] at B;have e:(ops[j]?).bind (·.dst)=some d:=by rw[<-Array.getElem?_toList];exact h2
  simp[Region.wanted,G,yielded,e];simp only[Act.eval] at B;rcases D with⟨D,rfl⟩|⟨t,D,rfl⟩
  .rw[D] at B;cases hv:a.tmps[d]? with
   |none=>rfl
   |some v=>
    have E:a.tmps.getD d undef=v:=by simp[hv]
    rw[E] at B;cases B
    rfl
  .have hb:=bSZ D B;cases hv:a.tmps[d]? with
   |none=>
    have E:a.tmps.getD d undef=undef:=by simp[hv]
    rw[E] at hb;cases hb
   |some v=>
    have E:a.tmps.getD d undef=v:=by simp[hv]
    rw[E] at hb;subst hb;cases t<;>cases p<;>rfl
theorem tKZ{o}{st}{go skip}{res:β}(h:evG all o st go skip=some res):
 mJ st.nt o.dst=true/\∃st1 b,st1.hp=st.hp/\st1.nt=st.nt/\st1.n0=st.n0/\(∀t,Le (st.tm.get t) (st1.tm.get t))/\xD all o st.tm.get b/\((b=true/\go st1=some res)\/(b=false/\skip (st1.skip o)=some res)):=by
 unfold evG at h;cases hd:mJ st.nt o.dst<;>rw[hd] at h<;>simp only[bq_true,bq_false] at h
 ·cases h
 refine⟨rfl,?_⟩;split at h
 ·rename_i hg;exact⟨st,true,rfl,rfl,rfl,fun _=>.refl _,.inl ⟨hg,rfl⟩,.inl ⟨rfl,h⟩⟩
 ·rename_i j want hg
  let⟨d,h1,h2⟩:=agZ.1 h
  let⟨oj,h3,h4⟩:=agZ.1 h1
  let⟨hlt,h2⟩:=aeZ.1 h2
  rw[ZBg] at hlt;have hj:(all[j]?).bind (·.dst)=some d:=by rw[h3];exact h4
  split at h2
  ·rename_i ht;exact⟨st,false,rfl,rfl,rfl,fun _=>.refl _,.inr ⟨j,want,d,hg,hj,hlt,.inl ⟨ht,rfl⟩⟩,.inr ⟨rfl,h2⟩⟩
  ·rename_i ht
   let⟨t,h5,h6⟩:=agZ.1 h2
   have hle:∀k,Le (st.tm.get k) ((st.tm.put d (.b t)).get k):=fun k=>by
    by_cases hk:k=d
    ·subst hk;rcases(Tr.get_put st.tm k (.b t) k).2 with e|e<;>rw[e]
     ·exact .bool h5
     ·exact .junk _
    ·rw[(Tr.get_put st.tm d (.b t) k).1 hk];exact .refl _
   refine⟨{st with tm:=st.tm.put d (.b t)},t==want,rfl,rfl,rfl,hle,.inr ⟨j,want,d,hg,hj,hlt,.inr ⟨t,h5,rfl⟩⟩,?_⟩;cases t<;>cases want<;>simp[bq_false] at h6
   ·exact .inl ⟨rfl,h6⟩
   ·exact .inr ⟨rfl,h6⟩
   ·exact .inr ⟨rfl,h6⟩
   ·exact .inl ⟨rfl,h6⟩
theorem ngZ:bE z (.tup []) undef:=.tup [] #[] rfl λi x v h=>by grind
theorem Inv.le{p}{N}{L}{st d}{a}{w}(hi:Inv p N L st a w)(G:d.hp=st.hp)(h2:d.nt=st.nt)(I:d.n0=st.n0)(h4:∀t,Le (st.tm.get t) (d.tm.get t)):Inv p N L d a w:=by
 obtain⟨z,rfl,B,C,K,D,h,j,E,h0⟩:=hi;exact⟨z,rfl,B,C,by simp_all,λt=>h4 t _ _ (D t),h,j,by omega,by simp_all⟩
theorem Inv.skip{B}{N}{L}{st}{a}{w}{o:Oper}(hi:Inv B N L st a w)(C:mJ st.nt o.dst=true)(D:∀p∈L,o.dst≠some p.1):Inv B N L (st.skip o) (a.put o.dst undef) w:=by
 obtain⟨z,rfl,E,G,I,K,d,h,j,h0⟩:=hi;have:=Inv.put E G I K d D h j h0 C (ngZ);have e:({st.putO o.dst (.tup []) with hp:=st.hp}:St)=st.skip o:=by unfold St.skip;cases o.dst<;>rfl
 simp_all
theorem fQZ{Y}{N}{L}{K}{D:β}{Q}(O:∀e∈T,fF P e){tail}(hk:∀C I w',K C=some D->Inv Y N L C I w'->wpOps P ops Q tail I w'):
 ∀(l:List (Oper×Ann)) (k),(∀(i) x,l[i]? =some x->ops[k+i]? =some x.1)->(∀x∈l,∀p∈L,x.1.dst≠some p.1)->∀(st) (a) (w),yA P T l ops.toList st K=some D->Inv Y N L st a w->
  wpOps P ops Q (List.range' k l.length++tail) a w
 |[],k,_,_,st,a,w,h,hi=>hk st a w h hi
 |(o,an)::l,k,hl,R,st,a,w,h,hi=>by
  simp[yA] at h
  let⟨hd,ab,b,e1,U,e3,e4,hg,hb⟩:=tKZ h
  have ho:=by have:=hl 0 (o,an) rfl;simpa using this
  have B:∀(i) x,l[i]? =some x->ops[k+1+i]? =some x.1:=λi x hx=>by
   have:=hl (i+1) x hx
   grind
  have E:=R (o,an) (by simp);have hw:Region.wanted o (yielded ops a.tmps)=b:=by
   let⟨z,_,_,_,_,hs,_⟩:=hi
   exact hg.wanted λj aa d _ _=>hs d
  have G:=hi.le e1 U e3 e4;simp[List.range'_succ,wpOps,ho,hw];rcases hb with⟨rfl,V⟩|⟨rfl,W⟩
  .simp[ZCq];refine .inl (wpZ O V (by rw[U];exact hd) G E λC I w' h' X=> ?_);exact fQZ O hk l (k+1) B (λx hx=>R x (by simp[hx])) C I w' h' X
  .simp only[ZBK,ZCl];exact fQZ O hk l (k+1) B (λx hx=>R x (by simp[hx])) _ _ w W (G.skip (by rw[U];exact hd) E)
theorem s5Z{B}{N}{L}{K}{d:β}{Q}(D:∀e∈T,fF P e)(hk:∀j C w',K j=some d->Inv B N L j C w'->Q .normal C w')
 (l:List (Oper×Ann))(k)(E:∀(i) x,l[i]? =some x->ops[k+i]? =some x.1)(h2:∀x∈l,∀p∈L,x.1.dst≠some p.1)(st)(a)(w)(h:yA P T l ops.toList st K=some d)(hi:Inv B N L st a w):
  wpOps P ops Q (List.range' k l.length) a w:=by
 have:=fQZ (tail:=[]) D hk l k E h2 st a w h hi
 simp_all
end
section
variable {P : Program} {T : Tbl} {z : Z} {H : Hp} {β : Type} {all : List Oper} {ops : Array Oper}
theorem bWZ{α β:Type}{f g:α->β}{l:List α}(h:∀x∈l,f x=g x):l.map f=l.map g:=ZCo h
theorem rzZ{o}{r d}{K:AV->Option β}(h:∀x∈o.op.operands,r x=d x):evR P o r H K=evR P o d H K:=by
 let⟨D,E,C,G,p,B⟩:=o
 cases E<;>simp[Op.operands] at h<;>simp[evR]
 case build t ps=>
  grind[bWZ,ZBf]
 case makeFunc f a c=>
  have j:a.toList.map r=a.toList.map d:=bWZ λx hx=>h x (by simp[ZBH.1 hx]);have I:c.toList.map r=c.toList.map d:=bWZ λx hx=>h x (by simp[ZBH.1 hx])
  grind
 case slice t x lo hi mx=>cases lo<;>cases hi<;>cases mx<;>simp_all
 case call c=>
  have j:c.args.toList.map r=c.args.toList.map d:=bWZ λx hx=>h x (by simp[Call.operands,ZBH.1 hx]);have I:∀a,c.args.toList=[a]->r a=d a:=λa L=>by
   rw[L] at j;simpa using j
  rw[j];split<;>grind
 all_goals simp_all
theorem p9Z{o}{B}{r d}{K:AV->Hp->Option β}(h:∀x∈o.op.operands,r x=d x):evW P T o B r H K=evW P T o B d H K:=by
 let⟨D,E,C,G,j,p⟩:=o
 cases E<;>simp[Op.operands] at h<;>simp[evW]
 case buildSlice t n ps=>
  grind[bWZ,ZBf]
 case makeMap t q=>cases q<;>simp_all
 case call c=>
  have I:c.args.toList.map r=c.args.toList.map d:=bWZ λx hx=>h x (by simp[Call.operands,ZBH.1 hx]);have N:∀a b,c.args.toList=[a,b]->r a=d a/\r b=d b:=λa b O=>by
   simp_all
  split
  .grind
  .grind
  .grind
  .rename_i f L;rw[I,h f (by simp[Call.operands,L])]
  .rfl
 all_goals simp_all
structure Rc where
 i:Nat
 o:Oper
 an:Ann
 pre:Nat->AV
 st:St
 go:Bool
 x:AV
 H2:Option Hp
def Rc.ft(r:Rc):List Nat:=sP r.o r.an r.st.opnd
def Rc.wr(r:Rc):List Nat:=wF r.st.hp r.ft
theorem dzZ(H)(id):∀l,cH id (yB H l)=(cH id l&&zQ H id)/\cH id (wF H l)=(cH id l&& !zQ H id)
 |[]=>⟨rfl,rfl⟩
 |i::l=>by
  let⟨d,h2⟩:=dzZ H id l
  unfold yB wF;by_cases h:id=i
  .subst h;cases j:zQ H id<;>simp[cH,d,h2,j]
  .have e:=ahZ (ZBk h);cases j:zQ H i<;>simp[cH,d,h2,e]
theorem mlZ{H}{i}(h:zQ H i=true):i<bA/\∃b,bF H i=some ⟨true,b⟩:=by
 unfold zQ at h;rw[ZAF,ZBg] at h
 grind
def Rc.tmE(t:Nat)(r:Rc):Option AV:=if r.o.dst=some t then some r.x else none
def Rc.hpE(id:Nat)(r:Rc):Option (Bool×Option Ent):=
 match r.H2 with
 |some H2=>if cH id r.wr=true then some (true,if bM H2 id=true then bF H2 id else none) else none
 |none=>none
def iW{d:Type}(f:Rc->Option d):List Rc->d->d
 |[],b=>b
 |r::l,b=>iW f l ((f r).getD b)
def lA(H:Hp)(id:Nat):Bool×Option Ent:=(bM H id,bF H id)
structure Rc.Ok (P:Program) (T:Tbl) (all:List Oper) (r:Rc):Prop where
 dst:mJ r.st.nt r.o.dst=true
 grd:xD all r.o r.pre r.go
 le:∀t,Le (r.pre t) (r.st.tm.get t)
 no:r.go=false->r.x= .tup []/\r.H2=none
 yes:r.go=true->(isR P r.o=true/\evR P r.o r.st.opnd (sQ r.st.hp r.ft) some=some r.x/\r.H2=none)\/
  (isR P r.o=false/\(sR P r.o=true->r.an.ids≠[])/\JH r.an.md r.ft=true/\∃Hr,r.H2=some Hr/\evW P T r.o r.an r.st.opnd (sQ r.st.hp r.ft) (fun x H=>some (x,H))=some (r.x,Hr)/\(nE (nF Hr) r.ft=true/\tT r.ft=true))
def lL(P:Program):List Rc->List Fp
 |[]=>[]
 |r::l=>if r.go=true then⟨r.i,r.ft,bq (isR P r.o) [] r.wr⟩::lL P l else lL P l
theorem mrZ{t}:∀{l} {a b},Le a b->Le (iW (Rc.tmE t) l a) (iW (Rc.tmE t) l b)
 |[],a,b,h=>h
 |r::l,a,b,h=>mrZ (l:=l) (by
   cases r.tmE t with
   |none=>exact h
   |some x=>exact .refl _)
theorem mNZ:∀(l) (st) (fs) {K} {E:β},pH P T l all st fs K=some E->
 ∃(p:List Rc) (B:St),p.map (λr=>(r.i,r.o))=l.map (λx=>(x.1,x.2.1))/\(∀r∈p,r.Ok P T all)/\K B ((lL P p).reverse++fs)=some E/\
  (∀N r l2,p=N++r::l2->(∀t,Le (iW (Rc.tmE t) N (st.tm.get t)) (r.pre t))/\(∀id,iW (Rc.hpE id) N (lA st.hp id)=lA r.st.hp id)/\r.st.nt=st.nt)/\
  (∀t,Le (iW (Rc.tmE t) p (st.tm.get t)) (B.tm.get t))/\(∀id,iW (Rc.hpE id) p (lA st.hp id)=lA B.hp id)/\B.nt=st.nt/\B.n0=st.n0
 |[],st,fs,K,E,h=>⟨[],st,rfl,λr h=>(by cases h),h,λN r l2 h=>(by simp_all),λt=>.refl _,λid=>rfl,rfl,rfl⟩
 |(i,o,an)::l,st,fs,K,E,h=>by
  simp[pH] at h
  let⟨hd,j,b,U,O,e3,V,hg,hb⟩:=tKZ h
  generalize hA:an.at j.hp=an' at hb;have W:∃(r:Rc) (C:St) (L:List Fp),r.i=i/\r.o=o/\r.pre=st.tm.get/\r.st=j/\r.Ok P T all/\pH P T l all C L K=some E/\(∀t,Le ((r.tmE t).getD (st.tm.get t)) (C.tm.get t))/\
   (∀id,(r.hpE id).getD (lA st.hp id)=lA C.hp id)/\C.nt=st.nt/\C.n0=st.n0/\L=lL P [r]++fs:=by
   have D:∀(x) t,Le ((if o.dst=some t then some x else none:Option AV).getD (st.tm.get t)) ((j.putO o.dst x).tm.get t):=λx t=>by
    cases ho:o.dst with
    |none=>simp[St.putO];exact V t
    |some d=>
     simp[St.putO];by_cases R:d=t
     .subst R;rw[ZAL rfl];rcases(Tr.get_put j.tm d x d).2 with e|e<;>rw[e]
      .exact .refl _
      .exact .junk _
     .rw[ZAJ R,(Tr.get_put j.tm d x t).1 (ZBk R)];exact V t
   rcases hb with⟨rfl,G⟩|⟨rfl,ab⟩
   .unfold UE at G;cases X:isR P o<;>rw[X] at G<;>simp[bq_false] at G
    .let⟨Y,h2⟩:=aeZ.1 G
     let⟨x,Hr,h3,h4⟩:=u8Z h2
     let⟨h5,h6⟩:=aeZ.1 h4
     simp[ZAl] at Y
     let r:Rc:=⟨i,o,an',st.tm.get,j,true,x,some Hr⟩
     have I:r.Ok P T all:=⟨by show mJ j.nt o.dst=true;rw[O];exact hd,hg,V,λh=>(by cases h),λ_=>.inr ⟨X,λhm ac=>(by
      rcases Y.1 with h|h
      .rw[hm] at h;cases h
      .rw[(ac)] at h;cases h),Y.2,Hr,rfl,h3,Bool.and_eq_true_iff.1 h5⟩⟩
     refine⟨r,_,_,rfl,rfl,rfl,rfl,I,h6,λt=>D x t,λid=> ?_,?_,?_,?_⟩
     .show(Rc.hpE id r).getD (lA st.hp id)=lA (gK (gK (gH j.hp (sP o an' j.opnd)) Hr) (sQ j.hp (yB j.hp (sP o an' j.opnd)))) id;unfold lA;rw[aJZ,aQZ,aJZ,aQZ,aOZ,bdZ,(bVZ _ _ id).1,(bVZ _ _ id).2,(dzZ j.hp id _).1,<-U];simp only[Rc.hpE,Rc.ft,Rc.wr,r,(dzZ j.hp id _).2];by_cases hm:cH id (sP o an' j.opnd)=true
      .cases hz:zQ j.hp id
       .simp[hm]
       .let⟨_,b,hb⟩:=mlZ hz
        simp[hm,aiZ hb]
      .have hk:bM Hr id=false:=by
        cases hk:bM Hr id
        .rfl
        .exact absurd (ajZ.2 (bZZ.1 (Bool.and_eq_true_iff.1 h5).1 id (eLZ.1 hk))) hm
       simp[hm,hk]
     .show(j.putO o.dst x).nt=st.nt;rw[(deZ j o.dst x).2.1,O]
     .show(j.putO o.dst x).n0=st.n0;rw[(deZ j o.dst x).2.2.1,e3]
     .simp[lL,r,Rc.ft,Rc.wr,X,U]
    .let⟨Y,h2⟩:=aeZ.1 G
     let⟨x,h3,h4⟩:=uHZ Y h2
     let r:Rc:=⟨i,o,an',st.tm.get,j,true,x,none⟩
     have I:r.Ok P T all:=⟨by show mJ j.nt o.dst=true;rw[O];exact hd,hg,V,λh=>(by cases h),λ_=>.inl ⟨X,h3,rfl⟩⟩;refine⟨r,_,_,rfl,rfl,rfl,rfl,I,h4,λt=>D x t,λid=> ?_,?_,?_,?_⟩
     .show lA st.hp id=lA (j.putO o.dst x).hp id;rw[(deZ j o.dst x).2.2.2,U]
     .rw[(deZ j o.dst x).2.1,O]
     .rw[(deZ j o.dst x).2.2.1,e3]
     .simp[lL,r,Rc.ft,X]
   .let r:Rc:=⟨i,o,an',st.tm.get,j,false,.tup [],none⟩
    have I:r.Ok P T all:=⟨by show mJ j.nt o.dst=true;rw[O];exact hd,hg,V,λ_=>⟨rfl,rfl⟩,λh=>(by cases h)⟩;refine⟨r,_,_,rfl,rfl,rfl,rfl,I,ab,λt=>D (.tup []) t,λid=> ?_,?_,?_,?_⟩
    .show lA st.hp id=lA (j.putO o.dst (.tup [])).hp id;rw[(deZ j o.dst (.tup [])).2.2.2,U]
    .show(j.putO o.dst (.tup [])).nt=st.nt;rw[(deZ j o.dst (.tup [])).2.1,O]
    .show(j.putO o.dst (.tup [])).n0=st.n0;rw[(deZ j o.dst (.tup [])).2.2.1,e3]
    .simp[lL,r]
  let⟨r,C,L,r1,r2,r4,r5,r6,r7,r8,r9,aa,ad,ae⟩:=W
  let⟨p,B,q1,q2,q3,q4,q5,q6,q7,q8⟩:=mNZ l C L r7
  refine⟨r::p,B,by simp[r1,r2,q1],λx hx=> ?_,?_,λN r' l2 he=> ?_,λt=> ?_,λid=> ?_,q7.trans aa,q8.trans ad⟩
  .rcases ZAj.1 hx with rfl|hx
   .exact r6
   .exact q2 x hx
  .rw[ae] at q3;have:(lL P (r::p)).reverse++fs=(lL P p).reverse++(lL P [r]++fs):=by
    simp only[lL];split<;>simp
   rw[this];exact q3
  .cases N with
   |nil=>
    simp only[ZBb,ZBV] at he;obtain⟨rfl,rfl⟩:=he;exact⟨λt=>by rw[r4];exact .refl _,λid=>by rw[r5,U];rfl,by rw[r5];exact O⟩
   |cons r0 N=>
    simp only[List.cons_append,ZBV] at he;obtain⟨rfl,he⟩:=he
    let⟨a1,a2,a3⟩:=q4 N r' l2 he
    refine⟨λt=> ?_,λid=> ?_,a3.trans aa⟩
    .exact(mrZ (r8 t)).trans (a1 t)
    .simp only[iW];rw[r9];exact a2 id
  .exact(mrZ (r8 t)).trans (q5 t)
  .simp only[iW];rw[r9];exact q6 id
theorem hcZ{cl}:∀{l},qP cl l=true->l.Pairwise λb a=>BI cl a b=true
 |[],_=>.nil
 |b::l,h=>by
  simp[qP,ZCU] at h;exact .cons h.1 (hcZ h.2)
theorem kXZ{a}:∀{l},IG a l=true->∀b∈l,cH a.i b.cl=true\/vO a b=true
 |[],_,b,h=>by cases h
 |c::l,h,b,hb=>by
  simp[IG,ZA2] at h;rcases ZAj.1 hb with rfl|hb
  .exact h.1
  .exact kXZ h.2 b hb
theorem jDZ:∀{l},AJ l=true->l.Pairwise λa b=>cH a.i b.cl=true\/vO a b=true
 |[],_=>.nil
 |a::l,h=>by
  simp[AJ] at h;exact .cons (kXZ h.1) (jDZ h.2)
def Rc.nm(cl:List (Nat×List Nat))(all:List Oper)(r:Rc):Nm:=⟨r.i,(cl.lookup r.i).getD [],uD all r.o++pG r.o.op.operands.toList,r.o.dst⟩
theorem tNZ{cl}:∀{d:List Rc} {l:List (Oper×Ann)} {k},d.map (λr=>(r.i,r.o))=(pJ k l).map (λx=>(x.1,x.2.1))->nms cl all k (l.map (·.1))=d.map (Rc.nm cl all)
 |[],[],k,_=>rfl
 |[],_::_,k,h=>by grind[pJ]
 |_::_,[],k,h=>by grind[pJ]
 |r::d,(o,j)::l,k,h=>by
  simp[pJ,ZA1] at h;obtain⟨⟨rfl,rfl⟩,h⟩:=h;simp[nms,tNZ h]
  rfl
theorem p5Z{α}:∀{l:List α} {k},(pJ k l).Pairwise λa b=>a.1<b.1
 |[],k=>.nil
 |a::l,k=>.cons (λb hb=>by
   have:∀{l} {k} {b:Nat×α},b∈pJ k l->k<=b.1:=λ{l}=>by
    induction l with
    |nil=>intro k b h;cases h
    |cons a l d=>
     intro k b h;rcases ZAj.1 h with rfl|h
     .exact ZAN _
     .exact Nat.le_of_succ_le (d h)
   grind) p5Z
theorem i9Z{α}:∀{l:List α} {k i},(pJ k l)[i]? =(l[i]?).map λa=>(k+i,a)
 |[],k,i=>by simp[pJ]
 |a::l,k,0=>by simp[pJ]
 |a::l,k,i+1=>by
  simp[pJ,i9Z];congr 1;rw[show k+1+i=k+(i+1) by omega]
def qR(all:List Oper)(S:Nat->Prop)(j:Nat):Prop:=∀o,all[j]? =some o->∀e∈o.after,Region.binds .any e=true->S e.on
theorem iuZ{d}:∀{es} {k},k∈DU d es->∃e∈es,Region.binds .any e=true/\(k=e.on\/k∈(d.lookup e.on).getD [])
 |[],k,h=>by cases h
 |e::es,k,h=>by
  simp[DU] at h;cases hb:Region.binds .any e<;>rw[hb] at h<;>simp only[bq_true,bq_false] at h
  .let⟨e',j,h2⟩:=iuZ h
   exact⟨e',ZAc _ j,h2⟩
  .rcases ZAj.1 h with rfl|h
   .exact⟨e,ZAr,hb,.inl rfl⟩
   .rcases ZAh.1 h with h|h
    .exact⟨e,ZAr,hb,.inr h⟩
    .let⟨e',j,h2⟩:=iuZ h
     exact⟨e',ZAc _ j,h2⟩
theorem p2Z{S}(B:∀j,S j->qR all S j):∀(l) (k) (d),(∀i,l[i]? =all[k+i]?)->(∀j,qR all S j->∀m∈(d.lookup j).getD [],S m)->
 ∀j,qR all S j->∀m∈((BH k l d).lookup j).getD [],S m
 |[],k,d,_,h=>h
 |o::l,k,d,p,h=>by
  refine p2Z B l (k+1) _ (λi=>by have:=p (i+1);grind) λj C m hm=> ?_;simp[List.lookup_cons] at hm;cases hk:(j==k)
  .grind
  .have:=by simpa using hk
   subst this;simp[ePZ] at hm
   let⟨e,D,h2,E⟩:=iuZ hm
   have he:=C o (by have:=p 0;simpa using this.symm) e (ZBH.1 D) h2
   grind
end
section
variable {P : Program} {T : Tbl} {β : Type} {ops : Array Oper}
theorem emZ{p}{f}{S:Nat->Bool}:∀{l} {b:p},(∀r∈l,(f r).isSome=true->S r.i=true)->iW f (l.filter λr=>S r.i) b=iW f l b
 |[],b,_=>rfl
 |r::l,b,h=>by
  have j:=λx hx=>h x (ZAc _ hx);cases d:S r.i
  .rw[List.filter_cons_of_neg (by simp[d])];have B:f r=none:=by
    cases C:f r with
    |none=>rfl
    |some v=>have:=h r ZAr (by rw[C];rfl);rw[d] at this;cases this
   rw[emZ j];simp[iW,B]
  .rw[ZB0 (by simp[d])];exact emZ j
theorem ezZ{p}{f}{S:Nat->Bool}:∀{l:List Rc} {b:p},(∀r∈l,(f r).isSome=true->S r.i=false)->iW f (l.filter λr=>S r.i) b=b
 |[],b,_=>rfl
 |r::l,b,h=>by
  have j:=λx hx=>h x (ZAc _ hx);cases d:S r.i
  .rw[List.filter_cons_of_neg (by simp[d])];exact ezZ j
  .rw[ZB0 (by simp[d])];have B:f r=none:=by
    cases C:f r with
    |none=>rfl
    |some v=>have:=h r ZAr (by rw[C];rfl);rw[d] at this;cases this
   simp[iW,B];exact ezZ j
theorem chZ{d}{f}:∀{l m} {b:d},iW f (l++m) b=iW f m (iW f l b)
 |[],m,b=>rfl
 |r::l,m,b=>by simp[iW];exact chZ
theorem jSZ{j}{f}{S:Nat->Bool}{d h}{r}{b:j}(p:S r.i=false)(B:∀x∈d,(f x).isSome=true->S x.i=true)(h2:∀x∈h,(f x).isSome=true->S x.i=false):
 iW f ((d++r::h).filter λr=>S r.i) b=iW f d b:=by
 simp_all[chZ,emZ,ezZ]
theorem g3Z{p}{f}{S S':Nat->Bool}{h d}{r}{b:p}(E:S r.i=false)(j:S' r.i=true)(B:∀x∈h,S' x.i=S x.i)(C:∀x∈d,S' x.i=S x.i):
 (∀v,f r=some v->(∀x∈d,(f x).isSome=true->S x.i=false)->iW f ((h++r::d).filter λr=>S' r.i) b=v)/\
 (f r=none->iW f ((h++r::d).filter λr=>S' r.i) b=iW f ((h++r::d).filter λr=>S r.i) b):=by
 have G:(h.filter λr=>S' r.i)=h.filter λr=>S r.i:=List.filter_congr λx hx=>by simp_all
 have D:(d.filter λr=>S' r.i)=d.filter λr=>S r.i:=List.filter_congr λx hx=>by simp_all
 refine⟨λv hv h2=> ?_,λhv=> ?_⟩
 .rw[ZCr,ZB0 (by simp[j]),chZ,D]
  simp_all[iW,ezZ]
 .rw[ZCr,ZB0 (by simp[j]),chZ,ZCr,chZ]
  simp_all[iW]
theorem fOZ:∀{l} {k},qQ k l=true->∀(i) o,l[i]? =some o->(∀e∈o.after,Region.binds .any e=true->e.on<k+i)/\∀cs b,o.op≠.select cs b
 |[],k,_,i,o,h=>by grind
 |x::l,k,h,i,o,d=>by
  simp[qQ] at h
  let⟨⟨j,h2⟩,p⟩:=h
  cases i with
  |zero=>
   simp[ZAW] at d;subst d;refine⟨λe he hb=> ?_,λcs b B=>by simp_all⟩;have:∀{es},xC k es=true->∀e∈es,Region.binds .any e=true->e.on<k:=λ{es}=>by
    induction es with
    |nil=>simp_all
    |cons C es D=>
     intro h e he hb;simp[xC,ZBg] at h
     grind
   exact this j e (ZBH.2 he) hb
  |succ i=>
   have:=fOZ p i o (by simpa using d);rwa [show k+1+i=k+(i+1) by omega] at this
def LA:Operand->Option Nat
 |.tmp t=>some t
 |.global g=>some (1048576+g)
 |_=>none
theorem hHZ{t}{x}(hx:LA x=some t):∀{l},x∈l->t∈pG l
 |[],h=>by cases h
 |y::l,h=>by
  rcases ZAj.1 h with rfl|h
  .cases x<;>cases hx<;>exact ZAr
  .have:=hHZ hx h;cases y<;>first|exact this|exact ZAc _ this
theorem sPZ{z}{st:St}{a:Act}(x)(h:∀t,LA x=some t->bE z (st.tm.get t) (a.eval (iI t))):bE z (st.opnd x) (a.eval x):=by
 cases x with
 |tmp t=>
  simp[St.opnd];cases hb:Nat.blt t 1048576
  ·exact .junk _
  ·have:=h t rfl
   simp_all[fdZ]
 |const v=>
  have e:st.opnd (.const v)=({st with tm:=.lf}:St).opnd (.const v):=by cases v<;>rfl
  rw[e];exact esZ (fun t=>.junk _) (.const v)
 |global g=>have:=h _ rfl;rw[qpZ] at this;exact this
 |func f=>exact esZ (st:={st with tm:=.lf}) (fun t=>.junk _) (.func f)
theorem h4Z{n}{listed:Array Bool}{i}(hs:listed.size=n)(hi:listed.getD i true=false):
 ((List.range n).filter fun j=> !listed.getD j true).length=((List.range n).filter fun j=> !(listed.setIfInBounds i true).getD j true).length+1:=by
 have hlt:i<n:=by
  rcases ZB1 i listed.size with h|h
  ·omega
  ·simp[Array.getElem?_eq_none h] at hi
 have hmem:i∈(List.range n).filter fun j=> !listed.getD j true:=by
  rw[ZCs];exact⟨ZCW.2 hlt,by rw[hi];rfl⟩
 have hnd:((List.range n).filter fun j=> !listed.getD j true).Nodup:=List.Pairwise.sublist List.filter_sublist List.nodup_range;have he:((List.range n).filter fun j=> !(listed.setIfInBounds i true).getD j true)=((List.range n).filter fun j=> !listed.getD j true).erase i:=by
  rw[List.Nodup.erase_eq_filter hnd,List.filter_filter];refine List.filter_congr fun j hj=> ?_;by_cases hij:i=j
  ·subst hij;simp[show i<listed.size by omega]
  ·have:(j !=i)=true:=by simp;exact fun h=>hij h.symm
   rw[this,getD_set_ne true hij];simp
 grind
theorem bH.lay{z}{H}(d:bH z H){i}{e}(hi:i<bA)(he:fC z i e)(U:e.fz=true)(D:famOk i e):bH z (bR H i (some e)):=by
 have G:bA<bC:=by unfold bA bC;omega
 refine⟨λid e' h=> ?_,λid j I K g L n N p n' B C h2 O R=> ?_,λid h=> ?_,d.sub,λid e' h=> ?_,λid h=> ?_,λid E h=> ?_,d.nos⟩
 .rw[a8Z hi] at h;split at h
  .simp_all
  .exact d.ent id e' h
 .rw[a8Z hi] at C h2;split at C
  .simp_all
  .split at h2
   .simp_all
   .exact d.inj id j I K g L n N p n' B C h2 O R
 .rw[bwZ hi] at h;exact d.fresh id (by simp_all)
 .rw[apZ] at h;split at h
  .simp_all
  .exact d.fam id e' h
 .rw[atZ] at h;by_cases T:id=i
  .omega
  .exact d.key id (by simp_all)
 .rw[atZ] at h;have:rt id≠i:=by
   unfold rt;rw[ZAL E];omega
  exact d.dyn id E (by simp_all)
theorem bH.refz{z p}{H H1 H3}(B:Kp z p)(d:bH z H)(D:bH p H3):∀{F},(∀i∈F,∃b,i<bA/\bF H1 i=some ⟨true,b⟩/\bF H i=some ⟨true,b⟩)->bH p (gK H3 (sQ H1 F))
 |[],_=>D
 |i::F,h=>by
  have G:=bH.refz B d D λj I=>h j (ZAc _ I)
  let⟨b,K,E,L⟩:=h i ZAr
  unfold sQ;rw[aiZ E];rw[E];refine G.lay K ?_ rfl (d.fam i _ L);have he:=d.ent i ⟨true,b⟩ (by simp_all[arZ]);refine he.kp B λg O n C=> ?_;unfold fC at he;rw[C] at he;exact⟨B.block g he.1 (he.2.2.1 rfl),λN=>absurd (d.sub g N) (he.2.2.1 rfl)⟩
def J(C:Z)(N:Nat)(L:List (Nat×AV))(B:Array Oper)(h:List Rc)(st:St)(d:Array Bool)(a:Act)(w:World):Prop:=
 ∃z H,z.w=w/\Nx C z/\(∀id,¬z.D id)/\bH z H/\(∀id,iW (Rc.hpE id) (h.filter λr=>d.getD r.i false) (lA st.hp id)=lA H id)/\
  (∀t,bE z (iW (Rc.tmE t) (h.filter λr=>d.getD r.i false) (st.tm.get t)) (a.eval (iI t)))/\(∀p∈L,bE z p.2 (a.eval (iI p.1)))/\a.defers=[]/\(st.nt<=N/\a.tmps.size=N)/\
  d.size=B.size/\(∀j,d.getD j false=true->qR B.toList (λj=>d.getD j false=true) j)
theorem mSZ:∀{d l},JH d l=true↔∀m∈d,m<4\/m+100000∈l
 |[],l=>by simp[JH]
 |m::d,l=>by
  simp only[JH,ZAF,ZA2,ajZ,mSZ]
  simp_all
theorem sYZ{z0}{N}{L:List (Nat×AV)}{st}{a}{w}{K:St->Option β}{res}{Q}{opsA:List (Oper×Ann)}(hT:∀e∈T,fF P e)(hops:opsA.map (·.1)=ops.toList)
 (hL:∀x∈opsA,∀p∈L,x.1.dst≠some p.1)(hk:∀st' a' w',K st'=some res->Inv z0 N L st' a' w'->Q .normal a' w')
 (hed:qQ 0 ops.toList=true)(hnm:AJ (nms (BH 0 ops.toList []) ops.toList 0 ops.toList)=true)
 (h:pH P T (pJ 0 opsA) ops.toList st [] (fun st' fs=>bO (qP (BH 0 ops.toList []) fs) (K st'))=some res)(hi:Inv z0 N L st a w):
 wpAny P .any ops Q ops.size (Array.replicate ops.size false) a w:=by
 obtain⟨recs,st',t1,t2,t3,t4,t5,t6,t7,t8⟩:=mNZ _ _ _ h;obtain⟨hpair,hK⟩:=aeZ.1 t3;have hi0:=hi;obtain⟨_,_,_,_,_,_,_,_,_,hn0⟩:=hi0;rw[ZAs] at hpair;generalize hcl:BH 0 ops.toList []=cl at*;have hnames:recs.Pairwise fun a b=>cH a.i ((cl.lookup b.i).getD [])=true\/vO (a.nm cl ops.toList) (b.nm cl ops.toList)=true:=by
  have:=jDZ hnm;have e:=tNZ (cl:=cl) (all:=ops.toList) t1;rw[hops] at e;rw[e,List.pairwise_map] at this;exact this
 have hfp:(lL P recs).Pairwise fun a b=>BI cl a b=true:=by
  have:=hcZ hpair;rwa [List.pairwise_reverse] at this
 have hrec:recs.Pairwise fun r1 r2=>r1.go=true->r2.go=true->cH r1.i ((cl.lookup r2.i).getD [])=true\/IF ⟨r1.i,r1.ft,bq (isR P r1.o) [] r1.wr⟩ ⟨r2.i,r2.ft,bq (isR P r2.o) [] r2.wr⟩=false:=by
  clear t1 t2 t3 t4 t5 t6 hpair hnames;have mem:∀{l:List Rc} {r:Rc},r∈l->r.go=true->(⟨r.i,r.ft,bq (isR P r.o) [] r.wr⟩:Fp)∈lL P l:=fun{l}=>by
   induction l with
   |nil=>simp_all
   |cons x l ih=>
    intro r h hg;simp only[lL]
    grind
  induction recs with
  |nil=>exact .nil
  |cons x l ih=>
   simp only[lL] at hfp;refine .cons (fun y hy hx hy'=> ?_) (ih ?_)
   ·rw[ZAL hx] at hfp;have:=(ZA4.1 hfp).1 _ (mem hy hy');simp only[BI,ZA2,ZAl] at this;exact this.symm
   grind
 have hat:∀(i:Nat) r,recs[i]? =some r->r.i=i/\ops[i]? =some r.o:=fun i r hr=>by
  have e:(recs.map fun r=>(r.i,r.o))[i]? =some (r.i,r.o):=by rw[ZAV,hr];rfl
  rw[t1,ZAV,i9Z,Option.map_map] at e;obtain⟨x,hx,hxe⟩:=ZAH.1 e;simp only[Function.comp,ZA1] at hxe;obtain⟨h1,h2⟩:=hxe;refine⟨by omega,?_⟩;have h3:(opsA.map (·.1))[i]? =some r.o:=by rw[ZAV,hx,<-h2];rfl
  simp_all
 have hlen:recs.length=ops.size:=by
  have h1:(recs.map fun r=>(r.i,r.o)).length=opsA.length:=by
   rw[t1,ZAp];have:∀{α:Type} (l:List α) k,(pJ k l).length=l.length:=fun l=>by
    induction l<;>grind[pJ]
   exact this _ _
  have h2:=congrArg List.length hops;simp at h1 h2;omega
 have hlt:∀{l1:List Rc} {r l2},recs=l1++r::l2->(∀x∈l1,x.i≠r.i)/\(∀x∈l2,x.i≠r.i):=fun{l1 r l2} he=>by
  have hp:recs.Pairwise fun a b=>a.i<b.i:=by
   have:=p5Z (l:=opsA) (k:=0);have h2:((pJ 0 opsA).map fun x=>(x.1,x.2.1)).Pairwise fun a b=>a.1<b.1:=List.pairwise_map.2 this;rw[<-t1,List.pairwise_map] at h2;exact h2
  grind[ZBy,Nat.ne_of_lt,ZAr,ZA4]
 have main:∀(bB:Nat) (listed:Array Bool) (a:Act) (w:World),bB=((List.range ops.size).filter fun j=> !listed.getD j true).length->J z0 N L ops recs st listed a w->wpAny P .any ops Q bB listed a w:=by
  have fin:∀(listed:Array Bool) (a:Act) (w:World),Region.ready .any ops listed=[]->J z0 N L ops recs st listed a w->Q .normal a w:=by
   rintro listed a w hr ⟨z,H,rfl,hn,hD,hH,hhp,htm,hLs,hdf,hnt,hsz,hcs⟩;have hall:∀i,i<ops.size->listed.getD i false=true:=by
    intro i;induction i using Nat.strongRecOn with
    |_ i ih=>
     intro hi;cases hb:listed.getD i false
     ·exfalso;have hb':listed.getD i true=false:=by
       have:i<listed.size:=by omega
       simp[this] at hb⊢;exact hb
      have:i∈Region.ready .any ops listed:=by
       rw[mem_ready];refine⟨hb',ops[i],ZBE hi,fun e he hbd=> ?_⟩;have:=(fOZ hed i ops[i] (by rw[ZA7];exact ZBE hi)).1 e he hbd;rw[ZAz] at this;exact ih e.on this (by omega)
      grind
     ·rfl
   have hfil:(recs.filter fun r=>listed.getD r.i false)=recs:=by
    rw[ZB7];intro r hr';obtain⟨i,hi⟩:=ZAT hr';obtain⟨h1,h2⟩:=hat i r hi;rw[h1];exact hall i (ZBI.1 h2).1
   rw[hfil] at hhp htm;refine hk st' a z.w hK ⟨z,rfl,hn,hD,hH.same (fun id=> ?_) (fun id=> ?_),fun t=>t5 t _ _ (htm t),hLs,hdf,by omega,by grind⟩
   ·have:=(t6 id).symm.trans (hhp id);exact congrArg Prod.snd this
   ·have:=(t6 id).symm.trans (hhp id);exact congrArg Prod.fst this
  have step:∀(listed:Array Bool) (a:Act) (w:World) (i:Nat) (next:Act->World->Prop),i∈Region.ready .any ops listed->J z0 N L ops recs st listed a w->
   (∀a' w',J z0 N L ops recs st (listed.setIfInBounds i true) a' w'->next a' w')->wpOp P ops Q i next a w:=by
   rintro listed a w i next hr ⟨z,H,rfl,hn,hD,hH,hhp,htm,hLs,hdf,hnt,hsz,hcs⟩ hnext;obtain⟨hun,o,ho,hedge⟩:=mem_ready.1 hr;have hilt:i<ops.size:=(ZBI.1 ho).1;obtain⟨r,hri⟩:∃r,recs[i]? =some r:=⟨_,ZAB (by omega)⟩;obtain⟨hr1,hr2⟩:=hat i r hri;rw[ho] at hr2;simp only[ZAW] at hr2;subst hr2;obtain⟨l1,l2,hsplit⟩:=List.append_of_mem (ZAI hri);have hmem:=ZAI hri;have hok:=t2 r hmem;obtain⟨u1,u2,u3⟩:=t4 l1 r l2 hsplit;have hSi:listed.getD r.i false=false:=by
    rw[hr1];have:i<listed.size:=by omega
    simp[this] at hun⊢;exact hun
   have hclS:∀j,qR ops.toList (fun j=>listed.getD j false=true) j->∀m∈(cl.lookup j).getD [],listed.getD m false=true:=fun j hj m hm=>by
    rw[<-hcl] at hm;exact p2Z (S:=fun j=>listed.getD j false=true) hcs ops.toList 0 [] (fun i=>by rw[ZAz]) (fun j _ m hm=>by simp at hm) j hj m hm
   have hA:∀m∈(cl.lookup r.i).getD [],listed.getD m false=true:=hclS r.i fun o' ho' e he hb=>by
    rw[hr1,ZA7,ho] at ho';simp only[ZAW] at ho';subst ho';exact hedge e he hb
   have hB:∀x,r.i∈(cl.lookup x).getD []->listed.getD x false=false:=fun x hx=>by
    cases hb:listed.getD x false
    ·rfl
    ·have:=hclS x (hcs x hb) r.i hx;rw[hSi] at this;cases this
   rw[hsplit] at hnames hrec;have hn1:=ZBy.1 hnames;have hf1:=ZBy.1 hrec;have slot1:∀t,(t∈(r.nm cl ops.toList).rd\/r.o.dst=some t)->∀x∈l1,(x.tmE t).isSome=true->listed.getD x.i false=true:=fun t ht x hx hs=>by
    rcases hn1.2.2 x hx r ZAr with h|h
    ·exact hA _ (ajZ.1 h)
    ·exfalso;have hxd:x.o.dst=some t:=by
      unfold Rc.tmE at hs;split at hs
      ·assumption
      ·cases hs
     simp only[vO,ZAF,ZAl,Rc.nm,hxd,fJ,KZ] at h;rcases ht with ht|ht
     ·have ht':cH t (uD ops.toList r.o++pG r.o.op.operands.toList)=true:=ajZ.2 ht;rw[ht'] at h;exact absurd h.1.1 (by simp)
     ·rw[ht] at h;simp[Nat.beq_refl,afZ] at h
   have slot2:∀t,(t∈(r.nm cl ops.toList).rd\/r.o.dst=some t)->∀x∈l2,(x.tmE t).isSome=true->listed.getD x.i false=false:=fun t ht x hx hs=>by
    rcases(ZA4.1 hn1.2.1).1 x hx with h|h
    ·exact hB _ (ajZ.1 h)
    ·exfalso;have hxd:x.o.dst=some t:=by
      unfold Rc.tmE at hs;split at hs
      ·assumption
      ·cases hs
     simp only[vO,ZAF,ZAl,Rc.nm,hxd,fJ,KZ] at h;rcases ht with ht|ht
     ·have ht':cH t (uD ops.toList r.o++pG r.o.op.operands.toList)=true:=ajZ.2 ht;rw[ht'] at h;exact absurd h.1.2 (by simp)
     ·rw[ht] at h;simp[afZ] at h
   have hslot:∀t∈(r.nm cl ops.toList).rd,bE z (r.pre t) (a.eval (iI t)):=fun t ht=>by
    have:=htm t;rw[hsplit,jSZ (f:=Rc.tmE t) (S:=fun i=>listed.getD i false) hSi (slot1 t (.inl ht)) (slot2 t (.inl ht))] at this;exact u1 t _ _ this
   have hwant:Region.wanted r.o (yielded ops a.tmps)=r.go:=hok.grd.wanted fun j want d h1 h2=>hslot d (by
    obtain⟨x,h3,h4⟩:=ZAG.1 h2;simp[Rc.nm,uD,h1,h3,h4])
   have hopn:∀x∈r.o.op.operands,bE z (r.st.opnd x) (a.eval x):=fun x hx=>sPZ x fun t ht=>by
    exact hok.le t _ _ (hslot t (by
     simp only[Rc.nm,ZAh];exact .inr (hHZ ht (ZBH.2 hx))))
   have hS':(listed.setIfInBounds i true).getD r.i false=true:=by rw[hr1];simp[show i<listed.size by omega]
   have hSo:∀x,x≠i->(listed.setIfInBounds i true).getD x false=listed.getD x false:=fun x hx=>getD_set_ne false (ZBk hx);obtain⟨v1,v2⟩:=hlt hsplit;have hS1:∀x∈l1,(listed.setIfInBounds i true).getD x.i false=listed.getD x.i false:=fun x hx=>hSo _ (by rw[<-hr1];exact v1 x hx);have hS2:∀x∈l2,(listed.setIfInBounds i true).getD x.i false=listed.getD x.i false:=fun x hx=>hSo _ (by rw[<-hr1];exact v2 x hx);have hcs':∀j,(listed.setIfInBounds i true).getD j false=true->qR ops.toList (fun j=>(listed.setIfInBounds i true).getD j false=true) j:=fun j hj o' ho' e he hb=>by
    refine getD_set_true ?_;by_cases hji:j=i
    ·subst hji;rw[ZA7,ho] at ho';simp only[ZAW] at ho';subst ho';exact hedge e he hb
    ·rw[hSo j hji] at hj;exact hcs j hj o' ho' e he hb
   have hLr:∀p∈L,r.o.dst≠some p.1:=by
    have h3:(recs.map fun r=>(r.i,r.o))[i]? =some (r.i,r.o):=by rw[ZAV,hri];rfl
    rw[t1,ZAV,i9Z,Option.map_map] at h3;obtain⟨x,hx,hxe⟩:=ZAH.1 h3;simp only[Function.comp,ZA1] at hxe;have:=hL x (ZAI hx);rw[hxe.2] at this;exact this
   have hdst:=hok.dst;rw[u3] at hdst;have put:∀(z3:Z) (H3:Hp) (v:Value),Nx z z3->bH z3 H3->bE z3 r.x v->(∀id,iW (Rc.hpE id) (recs.filter fun r=>(listed.setIfInBounds i true).getD r.i false) (lA st.hp id)=lA H3 id)->
    J z0 N L ops recs st (listed.setIfInBounds i true) (a.put r.o.dst v) z3.w:=fun z3 H3 v k1 k2 k3 k4=>by
    have kp:=k1.kp hH.sub;refine⟨z3,H3,rfl,hn.trans k1,fun id=>by rw[k1.dom];exact hD id,k2,k4,fun t=> ?_,fun p hp=> ?_,(fGZ _ _ _).2.trans hdf,by rw[(fGZ _ _ _).1];exact hnt,by simpa using hsz,hcs'⟩
    ·by_cases ht:r.o.dst=some t
     ·rw[hsplit,(g3Z (f:=Rc.tmE t) (S:=fun i=>listed.getD i false) (S':=fun j=>(listed.setIfInBounds i true).getD j false) hSi hS' hS1 hS2).1 r.x (by simp[Rc.tmE,ht]) (slot2 t (.inr ht)),ht,edZ (by
       rw[ht] at hdst;simp only[mJ,ZAF,ZBg] at hdst;omega) (by
       rw[ht] at hdst;simp only[mJ,ZAF,ZBg] at hdst;exact hdst.2)]
      exact k3
     ·rw[hsplit,(g3Z (f:=Rc.tmE t) (S:=fun i=>listed.getD i false) (S':=fun j=>(listed.setIfInBounds i true).getD j false) hSi hS' hS1 hS2).2 (by simp[Rc.tmE,ht]),cZZ ht,<-hsplit];exact(htm t).kp kp
    ·rw[cZZ (hLr p hp)];exact(hLs p hp).kp kp
   have same:r.H2=none->∀id,iW (Rc.hpE id) (recs.filter fun r=>(listed.setIfInBounds i true).getD r.i false) (lA st.hp id)=lA H id:=fun h2 id=>by
    rw[hsplit,(g3Z (f:=Rc.hpE id) (S:=fun i=>listed.getD i false) (S':=fun j=>(listed.setIfInBounds i true).getD j false) hSi hS' hS1 hS2).2 (by simp[Rc.hpE,h2]),<-hsplit];exact hhp id
   unfold wpOp;simp only[ho,hwant];cases hgo:r.go
   ·simp only[ZBK,ZCl];obtain⟨x1,x2⟩:=hok.no hgo;exact hnext _ _ (put z H undef (Nx.refl z) hH (by rw[x1];exact ngZ) (same x2))
   ·simp only[ZCq];refine .inl ?_;have foot1:∀id∈r.ft,∀x∈l1,(x.hpE id).isSome=true->listed.getD x.i false=true:=fun id hid x hx hs=>by
     have hxt:=t2 x (by rw[hsplit];exact ZBe _ hx);have hxg:x.go=true:=by
      cases hxg:x.go
      ·have:=(hxt.no hxg).2;simp[Rc.hpE,this] at hs
      ·rfl
     have hxw:isR P x.o=false/\cH id x.wr=true:=by
      rcases hxt.yes hxg with⟨_,_,y⟩|⟨y,_⟩
      ·simp[Rc.hpE,y] at hs
      ·refine⟨y,?_⟩;unfold Rc.hpE at hs;split at hs
       ·split at hs
        ·assumption
        ·cases hs
       ·cases hs
     rcases hf1.2.2 x hx r ZAr hxg hgo with h|h
     ·exact hA _ (ajZ.1 h)
     ·exfalso;have hmt:uC x.wr r.ft=true:=by
       have:∀{l:List Nat},id∈l->uC l r.ft=true:=fun{l}=>by
        induction l with
        |nil=>intro h;cases h
        |cons y l ih=>
         intro h;simp only[uC,ZA2];rcases ZAj.1 h with rfl|h
         ·exact .inl (ajZ.2 hid)
         ·exact .inr (ih h)
       exact this (ajZ.1 hxw.2)
      simp[IF,hxw.1,hmt] at h
    have foot2:∀id∈r.ft,∀x∈l2,(x.hpE id).isSome=true->listed.getD x.i false=false:=fun id hid x hx hs=>by
     have hxt:=t2 x (by rw[hsplit];exact ZCd _ (ZAc _ hx));have hxg:x.go=true:=by
      cases hxg:x.go
      ·have:=(hxt.no hxg).2;simp[Rc.hpE,this] at hs
      ·rfl
     have hxw:isR P x.o=false/\cH id x.wr=true:=by
      rcases hxt.yes hxg with⟨_,_,y⟩|⟨y,_⟩
      ·simp[Rc.hpE,y] at hs
      ·refine⟨y,?_⟩;unfold Rc.hpE at hs;split at hs
       ·split at hs
        ·assumption
        ·cases hs
       ·cases hs
     rcases(ZA4.1 hf1.2.1).1 x hx hgo hxg with h|h
     ·exact hB _ (ajZ.1 h)
     ·exfalso;have hmt:uC x.wr r.ft=true:=by
       have:∀{l:List Nat},id∈l->uC l r.ft=true:=fun{l}=>by
        induction l with
        |nil=>intro h;cases h
        |cons y l ih=>
         intro h;simp only[uC,ZA2];rcases ZAj.1 h with rfl|h
         ·exact .inl (ajZ.2 hid)
         ·exact .inr (ih h)
       exact this (ajZ.1 hxw.2)
      simp[IF,hxw.1,hmt] at h
    have hfoot:∀id∈r.ft,lA H id=lA r.st.hp id:=fun id hid=>by
     rw[<-hhp id,hsplit,jSZ (f:=Rc.hpE id) (S:=fun i=>listed.getD i false) hSi (foot1 id hid) (foot2 id hid)];exact u2 id
    let F:Nat->Bool:=fun id=>cH id r.ft
    have hfoc:bH (z.foc H F) (sQ r.st.hp r.ft):=vWZ hH (fun id=>by
     rw[(bVZ _ _ id).1];show _=if cH id r.ft=true then _ else _;split
     ·rename_i hm;exact(congrArg Prod.snd (hfoot id (ajZ.1 hm))).symm
     ·rfl) (fun id=>by
     rw[(bVZ _ _ id).2];show _=(cH id r.ft&&_);cases hm:cH id r.ft
     ·rfl
     ·rw[show bM r.st.hp id=bM H id from(congrArg Prod.fst (hfoot id (ajZ.1 hm))).symm])
    classical
    let r':Operand->AV:=fun x=>if x∈r.o.op.operands then r.st.opnd x else .junk
    have hr':∀x∈r.o.op.operands,r.st.opnd x=r' x:=fun x hx=>(ZAL hx).symm;have hrep:∀x,bE (z.foc H F) (r' x) (a.eval x):=fun x=>by
     by_cases hx:x∈r.o.op.operands
     ·rw[<-hr' x hx];exact(hopn x hx).less rfl rfl fun g h=>h
     ·show bE _ (if x∈r.o.op.operands then r.st.opnd x else .junk) _;rw[ZAJ hx];exact .junk _
    rcases hok.yes hgo with⟨_,y1,y2⟩|⟨_,y1,y2,Hr,y3,y4,y5'⟩
    ·rw[rzZ hr'] at y1;refine t9Z (z:=z.foc H F) y1 hfoc hrep fun x v q1 q2=> ?_;simp only[ZAW] at q2;subst q2;exact hnext _ _ (put z H v (Nx.refl z) hH (q1.less rfl rfl fun g h=>h) (same y2))
    ·have y5:=y5'.1;rw[p9Z hr'] at y4;have hidF:∀id,rt id∈r.an.ids->¬(z.foc H F).D id:=fun id hid hd=>by
      rcases hd with hd|⟨_,hd⟩
      ·exact hD id hd
      ·have:F (rt id)=true:=ajZ.2 (by
        unfold Rc.ft sP;rw[ePZ];exact ZBe _ (ZCd _ hid))
       rw[this] at hd;cases hd
     refine tFZ (z:=z.foc H F) hT y4 hfoc hidF (fun hm hdd=>by
      have hmem:r.an.ids.headD 0∈r.an.ids:=by
       cases hids:r.an.ids with
       |nil=>exact absurd hids (y1 hm)
       |cons x l=>simp
      rcases hdd with hdd|⟨hkx,hdd⟩
      ·exact hD _ hdd
      ·have hst:=bLZ y5'.2 (show r.an.ids.headD 0∈r.ft from by
        unfold Rc.ft sP;rw[ePZ];exact ZBe _ (ZCd _ hmem))
       exact hidF _ (by rw[beZ hst];exact hmem) (.inr ⟨hkx,hdd⟩)) (fun m hm=>by
      rcases mSZ.1 y2 m hm with h4|h4
      ·exact .inl h4
      ·refine .inr fun hdd=> ?_;rcases hdd with hdd|⟨_,hdd⟩
       ·exact hD _ hdd
       ·have hst:=bLZ y5'.2 h4;rw[beZ hst] at hdd;have:F (m+100000)=true:=ajZ.2 h4;rw[this] at hdd;cases hdd) hrep fun x v H' z' q1 q2 q3 q4=> ?_
     simp only[ZAW,ZA1] at q4;obtain⟨rfl,rfl⟩:=q4;have hkF:∀id,bM H' id=true->F id=true:=fun id hkk=>ajZ.2 (bZZ.1 y5 id (eLZ.1 hkk));obtain⟨z3,m1,m2,m3,m4,m5⟩:=merge_ok (H3:=gK (gH H r.ft) H') hH q2 q1 hkF (fun id=>by
      rw[aQZ,bdZ]) (fun id hh=>by
      rw[aJZ,aOZ];rcases hh with hh|hh<;>simp[hh]) (fun id hh=>by
      rw[aJZ,aOZ] at hh;simp only[ZA2] at hh;rcases hh with hh|hh|hh
      ·exact .inl hh
      ·exact .inr (.inr ⟨bLZ y5'.2 (ajZ.1 hh),fun x _=>hD x⟩)
      ·exact .inr (.inl hh))
     rw[<-m1];have m6:=bH.refz (F:=yB r.st.hp r.ft) (m5.kp hH.sub) hH m4 (H1:=r.st.hp) fun i hi=>by
      have hi2:=ajZ.2 hi;rw[(dzZ r.st.hp i _).1,ZAF] at hi2;obtain⟨q5,b,q6⟩:=mlZ hi2.2;exact⟨b,q5,q6,by rw[<-q6];exact congrArg Prod.snd (hfoot i (ajZ.1 hi2.1))⟩
     refine hnext _ _ (put z3 _ v m5 m6 (q3.less m1 m3 fun g h=>by rw[<-m2];exact h) fun id=> ?_);by_cases hm:cH id r.wr=true
     ·have hm':=hm;rw[show r.wr=wF r.st.hp r.ft from rfl,(dzZ r.st.hp id _).2,ZAF,ZAl] at hm';rw[hsplit,(g3Z (f:=Rc.hpE id) (S:=fun i=>listed.getD i false) (S':=fun j=>(listed.setIfInBounds i true).getD j false) hSi hS' hS1 hS2).1 (true,if bM H' id=true then bF H' id else none) (by simp[Rc.hpE,y3,hm]) (foot2 id (ajZ.1 hm'.1))];unfold lA;rw[aJZ,aQZ,aJZ,aQZ,aOZ,bdZ,(bVZ _ _ id).1,(bVZ _ _ id).2,(dzZ r.st.hp id _).1];simp[hm'.1,hm'.2]
     ·rw[hsplit,(g3Z (f:=Rc.hpE id) (S:=fun i=>listed.getD i false) (S':=fun j=>(listed.setIfInBounds i true).getD j false) hSi hS' hS1 hS2).2 (by simp[Rc.hpE,y3,hm]),<-hsplit];rw[hhp id];have hm':=Bool.eq_false_iff.2 hm;rw[show r.wr=wF r.st.hp r.ft from rfl,(dzZ r.st.hp id _).2] at hm';unfold lA;rw[aJZ,aQZ,aJZ,aQZ,aOZ,bdZ,(bVZ _ _ id).1,(bVZ _ _ id).2,(dzZ r.st.hp id _).1];cases hft:cH id r.ft
      ·have hk0:bM H' id=false:=by
        cases hk0:bM H' id
        ·rfl
        ·have:=hkF id hk0;rw[show F id=cH id r.ft from rfl,hft] at this;cases this
       simp[hk0]
      ·rw[hft] at hm';have hz:zQ r.st.hp id=true:=by simpa using hm'
       obtain⟨_,b,hb⟩:=mlZ hz;have hh:=hfoot id (ajZ.1 hft);simp only[lA,ZA1] at hh;simp[hz,aiZ hb,hh.1,hh.2,hb]
  intro bB;induction bB with
  |zero=>
   intro listed a w hf hj;have hr:Region.ready .any ops listed=[]:=by
    cases hr:Region.ready .any ops listed with
    |nil=>rfl
    |cons i l=>
     have hi:i∈Region.ready .any ops listed:=by rw[hr];exact ZAr
     obtain⟨h1,o,h2,_⟩:=mem_ready.1 hi;have:i∈(List.range ops.size).filter fun j=> !listed.getD j true:=by
      rw[ZCs];exact⟨ZCW.2 (ZBI.1 h2).1,by rw[h1];rfl⟩
     have:=List.length_pos_of_mem this;omega
   exact⟨hr,fin listed a w hr hj⟩
  |succ bB ih=>
   intro listed a w hf hj;refine⟨fun hr=>fin listed a w hr hj,fun i hi=> ?_⟩;refine step listed a w i _ hi hj fun a' w' hj'=>ih _ a' w' ?_ hj';obtain⟨_,_,_,_,_,_,_,_,_,_,_,hsz,_⟩:=hj;have:=h4Z hsz (mem_ready.1 hi).1;omega
 obtain⟨z,rfl,hn,hD,hH,hs,hLs,hdf,hnt,_⟩:=hi;have hempty:(recs.filter fun r=>(Array.replicate ops.size false).getD r.i false)=[]:=by
  rw[List.filter_eq_nil_iff];intro r _;simp[Array.getElem?_replicate];split<;>rfl
 refine main ops.size _ a z.w ?_ ⟨z,st.hp,rfl,hn,hD,hH,fun id=>by rw[hempty];rfl,fun t=>by rw[hempty];exact hs t,hLs,hdf,hnt,by simp,fun j hj=> ?_⟩
 ·have:((List.range ops.size).filter fun j=> !(Array.replicate ops.size false).getD j true)=List.range ops.size:=by
   rw[ZB7];intro j hj;simp[ZCW.1 hj]
  rw[this];simp
 ·exfalso;simp[Array.getElem?_replicate] at hj;split at hj<;>simp at hj
end
theorem igZ(H):∀(n id),bF (rX H n) id=bF H id/\bM (rX H n) id=(bM H id||(decide (id<n)&&decide (id<bA)))
 |0,id=>by simp[rX]
 |n+1,id=>by
  let⟨j,p⟩:=igZ H n id
  have key:bM H n=true\/bA<=n->(bM H id||(decide (id<n)&&decide (id<bA)))=(bM H id||(decide (id<n+1)&&decide (id<bA))):=λh=>by
   by_cases hi:id=n
   .subst hi;rcases h with h|h
    .simp[h]
    .simp[show¬id<bA by omega]
   .have:(id<n+1)↔id<n:=by omega
    simp[this]
  simp[rX];cases hk:bM H n
  .cases hb:Nat.ble bA n
   .have d:=ZBR.1 λh=>by rw[ZAi h] at hb;cases hb
    simp[bF,bM];by_cases h:n=id
    .subst h;simp[hk];refine⟨(awZ hk).symm,?_⟩;simp[d]
    .simp only[ahZ h,ZAD,j,p];have:(id<n+1)↔id<n:=by omega
     simp[this]
   .simp only[Bool.or_true,ZAM,j,p];exact⟨trivial,key (.inr (ZBQ hb))⟩
  simp_all
theorem cWZ{id}:∀{l},id∈sJ l↔id∈l/\bA<=id
 |[]=>by simp[sJ]
 |i::l=>by
  simp only[sJ];by_cases h:bA<=i
  .rw[ZAi h,ZAM,ZAj,cWZ]
   grind
  .rw[fyZ h,ZAD,cWZ]
   grind
theorem gIZ{id}:∀{l},id∈kV l↔id∈l/\id<bA
 |[]=>by simp[kV]
 |i::l=>by
  simp only[kV];by_cases h:bA<=i
  .rw[ZAi h,ZAM,gIZ]
   grind
  .rw[fyZ h,ZAD,ZAj,gIZ]
   grind
theorem gvZ{i k}:∀{l},(i,k)∈zZ l↔i=k/\k∈l
 |[]=>by simp[zZ]
 |x::l=>by
  simp[zZ,gvZ];constructor
  .rintro(⟨rfl,rfl⟩|⟨rfl,h⟩)
   .exact⟨rfl,.inl rfl⟩
   .exact⟨rfl,.inr h⟩
  .rintro⟨rfl,rfl|h⟩
   .exact .inl ⟨rfl,rfl⟩
   .exact .inr ⟨rfl,h⟩
theorem vKZ{sh:fV}{H}{vs}{i k}(h:(i,k)∈sh.ps H vs):k∈bI sh.s.hs:=by
 rcases ZAh.1 h with h|h
 .let⟨n,_,q⟩:=jAZ h
  exact(gIZ.1 (ZAI q)).1
 simp_all[cWZ,gvZ]
theorem rHZ{n}:∀{d},OL n d=true->∀i k,(i,k)∈d->i=k\/(n<=i/\n<=k)
 |[],_,i,k,h=>by cases h
 |(a,b)::d,h,i,k,hm=>by
  simp[OL,ZAm] at h;rcases ZAj.1 hm with hm|hm
  .simp_all
  .exact rHZ h.2 i k hm
theorem qEZ{z}{f}:∀{ks} {vs} {t},(∀k,bE z (t.get k) (f k))->bQ z vs (ks.map f)->∀k,bE z ((OM ks vs t).get k) (f k)
 |[],vs,t,h,_,k=>by cases vs<;>exact h k
 |k0::ks,[],t,h,_,k=>h k
 |k0::ks,a::vs,t,h,hv,k=>by
  refine qEZ (λj=> ?_) hv.tail k;by_cases d:j=k0
  .subst d;rcases(Tr.get_put t j a j).2 with e|e<;>rw[e]
   .exact hv.head
   .exact .junk _
  .rw[(Tr.get_put t k0 a j).1 d];exact h j
theorem iDZ:∀(t:Tr) (k),t.keep.get k= .junk\/(t.keep.get k=t.get k/\(t.get k).noRef=true)
 |.lf,k=>.inl rfl
 |.nd l v r,k=>by
  simp[Tr.keep,Tr.get];by_cases h0:k=0
  .subst h0;simp[ZAM];cases hv:v.noRef
   .exact .inl rfl
   .exact .inr ⟨rfl,rfl⟩
  .simp[ahZ h0];by_cases d:k%2=1
   .simp[(afZ _ _).2 d];exact iDZ l _
   .simp[ahZ d];exact iDZ r _
theorem jzZ:∀(l) (t:Tr) (k),(k∈l->(t.junk l).get k= .junk)/\(k∉l->(t.junk l).get k=t.get k)
 |[],t,k=>⟨λh=>(by cases h),λ_=>rfl⟩
 |i::l,t,k=>by
  let⟨d,h2⟩:=jzZ l (t.put i .junk) k
  simp only[Tr.junk];refine⟨λh=> ?_,λh=> ?_⟩
  .by_cases hk:k∈l
   .exact d hk
   .rw[h2 hk];have:=(ZAj.1 h).resolve_right hk;subst this;rcases(Tr.get_put t k .junk k).2 with e|e<;>exact e
  .rw[ZAj,not_or] at h;rw[h2 h.2,(Tr.get_put t i .junk k).1 h.1]
theorem i3Z:∀(t:Tr),∃n,∀k,n<=k->t.get k= .junk
 |.lf=>⟨0,λ_ _=>rfl⟩
 |.nd l v r=>by
  let⟨h,j⟩:=i3Z l
  let⟨p,B⟩:=i3Z r
  refine⟨2*(h+p)+3,λk hk=> ?_⟩;have h0:k≠0:=by omega
  simp[Tr.get,ahZ h0];by_cases d:k%2=1
  .simp[(afZ _ _).2 d];exact j _ (by omega)
  .simp[ahZ d];exact B _ (by omega)
theorem qWZ{a}(h:a.noRef=true):AV.ids a=[]:=by
 cases a<;>first|rfl|simp_all[AV.noRef]
theorem u9Z{p:Nat->Prop}(h:∃n,p n):∃n,p n/\∀m,p m->n<=m:=by
 let⟨n,d⟩:=h
 induction n using Nat.strongRecOn<;>grind
section
variable {P : Program} {T : Tbl} {β : Type} {z0 : Z} {N : Nat} {L : List (Nat × AV)}
theorem Inv.sub{L'}{st}{a}{w}(hi:Inv z0 N L' st a w)(h:∀p∈L,p∈L'):Inv z0 N L st a w:=by
 obtain⟨z,rfl,C,D,E,G,d,j,B,h0⟩:=hi;exact⟨z,rfl,C,D,E,G,λp hp=>d p (h p hp),j,B,h0⟩
theorem n1Z:∀{d} {i C k},(kI d).Nodup->(i,k)∈d->(C,k)∈d->i=C
 |(a,b)::d,i,C,k,j,h,G=>by
  simp[kI] at j;have hm:∀{d} {x},(x,k)∈d->k∈kI d:=λ{d}=>by
   induction d with
   |nil=>intro x h;cases h
   |cons p d I=>
    intro x h;rcases ZAj.1 h with rfl|h
    .exact ZAr
    .exact ZAc _ (I h)
  rcases ZAj.1 h with e|q<;>rcases ZAj.1 G with e'|E
  .injection e with D B;injection e' with K L;rw[D,K]
  .injection e with D B;exact absurd (B▸hm E) j.1
  .injection e' with D B;exact absurd (B▸hm q) j.1
  .exact n1Z j.2 q E
theorem uOZ{st:St}{sh}{K}{r:β}{a:Act}{base:Tr}{nt n0:Nat}{z:Z}(h:st.prj sh K=some r)(hn:Nx z0 z)(hD:∀id,¬z.D id)(hH:bH z st.hp)(hs:∀t,bE z (st.tm.get t) (a.eval (iI t)))(hLs:∀p∈L,bE z p.2 (a.eval (iI p.1)))
 (h0':∀id,id<bC->z0.ρ id≠.no->id<st.n0)(hLn:∀p∈L,AV.ids p.2=[])
 (hb:∀k,base.get k= .junk\/(k,base.get k)∈L)(h0:∀id,id<bC->z0.ρ id≠.no->id<n0):∃t z2,K t=some r/\z2.w=z.w/\Nx z0 z2/\(∀id,¬z2.D id)/\bH z2 (sh.inj base nt n0 t).hp/\(∀k,bE z2 ((sh.inj base nt n0 t).tm.get k) (a.eval (iI k)))/\(∀p∈L,bE z2 p.2 (a.eval (iI p.1)))/\
  z2.M=z.M/\(∀g,z2.C g->z.C g)/\∀i k,KV (sh.ps st.hp (sh.live.map st.tm.get)) i k=true->z2.ρ k=z.ρ i:=by
 unfold St.prj at h;obtain⟨h1,h2⟩:=aeZ.1 h;simp only[ZAF] at h1;have hfix:=rHZ h1.1;have hb0:=eQZ;have hall:=bZZ.1 h1.2;have hdyn:∀id,bC<=id->cH (rt id) (bI sh.s.hs)=false->z.ρ id= .no:=fun id hd hm=>by
  have hk:bM st.hp (rt id)=false:=by
   cases hk:bM st.hp (rt id)
   ·rfl
   ·have:=(cWZ.1 (hall _ (cWZ.2 ⟨eLZ.1 hk,(bFZ hd).1⟩))).1;rw[ajZ.2 this] at hm;cases hm
  refine(hH.fresh id ?_).resolve_right (hD id)
  simp_all[azZ,awZ]
 obtain⟨t,z',k1,k2,k3,k4,k5,k6,k7,k8,k9,k10,k11,k12,k13,k14⟩:=Shp.rco_ok (vals:=sh.live.map fun k=>a.eval (iI k)) (fun k=>if k<n0 then z.ρ k else .no) (fun k h1 h2=>by rw[hH.nos k h1 h2,ite_self]) h2 hH ⟨by simp,fun i x v e1 e2=>by
  grind⟩
 have hρ:∀id,z0.ρ id≠.no->z'.ρ id=z0.ρ id:=fun id hid=>by
  cases hk:cH id (bI sh.s.hs)
  ·rw[k7 id hk];by_cases hdy:bC<=id
   ·rw[ZAL hdy];exact hn.ext id hid
   ·rw[ZAJ hdy,ZAL (h0 id (by omega) hid)];exact hn.ext id hid
  ·obtain⟨id',q1,q2⟩:=k6 id hk;rcases hfix id' id q1 with rfl|⟨_,q4⟩
   ·rw[q2];exact hn.ext id' hid
   ·have:=h0' id (k13 id hk) hid;omega
 let z2:Z:={z' with D:=fun _=>False}
 have hn2:Nx z0 z2:=⟨by show z'.w.os=_;rw[k2];exact hn.os,⟨by show z'.w.tape=_;rw[k2];exact hn.tape.1,by show _<=z'.w.drawn;rw[k2];exact hn.tape.2⟩,by show z'.w.output=_;rw[k2];exact hn.output,by show _<=z'.w.heap.size;rw[k2];exact hn.size,
  fun b hb hc=>by show z'.w.heap[b]? =_;rw[k2];exact hn.block b hb hc,fun g hg=>hn.subM g (by rw[<-k3];exact hg),fun g hg=>hn.subC g (k8 g hg),fun g hg hm hc=>by show z'.M g;rw[k3];exact hn.keepM g hg hm hc,hρ,by
   funext id;have h1:¬z.D id:=hD id;rw[hn.dom] at h1;exact propext ⟨fun h=>h.elim,fun h=>h1 h⟩⟩
 have hL2:∀p∈L,bE z2 p.2 (a.eval (iI p.1)):=fun p hp=>(hLs p hp).rho (z':=z2) k2 k3 (.inl k12) fun id hid=>by rw[hLn p hp] at hid;cases hid
 refine⟨t,z2,k1,k2,hn2,fun _ h=>h,?_⟩;rw[fV.inj_eq];refine⟨?_,?_,hL2,k3,k8,fun i k hp=> ?_⟩
 ·have eq:=igZ (sh.s.emb t).2 n0;have eqX:∀id,bP (rX (sh.s.emb t).2 n0) id=bP (sh.s.emb t).2 id:=fun id=>cuZ (eq _).1;refine⟨fun id e' he=> ?_,fun i i' e e' g sz n g' sz' n' hii p1 p2 m1 m2 p3 p4=> ?_,fun id hid=> ?_,k4.sub,fun i x h=>k4.fam i x (by rw[<-(eq i).1];exact h),fun i h=> ?_,fun i _ _ h=>h,k4.nos⟩
  ·rw[eqX id] at he;exact(k4.ent id e' he).rho rfl rfl (.inl (.eq rfl)) rfl (fun _ _=>rfl) fun _ _ _ _ _ h=>h
  ·rw[eqX i] at p1;rw[eqX i'] at p2;exact k4.inj i i' _ _ g sz n g' sz' n' hii p1 p2 m1 m2 p3 p4
  ·left;show z'.ρ id= .no;by_cases hdy:bC<=id
   ·have hr:=(bFZ hdy).1;have hkk:bM (rX (sh.s.emb t).2 n0) (rt id)=bM (sh.s.emb t).2 (rt id):=by
     rw[(eq (rt id)).2];simp[show¬rt id<bA by omega]
    rw[d8Z (H:=(sh.s.emb t).2) (eq _).1 hkk] at hid;cases hm:cH (rt id) (bI sh.s.hs)
    ·have hmi:cH id (bI sh.s.hs)=false:=by
      cases hc:cH id (bI sh.s.hs)
      ·rfl
      ·have:=k13 id hc;omega
     rw[k7 id hmi,ZAL hdy];exact hdyn id hdy hm
    ·refine(k4.fresh id hid).resolve_right fun hD'=> ?_;rw[k10,hm] at hD';cases hD'.1
   ·by_cases hf:bA<=id
    ·exact k4.nos id hf (by omega)
    ·rw[aEZ (by omega),(eq id).2] at hid;simp only[ZBY,ZCH,ZBB] at hid;rw[k11] at hid;rw[k7 id hid.1,ZAJ hdy,ZAJ (by omega)]
  ·rw[(eq i).2] at h;simp only[ZA2,ZAF,ZAq] at h;rcases h with h|h
   ·exact k4.key i h
   ·omega
 ·refine qEZ (z:=z2) (f:=fun k=>a.eval (iI k)) (fun k=> ?_) (k5.less rfl rfl fun g h=>h);rcases hb k with e|e
  ·rw[e];exact .junk _
  ·exact hL2 _ e
 ·unfold KV at hp;split at hp
  ·rename_i j hj;rw[afZ] at hp;subst hp;have hm:=dEZ hj;have hk:cH j (bI sh.s.hs)=true:=ajZ.2 (vKZ hm);obtain⟨id',q1,q2⟩:=k6 j hk;have hnd:(kI (sh.ps st.hp (sh.live.map st.tm.get))).Nodup:=by
    unfold Shp.rco at h2;have:=(aeZ.1 h2).1;simp only[ZAF] at this;exact cGZ.1 this.1.2.1
   rw[show z2.ρ j=z'.ρ j from rfl,q2,n1Z hnd q1 hm]
  ·cases hp
theorem kNZ{st}{sh}{K}{r:β}{a}{w}{d}{nt n0}(h:st.prj sh K=some r)(hi:Inv z0 N L st a w)(B:∀p∈L,AV.ids p.2=[])
 (hb:∀k,d.get k= .junk\/(k,d.get k)∈L)(C:nt<=N)(h0:∀id,id<bC->z0.ρ id≠.no->id<n0):∃t,K t=some r/\Inv z0 N L (sh.inj d nt n0 t) a w:=by
 obtain⟨z,rfl,I,O,R,T,D,E,j,G⟩:=hi;obtain⟨t,U,V,W,X,Y,k5,k6,k7,_⟩:=uOZ h I O R T D G B hb h0;refine⟨t,V,U,W,X,Y,k5,k6,k7,E,?_,?_⟩
 .rw[fV.inj_eq];exact⟨C,j.2⟩
 simp_all[fV.inj_eq]
theorem Out.on_inl{O}{C}{nt n0}:∀{rt} {l} {i} {st} {K} {r:O} {a} {w},Out.mk st rt l i K=some r->Inv z0 N L st a w->(∀p∈L,AV.ids p.2=[])->
 (∀k,C.get k= .junk\/(k,C.get k)∈L)->nt<=N->(∀id,id<bC->z0.ρ id≠.no->id<n0)->∃o,K o=some r/\∀(X) (R:β->Option β),∃E,Inv z0 N L E a w/\Out.on C nt n0 rt l o X R=X i E
 |rt,[],i,st,K,r,a,w,h,_,_,_,_,_=>by cases rt<;>cases h
 |true,[(j,s)],i,st,K,r,a,w,h,hi,d,hb,B,h0=>by
  simp[Out.mk] at h;cases D:Nat.beq j i<;>rw[D] at h<;>simp only[bq_true,bq_false] at h
  .cases h
  rw[afZ] at D;subst D
  let⟨t,G,h2⟩:=kNZ h hi d hb B h0
  exact⟨.inl t,G,λX R=>⟨_,h2,rfl⟩⟩
 |false,[(j,s)],i,st,K,r,a,w,h,hi,d,hb,B,h0=>by
  simp[Out.mk] at h;cases D:Nat.beq j i<;>rw[D] at h<;>simp only[bq_true,bq_false] at h
  .cases h
  rw[afZ] at D;subst D
  let⟨t,G,h2⟩:=kNZ h hi d hb B h0
  exact⟨t,G,λX R=>⟨_,h2,rfl⟩⟩
 |rt,(j,s)::o::l,i,st,K,r,a,w,h,hi,d,hb,B,h0=>by
  have I:bq (Nat.beq j i) (st.prj s λt=>K (.inl t)) (Out.mk st rt (o::l) i λx=>K (.inr x))=some r:=by cases rt<;>exact h
  cases D:Nat.beq j i<;>rw[D] at I<;>simp[bq_false] at I
  .let⟨x,G,h2⟩:=Out.on_inl I hi d hb B h0
   refine⟨.inr x,G,λX R=> ?_⟩
   let⟨E,T,h4⟩:=h2 X R
   exact⟨E,T,by cases rt<;>exact h4⟩
  .rw[afZ] at D;subst D
   let⟨t,G,h2⟩:=kNZ I hi d hb B h0
   exact⟨.inl t,G,λX R=>⟨_,h2,by cases rt<;>rfl⟩⟩
theorem Out.on_ret{d}{nt n0}{b}{X}{R:β->Option β}:∀{l},Out.on d nt n0 true l (Out.ret l b) X R=R b
 |[]=>rfl
 |[(_,_)]=>rfl
 |(_,_)::o::l=>Out.on_ret (l:=o::l)
theorem Tr.ren_get(f):∀(t:Tr) (k),(t.ren f).get k=AV.ren f (t.get k)
 |.lf,k=>rfl
 |.nd l v r,k=>by
  simp[Tr.ren,Tr.get];cases Nat.beq k 0
  .cases Nat.beq (k%2) 1
   .exact Tr.ren_get f r _
   .exact Tr.ren_get f l _
  .rfl
theorem cIZ(f):∀(H) (id),bF (pK f H) id=(bF H id).map (Ent.ren f)/\bM (pK f H) id=bM H id
 |[],id=>⟨rfl,rfl⟩
 |(i,none)::H,id=>by
  let⟨d,h2⟩:=cIZ f H id
  simp[pK,bF,bM];cases Nat.beq i id
  .exact⟨d,h2⟩
  .exact⟨rfl,rfl⟩
 |(i,some e)::H,id=>by
  let⟨d,h2⟩:=cIZ f H id
  simp[pK,bF,bM];cases Nat.beq i id
  .exact⟨d,h2⟩
  .exact⟨rfl,rfl⟩
theorem u7Z{d j id k}(h:oF d j id=some k):(id=d/\k=j)\/(id≠d/\k=id):=by
 unfold oF at h
 grind[afZ,bq_true,ZAg,ahZ,bq_false]
theorem ssZ{z}{H}{p d}{e}(I:bH z H)(hg:bF H p=some e)(hk:bM H d=false)(N:d<bA)(E:p<bA)(K:¬z.D d):
 ∃z',z'.w=z.w/\bH z' (bR (bR (pK (oF p d) H) p none) d (some (e.ren (oF p d))))/\Nx z z'/\∀a v,bE z a v->bE z' (AV.ren (oF p d) a) v:=by
 have aj:=(I.fresh d (by simp_all[aEZ])).resolve_right K;have ak:d≠p:=λh=>by simp_all[aiZ]
 let z':={z with ρ:=λi=>if i=d then z.ρ p else z.ρ i}
 have e1:∀i,i≠d->z'.ρ i=z.ρ i:=λi hi=>ZAJ hi;have e2:z'.ρ d=z.ρ p:=ZAL rfl;have hn:Nx z z':=⟨rfl,⟨rfl,ZAN _⟩,rfl,ZAN _,λ_ _ _=>rfl,λ_ h=>.inl h,λ_ h=>.inl h,λ_ _ h _=>h,λi hi=>e1 i (by grind),rfl⟩;have R:∀{id k},z.ρ id≠.no->oF p d id=some k->z'.ρ k=z.ρ id:=λ{id k} hl h=>by
  grind[u7Z]
 have al:∀i B,bF H i=some B->i≠d:=λi B h hi=>by simp_all[aiZ]
 have U:∀i B,fC z i B->∀k,z'.ρ k=z.ρ i->fC z' k (B.ren (oF p d)):=λi B h k ac=>by
  unfold fC at h⊢;rw[ac];cases V:z.ρ i with
  |no=>simp_all
  |virt=>
   rw[V] at h;obtain⟨fz,b⟩:=B;cases b<;>first|exact h.elim|exact h
  |real g sz n=>
   rw[V] at h;obtain⟨a1,a2,a3,a4⟩:=h;refine⟨a1,a2,a3,a4.ren' (.of hn.ext) ?_⟩;omega
 have W:∀i,bP (pK (oF p d) H) i=(bP H i).map (Ent.ren (oF p d))/\dX (pK (oF p d) H) i=dX H i:=λi=>by
  obtain⟨X,q2⟩:=cIZ (oF p d) H (rt i);by_cases K:bC<=i
  .rw[a9Z K,a9Z K,azZ K,azZ K,X,q2];cases bF H (rt i) with
   |none=>simp_all
   |some C=>
    simp only[ZBM,ZAA];rw[(fkZ C _ _).2 (ZAN _),(fkZ C _ _).1];refine⟨?_,rfl⟩
    grind[pick,bC,ZBM,eRZ]
  .unfold bP dX;rw[ZAJ K,ZAJ K,ZAJ K,ZAJ K];by_cases R:bA<=i
   .rw[ZAL R,ZAL R,ZAL R,ZAL R];exact⟨rfl,rfl⟩
   simp_all[ZAJ,beZ]
 have key:∀i B,bP (bR (bR (pK (oF p d) H) p none) d (some (e.ren (oF p d)))) i=some B->∃j C,bP H j=some C/\B=C.ren (oF p d)/\((i=d/\j=p)\/(i≠d/\i≠p/\j=i)):=λi B h=>by
  rw[a8Z N] at h;by_cases hi:i=d
  .rw[ZAL hi] at h;exact⟨p,e,by rw[arZ E];exact hg,(ZAg h).symm,.inl ⟨hi,rfl⟩⟩
  .rw[ZAJ hi,a8Z E] at h;by_cases T:i=p
   .rw[ZAL T] at h;cases h
   .rw[ZAJ T,(W i).1] at h;obtain⟨C,L,h2⟩:=ZAH.1 h;exact⟨i,C,L,h2.symm,.inr ⟨hi,T,rfl⟩⟩
 have am:=eQZ;have Y:∀(i) (x),Ab.famOk i x->Ab.famOk i (x.ren (oF p d)):=λi x h=>by
  obtain⟨fz,b⟩:=x;cases b<;>exact h
 have G:∀i j,((i=d/\j=p)\/(i≠d/\i≠p/\j=i))->z'.ρ i=z.ρ j:=λi j h=>by
  rcases h with⟨rfl,rfl⟩|⟨L,_,rfl⟩
  .exact e2
  .exact e1 _ L
 refine⟨z',rfl,⟨λi B h=> ?_,λi i' B ad g sz n g' ae n' aa p1 p2 m1 m2 p3 p4=> ?_,λi h=> ?_,I.sub,λi x h=> ?_,λi h=> ?_,λi ab h=> ?_,λi L h2=>by rw[e1 i (by omega)];exact I.nos i L h2⟩,hn,λa v h=>h.ren rfl rfl (.inl (.of hn.ext)) λid k hi hk=>R (h.live id hi) hk⟩
 .obtain⟨j,C,X,rfl,q3⟩:=key i B h;exact U j C (I.ent _ _ X) i (G i j q3)
 .obtain⟨j,C,X,rfl,q3⟩:=key i B p1;obtain⟨j',af,ag,rfl,O⟩:=key i' ad p2;rw[G i j q3] at p3;rw[G i' j' O] at p4;have ah:j≠j':=by
   rcases q3 with⟨rfl,rfl⟩|⟨L,h2,rfl⟩<;>rcases O with⟨rfl,rfl⟩|⟨an,ai,rfl⟩
   .exact absurd rfl aa
   .exact ZBk ai
   .exact h2
   .exact aa
  have rr:∀{i j},((i=d/\j=p)\/(i≠d/\i≠p/\j=i))->Ro j->Ro i:=λh V=>by
   rcases h with⟨_,rfl⟩|⟨_,_,rfl⟩
   .exact absurd V (bPZ E)
   .exact V
  exact λp5=>I.inj j j' C af g sz n g' ae n' ah X ag m1 m2 p3 p4 λh=>p5 ⟨rr q3 h.1,rr O h.2⟩
 .rw[bwZ N,bwZ E,(W i).2] at h;simp only[ZBY,ZBB] at h;rw[e1 i h.1];exact I.fresh i h.2.2
 .rw[apZ] at h;by_cases hi:i=d
  .rw[ZAL hi] at h;injection h with h;subst h;subst hi;exact Y _ _ ((I.fam p e hg).other E i N e.fz)
  .rw[ZAJ hi,apZ] at h;by_cases T:i=p
   .rw[ZAL T] at h;cases h
   .rw[ZAJ T,(cIZ _ H i).1] at h;obtain⟨C,L,rfl⟩:=ZAH.1 h;exact Y _ _ (I.fam i C L)
 .rw[atZ,atZ,(cIZ _ H i).2] at h;simp only[ZA2,ZAq] at h;rcases h with rfl|rfl|h
  .omega
  .omega
  .exact I.key i h
 .rw[atZ,atZ,(cIZ _ H _).2] at h;simp only[ZA2,ZAq] at h;have:=(bFZ ab).1;refine I.dyn i ab ?_;rcases h with h|h|h
  .omega
  .omega
  .exact h
theorem bH.reent{z}{H}{id}{D b}(d:bH z H)(B:id<bA)(hg:bF H id=some ⟨false,D⟩)(hb:fC z id ⟨false,D⟩->fC z id ⟨false,b⟩)(L:Ab.famOk id ⟨false,b⟩):bH z (bR H id (some ⟨false,b⟩)):=by
 have p:=Upd.stat B hg L;have E:bP H id=some ⟨false,D⟩:=by rw[arZ B];exact hg
 refine⟨λi e hi=> ?_,λi O e e' a sa na a' R T G N h2 U V W h4=> ?_,λi hi=>d.fresh i (p.K i hi),d.sub,λi x h=>(p.fam i x h).elim (d.fam i x) λh=>h,λi h=>d.key i (p.key i h),λi Y h=>d.dyn i Y (p.key _ h),d.nos⟩
 .rw[p.X] at hi;by_cases h:i=id
  .subst h;rw[ZAL rfl] at hi;cases hi;exact hb (d.ent _ _ E)
  .rw[ZAJ h] at hi;exact d.ent _ _ hi
 .rw[p.X] at N h2;have q:∀j I,(if j=id then some (⟨false,b⟩:Ent) else bP H j)=some I->I.fz=false->∃C,bP H j=some C/\C.fz=false:=λj I hj L=>by
   grind
  let⟨e1,q1,f1⟩:=q _ _ N U
  let⟨e2,q2,f2⟩:=q _ _ h2 V
  exact d.inj i O _ _ _ _ _ _ _ _ G q1 q2 f1 f2 W h4
theorem paZ{t:Ty}(h:t.unref= .byte):t= .byte:=by
 cases t<;>simp[Ty.unref] at h⊢
theorem qIZ{z}{id}{e}{t}{l}(h:fC z id ⟨false,.rows e t.unref l⟩):fC z id ⟨false,.rows e t (l.map (dE t))⟩:=by
 unfold fC at h⊢;cases d:z.ρ id with
 |no=>simp_all
 |virt=>
  rw[d] at h;obtain⟨rfl,h2⟩:=h;rw[a5Z] at h2;exact⟨rfl,h2⟩
 |real g T n=>
  rw[d] at h
  let⟨C,h2,D,cs,E,G,I,K,L,j,p,N⟩:=h
  rw[a5Z] at j p;refine⟨C,h2,D,cs,E,G,I.imp (λh=>h) (λh=>⟨paZ h.1,h.2⟩),K,by rw[ZAp];exact L,by rw[ZAp];exact j,p,λi x hx=> ?_⟩;rw[ZAV] at hx;obtain⟨y,O,rfl⟩:=ZAH.1 hx
  let⟨u,R,B⟩:=N i y O
  rw[a5Z] at B;exact⟨u,eIZ R,B⟩
theorem bH.newFam{z}{H}{f}{e}{s}(d:bH z H)(E:∀id,¬z.D id)(hk:bM H (bZ f)=false)(G:s.noRef=true)(I:0<s.cells):bH z (bR H (bZ f) (some ⟨false,.fam e s []⟩)):=by
 have V:∀i,bP (bR H (bZ f) (some ⟨false,.fam e s []⟩)) i=bP H i:=λi=>by
  by_cases hi:∃k,i=enc f k
  .obtain⟨k,rfl⟩:=hi;rw[(bMZ H f _ 0).1 k,cLZ,awZ hk]
   rfl
  simp_all[bMZ]
 refine⟨λi j h=>d.ent i j (by simp_all),λi K j p g L n N B n' C p1 W O R T U=>d.inj i K j p g L n N B n' C (by simp_all) (by simp_all) O R T U,λi h=> ?_,d.sub,λi x h=> ?_,λi h=> ?_,λi _ _=>E i,d.nos⟩
 .by_cases hi:∃k,i=enc f k
  .obtain⟨k,rfl⟩:=hi;refine d.fresh _ ?_
   simp_all[azZ,cjZ,dXZ,awZ]
  .rw[(ciZ H f _ i).2 λk h=>hi ⟨k,h⟩] at h;exact d.fresh i h
 .rw[apZ] at h;by_cases hi:i=bZ f
  .rw[ZAL hi] at h;injection h with h;subst h;rw[hi];exact⟨(bTZ f).1,(bTZ f).2,G,I,rfl⟩
  .rw[ZAJ hi] at h;exact d.fam i x h
 .rw[atZ] at h;simp only[ZA2,ZAq] at h;rcases h with rfl|h
  .grind[bTZ]
  .exact d.key i h
theorem gZZ{β}{g}{st}{K}{r:β}(h:yC P g st K=some r):∃d,AK P g st=some d/\K d=some r:=by
 cases g with
 |pureCell b o=>
  unfold yC at h;unfold AK;dsimp at h⊢;split at h
  .split at h
   .rw[gaZ] at h
    let⟨⟨x,H'⟩,j,h2⟩:=agZ.1 h
    rw[j];simp at h2⊢;split at h2
    .exact⟨_,rfl,h2⟩
    .cases h2
   .exact⟨_,rfl,h⟩
  .exact⟨_,rfl,h⟩
 |opn k m=>
  unfold yC at h;unfold AK;dsimp at h⊢;cases hb:Nat.blt m 10<;>rw[hb] at h<;>simp only[bq_true,bq_false] at h⊢
  .rw[nkZ] at h
   let⟨x,j,h2⟩:=agZ.1 h
   rw[j];exact⟨_,rfl,h2⟩
  .cases h
 |_=>exact agZ.1 h
theorem mCZ{g}{st ad}{a}{w}(h:AK P g st=some ad)(hi:Inv z0 N L st a w)(ai:∀k,((∃e id,g= .ownNil k e id)\/g= .pure k)->∀p∈L,p.1≠k)(aj:∀p∈L,AV.ids p.2=[]):Inv z0 N L ad a w:=by
 obtain⟨z,rfl,V,R,C,K,d,j,B,h0⟩:=hi;unfold AK at h;split at h
 .rename_i ae aa;split at h
  .rename_i e hg;cases hk:(bM st.hp aa||Nat.ble bA aa||Nat.ble bA ae)<;>rw[hk] at h<;>simp only[bq_true,bq_false] at h
   .simp only[ZAW] at h;subst h;simp only[ZBY] at hk;have O:∀{n},Nat.ble bA n=false->n<bA:=λ{n} h=>ZBR.1 λh'=>by rw[ZAi h'] at h;cases h
    obtain⟨z',G,T,I,q4⟩:=ssZ C hg hk.1.1 (O hk.1.2) (O hk.2) (R aa);have E:=I.kp C.sub;refine⟨z',G,V.trans I,λid=>by rw[I.dom];exact R id,T,λt=> ?_,λp hp=>(d p hp).kp E,j,B,h0⟩;show bE z' ((st.tm.ren (oF ae aa)).get t) _;rw[Tr.ren_get];exact q4 _ _ (K t)
   .cases h
  grind
 .rename_i k;obtain⟨⟨x,H'⟩,X,h2⟩:=ZAH.1 h;subst h2;obtain⟨z',G,T,I,q4,q5⟩:=fEZ C X (K k);have E:=I.kp C.sub;refine⟨z',G,V.trans I,λid=>by rw[I.dom];simp_all,T,λt=> ?_,λp hp=>(d p hp).kp E,j,B,h0⟩;show bE z' ((st.tm.put k x).get t) _;by_cases ht:t=k
  .subst ht;rcases(Tr.get_put st.tm t x t).2 with e|e<;>rw[e]
   .omega
   .exact .junk _
  .rw[(Tr.get_put st.tm k x t).1 ht];exact(K t).kp E
 .rename_i k;simp only[ZAW] at h;subst h;obtain⟨z',G,T,I,q4⟩:=rIZ (st.tm.get k) C;have E:=I.kp C.sub;exact⟨z',G,V.trans I,λid=>by rw[I.dom];simp_all,T,λt=>(K t).kp E,λp hp=>(d p hp).kp E,j,B,h0⟩
 .rename_i id;simp only[ZAW] at h;subst h;obtain⟨z',G,T,I,q4⟩:=n3Z id C;have E:=I.kp C.sub;exact⟨z',G,V.trans I,λid=>by rw[I.dom];simp_all,T,λt=>(K t).kp E,λp hp=>(d p hp).kp E,j,B,h0⟩
 .rename_i b o;split at h
  .rename_i c hg;split at h
   .rename_i x hc;split at h
    .rename_i y H' hp;split at h
     .rename_i c' ah;simp only[ZAW] at h;subst h;have W:=C.fam b _ hg;have D:=C.ent b _ (by rw[arZ W];exact hg);unfold fC at D;cases U:z.ρ b with
      |no=>rw[U] at D;exact D.elim
      |virt=>rw[U] at D;exact D.elim
      |real g sz n=>
       rw[U] at D;obtain⟨_,_,_,cs,e',fr,a1,a2,a3,⟨a4,an⟩,a5,a6⟩:=D;have ho:=(ZAC.1 hc).1;obtain⟨v,hv⟩:∃v,cs[o]? =some v:=⟨_,ZBE (by omega)⟩;obtain⟨z1,p1,p2,Y,p4,p5⟩:=fEZ C hp (a5 o x v hc hv);have E:=Y.kp C.sub;have af:z1.ρ b= .real g sz n:=by rw[p4];exact U
       obtain⟨r1,r2⟩:=p2.write (b:=.vars (c.set o y)) ah af rfl ⟨rfl,ZAN _⟩ rfl rfl (λ_ _=>rfl) (λ_=>by
        refine⟨cs,e',fr,by rw[p1];exact a1,a2,a3,⟨by simpa using a4,an⟩,λi x' v' G T=> ?_,a6⟩;rw[ZCg] at G;split at G
        .rename_i ab;subst ab;rw[hv] at T;simp only[ZAW] at T;subst T;have:=by simpa[ho] using G
         subst this;exact p5
        .exact(a5 i x' v' G T).kp E)
       exact⟨z1,p1,V.trans Y,λid=>by rw[Y.dom];exact R id,r1,λt=>(K t).kp E,λp hp=>(d p hp).kp E,j,B,h0⟩
     grind
    .simp only[ZAW] at h;subst h;exact⟨z,rfl,V,R,C,K,d,j,B,h0⟩
   .simp only[ZAW] at h;subst h;exact⟨z,rfl,V,R,C,K,d,j,B,h0⟩
  .simp only[ZAW] at h;subst h;exact⟨z,rfl,V,R,C,K,d,j,B,h0⟩
 .rename_i k e id;split at h
  .rename_i hq;obtain⟨u,X,h2⟩:=agZ.1 h;cases hk:(bM st.hp id||Nat.ble bA id)<;>rw[hk] at h2<;>simp only[bq_true,bq_false] at h2
   .simp only[ZAW] at h2;subst h2;simp only[ZBY] at hk;have O:=ZBR.1 λh'=>by rw[ZAi h'] at hk;cases hk.2
    obtain⟨z1,p1,p2,Y,p4⟩:=C.newV ⟨hk.1,O⟩ (R id) (b:=.rows e u []) ⟨rfl,(cTZ X).2.1⟩;have E:=Y.kp C.sub;have hv:=K k;rw[hq] at hv;have hv:=hv.v.opq.1;refine⟨z1,p1,V.trans Y,λid=>by rw[Y.dom];exact R id,p2,λt=> ?_,λp hp=>(d p hp).kp E,j,B,h0⟩;by_cases ht:t=k
    .subst ht;show bE z1 ((st.tm.put t (.slf u.cells id)).get t) _;rcases(Tr.get_put st.tm t (.slf u.cells id) t).2 with e|e<;>rw[e]
     .rw[hv];exact .slfV _ _ _ p4
     .exact .junk _
    .show bE z1 ((st.tm.put k (.slf u.cells id)).get t) _;rw[(Tr.get_put st.tm k (.slf u.cells id) t).1 ht];exact(K t).kp E
   simp_all
  .simp only[ZAW] at h;subst h;exact⟨z,rfl,V,R,C,K,d,j,B,h0⟩
 .rename_i b o e id;split at h
  .rename_i c hg;split at h
   .rename_i hc;obtain⟨u,X,h2⟩:=agZ.1 h;cases hk:(bM st.hp id||Nat.ble bA id)<;>rw[hk] at h2<;>simp only[bq_true,bq_false] at h2
    .simp only[ZAW] at h2;subst h2;simp only[ZBY] at hk;have O:=ZBR.1 λh'=>by rw[ZAi h'] at hk;cases hk.2
     replace hk:=hk.1
     obtain⟨z1,p1,p2,Y,p4⟩:=C.newV ⟨hk,O⟩ (R id) (b:=.rows e u []) ⟨rfl,(cTZ X).2.1⟩;have E:=Y.kp C.sub;have ag:b≠id:=λh=>by subst h;rw[aiZ hg] at hk;cases hk
     have hg1:bF (bR st.hp id (some ⟨false,.rows e u []⟩)) b=some ⟨false,.vars c⟩:=by rw[apZ,ZAJ ag];exact hg
     have W:b<bA:=C.fam b _ hg;have D:=p2.ent b _ (by rw[arZ W];exact hg1);have ac:∀H1 H2,H1=bR (bR st.hp b (some ⟨false,.vars (c.set o (.slf u.cells id))⟩)) id (some ⟨false,.rows e u []⟩)->H2=bR (bR st.hp id (some ⟨false,.rows e u []⟩)) b (some ⟨false,.vars (c.set o (.slf u.cells id))⟩)->
      (∀i,bF H1 i=bF H2 i)/\∀i,bM H1 i=bM H2 i:=by
      rintro _ _ rfl rfl;refine⟨λi=> ?_,λi=> ?_⟩
      .simp only[apZ];by_cases X:i=id
       .subst X;simp[ZBk ag]
       .simp[X]
      .simp only[atZ];cases decide (i=id)<;>cases decide (i=b)<;>rfl
     obtain⟨s1,s2⟩:=ac _ _ rfl rfl;unfold fC at D;cases U:z1.ρ b with
     |no=>rw[U] at D;exact D.elim
     |virt=>rw[U] at D;exact D.elim
     |real g sz n=>
      rw[U] at D;obtain⟨_,_,_,cs,e',fr,a1,a2,a3,⟨a4,an⟩,a5,a6⟩:=D;obtain⟨r1,r2⟩:=p2.write (w':=z1.w) (b:=.vars (c.set o (.slf u.cells id))) hg1 U rfl ⟨rfl,ZAN _⟩ rfl rfl (λ_ _=>rfl) (λ_=>by
       refine⟨cs,e',fr,a1,a2,a3,⟨by simpa using a4,an⟩,λi x v G T=> ?_,a6⟩;rw[ZCg] at G;split at G
       .rename_i ab;subst ab;split at G
        .simp only[ZAW] at G;subst G;have:=a5 o _ v hc T;obtain rfl:=this.v.opq.1;exact .slfV _ _ _ p4
        .cases G
       .exact a5 i x v G T)
      exact⟨z1,p1,V.trans Y,λid=>by rw[Y.dom];exact R id,r1.same s1 s2,λt=>(K t).kp E,λp hp=>(d p hp).kp E,j,B,h0⟩
    .cases h2
   .simp only[ZAW] at h;subst h;exact⟨z,rfl,V,R,C,K,d,j,B,h0⟩
  .simp only[ZAW] at h;subst h;exact⟨z,rfl,V,R,C,K,d,j,B,h0⟩
 .rename_i f e s;cases hk:(bM st.hp (bZ f)|| !s.noRef||Nat.beq s.cells 0)<;>rw[hk] at h<;>simp only[bq_true,bq_false] at h
  .simp only[ZAW] at h;subst h;simp only[ZBY,Bool.not_eq_false'] at hk;have hc:0<s.cells:=Nat.pos_of_ne_zero λh=>by rw[(afZ _ _).2 h] at hk;cases hk.2
   exact⟨z,rfl,V,R,C.newFam R hk.1.1 hk.1.2 hc,K,d,j,B,h0⟩
  .cases h
 .rename_i k f;split at h
  .rename_i e s ms hg;obtain⟨⟨x,H'⟩,X,h2⟩:=ZAH.1 h;subst h2;obtain⟨z',G,T,I,q5⟩:=m6Z C X (K k);have E:=I.kp C.sub;refine⟨z',G,V.trans I,λid=>by rw[I.dom];exact R id,T,λt=> ?_,λp hp=>(d p hp).kp E,j,B,h0⟩;show bE z' ((st.tm.put k x).get t) _;by_cases ht:t=k
   .subst ht;rcases(Tr.get_put st.tm t x t).2 with e|e<;>rw[e]
    .exact q5
    .exact .junk _
   .rw[(Tr.get_put st.tm k x t).1 ht];exact(K t).kp E
  .cases h
 .rename_i k m;cases hb:Nat.blt m 10<;>rw[hb] at h<;>simp only[bq_true,bq_false] at h
  .obtain⟨⟨x,H'⟩,X,h2⟩:=ZAH.1 h;subst h2;have hm:¬m<10:=λhc=>by rw[show Nat.blt m 10=true from ZAi hc] at hb;cases hb
   obtain⟨z',Mf,G,T,I,q4,q5,q6⟩:=qVZ C (.inr (R _)) X (K k);have q6:=q6 (by omega);subst q6;have E:=I.kp C.sub;refine⟨z',G,V.trans I,λid=>by rw[I.dom];exact R id,T,λt=> ?_,λp hp=>(d p hp).kp E,j,B,h0⟩;show bE z' ((st.tm.put k x).get t) _;by_cases ht:t=k
   .subst ht;rcases(Tr.get_put st.tm t x t).2 with e|e<;>rw[e]
    .exact q5
    .exact .junk _
   .rw[(Tr.get_put st.tm k x t).1 ht];exact(K t).kp E
  .cases h
 .rename_i id t;split at h
  .rename_i e u l hg;rcases aRZ h with⟨hu,h'⟩|h'
   .subst hu;have:=ZAg h';subst this;exact⟨z,rfl,V,R,C.reent (C.fam id _ hg) hg qIZ (show id<bA from C.fam id _ hg),K,d,j,B,h0⟩
   .cases h'
  .cases h
def AC.of:AC->Code->Prop
 |.skip,c=>c= .skip
 |.ret,c=>c= .ret
 |.exit i,c=>c= .exit i
 |.seq a b,c=>∃x y,c= .seq x y/\a.of x/\b.of y
 |.cond o a b,c=>∃x y,c= .cond o x y/\a.of x/\b.of y
 |.block i a,c=>∃x,c= .block i x/\a.of x
 |.loop _ _ _ a,c=>∃x,c= .loop x/\a.of x
 |.region i h d,c=>∃arr,c= .region i arr d/\h.map (·.1)=arr.toList
 |.join _ _ _ a,c=>a.of c
 |.pre _ a,c=>a.of c
 |.sel _ a b,c=>a.of c/\b.of c
 |.post _ a,c=>a.of c
 |.round a r,c=>∃x,c= .loop x/\a.of x/\r.of c
 |.bad _,_=>True
theorem fpZ(l):∀(k) (d),(xX l k d).map (·.1)=d
 |_,[]=>rfl
 |k,o::r=>by simp[xX,fpZ l (k+1) r]
theorem bxZ:(c:Code)->(plain c).of c
 |.ret=>rfl
 |.exit i=>rfl
 |.seq a b=>⟨a,b,rfl,bxZ a,bxZ b⟩
 |.cond o a b=>⟨a,b,rfl,bxZ a,bxZ b⟩
 |.block i a=>⟨a,rfl,bxZ a⟩
 |.region i h d=>⟨h,rfl,fpZ _ _ _⟩
 |.skip=>rfl
 |.loop _|.rangeFunc _ _ _ _|.scope _|.label _|.goto _|.refuse _=>trivial
theorem blZ:(h:Ov)->(c:Code)->(build h c).of c
 |.join sh rt d x,c=>blZ x c
 |.pre g x,c=>blZ x c
 |.sel q x y,c=>⟨blZ x c,blZ y c⟩
 |.post g x,c=>blZ x c
 |.round x y,c=>by cases c<;>first|exact⟨_,rfl,blZ x _,blZ y _⟩|exact bxZ _
 |.one x,c=>by cases c<;>first|exact⟨_,rfl,blZ x _⟩|exact bxZ _
 |.two x y,c=>by cases c<;>first|exact⟨_,_,rfl,blZ x _,blZ y _⟩|exact bxZ _
 |.loop sh rt d x,c=>by cases c<;>first|exact⟨_,rfl,blZ x _⟩|exact bxZ _
 |.reg l,c=>by cases c<;>first|exact⟨_,rfl,fpZ _ _ _⟩|exact bxZ _
 |.leaf,c=>bxZ c
theorem Inv.drew{st}{a}{w}(hi:Inv z0 N L st a w):Inv z0 N L st a {w with drawn:=w.drawn+1}:=by
 obtain⟨z,rfl,hn,hD,hH,hs,hLs,hdf,hnt,h0⟩:=hi
 let z1:={z with w:={z.w with drawn:=z.w.drawn+1}}
 have hn1:Nx z z1:=⟨rfl,⟨rfl,ZBc _⟩,rfl,ZAN _,fun _ _ _=>rfl,fun _ h=>.inl h,fun _ h=>.inl h,fun _ _ h _=>h,fun _ _=>rfl,rfl⟩;have kp:=hn1.kp hH.sub;exact⟨z1,rfl,hn.trans hn1,hD,⟨fun id e he=>(hH.ent id e he).kp kp fun _ _ _ _=>⟨rfl,fun h=>h⟩,hH.inj,hH.fresh,hH.sub,hH.fam,hH.key,hH.dyn,hH.nos⟩,fun t=>(hs t).kp kp,fun p hp=>(hLs p hp).kp kp,hdf,hnt,h0⟩
end
section
variable {P : Program} {T : Tbl} {N fu : Nat}
theorem q4Z{K}{L}{st}{a}{w}(hi:Inv K N L st a w)(j:∀p∈L,AV.ids p.2=[])(wr)(T:∀p∈L,p.1∉wr):
 ∃L',(∀p∈L,p∈L')/\Inv K N L' st a w/\(∀p∈L',AV.ids p.2=[])/\(∀k,((st.tm.keep).junk wr).get k= .junk\/(k,((st.tm.keep).junk wr).get k)∈L')/\∀p∈L',p.1∉wr:=by
 let⟨n,U⟩:=i3Z ((st.tm.keep).junk wr)
 have bF:∀k,k∉wr->((st.tm.keep).junk wr).get k= .junk\/(((st.tm.keep).junk wr).get k=st.tm.get k/\(st.tm.get k).noRef=true):=λk hk=>by
  rw[(jzZ wr st.tm.keep k).2 hk];exact iDZ st.tm k
 let O:=(List.range n).filterMap λk=>if cH k wr=true then none else some (k,((st.tm.keep).junk wr).get k)
 have d:∀p∈O,p.1∉wr/\p.2=((st.tm.keep).junk wr).get p.1:=λp hp=>by
  let⟨k,_,h⟩:=List.mem_filterMap.1 hp
  split at h
  .cases h
  .rename_i hm;simp at h;subst h;exact⟨λh=>hm (ajZ.2 h),rfl⟩
 refine⟨L++O,λp hp=>ZBe _ hp,?_,λp hp=> ?_,λk=> ?_,λp hp=> ?_⟩
 .obtain⟨z,rfl,B,V,W,R,C,D,E,h0⟩:=hi;refine⟨z,rfl,B,V,W,R,λp hp=> ?_,D,E,h0⟩;rcases ZAh.1 hp with hp|hp
  .exact C p hp
  .let⟨G,h2⟩:=d p hp
   rw[h2];rcases bF p.1 G with e|⟨e,_⟩<;>rw[e]
   .exact .junk _
   .exact R p.1
 .rcases ZAh.1 hp with hp|hp
  .exact j p hp
  .let⟨G,h2⟩:=d p hp
   rw[h2];rcases bF p.1 G with e|⟨e,X⟩<;>rw[e]
   .rfl
   .exact qWZ X
 .by_cases hk:k∈wr
  .exact .inl ((jzZ wr st.tm.keep k).1 hk)
  .by_cases I:k<n
   .right;refine ZCd _ (List.mem_filterMap.2 ⟨k,ZCW.2 I,?_⟩);rw[ZAJ λh=>hk (ajZ.1 h)]
   .exact .inl (U k (by omega))
 grind
theorem qXZ{β p}{rt}{d}{b}{K}{r:p}(h:Out.retO rt d b K=some r):
 ∃o,K o=some r/\∀(j) (nt n0) (X) (R:β->Option β),Out.on j nt n0 rt d o X R=R b:=by
 cases rt with
 |false=>cases h
 |true=>exact⟨_,h,λj nt n0 X R=>Out.on_ret⟩
def AC.nr:AC->Nat
 |.round _ r=>r.nr+1
 |_=>0
def Gl(P:Program)(h:AC)(c:Code)(Q:Exit->Act->World->Prop)(a:Act)(w:World):Prop:=
 match h with
 |.round x r=>∃d,c= .loop d/\Code.rounds P d Q (AC.nr (.round x r)) a w
 |_=>c.wp P Q a w
theorem Gl.wp{d}{c}{Q}{a}{w}(h:Gl P d c Q a w):c.wp P Q a w:=by
 cases d
 case round x y=>
  obtain⟨j,rfl,h⟩:=h;exact wp_loop_rounds _ h
 all_goals exact h
theorem c3Z(hT:∀e∈T,fF P e)(hm:P.follows .mixedOrders=true):(ac:AC)->{z0:Z}->{β:Type}->{st:St}->{K:St->Option β}->{X:Nat->St->Option β}->{R:St->Option β}->{res:β}->{c:Code}->{L:List (Nat×AV)}->{a:Act}->{w:World}->
 {Q:Exit->Act->World->Prop}->evS P T fu ac st K X R=some res->ac.of c->Inv z0 N L st a w->(∀p∈L,AV.ids p.2=[])->(∀p∈L,p.1∉ac.wr)->
 (∀st' a' w',K st'=some res->Inv z0 N L st' a' w'->Q .normal a' w')->(∀i st' a' w',X i st'=some res->Inv z0 N L st' a' w'->Q (.exit i) a' w')->
 (∀st' a' w',R st'=some res->Inv z0 N L st' a' w'->Q .ret a' w')->Gl P ac c Q a w
 |.skip,z0,β,st,K,X,R,res,c,L,a,w,Q,h,hc,hi,hLn,hLw,hK,hX,hR=>by
  obtain rfl:=hc;exact wp_skip (hK _ _ _ h hi)
 |.ret,z0,β,st,K,X,R,res,c,L,a,w,Q,h,hc,hi,hLn,hLw,hK,hX,hR=>by
  obtain rfl:=hc;exact wp_ret (hR _ _ _ h hi)
 |.exit i,z0,β,st,K,X,R,res,c,L,a,w,Q,h,hc,hi,hLn,hLw,hK,hX,hR=>by
  obtain rfl:=hc;exact wp_exit (hX _ _ _ _ h hi)
 |.seq x y,z0,β,st,K,X,R,res,c,L,a,w,Q,h,hc,hi,hLn,hLw,hK,hX,hR=>by
  obtain⟨cx,cy,rfl,h1,h2⟩:=hc;simp only[AC.wr,ZAh,not_or] at hLw;refine wp_seq (Gl.wp (c3Z hT hm x h h1 hi hLn (fun p hp=>(hLw p hp).1) (fun st' a' w' h' hi'=> ?_) hX hR));exact Gl.wp (c3Z hT hm y h' h2 hi' hLn (fun p hp=>(hLw p hp).2) hK hX hR)
 |.cond o x y,z0,β,st,K,X,R,res,c,L,a,w,Q,h,hc,hi,hLn,hLw,hK,hX,hR=>by
  obtain⟨cx,cy,rfl,h1,h2⟩:=hc;simp only[AC.wr,ZAh,not_or] at hLw;obtain⟨t,h3,h4⟩:=agZ.1 h;have hb:a.eval o= .bool t:=by
   obtain⟨z,_,_,_,_,hs,_⟩:=hi;exact bSZ h3 (esZ hs o)
  cases t
  ·exact wp_cond_false hb (Gl.wp (c3Z hT hm y h4 h2 hi hLn (fun p hp=>(hLw p hp).2) hK hX hR))
  ·exact wp_cond_true hb (Gl.wp (c3Z hT hm x h4 h1 hi hLn (fun p hp=>(hLw p hp).1) hK hX hR))
 |.block i x,z0,β,st,K,X,R,res,c,L,a,w,Q,h,hc,hi,hLn,hLw,hK,hX,hR=>by
  obtain⟨cx,rfl,h1⟩:=hc;refine wp_block (Gl.wp (c3Z hT hm x h h1 hi hLn hLw hK (fun j st' a' w' h' hi'=> ?_) hR));show if j=i then Q .normal a' w' else Q (.exit j) a' w';by_cases hj:j=i
  ·rw[(afZ j i).2 hj,bq_true] at h'
   grind
  ·rw[ahZ hj,bq_false] at h'
   grind
 |.region i opsA d,z0,β,st,K,X,R,res,c,L,a,w,Q,h,hc,hi,hLn,hLw,hK,hX,hR=>by
  obtain⟨arr,rfl,h1⟩:=hc;have hLd:∀x∈opsA,∀p∈L,x.1.dst≠some p.1:=fun x hx p hp he=>hLw p hp (by
   grind[AC.wr])
  have hsz:=by
   have:=congrArg List.length h1;simpa using this
  have h:bq d (bO (qQ 0 (opsA.map (·.1))&&AJ (nms (BH 0 (opsA.map (·.1)) []) (opsA.map (·.1)) 0 (opsA.map (·.1))))<|pH P T (pJ 0 opsA) (opsA.map (·.1)) st [] fun st' fs=>bO (qP (BH 0 (opsA.map (·.1)) []) fs)<|K st') (yA P T opsA (opsA.map (·.1)) st K)=some res:=h
  rw[h1] at h;cases d
  ·rw[bq_false] at h;refine wp_region ?_;have:=s5Z hT hK opsA 0 (fun i x hx=>by
    have e:(opsA.map (·.1))[i]? =some x.1:=by rw[ZAV,hx];rfl
    rw[h1] at e;rw[ZAz,<-Array.getElem?_toList];exact e) hLd st a w h hi
   simp_all[List.range_eq_range']
  ·rw[bq_true] at h;obtain⟨h2,h3⟩:=aeZ.1 h;simp only[ZAF] at h2;exact wp_region_any hm (sYZ hT h1 hLd hK h2.1 h2.2 h3 hi.drew)
 |.join sh rt outs x,z0,β,st,K,X,R,res,c,L,a,w,Q,h,hc,hi,hLn,hLw,hK,hX,hR=>by
  obtain⟨o,h1,h2⟩:=ZAG.1 h;obtain⟨L',q1,q2,q3,q4,q5⟩:=q4Z hi hLn x.wr hLw;obtain⟨_,_,_,_,_,_,_,_,hnt,h0⟩:=hi;refine Gl.wp (c3Z hT hm x h1 hc q2 q3 q5 (fun st' a' w' h' hi'=> ?_) (fun i st' a' w' h' hi'=> ?_) (fun st' a' w' h' hi'=> ?_))
  ·obtain⟨o',e1,e2⟩:=Out.on_inl h' hi' q3 q4 hnt.1 h0;simp only[ZAW] at e1;subst e1;obtain⟨st1,e3,e4⟩:=e2 (fun i st''=>match i with|0=>K st''|i+1=>X i st'') some
   exact hK st1 a' w' (e4.symm.trans h2) (e3.sub q1)
  ·obtain⟨o',e1,e2⟩:=Out.on_inl h' hi' q3 q4 hnt.1 h0;simp only[ZAW] at e1;subst e1;obtain⟨st1,e3,e4⟩:=e2 (fun i st''=>match i with|0=>K st''|i+1=>X i st'') some
   exact hX i st1 a' w' (e4.symm.trans h2) (e3.sub q1)
  ·obtain⟨b,e1,e2⟩:=agZ.1 h';obtain⟨o',e3,e4⟩:=qXZ e2;simp only[ZAW] at e3;subst e3;have:some b=some res:=(e4 _ _ _ _ _).symm.trans h2;exact hR st' a' w' (e1.trans this) (hi'.sub q1)
 |.pre g x,z0,β,st,K,X,R,res,c,L,a,w,Q,h,hc,hi,hLn,hLw,hK,hX,hR=>by
  obtain⟨st1,h1,h2⟩:=gZZ h;have hg:Inv z0 N L st1 a w:=mCZ h1 hi (fun k he p hp hk=>hLw p hp (by
   rcases he with⟨e,id,he⟩|he
   ·subst he;simp[AC.wr,hk]
   ·subst he;simp[AC.wr,hk])) hLn
  refine Gl.wp (c3Z hT hm x h2 hc hg hLn (fun p hp hmem=>hLw p hp ?_) hK hX hR);cases g with
  |ownNil k e id=>exact ZAc _ hmem
  |pure k=>exact ZAc _ hmem
  |mem k f=>exact ZAc _ hmem
  |opn k m=>exact ZAc _ hmem
  |_=>exact hmem
 |.sel q x y,z0,β,st,K,X,R,res,c,L,a,w,Q,h,hc,hi,hLn,hLw,hK,hX,hR=>by
  simp only[AC.wr,ZAh,not_or] at hLw;have h:bq (Cn.holds st q) (evS P T fu x st K X R) (evS P T fu y st K X R)=some res:=h;cases hf:Cn.holds st q<;>rw[hf] at h
  ·exact Gl.wp (c3Z hT hm y h hc.2 hi hLn (fun p hp=>(hLw p hp).2) hK hX hR)
  ·exact Gl.wp (c3Z hT hm x h hc.1 hi hLn (fun p hp=>(hLw p hp).1) hK hX hR)
 |.bad c',z0,β,st,K,X,R,res,c,L,a,w,Q,h,hc,hi,hLn,hLw,hK,hX,hR=>by cases h
 |.post g x,z0,β,st,K,X,R,res,c,L,a,w,Q,h,hc,hi,hLn,hLw,hK,hX,hR=>by
  refine Gl.wp (c3Z hT hm x h hc hi hLn (fun p hp hmem=>hLw p hp ?_) (fun st' a' w' h' hi'=> ?_) hX hR)
  ·cases g with
   |ownNil k e id=>exact ZAc _ hmem
   |pure k=>exact ZAc _ hmem
   |mem k f=>exact ZAc _ hmem
   |opn k m=>exact ZAc _ hmem
   |_=>exact hmem
  ·obtain⟨st1,h1,h2⟩:=gZZ h';refine hK st1 a' w' h2 (mCZ h1 hi' (fun k he p hp hk=>hLw p hp ?_) hLn);rcases he with⟨e,id,he⟩|he
   ·subst he;simp[AC.wr,hk]
   ·subst he;simp[AC.wr,hk]
 |.round x y,z0,β,st,K,X,R,res,c,L,a,w,Q,h,hc,hi,hLn,hLw,hK,hX,hR=>by
  obtain⟨cx,rfl,h1,h2⟩:=hc;simp only[AC.wr,ZAh,not_or] at hLw;obtain⟨h3,h4⟩:=aeZ.1 h;refine⟨cx,rfl,Gl.wp (c3Z hT hm x h4 h1 hi hLn (fun p hp=>(hLw p hp).1) (fun st' a' w' h' hi'=> ?_) (fun i st' a' w' h' hi'=>hX i st' a' w' h' hi') (fun st' a' w' h' hi'=>hR st' a' w' h' hi'))⟩;have hy:=c3Z hT hm y h' h2 hi' hLn (fun p hp=>(hLw p hp).2) hK hX hR;cases y with
  |round x' y'=>
   obtain⟨cx',e,hn⟩:=hy;injection e with e;subst e;exact hn
  |bad c'=>cases h'
  |_=>cases h3
 |.loop sh rt outs x,z0,β,st,K,X,R,res,c,L,a,w,Q,h,hc,hi,hLn,hLw,hK,hX,hR=>by
  obtain⟨cx,rfl,h1⟩:=hc;obtain⟨L',q1,q2,q3,q4,q5⟩:=q4Z hi hLn x.wr hLw;obtain⟨t0,p1,p2⟩:=kNZ (r:=res) h q2 q3 q4 (nt:=st.nt) (n0:=st.n0) (by obtain⟨_,_,_,_,_,_,_,_,hnt,_⟩:=hi<;>grind) (by obtain⟨_,_,_,_,_,_,_,_,_,h0⟩:=hi;omega);obtain⟨_,_,_,_,_,_,_,_,hnt,h0⟩:=hi;obtain⟨o,r1,r2⟩:=ZAG.1 p1;generalize hbase:(st.tm.keep).junk x.wr=base at*;generalize hf:(fun t=>evS P T fu (β:=sh.D⊕Out rt outs β) x (sh.inj base st.nt st.n0 t) (fun st''=>st''.prj sh fun t'=>some (.inl t'))
   (fun i st''=>Out.mk st'' rt outs i fun o=>some (.inr o))
   (fun st''=>(R st'').ob fun b=>Out.retO rt outs b fun o=>some (.inr o)))=f at*
  let p:Act->World->Nat->Prop:=fun a' w' n=>∃t,iter n f t=some o/\Inv z0 N L' (sh.inj base st.nt st.n0 t) a' w'
  classical
  let μ:Act->World->Nat:=fun a' w'=>if h:∃n,p a' w' n then Classical.choose (u9Z h) else 0
  have hμ:∀a' w' n,p a' w' n->μ a' w'<=n/\p a' w' (μ a' w'):=fun a' w' n hn=>by
   have hex:∃n,p a' w' n:=⟨n,hn⟩;have e:μ a' w'=Classical.choose (u9Z hex):=dif_pos hex;have hs:=Classical.choose_spec (u9Z hex)
   simp_all
  refine wp_loop (fun a' w'=>∃n,p a' w' n) μ ⟨fu,t0,r1,p2⟩ fun a1 w1 ⟨n1,hn1⟩=> ?_;obtain⟨_,t,ht,hit⟩:=hμ a1 w1 n1 hn1;obtain⟨m,hm'⟩:∃m,μ a1 w1=m+1:=by
   cases hz:μ a1 w1 with
   |zero=>rw[hz] at ht;cases ht
   |succ m=>simp_all
  rw[hm'] at ht⊢;obtain⟨r,ht1,ht2⟩:=agZ.1 (show(f t).ob _=some o from ht);have hft:evS P T fu (β:=sh.D⊕Out rt outs β) x (sh.inj base st.nt st.n0 t) (fun st''=>st''.prj sh fun t'=>some (.inl t'))
   (fun i st''=>Out.mk st'' rt outs i fun o=>some (.inr o))
   (fun st''=>(R st'').ob fun b=>Out.retO rt outs b fun o=>some (.inr o))=some r:=by rw[<-ht1,<-hf]
  refine Gl.wp (c3Z hT hm x hft h1 hit q3 q5 (fun st' a' w' h' hi'=> ?_) (fun i st' a' w' h' hi'=> ?_) (fun st' a' w' h' hi'=> ?_))
  ·obtain⟨t',e1,e2⟩:=kNZ h' hi' q3 q4 (nt:=st.nt) (n0:=st.n0) hnt.1 h0;simp only[ZAW] at e1;subst e1;have hp:p a' w' m:=⟨t',ht2,e2⟩;exact⟨⟨m,hp⟩,Nat.lt_succ_of_le (hμ a' w' m hp).1⟩
  ·obtain⟨o',e1,e2⟩:=Out.on_inl h' hi' q3 q4 (nt:=st.nt) (n0:=st.n0) hnt.1 h0;simp only[ZAW] at e1;subst e1;simp only[ZAW] at ht2;subst ht2;obtain⟨st1,e3,e4⟩:=e2 X some;exact hX i st1 a' w' (e4.symm.trans r2) (e3.sub q1)
  ·obtain⟨b,e1,e2⟩:=agZ.1 h';obtain⟨o',e3,e4⟩:=qXZ e2;simp only[ZAW] at e3;subst e3;simp only[ZAW] at ht2;subst ht2;have:some b=some res:=(e4 _ _ _ _ _).symm.trans r2;exact hR st' a' w' (e1.trans this) (hi'.sub q1)
theorem vZZ{C}(G:∀e∈T,fF P e)(hm:P.follows .mixedOrders=true)(ac){β}{st}{K}{X}{R}{j:β}{c}{L}{a}{w}
 {Q}(h:evS P T fu ac st K X R=some j)(I:ac.of c)(hi:Inv C N L st a w)(D:∀p∈L,AV.ids p.2=[])(E:∀p∈L,p.1∉ac.wr)
 (O:∀d B w',K d=some j->Inv C N L d B w'->Q .normal B w')(U:∀i d B w',X i d=some j->Inv C N L d B w'->Q (.exit i) B w')
 (V:∀d B w',R d=some j->Inv C N L d B w'->Q .ret B w'):c.wp P Q a w:=(Gl.wp (c3Z G hm ac h I hi D E O U V))
end
section
variable {P : Program} {T : Tbl} {β : Type} {z : Z} {H : Hp}
theorem j4Z:∀(d k),(Tr.full d).get k= .junk
 |0,k=>rfl
 |d+1,k=>by
  simp[Tr.full,Tr.get];cases Nat.beq k 0
  .cases Nat.beq (k%2) 1
   .exact j4Z d _
   .exact j4Z d _
  .rfl
theorem jOZ{f:Nat->Value}:∀{vs} {k0} {t},(∀k,bE z (t.get k) (f k))->(∀(j) a,vs[j]? =some a->bE z a (f (k0+j)))->∀k,bE z ((yD t k0 vs).get k) (f k)
 |[],k0,t,h,_,k=>h k
 |a::vs,k0,t,h,hv,k=>by
  simp[yD];refine jOZ (λj=> ?_) (λj p B=>by have:=hv (j+1) p (by simpa using B);rwa [show k0+(j+1)=k0+1+j by omega] at this) k;by_cases d:j=k0
  .subst d;rcases(Tr.get_put t j a j).2 with e|e<;>rw[e]
   .exact hv 0 a rfl
   .exact .junk _
  .rw[(Tr.get_put t k0 a j).1 d];exact h j
theorem m4Z{t}{pv v}{w w'}(h:(Instr.loadAt t pv).run P w= .ok v w'):((do loadVar t (<-asAddr pv)):Sem Value).run P w= .ok v w':=by
 unfold Instr.loadAt at h;cases pv
 case pointer x=>cases x<;>first|exact h|(simp[Instr.sureAddr] at h)
 all_goals(simp[Instr.sureAddr] at h)
def bN(d:Array Value)(r:ResultVar):Sem Value:=
 match r with
 |.tmp t=>pure (d.getD t undef)
 |.cell a t=>do loadVar t (<-asAddr (d.getD a undef))
theorem nOZ(fn)(tmps):results fn tmps=(do
 let vs<-fn.results.mapM (bN tmps)
 pure (if h:vs.size=1 then vs[0] else .tuple vs)):=rfl
theorem eWZ{st}{a:Act}(p:bH z st.hp)(j:∀t,bE z (st.tm.get t) (a.eval (iI t))):∀{rs} {K} {d:β},uE P rs st K=some d->
 ∃l vs,K l=some d/\bQ z l vs/\(rs.mapM (bN a.tmps)).run P z.w= .ok vs z.w
 |[],K,d,h=>⟨[],[],h,.nil,rfl⟩
 |.tmp t::rs,K,d,h=>by
  let⟨l,vs,B,h2,C⟩:=eWZ p j (rs:=rs) h
  refine⟨_,a.eval (.tmp t)::vs,B,.cons (esZ j (.tmp t)) h2,?_⟩;rw[List.mapM_cons];simp only[bN,Sem.run_bind,Sem.run_pure,Result.andThen_ok,C]
  rfl
 |.cell x t::rs,K,d,h=>by
  let⟨y,v,B,h2,C⟩:=k9Z h p (esZ j (.tmp x))
  let⟨l,vs,h4,h5,E⟩:=eWZ p j C
  refine⟨_,v::vs,h4,.cons h2 h5,?_⟩;have D:(bN a.tmps (.cell x t)).run P z.w= .ok v z.w:=m4Z B
  simp_all
theorem nJZ{st}{a:Act}{fn}{K}{j:β}(C:bH z st.hp)(D:∀t,bE z (st.tm.get t) (a.eval (iI t)))(h:uE P fn.results.toList st K=some j):
 ∃l v vs,K l=some j/\bQ z l vs/\(results fn a.tmps).run P z.w= .ok v z.w/\∀{z'} {p},bQ z' p vs->bE z' (nL p) v:=by
 let⟨l,vs,E,h2,G⟩:=eWZ C D h
 refine⟨l,if h:vs.toArray.size=1 then vs.toArray[0] else .tuple vs.toArray,vs,E,h2,?_,λ{z' p} d=> ?_⟩
 .rw[nOZ,Array.mapM_eq_mapM_toList,map_eq_pure_bind,Sem.run_bind,Sem.run_bind,G]
  rfl
 .have B:=d.1
  match vs,p,d,B with
  |[],[],d,_=>exact .tup [] #[] rfl λi x v h=>by grind
  |[v],[b],d,_=>exact d.head
  |u::v::vs,b::c::p,d,B=>
   refine .tup _ _ (by simp_all) λi x y I L=>d.2 i x y I (by simp_all)
theorem dW.one_ok{s:Shp}{vs}{N}{vals}{K}{j:β}(d:Rho)(p:∀k,bA<=k->k<bC->d k= .no)(O:∀k,bC<=k->d k= .no)(T:bH z H)(hv:bQ z vs vals)(U:cZ (iO (bI s.hs)) s.tys=true)(h:s.rco vs H N K=some j):
 ∃t,K t=some j/\∃z',z'.w=z.w/\z'.M=z.M/\bH z' (s.emb t).2/\bQ z' (s.emb t).1 vals/\(∀k,cH k (bI s.hs)=true->∃id,(id,k)∈N/\z'.ρ k=z.ρ id)/\(∀k,k<bC->cH k (bI s.hs)=false->z'.ρ k=d k)/\
  (∀g,z'.C g->z.C g)/\(∀k,z'.D k->d k≠.no)/\∀k,bC<=k->rt k∈bI s.hs->z'.ρ k=z.ρ k:=by
 obtain⟨t,z0,V,W,X,Y,k5,k6,k7,k8,k9,G,aa,ab,B,I⟩:=Shp.rco_ok d p h T hv;obtain⟨z',x1,x2,x3,x4,R,x6,x7,x8⟩:=lUZ U Y k5 B I;refine⟨t,V,z',x1.trans W,x2.trans X,x3,x4,λk hk=> ?_,λk L hk=> ?_,λg h=>k8 g (by rw[<-x6];exact h),λk hk=> ?_,λk L hk=> ?_⟩
 .obtain⟨id,a1,a2⟩:=k6 k hk;exact⟨id,a1,(R k (.inl (B k hk))).trans a2⟩
 .rw[R k (.inl L),k7 k hk,ZAJ (ZBR.2 L)]
 .obtain⟨E,y2⟩:=x7 k hk;rw[G] at E;rcases E.2 with h|h
  .rcases y2 with y2|y2
   .omega
   .rw[ajZ.2 y2] at E;cases E.1
  .exact h
 grind
theorem dW.rco_ok{vs}{E}{vals}(d:Rho)(p:∀k,bA<=k->k<bC->d k= .no)(B:∀k,bC<=k->d k= .no)(N:bH z H)(hv:bQ z vs vals):∀{l} {K} {j:β},(∀o∈l,cZ (iO (bI o.hs)) o.tys=true)->dW.rco vs H E l K=some j->
 ∃(x:dW l),K x=some j/\dW.on l x λo t=>o∈l/\∃z',z'.w=z.w/\z'.M=z.M/\bH z' (o.emb t).2/\bQ z' (o.emb t).1 vals/\(∀k,cH k (bI o.hs)=true->∃id,(id,k)∈E/\z'.ρ k=z.ρ id)/\(∀k,k<bC->cH k (bI o.hs)=false->z'.ρ k=d k)/\
  (∀g,z'.C g->z.C g)/\(∀k,z'.D k->d k≠.no)/\∀k,bC<=k->rt k∈bI o.hs->z'.ρ k=z.ρ k
 |[],K,j,G,h=>by cases h
 |[s],K,j,G,h=>by
  let⟨t,O,R⟩:=dW.one_ok d p B N hv (G s ZAr) h
  exact⟨t,O,by simp,R⟩
 |s::o::r,K,j,G,h=>by
  have I:bq (s.ks.fits (AV.renL (gE E) vs)&&AW s.hs (iU H (gE E) E)) (s.rco vs H E λx=>K (.inl x)) (dW.rco vs H E (o::r) λx=>K (.inr x))=some j:=h;cases hb:(s.ks.fits (AV.renL (gE E) vs)&&AW s.hs (iU H (gE E) E))<;>rw[hb] at I<;>simp[bq_false] at I
  .let⟨x,T,h2⟩:=dW.rco_ok d p B N hv (λo U=>G o (ZAc _ U)) I
   refine⟨.inr x,T,?_⟩;have V:∀{l} {x} {Q Q'},(∀o t,Q o t->Q' o t)->dW.on l x Q->dW.on l x Q':=λ{l}=>by
    induction l with
    |nil=>intro x;exact Empty.elim x
    |cons a l W=>
     cases l with
     |nil=>intro x Q Q' L h;exact L _ _ h
     |cons b l=>
      intro x Q Q' L h;cases x with
      |inl y=>exact L _ _ h
      |inr y=>exact W L h
   exact V (λo t ⟨a,b⟩=>⟨ZAc _ a,b⟩) h2
  .let⟨t,O,R⟩:=dW.one_ok d p B N hv (G s ZAr) I
   exact⟨.inl t,O,ZAr,R⟩
theorem fjZ:∀{l} {n k},k∈cQ n l->k<bA->n<=k/\k<n+(kV l).length
 |[],n,k,h,_=>by cases h
 |i::l,n,k,h,hk=>by
  simp[cQ] at h;by_cases hi:bA<=i
  .rw[ZAi hi] at h;rcases ZAj.1 h with rfl|h
   .omega
   .have:=fjZ h hk
    simp_all[kV,ZAi]
  .rw[fyZ hi] at h;simp[kV,fyZ hi,ZCA];rcases ZAj.1 h with rfl|h
   .omega
   .have:=fjZ h hk;omega
theorem dW.on_up:∀{l} {x} {Q Q'},(∀o t,Q o t->Q' o t)->dW.on l x Q->dW.on l x Q'
 |[],x,_,_,_,_=>Empty.elim x
 |[s],x,Q,Q',d,h=>d _ _ h
 |s::t::r,.inl y,Q,Q',d,h=>d _ _ h
 |s::t::r,.inr y,Q,Q',d,h=>dW.on_up (x:=y) d h
theorem dW.on_ex:∀{l} {x} {Q:(s:Shp)->s.D->Z->Prop},(dW.on l x λo t=>∃z',Q o t z')->∃z',dW.on l x λo t=>Q o t z'
 |[],x,_,_=>Empty.elim x
 |[s],x,Q,h=>h
 |s::t::r,.inl y,Q,h=>h
 |s::t::r,.inr y,Q,h=>dW.on_ex (x:=y) h
def GA(fn:Func)(vals:List Value):Act:={tmps:=vals.toArray++Array.replicate (fn.ntmps-vals.toArray.size) undef,defers:=[]}
theorem uLZ{fu}{f}{fn}{fa}(hT:∀e∈T,fF P e)(hm:P.follows .mixedOrders=true)(hf:P.funcs[f]? =some fn){c}(hb:fn.body=some c){t}{r}{z}{vals}{tm}
 (h1:(eqN (bI fa.i.hs) (cQ 0 (bI fa.i.hs))&& !cH 2 fa.md&&(Nat.ble fa.i.hs.length bA&&fa.os.all fun o=>cZ (iO (bI o.hs)) o.tys&&nE (sJ (bI fa.i.hs)) (sJ (bI o.hs))))=true)
 (h3:evS P T fu (build fa.ov c) ⟨tm,fn.ntmps,(kV (bI fa.i.hs)).length,(fa.i.emb t).2⟩ (fin P fn fa) (fun _ _=>none) (fin P fn fa)=some r)(hH:bH z (fa.i.emb t).2)(hD:∀id,¬z.D id)
 (htm:∀k,bE z (tm.get k) ((GA fn vals).eval (iI k))):
 Calls P f vals.toArray z.w fun en w'=>∃v z',en= .returned v/\z'.w=w'/\Nx z {z' with D:=z.D}/\(∀k,z'.D k->k∈bI fa.i.hs)/\dW.on fa.os r fun o x=>bH z' (o.emb x).2/\bE z' (nL (o.emb x).1) v:=by
 simp only[ZAF,mbZ,ZAl] at h1;obtain⟨⟨nF,hmd⟩,hlen,hno'⟩:=h1;have hb0:=eQZ;have hnoL:∀o∈fa.os,(cZ (iO (bI o.hs)) o.tys=true/\nE (sJ (bI fa.i.hs)) (sJ (bI o.hs))=true):=fun o ho=>by
  grind
 have hno:∀o∈fa.os,cZ (iO (bI o.hs)) o.tys=true:=fun o ho=>(hnoL o ho).1;refine calls_of_wp hf hb ?_
 let a:Act:=GA fn vals
 have bM:∀id,bM (fa.i.emb t).2 id=cH id (bI fa.i.hs):=fun id=>(cyZ fa.i.hs (embL fa.i.ks (fP fa.i.hs []) (gD fa.i.tys t)).2 id).1;have hlow:∀id,id<bC->z.ρ id≠.no->id∈bI fa.i.hs/\id<bA:=fun id hdy hid=>by
  have hf:id<bA:=ZBR.1 fun h=>hid (hH.nos id h hdy);refine⟨?_,hf⟩;cases hk:cH id (bI fa.i.hs)
  ·rw[<-bM id] at hk;exact absurd ((hH.fresh id (by rw[aEZ hf];exact hk)).resolve_right (hD id)) hid
  grind[ajZ]
 have hlown:∀id,id<bC->z.ρ id≠.no->id<(kV (bI fa.i.hs)).length:=fun id hdy hid=>by
  obtain⟨h1,h2⟩:=hlow id hdy hid;rw[nF] at h1;have:=(fjZ h1 h2).2;omega
 have hlowd:∀id,bC<=id->z.ρ id≠.no->rt id∈bI fa.i.hs:=fun id hdy hid=>by
  cases hk:cH (rt id) (bI fa.i.hs)
  ·rw[<-bM] at hk;refine absurd ((hH.fresh id ?_).resolve_right (hD id)) hid;rw[azZ hdy,awZ hk];exact hk
  grind[ajZ]
 have hi:Inv z a.tmps.size [] ⟨tm,fn.ntmps,(kV (bI fa.i.hs)).length,(fa.i.emb t).2⟩ a z.w:=
  ⟨z,rfl,Nx.refl z,hD,hH,htm,fun p hp=>(by grind),rfl,⟨by grind[GA],rfl⟩,fun id hdy hid=>hlown id hdy hid⟩
 have fin:∀(Q:Exit->Act->World->Prop),(∀a' w',(a'.defers=[]/\∃v,(results fn a'.tmps).run P w'= .ok v w'/\∃v' z',Ending.returned v= .returned v'/\z'.w=w'/\Nx z {z' with D:=z.D}/\(∀k,z'.D k->k∈bI fa.i.hs)/\dW.on fa.os r fun o x=>bH z' (o.emb x).2/\bE z' (nL (o.emb x).1) v')->Q .normal a' w')->
  ∀st' a' w',fin P fn fa st'=some r->Inv z a.tmps.size [] st' a' w'->Q .normal a' w':=fun Q hQ st' a' w' hfin hi'=>by
  refine hQ a' w' ?_;obtain⟨z1,rfl,hn,hD1,hH1,hs1,_,hdf,_,h0⟩:=hi';unfold Ab.fin at hfin;obtain⟨l,v,vs,e1,e2,e3,e4⟩:=nJZ hH1 hs1 hfin;rw[dwZ] at e1;obtain⟨⟨l',H'⟩,e5,e6⟩:=agZ.1 e1;obtain⟨z2,Mf,g1,g2,g3,g4,g5,g6⟩:=iGZ hH1 (fun _ _=>.inr (hD1 _)) e5 e2;have hM:=g6 hmd;subst hM;have hn2:=hn.trans g3;obtain⟨x,k1,k2⟩:=dW.rco_ok (fun k=>if cH k (bI fa.i.hs)=true/\k<bC then z2.ρ k else .no) (fun k h1 h2=>by rw[g2.nos k h1 h2,ite_self]) (fun k h=>ZAJ fun h'=>by omega) g2 g5 hno e6;simp only[ZAW] at k1;subst k1;obtain⟨z3,k3⟩:=dW.on_ex (dW.on_up (Q':=fun o t=>∃z',o∈fa.os/\_) (fun o t ⟨h,z',k⟩=>⟨z',h,k⟩) k2);have common:z3.w=z2.w/\z3.M=z2.M/\(∀g,z3.C g->z2.C g)/\(∀k,z3.D k->k∈bI fa.i.hs)/\∀id,z.ρ id≠.no->z3.ρ id=z.ρ id:=by
   have pick:∀{l:List Shp} {x:dW l} {Q:(s:Shp)->s.D->Prop} {G:Prop},(dW.on l x Q)->(∀o t,Q o t->G)->G:=fun{l}=>by
    induction l with
    |nil=>intro x;exact Empty.elim x
    |cons a l ih=>
     cases l with
     |nil=>intro x Q G h hq;exact hq _ _ h
     |cons b l=>
      intro x Q G h hq;cases x with
      |inl y=>exact hq _ _ h
      |inr y=>exact ih (x:=y) h hq
   refine pick k3 fun o t k=> ?_;obtain⟨ho,q1,q2,q3,q4,q5,q6,q7,q8,q9⟩:=k;refine⟨q1,q2,q7,fun k hk=> ?_,fun id hid=> ?_⟩
   ·have:=q8 k hk;cases hm:cH k (bI fa.i.hs)
    ·simp[hm] at this
    ·exact ajZ.1 hm
   ·by_cases hdy:bC<=id
    ·have hm:=hlowd id hdy hid;have hmo:=(cWZ.1 ((bZZ.1 (hnoL o ho).2) _ (cWZ.2 ⟨hm,(bFZ hdy).1⟩))).1;rw[q9 id hdy hmo];exact hn2.ext id hid
    have hstat:id<bC:=by omega
    obtain⟨hmem,hfl⟩:=hlow id hstat hid;have hidlt:=hlown id hstat hid;cases hk:cH id (bI o.hs)
    ·rw[q6 id hstat hk,ZAL ⟨ajZ.2 hmem,hstat⟩];exact hn2.ext id hid
    ·obtain⟨id',p1,p2⟩:=q5 id hk;have:id'=id:=by
      rcases ZAh.1 p1 with p1|p1
      ·obtain⟨m,b1,b2⟩:=jAZ p1;rcases ZB1 m ((reach H' vF (oC 0 (kV (bI fa.i.hs)).length++AV.idsL l') []).filter fun i=>Nat.blt i (kV (bI fa.i.hs)).length).length with hlt|hge
       ·rw[ZAS hlt] at b1 b2;rw[b1] at b2;exact ZAg b2
       ·rw[ZAU hge] at b2;have:=(nNZ b2).1;omega
      ·exact(gvZ.1 p1).1
     rw[p2,this];exact hn2.ext id hid
  obtain⟨c1,c2,c3,c4,c5⟩:=common;refine⟨hdf,v,e3,v,z3,rfl,c1.trans g1,⟨by show z3.w.os=_;rw[c1];exact hn2.os,⟨by show z3.w.tape=_;rw[c1];exact hn2.tape.1,by show _<=z3.w.drawn;rw[c1];exact hn2.tape.2⟩,by show z3.w.output=_;rw[c1];exact hn2.output,by show _<=z3.w.heap.size;rw[c1];exact hn2.size,
   fun b hb hc=>by show z3.w.heap[b]? =_;rw[c1];exact hn2.block b hb hc,fun g hg=>hn2.subM g (by rw[<-c2];exact hg),fun g hg=>hn2.subC g (c3 g hg),fun g hg hm hc=>by show z3.M g;rw[c2];exact hn2.keepM g hg hm hc,c5,rfl⟩,c4,dW.on_up (fun o t k=> ?_) k3⟩
  obtain⟨_,q1,q2,q3,q4,q5,q6,q7,q8,q9⟩:=k;exact⟨q3,e4 q4⟩
 refine vZZ hT hm (build fa.ov c) h3 (blZ _ _) hi (fun p hp=>by cases hp) (fun p hp=>by cases hp) ?_ (fun i st' a' w' h' _=>by cases h') ?_
 ·exact fin (bodyPost P fn _) fun a' w' h=>h
 ·exact fin (fun e a' w'=>bodyPost P fn _ .ret a' w') fun a' w' h=>h
theorem t8Z{fn}{vals}{j:Nat}{v}(h:vals[j]? =some v):(GA fn vals).eval (.tmp j)=v:=by
 have hlt:=(ZAC.1 h).1;simp[Act.eval,GA]
 simp_all[ZBS,ZCB]
theorem uZZ{z}{fn}{vs}{vals}{d}(C:vs.length<=1048576)(hv:bQ z vs vals)(k):bE z ((yD (Tr.full d) 0 vs).get k) ((GA fn vals).eval (iI k)):=by
 refine jOZ (f:=λk=>(GA fn vals).eval (iI k)) (λk=>by rw[j4Z];exact .junk _) (λj x hx=> ?_) k
 let⟨v,h,p⟩:=hv.get hx
 have B:=(ZAC.1 hx).1;rw[ZAz,fdZ (by omega),t8Z h];omega
theorem vlZ{E}{f}{fn}{C}{d}(G:∀e∈T,fF P e)(hm:P.follows .mixedOrders=true)(D:P.funcs[f]? =some fn)(j:(fn.name== "runtime.NumGoroutine")=false)(p:fn.body.isSome=true)
 (I:∀t,evF P T E fn C t=d t):fF P ⟨f,C.i,C.os,d⟩:=by
 let⟨c,hb⟩:=ZBu.1 p
 refine fF.of ⟨fn,c,D,hb,j⟩ λt r K z vals L hv N=> ?_;have h:=(I t).trans K;unfold evF at h;rw[Shp.embC_eq] at h
 let⟨O,h2⟩:=aeZ.1 h
 let⟨R,h2⟩:=aeZ.1 h2
 let⟨V,B,U⟩:=agZ.1 h2
 rw[hb] at B;simp at B;subst B;exact uLZ G hm D hb O U L N (uZZ (ZBQ R) hv)
end
theorem abZ{P}:∀e∈([]:Tbl),fF P e:=λe h=>by cases h
theorem aaZ{P}{a}{r:Tbl}(h:fF P a)(d:∀e∈r,fF P e):∀e∈a::r,fF P e:=λe he=>by
 grind
end Go.Ab
