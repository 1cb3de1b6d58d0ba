/- What the functions compute; the plain law. -/
import Derived.Test.YtblocgeildejaaaGreatSaveCutsQ1
import Derived.KernelRfl
set_option linter.all false
set_option maxRecDepth 100000
set_option maxHeartbeats 4000000
namespace Go.Ab.V
open Go Go.Ab Go.Ab.D
noncomputable section
def sClo4(fu:Nat)(s:List (qT0)):Option (List (qT0)):=
 need ((Nat.ble ((0+s.length)*88) room)&&(Nat.ble (0+s.length) room))<|
 some s
theorem pgZ: @Go.Ab.D.sClo4= @Go.Ab.V.sClo4:=by
 funext fu s;show nilQ _ _=_;cases s with
 |nil=>exact(ZAV fun _=>rfl).trans rfl
 |cons a l=>exact(ZAV (fun h=>by cases h)).trans rfl
def sClo(fu:Nat)(s:List ((Int×Int))):Option (List ((Int×Int))):=
 need ((Nat.ble ((0+s.length)*16) room)&&(Nat.ble (0+s.length) room))<|
 some s
theorem osZ: @Go.Ab.D.sClo= @Go.Ab.V.sClo:=by
 funext fu s;show nilQ _ _=_;cases s with
 |nil=>exact(ZAV fun _=>rfl).trans rfl
 |cons a l=>exact(ZAV (fun h=>by cases h)).trans rfl
def sClo3(fu:Nat)(s:List ((List UInt8×Int))):Option (List ((List UInt8×Int))):=
 need ((Nat.ble ((0+s.length)*24) room)&&(Nat.ble (0+s.length) room))<|
 some s
theorem oBZ: @Go.Ab.D.sClo3= @Go.Ab.V.sClo3:=by
 funext fu s;show nilQ _ _=_;cases s with
 |nil=>exact(ZAV fun _=>rfl).trans rfl
 |cons a l=>exact(ZAV (fun h=>by cases h)).trans rfl
def scop_l0(fu:Nat)(r:List (qT0))(x:Int)(h:Int)(h1:List (qT0))(h2:Int):Option ((Int×(Int×(List (qT0)×Int)))⊕((Int×(List (qT0)×Int)))):=
 bif (decide (x<((r.length:Nat):Int))) then
  (idx? x h1.length).bind fun q=>
  (h1)[q]?.bind fun r1=>
  (sClo fu r1.2.2.2.2.2.1).bind fun r2=>
  (idx? x h1.length).bind fun q1=>
  (h1)[q1]?.bind fun r3=>
  (sClo3 fu r3.2.2.2.2.2.2.2).bind fun r4=>
  (idx? x h1.length).bind fun q2=>
  (h1)[q2]?.bind fun r5=>
  (idx? x (List.set h1 q2 (r5.1,(r5.2.1,(r5.2.2.1,(r5.2.2.2.1,(r5.2.2.2.2.1,(r2,r5.2.2.2.2.2.2))))))).length).bind fun q3=>
  ((List.set h1 q2 (r5.1,(r5.2.1,(r5.2.2.1,(r5.2.2.2.1,(r5.2.2.2.2.1,(r2,r5.2.2.2.2.2.2))))))))[q3]?.bind fun r6=>
  some (.inl ((IntKind.wrap .i64 (x+1)),(h,((List.set (List.set h1 q2 (r5.1,(r5.2.1,(r5.2.2.1,(r5.2.2.2.1,(r5.2.2.2.2.1,(r2,r5.2.2.2.2.2.2))))))) q3 (r6.1,(r6.2.1,(r6.2.2.1,(r6.2.2.2.1,(r6.2.2.2.2.1,(r6.2.2.2.2.2.1,(r6.2.2.2.2.2.2.1,r4)))))))),h2))))
 else
  some (.inr (h,(h1,h2)))
theorem mAZ: @Go.Ab.D.scop_l0= @Go.Ab.V.scop_l0:=by
 delta Go.Ab.D.scop_l0 Go.Ab.V.scop_l0
 rw[osZ,oBZ]
 try kernel_rfl
def scop_l0_it(fu:Nat)(r:List (qT0))(tt:(Int×(Int×(List (qT0)×Int)))):Option ((Int×(List (qT0)×Int))):=
 iter fu (fun tt=>scop_l0 fu r tt.1 tt.2.1 tt.2.2.1 tt.2.2.2) tt
theorem h7Z: @Go.Ab.D.scop_l0_it= @Go.Ab.V.scop_l0_it:=by
 delta Go.Ab.D.scop_l0_it Go.Ab.V.scop_l0_it
 rw[mAZ]
 try kernel_rfl
def scop(fu:Nat)(t:(List (qT0)×Int)):Option ((Int×List (qT0))):=
 (sClo4 fu t.1).bind fun r=>
 (scop_l0_it fu r (0,(t.2,(r,0)))).bind fun o=>
 some (o.1,o.2.1)
theorem pJZ: @Go.Ab.D.scop= @Go.Ab.V.scop:=by
 delta Go.Ab.D.scop Go.Ab.V.scop
 rw[pgZ,h7Z]
 try kernel_rfl
def sClo2(fu:Nat)(s:List ((Int×List (Int)))):Option (List ((Int×List (Int)))):=
 need ((Nat.ble ((0+s.length)*32) room)&&(Nat.ble (0+s.length) room))<|
 some s
theorem oEZ: @Go.Ab.D.sClo2= @Go.Ab.V.sClo2:=by
 funext fu s;show nilQ _ _=_;cases s with
 |nil=>exact(ZAV fun _=>rfl).trans rfl
 |cons a l=>exact(ZAV (fun h=>by cases h)).trans rfl
def sClo6(fu:Nat)(s:List (Int)):Option (List (Int)):=
 need ((Nat.ble ((0+s.length)*8) room)&&(Nat.ble (0+s.length) room))<|
 some s
theorem mLZ: @Go.Ab.D.sClo6= @Go.Ab.V.sClo6:=by
 funext fu s;show nilQ _ _=_;cases s with
 |nil=>exact(ZAV fun _=>rfl).trans rfl
 |cons a l=>exact(ZAV (fun h=>by cases h)).trans rfl
def sClo5(fu:Nat)(s:List (qT1)):Option (List (qT1)):=
 need ((Nat.ble ((0+s.length)*40) room)&&(Nat.ble (0+s.length) room))<|
 some s
theorem oRZ: @Go.Ab.D.sClo5= @Go.Ab.V.sClo5:=by
 funext fu s;show nilQ _ _=_;cases s with
 |nil=>exact(ZAV fun _=>rfl).trans rfl
 |cons a l=>exact(ZAV (fun h=>by cases h)).trans rfl
def state_own_l0(fu:Nat)(r1:List ((Int×List (Int))))(x:Int)(h:Int)(h1:Int)(h2:Int)(h3:List (qT1))(h4:List ((Int×Int)))(h5:List (qT0))(h6:List ((Int×List (Int))))(h7:Int)(h8:Int)(h9:Int):Option ((Int×qT30)⊕(qT30)):=
 bif (decide (x<((r1.length:Nat):Int))) then
  (idx? x h6.length).bind fun q=>
  (h6)[q]?.bind fun r2=>
  (sClo6 fu r2.2).bind fun r3=>
  (idx? x h6.length).bind fun q1=>
  (h6)[q1]?.bind fun r4=>
  some (.inl ((IntKind.wrap .i64 (x+1)),(h,(h1,(h2,(h3,(h4,(h5,((List.set h6 q1 (r4.1,r3)),(h7,(h8,h9)))))))))))
 else
  some (.inr (h,(h1,(h2,(h3,(h4,(h5,(h6,(h7,(h8,h9))))))))))
theorem f7Z: @Go.Ab.D.state_own_l0= @Go.Ab.V.state_own_l0:=by
 delta Go.Ab.D.state_own_l0 Go.Ab.V.state_own_l0
 rw[mLZ]
 try kernel_rfl
def state_own_l0_it(fu:Nat)(r1:List ((Int×List (Int))))(tt:(Int×qT30)):Option (qT30):=
 iter fu (fun tt=>state_own_l0 fu r1 tt.1 tt.2.1 tt.2.2.1 tt.2.2.2.1 tt.2.2.2.2.1 tt.2.2.2.2.2.1 tt.2.2.2.2.2.2.1 tt.2.2.2.2.2.2.2.1 tt.2.2.2.2.2.2.2.2.1 tt.2.2.2.2.2.2.2.2.2.1 tt.2.2.2.2.2.2.2.2.2.2) tt
theorem dFZ: @Go.Ab.D.state_own_l0_it= @Go.Ab.V.state_own_l0_it:=by
 delta Go.Ab.D.state_own_l0_it Go.Ab.V.state_own_l0_it
 rw[f7Z]
 try kernel_rfl
def state_own(fu:Nat)(s:qT21):Option ((Int×(Int×(Int×(List (qT0)×(List (qT1)×(List ((Int×List (Int)))×List ((Int×Int))))))))):=
 (scop fu s.2.1).bind fun r=>
 (sClo2 fu s.2.2.2.1).bind fun r1=>
 (state_own_l0_it fu r1 (0,(s.1,(r.1,(s.2.2.1.1,(s.2.2.1.2,(s.2.2.2.2,(r.2,(r1,(0,(0,0))))))))))).bind fun o=>
 (sClo5 fu o.2.2.2.1).bind fun r5=>
 (state_own_l1_it fu r5 (0,(o.1,(o.2.1,(o.2.2.1,(o.2.2.2.2.1,(o.2.2.2.2.2.1,(r5,o.2.2.2.2.2.2)))))))).bind fun o1=>
 (sClo fu o1.2.2.2.1).bind fun r6=>
 some (o1.1,(o1.2.1,(o1.2.2.1,(o1.2.2.2.2.1,(o1.2.2.2.2.2.1,(o1.2.2.2.2.2.2.1,r6))))))
theorem eLZ: @Go.Ab.D.state_own= @Go.Ab.V.state_own:=by
 delta Go.Ab.D.state_own Go.Ab.V.state_own
 rw[pJZ,oEZ,dFZ,oRZ,osZ]
 try kernel_rfl
def state_New(fu:Nat)(window:Int)(l:List ((Int×List (Int)))):Option ((Int×(List (qT0)×(Int×(Int×(List (qT1)×(List ((Int×List (Int)))×(List ((Int×Int))×Int)))))))):=
 (rNew fu window).bind fun r=>
 bif (!(r.2==0)) then
  some (0,([],(0,(0,([],([],([],r.2)))))))
 else
  (spla fu l).bind fun r1=>
  bif (!r1) then
   some (0,([],(0,(0,([],([],([],2)))))))
  else
   (model_New fu).bind fun r2=>
   (state_own fu (0,((r2.2.1,r2.1),((r.1,[]),(l,[]))))).bind fun r3=>
   some (r3.1,(r3.2.2.2.1,(r3.2.1,(r3.2.2.1,(r3.2.2.2.2.1,(r3.2.2.2.2.2.1,(r3.2.2.2.2.2.2,0)))))))
theorem jbZ: @Go.Ab.D.state_New= @Go.Ab.V.state_New:=by
 delta Go.Ab.D.state_New Go.Ab.V.state_New
 rw[eLZ]
 try kernel_rfl
def place_own(fu:Nat)(p:(Int×List (Int))):Option ((Int×List (Int))):=
 (sClo6 fu p.2).bind fun r=>
 some (p.1,r)
theorem iSZ: @Go.Ab.D.place_own= @Go.Ab.V.place_own:=by
 delta Go.Ab.D.place_own Go.Ab.V.place_own
 rw[mLZ]
 try kernel_rfl
def pMov_l0(fu:Nat)(l:List ((Int×List (Int))))(x:Int)(h:Int)(h1:Int)(h2:List ((Int×List (Int))))(h3:List (Int)):Option ((Int×(Int×(Int×(List ((Int×List (Int)))×List (Int)))))⊕((List ((Int×List (Int)))×List (Int)))):=
 bif (decide (x<((l.length:Nat):Int))) then
  (idx? x l.length).bind fun q=>
  (l)[q]?.bind fun r4=>
  (place_own fu r4).bind fun r5=>
  (pInd fu r5 h).bind fun r6=>
  Option.bind (α:=((Int×(Int×(List ((Int×List (Int)))×(List (Int)×(Int×List (Int)))))))) (
   bif (decide (r6>=0)) then
    (idx? r6 r5.2.length).bind fun q1=>
    (r5.2)[q1]?.bind fun r7=>
    need ((Nat.ble ((h3.length+1)*8) room)&&(Nat.ble (h3.length+1) room))<|
    some (h,(h1,(h2,((h3++[x]),((IntKind.wrap .i64 (r5.1+1)),(List.set r5.2 q1 h1))))))
   else
    some (h,(h1,(h2,(h3,r5))))) fun o1=>
  need ((Nat.ble ((o1.2.2.1.length+1)*32) room)&&(Nat.ble (o1.2.2.1.length+1) room))<|
  some (.inl ((IntKind.wrap .i64 (x+1)),(o1.1,(o1.2.1,((o1.2.2.1++[o1.2.2.2.2]),o1.2.2.2.1)))))
 else
  some (.inr (h2,h3))
theorem niZ: @Go.Ab.D.pMov_l0= @Go.Ab.V.pMov_l0:=by
 delta Go.Ab.D.pMov_l0 Go.Ab.V.pMov_l0
 rw[iSZ]
 try kernel_rfl
def pMov_l0_it(fu:Nat)(l:List ((Int×List (Int))))(tt:(Int×(Int×(Int×(List ((Int×List (Int)))×List (Int)))))):Option ((List ((Int×List (Int)))×List (Int))):=
 iter fu (fun tt=>pMov_l0 fu l tt.1 tt.2.1 tt.2.2.1 tt.2.2.2.1 tt.2.2.2.2) tt
theorem iyZ: @Go.Ab.D.pMov_l0_it= @Go.Ab.V.pMov_l0_it:=by
 delta Go.Ab.D.pMov_l0_it Go.Ab.V.pMov_l0_it
 rw[niZ]
 try kernel_rfl
def pMov(fu:Nat)(l:List ((Int×List (Int))))(from_:Int)(to_:Int):Option ((Int×(List ((Int×List (Int)))×List (Int)))):=
 (place_all fu l).bind fun r=>
 bif (!r) then
  some (2,([],[]))
 else
  Option.bind (α:=((Bool×(Int×Int)))) (
   (pMov1 fu from_).bind fun r1=>
   bif (!r1) then
    some (true,(from_,to_))
   else
    (pMov1 fu to_).bind fun r2=>
    bif (!r2) then
     some (true,(from_,to_))
    else
     bif (from_==to_) then
      some (true,(from_,to_))
     else
      (sConFun3 fu l from_ to_).bind fun r3=>
      some r3) fun o=>
  bif o.1 then
   some (100,([],[]))
  else
   (pMov_l0_it fu l (0,(o.2.1,(o.2.2,([],[]))))).bind fun o2=>
   some (0,o2)
theorem pZZ: @Go.Ab.D.pMov= @Go.Ab.V.pMov:=by
 delta Go.Ab.D.pMov Go.Ab.V.pMov
 rw[iyZ]
 try kernel_rfl
def sMov(fu:Nat)(s:qT21)(from_:Int)(to_:Int):Option (qT53):=
 (state_own fu s).bind fun r=>
 (pMov fu s.2.2.2.1 from_ to_).bind fun r1=>
 Option.bind (α:=((Int×(Int×qT53)))) (
  bif (r1.1==0) then
   some (0,(0,(0,(r.1,(r.2.1,(r.2.2.1,(r.2.2.2.1,(r.2.2.2.2.1,(r1.2.1,(r.2.2.2.2.2.2,r1.2.2))))))))))
  else
   some (0,(0,(0,(r.1,(r.2.1,(r.2.2.1,(r.2.2.2.1,(r.2.2.2.2.1,(r.2.2.2.2.2.1,(r.2.2.2.2.2.2,r1.2.2))))))))))) fun o=>
 some (o.2.2.2.1,(o.2.2.2.2.1,(o.2.2.2.2.2.1,(r1.1,o.2.2.2.2.2.2))))
theorem pyZ: @Go.Ab.D.sMov= @Go.Ab.V.sMov:=by
 delta Go.Ab.D.sMov Go.Ab.V.sMov
 rw[eLZ,pZZ]
 try kernel_rfl
def save_Do(fu:Nat)(s:qT21)(size:Int)(c:(Int×(Int×(qT20×(List (Int)×(Int×(Int×Int))))))):Option ((Int×(List (qT0)×(Int×(Int×(List (qT1)×(List ((Int×List (Int)))×(List ((Int×Int))×(Int×(Int×(Int×(Int×(Int×(Bool×(Int×(Bool×(Int×Int))))))))))))))))):=
 (sMov fu s (-1) (-1)).bind fun r=>
 (sRig fu s size).bind fun r1=>
 bif (!r1) then
  some (r.1,(r.2.2.2.2.1,(r.2.1,(r.2.2.1,(r.2.2.2.2.2.1,(r.2.2.2.2.2.2.1,(r.2.2.2.2.2.2.2.1,(0,(0,(0,(0,(0,(false,(0,(false,(0,180))))))))))))))))
 else
  (byte? ((c.2.2.1.2.2.1.toNat:Nat):Int)).bind fun c1=>
  (srig fu (c.1,(c.2.1,((c.2.2.1.1,(c.2.2.1.2.1,(c1,c.2.2.1.2.2.2))),c.2.2.2)))).bind fun r2=>
  bif (!r2) then
   some (r.1,(r.2.2.2.2.1,(r.2.1,(r.2.2.1,(r.2.2.2.2.2.1,(r.2.2.2.2.2.2.1,(r.2.2.2.2.2.2.2.1,(0,(0,(0,(0,(0,(false,(0,(false,(0,2))))))))))))))))
  else
   bif (c.1==2) then
    none
   else
    bif (c.1==3) then
     (sMov fu s c.2.2.2.2.2.1 c.2.2.2.2.2.2).bind fun r3=>
     some (r3.1,(r3.2.2.2.2.1,(r3.2.1,(r3.2.2.1,(r3.2.2.2.2.2.1,(r3.2.2.2.2.2.2.1,(r3.2.2.2.2.2.2.2.1,(0,(0,(0,(0,(0,(false,(0,(false,(0,r3.2.2.2.1))))))))))))))))
    else
     bif (c.1==4) then
      none
     else
      bif (!(c.2.1==(IntKind.wrap .i64 (s.1+1)))) then
       some (r.1,(r.2.2.2.2.1,(r.2.1,(r.2.2.1,(r.2.2.2.2.2.1,(r.2.2.2.2.2.2.1,(r.2.2.2.2.2.2.2.1,(0,(0,(0,(0,(0,(false,(0,(false,(0,80))))))))))))))))
      else
       some (c.2.1,(r.2.2.2.2.1,(r.2.1,(r.2.2.1,(r.2.2.2.2.2.1,(r.2.2.2.2.2.2.1,(r.2.2.2.2.2.2.2.1,(0,(0,(0,(0,(0,(false,(0,(false,(0,0))))))))))))))))
theorem nbZ: @Go.Ab.D.save_Do= @Go.Ab.V.save_Do:=by
 delta Go.Ab.D.save_Do Go.Ab.V.save_Do
 rw[pyZ]
 try kernel_rfl
def law26_awake(fu:Nat):Option (Bool):=
 (bTab fu).bind fun r=>
 need (Nat.beq (List.replicate (α:=Int) 256 0).length 256)<|
 need (Nat.beq r.length 256)<|
 (sPutCha fu r (1,(3,((0,(0,((UInt8.ofNat 0),((0,0),([],((0,0),([],(0,(0,[]))))))))),([],(0,(0,0))))))).bind fun r1=>
 (sPutCha fu r (3,(0,((0,(0,((UInt8.ofNat 0),((0,0),([],((0,0),([],(0,(0,[]))))))))),([],(0,(1,5))))))).bind fun r2=>
 (state_New fu 1 [(1,[0])]).bind fun r3=>
 (save_Do fu (r3.1,((r3.2.1,r3.2.2.1),((r3.2.2.2.1,r3.2.2.2.2.1),(r3.2.2.2.2.2.1,r3.2.2.2.2.2.2.1)))) 16 (1,(2,((0,(0,((UInt8.ofNat 0),((0,0),([],((0,0),([],(0,(0,[]))))))))),([],(0,(0,0))))))).bind fun r4=>
 bif (r1.2==0) then
  bif (r2.2==0) then
   bif (r3.2.2.2.2.2.2.2==0) then
    (lSamByt fu r1.1 [(UInt8.ofNat 1),(UInt8.ofNat 3),(UInt8.ofNat 0),(UInt8.ofNat 0),(UInt8.ofNat 0),(UInt8.ofNat 0)]).bind fun r5=>
    bif r5 then
     (lSamByt fu r2.1 [(UInt8.ofNat 3),(UInt8.ofNat 0),(UInt8.ofNat 0),(UInt8.ofNat 1),(UInt8.ofNat 5),(UInt8.ofNat 0)]).bind fun r6=>
     bif r6 then
      some (r4.2.2.2.2.2.2.2.2.2.2.2.2.2.2.2.2==80)
     else
      some false
    else
     some false
   else
    some false
  else
   some false
 else
  some false
theorem law26_awake_v: @Go.Ab.D.law26_awake= @Go.Ab.V.law26_awake:=by
 delta Go.Ab.D.law26_awake Go.Ab.V.law26_awake
 rw[jbZ,nbZ]
 try kernel_rfl
end
end Go.Ab.V
set_option maxRecDepth 100000
set_option maxHeartbeats 4000000
namespace Go.Ab.D
open Go Go.Ab Go.P1 Go.P21 Go.P26
theorem cfZ:law26_awake fuel=some true:=by
 rw[V.law26_awake_v]
 kernel_rfl
attribute [local irreducible] Go.P1.crcT tabI
theorem stH:Go.P26.St rH:=fun _=>rfl
theorem exH:Go.P26.Ex rH:=fun N M l r e h q=>by
 unfold rH at q⊢;cases h1:(pN (some l)).2 with
 |none=>rw[h1] at q;cases q
 |some l1=>
  rw[h1] at q;rw[show(pN (some (l++e))).2=some (l1++e) from exN N M l l1 e h h1];cases h2:(pN (some l1)).2 with
  |none=>rw[h2] at q;cases q
  |some l2=>
   rw[h2] at q;rw[show(pN (some (l1++e))).2=some (l2++e) from exN N M l1 l2 e h h2,valN h2];cases h3:(pN (some l2)).2 with
   |none=>rw[h3] at q;cases q
   |some l3=>
    rw[h3] at q;rw[show(pN (some (l2++e))).2=some (l3++e) from exN N M l2 l3 e h h3];cases h4:(pN (some l3)).2 with
    |none=>rw[h4] at q;cases q
    |some l4=>
     rw[h4] at q;rw[show(pN (some (l3++e))).2=some (l4++e) from exN N M l3 l4 e h h4];dsimp only at q⊢;by_cases hk:(pN (some l1)).1>2
     ·rw[ZAV hk] at q;cases q
     ·rw[ZAO hk] at q⊢;rw[ZAY q]
theorem stP:Go.P26.St rP:=stN.sq stN
theorem exP:Go.P26.Ex rP:=exN.sq exN stN
theorem stE:Go.P26.St rE:=(stB 100).sq stN
theorem exE:Go.P26.Ex rE:=(exB (by omega)).sq exN stN
theorem stI:Go.P26.St rI:=stH.sq ((stL rP).sq (stL rE))
theorem exI:Go.P26.Ex rI:=exH.sq ((exL exP stP).sq (exL exE stE) (stL rE)) ((stL rP).sq (stL rE))
theorem stK:Go.P26.St rK:=stP.sq (stL rR)
theorem exK:Go.P26.Ex rK:=exP.sq (exL (exG (by omega) okR) (stG _ _)) (stL rR)
theorem pBZ:Go.P26.Ex rGate:=
 exP.sq ((exL exI stI).sq (exN.sq ((exL exK stK).sq ((exG (by omega) okP).sq (exL exP stP) (stL rP)) ((stG _ okP).sq (stL rP))) ((stL rK).sq ((stG _ okP).sq (stL rP)))) (stN.sq ((stL rK).sq ((stG _ okP).sq (stL rP))))) ((stL rI).sq (stN.sq ((stL rK).sq ((stG _ okP).sq (stL rP)))))
theorem mtZ{n:Int}(hn:1<=n/\n<=100000000)(x:Int):∃v:Nat,kit_Pick fuel x n=some (v:Int)/\(v:Int)<n:=by
 unfold kit_Pick;rw[ZAC (by omega),alZ (by rw[ZAC (by omega)];rfl)];have h1:=Int.tmod_lt_of_pos x (show 0<n by omega);have h2: -n<Int.tmod x n:=Int.lt_tmod_of_pos x (by omega);generalize Int.tmod x n=y at*;by_cases h:y<0
 ·rw[ZAD h,ZAK,ZAM,w64 ⟨by omega,by omega⟩];exact⟨(y+n).toNat,congrArg some (by omega),by omega⟩
 ·rw[ZAC h];exact⟨y.toNat,congrArg some (by omega),by omega⟩
theorem mdZ(c:Chg26):∃b,law26_Huge fuel c=some b/\(b=false->c.2.2.2.1.length<=100):=by
 obtain⟨kind,n,cl,vs,err,fr,to⟩:=c
 delta law26_Huge
 dsimp only;rw[d1Z,ZAA];obtain⟨b,e,_⟩:=lFZ cl (0,(0,(0,((0,0),(false,(0,([],([],(false,0)))))))))
 replace e:law21_Huge fuel (cl.1,(cl.2.1,(cl.2.2.1,cl.2.2.2))) (0,(0,(0,((0,0),(false,(0,([],([],(false,0)))))))))=some b:=e
 rw[e,ZAA];cases b with
 |true=>exact⟨true,rfl,fun h=>by cases h⟩
 |false=>exact⟨_,rfl,fun h=>by have:=of_decide_eq_false h;omega⟩
theorem pmZ{b:List UInt8}(h:Pt rGate b)(hb:b.length<=90000000){k:Nat}(hk:k<b.length):∃o,sGetGat fuel (tabI crcT) (b.take k)=some o/\o.2.2.2.2.2.2.2=10:=by
 have hl:(b.take k).length=k:=by rw[ZAe];omega
 exact⟨_,eFZ (by omega) (by rw[hl];exact cut pBZ h hk),rfl⟩
theorem nmZ{b:List UInt8}(h:Pt rGate b)(hb:b.length<=90000000)(c:UInt8):∃o,sGetGat fuel (tabI crcT) (b++[c])=some o/\o.2.2.2.2.2.2.2=10:=by
 have hl:(b++[c]).length=b.length+1:=by simp
 exact⟨_,eFZ (by omega) (by rw[hl];exact more h c),rfl⟩
theorem onZ{b:List UInt8}(h:Pt rChange b)(hb:b.length<=90000000){k:Nat}(hk:k<b.length):∃o:OutG,sGetCha fuel (tabI crcT) (b.take k)=some o/\o.2.2.2.2.2.2.2.2.2.2.2.2.2.2.2.2.2.2=10:=by
 have hl:(b.take k).length=k:=by rw[ZAe];omega
 exact dfZ (by omega) (by rw[hl];exact cut nzZ h hk)
theorem mSZ{b:List UInt8}(h:Pt rChange b)(hb:b.length<=90000000)(c:UInt8):∃o:OutG,sGetCha fuel (tabI crcT) (b++[c])=some o/\o.2.2.2.2.2.2.2.2.2.2.2.2.2.2.2.2.2.2=10:=by
 have hl:(b++[c]).length=b.length+1:=by simp
 exact dfZ (by omega) (by rw[hl];exact more h c)
theorem law26_SaveCuts_true(s:Gate26)(c:Chg26)(x:Int×UInt8)(_k0:OkV qY14 s)(_k1:OkV qY43 c)(_k2:OkV (.pair (.int .i64) .byte) x):law26_SaveCuts fuel s c x=some true:=by
 clear _k0 _k1 _k2;obtain⟨at_,mo⟩:=x;obtain⟨g,eg,kg⟩:=i0Z s
 delta law26_SaveCuts
 rw[eg,ZAA];cases g with
 |true=>
  rw[ZAM,ZAA];dsimp only;rw[ZAM,cfZ]
  rfl
 |false=>
  obtain⟨b0,e0,k0⟩:=mdZ c
  replace e0:law26_Huge fuel (c.1,(c.2.1,((c.2.2.1.1,(c.2.2.1.2.1,(c.2.2.1.2.2.1,c.2.2.1.2.2.2))),c.2.2.2)))=some b0:=e0
  rw[ZAK,d1Z,ZAA,e0,ZAA,ZAA];dsimp only;cases b0 with
  |true=>rw[ZAM,cfZ];rfl
  |false=>
   rw[ZAK,nBZ,ZAA,alZ (by rfl),alZ (pWZ pqZ)];obtain⟨b,e,e1,k1⟩:=kYZ s (kg rfl)
   replace e1:sPutGat fuel (tabI crcT) (s.1,((s.2.1.1,s.2.1.2),((s.2.2.1.1,s.2.2.1.2),(s.2.2.2.1,s.2.2.2.2))))=some (b,e):=e1
   rw[e1,ZAA];obtain⟨b',e',e2,k2⟩:=hTZ c (k0 rfl)
   replace e2:sPutCha fuel (tabI crcT) (c.1,(c.2.1,((c.2.2.1.1,(c.2.2.1.2.1,(c.2.2.1.2.2.1,((c.2.2.1.2.2.2.1.1,c.2.2.1.2.2.2.1.2),(c.2.2.1.2.2.2.2.1,((c.2.2.1.2.2.2.2.2.1.1,c.2.2.1.2.2.2.2.2.1.2),(c.2.2.1.2.2.2.2.2.2.1,(c.2.2.1.2.2.2.2.2.2.2.1,(c.2.2.1.2.2.2.2.2.2.2.2.1,c.2.2.1.2.2.2.2.2.2.2.2.2))))))))),(c.2.2.2.1,(c.2.2.2.2.1,(c.2.2.2.2.2.1,c.2.2.2.2.2.2))))))=some (b',e'):=e2
   dsimp only;have hten:(!((10:Int)==10))=false:=rfl;have hz:∀{w:List UInt8},0<w.length->(((w.length:Nat):Int)==0)=false:=fun h=>ZBV (by omega);by_cases he:e=0
   ·obtain⟨p1,p2,p3⟩:=k1 he;obtain⟨v,ev,lv⟩:=mtZ (n:=((b.length:Nat):Int)) ⟨by omega,by omega⟩ at_;obtain⟨o1,f1,g1⟩:=pmZ p1 p3 (k:=v) (by omega);obtain⟨o2,f2,g2⟩:=nmZ p1 p3 mo;rw[he];rw[beq_self_eq_true,ZAM,hz p2,ZAK,ev,ZAA,bdZ (by omega),ZAA,f1,ZAA,iTZ (by unfold room;omega),ZAA,d1Z,ZAA,alZ (aQZ (by omega) (by omega)),f2,ZAA,g1,g2,hten,ZAK,ZAA];dsimp only;rw[ZAK,ZAA];dsimp only;rw[d1Z,ZAA,e2,ZAA];dsimp only;by_cases he':e'=0
    ·obtain⟨p1,p2,p3⟩:=k2 he';obtain⟨v,ev,lv⟩:=mtZ (n:=((b'.length:Nat):Int)) ⟨by omega,by omega⟩ at_;obtain⟨o1,f1,g1⟩:=onZ p1 p3 (k:=v) (by omega);obtain⟨o2,f2,g2⟩:=mSZ p1 p3 mo;rw[he'];rw[beq_self_eq_true,ZAM,hz p2,ZAK,ev,ZAA,bdZ (by omega),ZAA,f1,ZAA,iTZ (by unfold room;omega),ZAA,d1Z,ZAA,alZ (aQZ (by omega) (by omega)),f2,ZAA,g1,g2,hten,ZAK,ZAA,ZAK,cfZ]
     rfl
    ·rw[ZBV he',ZAK,cfZ]
     rfl
   ·rw[ZBV he,ZAK,ZAA];dsimp only;rw[d1Z,ZAA,e2,ZAA];dsimp only;by_cases he':e'=0
    ·obtain⟨p1,p2,p3⟩:=k2 he';obtain⟨v,ev,lv⟩:=mtZ (n:=((b'.length:Nat):Int)) ⟨by omega,by omega⟩ at_;obtain⟨o1,f1,g1⟩:=onZ p1 p3 (k:=v) (by omega);obtain⟨o2,f2,g2⟩:=mSZ p1 p3 mo;rw[he'];rw[beq_self_eq_true,ZAM,hz p2,ZAK,ev,ZAA,bdZ (by omega),ZAA,f1,ZAA,iTZ (by unfold room;omega),ZAA,d1Z,ZAA,alZ (aQZ (by omega) (by omega)),f2,ZAA,g1,g2,hten,ZAK,ZAA,ZAK,cfZ]
     rfl
    ·rw[ZBV he',ZAK,cfZ]
     rfl
end Go.Ab.D
