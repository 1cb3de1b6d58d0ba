/- What the functions compute; the plain law. -/
import Derived.Test.YtblocgeildejaaaGreatSaveLifeD2
import Derived.KernelRfl
set_option linter.all false
set_option maxRecDepth 100000
set_option maxHeartbeats 4000000
namespace Go.Ab.V
open Go Go.Ab Go.Ab.D
noncomputable section
def sClo4(fu:Nat)(s:List (qT1)):Option (List (qT1)):=
 need ((Nat.ble ((0+s.length)*88) room)&&(Nat.ble (0+s.length) room))<|
 some s
theorem lqZ: @Go.Ab.D.sClo4= @Go.Ab.V.sClo4:=by
 funext fu s;show nilQ _ _=_;cases s with
 |nil=>exact(if_pos fun _=>rfl).trans rfl
 |cons a l=>exact(if_pos (fun h=>by cases h)).trans rfl
def sClo(fu:Nat)(s:List ((Int×Int))):Option (List ((Int×Int))):=
 need ((Nat.ble ((0+s.length)*16) room)&&(Nat.ble (0+s.length) room))<|
 some s
theorem kSZ: @Go.Ab.D.sClo= @Go.Ab.V.sClo:=by
 funext fu s;show nilQ _ _=_;cases s with
 |nil=>exact(if_pos fun _=>rfl).trans rfl
 |cons a l=>exact(if_pos (fun h=>by cases h)).trans rfl
def sClo2(fu:Nat)(s:List ((List UInt8×Int))):Option (List ((List UInt8×Int))):=
 need ((Nat.ble ((0+s.length)*24) room)&&(Nat.ble (0+s.length) room))<|
 some s
theorem leZ: @Go.Ab.D.sClo2= @Go.Ab.V.sClo2:=by
 funext fu s;show nilQ _ _=_;cases s with
 |nil=>exact(if_pos fun _=>rfl).trans rfl
 |cons a l=>exact(if_pos (fun h=>by cases h)).trans rfl
def scop_l0(fu:Nat)(r:List (qT1))(x:Int)(h:Int)(h1:List (qT1))(h2:Int):Option ((Int×(Int×(List (qT1)×Int)))⊕((Int×(List (qT1)×Int)))):=
 bif (decide (x<((r.length:Nat):Int))) then
  (idx? x h1.length).bind fun q=>
  (h1)[q]?.bind fun r1=>
  (sClo fu r1.2.2.2.2.2.1).bind fun r2=>
  (idx? x h1.length).bind fun q1=>
  (h1)[q1]?.bind fun r3=>
  (sClo2 fu r3.2.2.2.2.2.2.2).bind fun r4=>
  (idx? x h1.length).bind fun q2=>
  (h1)[q2]?.bind fun r5=>
  (idx? x (List.set h1 q2 (r5.1,(r5.2.1,(r5.2.2.1,(r5.2.2.2.1,(r5.2.2.2.2.1,(r2,r5.2.2.2.2.2.2))))))).length).bind fun q3=>
  ((List.set h1 q2 (r5.1,(r5.2.1,(r5.2.2.1,(r5.2.2.2.1,(r5.2.2.2.2.1,(r2,r5.2.2.2.2.2.2))))))))[q3]?.bind fun r6=>
  some (.inl ((IntKind.wrap .i64 (x+1)),(h,((List.set (List.set h1 q2 (r5.1,(r5.2.1,(r5.2.2.1,(r5.2.2.2.1,(r5.2.2.2.2.1,(r2,r5.2.2.2.2.2.2))))))) q3 (r6.1,(r6.2.1,(r6.2.2.1,(r6.2.2.2.1,(r6.2.2.2.2.1,(r6.2.2.2.2.2.1,(r6.2.2.2.2.2.2.1,r4)))))))),h2))))
 else
  some (.inr (h,(h1,h2)))
theorem iTZ: @Go.Ab.D.scop_l0= @Go.Ab.V.scop_l0:=by
 delta Go.Ab.D.scop_l0 Go.Ab.V.scop_l0
 rw[kSZ,leZ]
 try kernel_rfl
def scop_l0_it(fu:Nat)(r:List (qT1))(tt:(Int×(Int×(List (qT1)×Int)))):Option ((Int×(List (qT1)×Int))):=
 iter fu (fun tt=>scop_l0 fu r tt.1 tt.2.1 tt.2.2.1 tt.2.2.2) tt
theorem gsZ: @Go.Ab.D.scop_l0_it= @Go.Ab.V.scop_l0_it:=by
 delta Go.Ab.D.scop_l0_it Go.Ab.V.scop_l0_it
 rw[iTZ]
 try kernel_rfl
def scop(fu:Nat)(t:(List (qT1)×Int)):Option ((Int×List (qT1))):=
 (sClo4 fu t.1).bind fun r=>
 (scop_l0_it fu r (0,(t.2,(r,0)))).bind fun o=>
 some (o.1,o.2.1)
theorem m2Z: @Go.Ab.D.scop= @Go.Ab.V.scop:=by
 delta Go.Ab.D.scop Go.Ab.V.scop
 rw[lqZ,gsZ]
 try kernel_rfl
def sClo3(fu:Nat)(s:List ((Int×List (Int)))):Option (List ((Int×List (Int)))):=
 need ((Nat.ble ((0+s.length)*32) room)&&(Nat.ble (0+s.length) room))<|
 some s
theorem lGZ: @Go.Ab.D.sClo3= @Go.Ab.V.sClo3:=by
 funext fu s;show nilQ _ _=_;cases s with
 |nil=>exact(if_pos fun _=>rfl).trans rfl
 |cons a l=>exact(if_pos (fun h=>by cases h)).trans rfl
def sClo6(fu:Nat)(s:List (Int)):Option (List (Int)):=
 need ((Nat.ble ((0+s.length)*8) room)&&(Nat.ble (0+s.length) room))<|
 some s
theorem joZ: @Go.Ab.D.sClo6= @Go.Ab.V.sClo6:=by
 funext fu s;show nilQ _ _=_;cases s with
 |nil=>exact(if_pos fun _=>rfl).trans rfl
 |cons a l=>exact(if_pos (fun h=>by cases h)).trans rfl
def sClo5(fu:Nat)(s:List (qT0)):Option (List (qT0)):=
 need ((Nat.ble ((0+s.length)*40) room)&&(Nat.ble (0+s.length) room))<|
 some s
theorem l5Z: @Go.Ab.D.sClo5= @Go.Ab.V.sClo5:=by
 funext fu s;show nilQ _ _=_;cases s with
 |nil=>exact(if_pos fun _=>rfl).trans rfl
 |cons a l=>exact(if_pos (fun h=>by cases h)).trans rfl
def state_own_l0(fu:Nat)(r1:List ((Int×List (Int))))(x:Int)(h:Int)(h1:Int)(h2:Int)(h3:List (qT0))(h4:List ((Int×Int)))(h5:List (qT1))(h6:List ((Int×List (Int))))(h7:Int)(h8:Int)(h9:Int):Option ((Int×qT20)⊕(qT20)):=
 bif (decide (x<((r1.length:Nat):Int))) then
  (idx? x h6.length).bind fun q=>
  (h6)[q]?.bind fun r2=>
  (sClo6 fu r2.2).bind fun r3=>
  (idx? x h6.length).bind fun q1=>
  (h6)[q1]?.bind fun r4=>
  some (.inl ((IntKind.wrap .i64 (x+1)),(h,(h1,(h2,(h3,(h4,(h5,((List.set h6 q1 (r4.1,r3)),(h7,(h8,h9)))))))))))
 else
  some (.inr (h,(h1,(h2,(h3,(h4,(h5,(h6,(h7,(h8,h9))))))))))
theorem esZ: @Go.Ab.D.state_own_l0= @Go.Ab.V.state_own_l0:=by
 delta Go.Ab.D.state_own_l0 Go.Ab.V.state_own_l0
 rw[joZ]
 try kernel_rfl
def state_own_l0_it(fu:Nat)(r1:List ((Int×List (Int))))(tt:(Int×qT20)):Option (qT20):=
 iter fu (fun tt=>state_own_l0 fu r1 tt.1 tt.2.1 tt.2.2.1 tt.2.2.2.1 tt.2.2.2.2.1 tt.2.2.2.2.2.1 tt.2.2.2.2.2.2.1 tt.2.2.2.2.2.2.2.1 tt.2.2.2.2.2.2.2.2.1 tt.2.2.2.2.2.2.2.2.2.1 tt.2.2.2.2.2.2.2.2.2.2) tt
theorem cXZ: @Go.Ab.D.state_own_l0_it= @Go.Ab.V.state_own_l0_it:=by
 delta Go.Ab.D.state_own_l0_it Go.Ab.V.state_own_l0_it
 rw[esZ]
 try kernel_rfl
def state_own(fu:Nat)(s:qT18):Option ((Int×(Int×(Int×(List (qT1)×(List (qT0)×(List ((Int×List (Int)))×List ((Int×Int))))))))):=
 (scop fu (s.2.1.1,s.2.1.2)).bind fun r=>
 (sClo3 fu s.2.2.2.1).bind fun r1=>
 (state_own_l0_it fu r1 (0,(s.1,(r.1,(s.2.2.1.1,(s.2.2.1.2,(s.2.2.2.2,(r.2,(r1,(0,(0,0))))))))))).bind fun o=>
 (sClo5 fu o.2.2.2.1).bind fun r5=>
 (state_own_l1_it fu r5 (0,(o.1,(o.2.1,(o.2.2.1,(o.2.2.2.2.1,(o.2.2.2.2.2.1,(r5,(o.2.2.2.2.2.2.1,(o.2.2.2.2.2.2.2.1,(o.2.2.2.2.2.2.2.2.1,o.2.2.2.2.2.2.2.2.2))))))))))).bind fun o1=>
 (sClo fu o1.2.2.2.1).bind fun r6=>
 some (o1.1,(o1.2.1,(o1.2.2.1,(o1.2.2.2.2.1,(o1.2.2.2.2.2.1,(o1.2.2.2.2.2.2.1,r6))))))
theorem d1Z: @Go.Ab.D.state_own= @Go.Ab.V.state_own:=by
 delta Go.Ab.D.state_own Go.Ab.V.state_own
 rw[m2Z,lGZ,cXZ,l5Z,kSZ]
 try kernel_rfl
def state_New(fu:Nat)(window:Int)(l:List ((Int×List (Int)))):Option ((Int×(List (qT1)×(Int×(Int×(List (qT0)×(List ((Int×List (Int)))×(List ((Int×Int))×Int)))))))):=
 (rNew fu window).bind fun r=>
 bif (!(r.2==0)) then
  some (0,([],(0,(0,([],([],([],r.2)))))))
 else
  (spla fu l).bind fun r1=>
  bif (!r1) then
   some (0,([],(0,(0,([],([],([],2)))))))
  else
   (model_New fu).bind fun r2=>
   (state_own fu (0,((r2.2.1,r2.1),((r.1,[]),(l,[]))))).bind fun r3=>
   some (r3.1,(r3.2.2.2.1,(r3.2.1,(r3.2.2.1,(r3.2.2.2.2.1,(r3.2.2.2.2.2.1,(r3.2.2.2.2.2.2,0)))))))
theorem state_New_v: @Go.Ab.D.state_New= @Go.Ab.V.state_New:=by
 delta Go.Ab.D.state_New Go.Ab.V.state_New
 rw[d1Z]
 try kernel_rfl
def place_own(fu:Nat)(p:(Int×List (Int))):Option ((Int×List (Int))):=
 (sClo6 fu p.2).bind fun r=>
 some (p.1,r)
theorem gSZ: @Go.Ab.D.place_own= @Go.Ab.V.place_own:=by
 delta Go.Ab.D.place_own Go.Ab.V.place_own
 rw[joZ]
 try kernel_rfl
def pMov_l0(fu:Nat)(l:List ((Int×List (Int))))(x:Int)(h:Int)(h1:Int)(h2:List ((Int×List (Int))))(h3:List (Int)):Option ((Int×(Int×(Int×(List ((Int×List (Int)))×List (Int)))))⊕((List ((Int×List (Int)))×List (Int)))):=
 bif (decide (x<((l.length:Nat):Int))) then
  (idx? x l.length).bind fun q=>
  (l)[q]?.bind fun r4=>
  (place_own fu (r4.1,r4.2)).bind fun r5=>
  (pInd fu (r5.1,r5.2) h).bind fun r6=>
  Option.bind (α:=((Int×(Int×(List ((Int×List (Int)))×(List (Int)×(Int×List (Int)))))))) (
   bif (decide (r6>=0)) then
    (idx? r6 r5.2.length).bind fun q1=>
    (r5.2)[q1]?.bind fun r7=>
    need ((Nat.ble ((h3.length+1)*8) room)&&(Nat.ble (h3.length+1) room))<|
    some (h,(h1,(h2,((h3++[x]),((IntKind.wrap .i64 (r5.1+1)),(List.set r5.2 q1 h1))))))
   else
    some (h,(h1,(h2,(h3,(r5.1,r5.2)))))) fun o1=>
  need ((Nat.ble ((o1.2.2.1.length+1)*32) room)&&(Nat.ble (o1.2.2.1.length+1) room))<|
  some (.inl ((IntKind.wrap .i64 (x+1)),(o1.1,(o1.2.1,((o1.2.2.1++[(o1.2.2.2.2.1,o1.2.2.2.2.2)]),o1.2.2.2.1)))))
 else
  some (.inr (h2,h3))
theorem iNZ: @Go.Ab.D.pMov_l0= @Go.Ab.V.pMov_l0:=by
 delta Go.Ab.D.pMov_l0 Go.Ab.V.pMov_l0
 rw[gSZ]
 try kernel_rfl
def pMov_l0_it(fu:Nat)(l:List ((Int×List (Int))))(tt:(Int×(Int×(Int×(List ((Int×List (Int)))×List (Int)))))):Option ((List ((Int×List (Int)))×List (Int))):=
 iter fu (fun tt=>pMov_l0 fu l tt.1 tt.2.1 tt.2.2.1 tt.2.2.2.1 tt.2.2.2.2) tt
theorem fKZ: @Go.Ab.D.pMov_l0_it= @Go.Ab.V.pMov_l0_it:=by
 delta Go.Ab.D.pMov_l0_it Go.Ab.V.pMov_l0_it
 rw[iNZ]
 try kernel_rfl
def pMov(fu:Nat)(l:List ((Int×List (Int))))(from_:Int)(to_:Int):Option ((Int×(List ((Int×List (Int)))×List (Int)))):=
 (place_all fu l).bind fun r=>
 bif (!r) then
  some (2,([],[]))
 else
  Option.bind (α:=((Bool×(Int×Int)))) (
   (pMov1 fu from_).bind fun r1=>
   bif (!r1) then
    some (true,(from_,to_))
   else
    (pMov1 fu to_).bind fun r2=>
    bif (!r2) then
     some (true,(from_,to_))
    else
     bif (from_==to_) then
      some (true,(from_,to_))
     else
      (sConFun2 fu l from_ to_).bind fun r3=>
      some (r3.1,(r3.2.1,r3.2.2))) fun o=>
  bif o.1 then
   some (100,([],[]))
  else
   (pMov_l0_it fu l (0,(o.2.1,(o.2.2,([],[]))))).bind fun o2=>
   some (0,(o2.1,o2.2))
theorem mrZ: @Go.Ab.D.pMov= @Go.Ab.V.pMov:=by
 delta Go.Ab.D.pMov Go.Ab.V.pMov
 rw[fKZ]
 try kernel_rfl
def sMov(fu:Nat)(s:qT18)(from_:Int)(to_:Int):Option (qT32):=
 (state_own fu (s.1,((s.2.1.1,s.2.1.2),((s.2.2.1.1,s.2.2.1.2),(s.2.2.2.1,s.2.2.2.2))))).bind fun r=>
 (pMov fu s.2.2.2.1 from_ to_).bind fun r1=>
 Option.bind (α:=((Int×(Int×qT32)))) (
  bif (r1.1==0) then
   some (0,(0,(0,(r.1,(r.2.1,(r.2.2.1,(r.2.2.2.1,(r.2.2.2.2.1,(r1.2.1,(r.2.2.2.2.2.2,r1.2.2))))))))))
  else
   some (0,(0,(0,(r.1,(r.2.1,(r.2.2.1,(r.2.2.2.1,(r.2.2.2.2.1,(r.2.2.2.2.2.1,(r.2.2.2.2.2.2,r1.2.2))))))))))) fun o=>
 some (o.2.2.2.1,(o.2.2.2.2.1,(o.2.2.2.2.2.1,(r1.1,(o.2.2.2.2.2.2.1,(o.2.2.2.2.2.2.2.1,(o.2.2.2.2.2.2.2.2.1,(o.2.2.2.2.2.2.2.2.2.1,o.2.2.2.2.2.2.2.2.2.2))))))))
theorem sMov_v: @Go.Ab.D.sMov= @Go.Ab.V.sMov:=by
 delta Go.Ab.D.sMov Go.Ab.V.sMov
 rw[d1Z,mrZ]
 try kernel_rfl
def save_Do(fu:Nat)(s:qT18)(size:Int)(c:qT28):Option ((Int×(List (qT1)×(Int×(Int×(List (qT0)×(List ((Int×List (Int)))×(List ((Int×Int))×(Int×(Int×(Int×(Int×(Int×(Bool×(Int×(Bool×(Int×Int))))))))))))))))):=
 (sMov fu (s.1,((s.2.1.1,s.2.1.2),((s.2.2.1.1,s.2.2.1.2),(s.2.2.2.1,s.2.2.2.2)))) (-1) (-1)).bind fun r=>
 (sRig fu (s.1,((s.2.1.1,s.2.1.2),((s.2.2.1.1,s.2.2.1.2),(s.2.2.2.1,s.2.2.2.2)))) size).bind fun r1=>
 bif (!r1) then
  some (r.1,(r.2.2.2.2.1,(r.2.1,(r.2.2.1,(r.2.2.2.2.2.1,(r.2.2.2.2.2.2.1,(r.2.2.2.2.2.2.2.1,(0,(0,(0,(0,(0,(false,(0,(false,(0,180))))))))))))))))
 else
  (byte? ((c.2.2.1.2.2.1.toNat:Nat):Int)).bind fun c1=>
  (srig fu (c.1,(c.2.1,((c.2.2.1.1,(c.2.2.1.2.1,(c1,((c.2.2.1.2.2.2.1.1,c.2.2.1.2.2.2.1.2),(c.2.2.1.2.2.2.2.1,((c.2.2.1.2.2.2.2.2.1.1,c.2.2.1.2.2.2.2.2.1.2),(c.2.2.1.2.2.2.2.2.2.1,(c.2.2.1.2.2.2.2.2.2.2.1,(c.2.2.1.2.2.2.2.2.2.2.2.1,c.2.2.1.2.2.2.2.2.2.2.2.2))))))))),(c.2.2.2.1,(c.2.2.2.2.1,(c.2.2.2.2.2.1,c.2.2.2.2.2.2))))))).bind fun r2=>
  bif (!r2) then
   some (r.1,(r.2.2.2.2.1,(r.2.1,(r.2.2.1,(r.2.2.2.2.2.1,(r.2.2.2.2.2.2.1,(r.2.2.2.2.2.2.2.1,(0,(0,(0,(0,(0,(false,(0,(false,(0,2))))))))))))))))
  else
   bif (c.1==2) then
    none
   else
    bif (c.1==3) then
     (sMov fu (s.1,((s.2.1.1,s.2.1.2),((s.2.2.1.1,s.2.2.1.2),(s.2.2.2.1,s.2.2.2.2)))) c.2.2.2.2.2.1 c.2.2.2.2.2.2).bind fun r3=>
     some (r3.1,(r3.2.2.2.2.1,(r3.2.1,(r3.2.2.1,(r3.2.2.2.2.2.1,(r3.2.2.2.2.2.2.1,(r3.2.2.2.2.2.2.2.1,(0,(0,(0,(0,(0,(false,(0,(false,(0,r3.2.2.2.1))))))))))))))))
    else
     bif (c.1==4) then
      none
     else
      bif (!(c.2.1==(IntKind.wrap .i64 (s.1+1)))) then
       some (r.1,(r.2.2.2.2.1,(r.2.1,(r.2.2.1,(r.2.2.2.2.2.1,(r.2.2.2.2.2.2.1,(r.2.2.2.2.2.2.2.1,(0,(0,(0,(0,(0,(false,(0,(false,(0,80))))))))))))))))
      else
       some (c.2.1,(r.2.2.2.2.1,(r.2.1,(r.2.2.1,(r.2.2.2.2.2.1,(r.2.2.2.2.2.2.1,(r.2.2.2.2.2.2.2.1,(0,(0,(0,(0,(0,(false,(0,(false,(0,0))))))))))))))))
theorem jMZ: @Go.Ab.D.save_Do= @Go.Ab.V.save_Do:=by
 delta Go.Ab.D.save_Do Go.Ab.V.save_Do
 rw[sMov_v]
 try kernel_rfl
def law26_awake(fu:Nat):Option (Bool):=
 (bTab fu).bind fun r=>
 need (Nat.beq (List.replicate (α:=Int) 256 0).length 256)<|
 need (Nat.beq r.length 256)<|
 (sPutCha fu r (1,(3,((0,(0,((UInt8.ofNat 0),((0,0),([],((0,0),([],(0,(0,[]))))))))),([],(0,(0,0))))))).bind fun r1=>
 (sPutCha fu r (3,(0,((0,(0,((UInt8.ofNat 0),((0,0),([],((0,0),([],(0,(0,[]))))))))),([],(0,(1,5))))))).bind fun r2=>
 (state_New fu 1 [(1,[0])]).bind fun r3=>
 (save_Do fu (r3.1,((r3.2.1,r3.2.2.1),((r3.2.2.2.1,r3.2.2.2.2.1),(r3.2.2.2.2.2.1,r3.2.2.2.2.2.2.1)))) 16 (1,(2,((0,(0,((UInt8.ofNat 0),((0,0),([],((0,0),([],(0,(0,[]))))))))),([],(0,(0,0))))))).bind fun r4=>
 bif (r1.2==0) then
  bif (r2.2==0) then
   bif (r3.2.2.2.2.2.2.2==0) then
    (lSamByt fu r1.1 [(UInt8.ofNat 1),(UInt8.ofNat 3),(UInt8.ofNat 0),(UInt8.ofNat 0),(UInt8.ofNat 0),(UInt8.ofNat 0)]).bind fun r5=>
    bif r5 then
     (lSamByt fu r2.1 [(UInt8.ofNat 3),(UInt8.ofNat 0),(UInt8.ofNat 0),(UInt8.ofNat 1),(UInt8.ofNat 5),(UInt8.ofNat 0)]).bind fun r6=>
     bif r6 then
      some (r4.2.2.2.2.2.2.2.2.2.2.2.2.2.2.2.2==80)
     else
      some false
    else
     some false
   else
    some false
  else
   some false
 else
  some false
theorem law26_awake_v: @Go.Ab.D.law26_awake= @Go.Ab.V.law26_awake:=by
 delta Go.Ab.D.law26_awake Go.Ab.V.law26_awake
 rw[state_New_v,jMZ]
 try kernel_rfl
def law26_SaveLife_l0(fu:Nat)(lives:Int)(i:Int)(h:Int)(h1:List (qT1))(h2:Int)(h3:Int)(h4:List (qT0))(h5:List ((Int×List (Int))))(h6:List ((Int×Int))):Option ((Int×qT9)⊕(qT9⊕Bool)):=
 bif (decide (i<=(IntKind.wrap .i64 (Int.tmod lives 21)))) then
  (save_Do fu (h,((h1,h2),((h3,h4),(h5,h6)))) 16 (1,(i,((0,(0,((UInt8.ofNat 0),((0,0),([],((0,0),([],(0,(0,[]))))))))),([],(0,(0,0))))))).bind fun r1=>
  (save_Do fu (r1.1,((r1.2.1,r1.2.2.1),((r1.2.2.2.1,r1.2.2.2.2.1),(r1.2.2.2.2.2.1,r1.2.2.2.2.2.2.1)))) 16 (1,(i,((0,(0,((UInt8.ofNat 0),((0,0),([],((0,0),([],(0,(0,[]))))))))),([],(0,(0,0))))))).bind fun r2=>
  Option.bind (α:=((Bool×qT21))) (
   bif (!(r1.2.2.2.2.2.2.2.2.2.2.2.2.2.2.2.2==0)) then
    some (true,(h,(h1,(h2,(h3,(h4,(h5,(h6,(r1.1,(r1.2.1,(r1.2.2.1,(r1.2.2.2.1,(r1.2.2.2.2.1,(r1.2.2.2.2.2.1,r1.2.2.2.2.2.2.1))))))))))))))
   else
    bif (!(r2.2.2.2.2.2.2.2.2.2.2.2.2.2.2.2.2==80)) then
     some (true,(h,(h1,(h2,(h3,(h4,(h5,(h6,(r1.1,(r1.2.1,(r1.2.2.1,(r1.2.2.2.1,(r1.2.2.2.2.1,(r1.2.2.2.2.2.1,r1.2.2.2.2.2.2.1))))))))))))))
    else
     some ((!(r1.1==i)),(h,(h1,(h2,(h3,(h4,(h5,(h6,(r1.1,(r1.2.1,(r1.2.2.1,(r1.2.2.2.1,(r1.2.2.2.2.1,(r1.2.2.2.2.2.1,r1.2.2.2.2.2.2.1))))))))))))))) fun o=>
  bif o.1 then
   some (.inr (.inr false))
  else
   some (.inl ((IntKind.wrap .i64 (i+1)),(o.2.2.2.2.2.2.2.2.1,(o.2.2.2.2.2.2.2.2.2.1,(o.2.2.2.2.2.2.2.2.2.2.1,(o.2.2.2.2.2.2.2.2.2.2.2.1,(o.2.2.2.2.2.2.2.2.2.2.2.2.1,(o.2.2.2.2.2.2.2.2.2.2.2.2.2.1,o.2.2.2.2.2.2.2.2.2.2.2.2.2.2))))))))
 else
  some (.inr (.inl (h,(h1,(h2,(h3,(h4,(h5,h6))))))))
def law26_SaveLife_l0_it(fu:Nat)(lives:Int)(tt:(Int×qT9)):Option (qT9⊕Bool):=
 iter fu (fun tt=>law26_SaveLife_l0 fu lives tt.1 tt.2.1 tt.2.2.1 tt.2.2.2.1 tt.2.2.2.2.1 tt.2.2.2.2.2.1 tt.2.2.2.2.2.2.1 tt.2.2.2.2.2.2.2) tt
def law26_SaveLife(fu:Nat)(lives:Int)(other:Int):Option (Bool):=
 (state_New fu 1 [(1,[0])]).bind fun r=>
 bif (!(r.2.2.2.2.2.2.2==0)) then
  some false
 else
  (law26_SaveLife_l0_it fu lives (1,(r.1,(r.2.1,(r.2.2.1,(r.2.2.2.1,(r.2.2.2.2.1,(r.2.2.2.2.2.1,r.2.2.2.2.2.2.1)))))))).bind fun o1=>
  match o1 with
  |.inl s=>
   bif (other==(IntKind.wrap .i64 (s.1+1))) then
    (law26_awake fu).bind fun r3=>
    some r3
   else
    (save_Do fu (s.1,((s.2.1,s.2.2.1),((s.2.2.2.1,s.2.2.2.2.1),(s.2.2.2.2.2.1,s.2.2.2.2.2.2)))) 16 (1,(other,((0,(0,((UInt8.ofNat 0),((0,0),([],((0,0),([],(0,(0,[]))))))))),([],(0,(0,0))))))).bind fun r4=>
    bif (r4.2.2.2.2.2.2.2.2.2.2.2.2.2.2.2.2==80) then
     (law25_Same fu (r4.1,((r4.2.1,r4.2.2.1),((r4.2.2.2.1,r4.2.2.2.2.1),(r4.2.2.2.2.2.1,r4.2.2.2.2.2.2.1)))) (s.1,((s.2.1,s.2.2.1),((s.2.2.2.1,s.2.2.2.2.1),(s.2.2.2.2.2.1,s.2.2.2.2.2.2))))).bind fun r5=>
     bif r5 then
      (law26_awake fu).bind fun r6=>
      some r6
     else
      some false
    else
     bif (r4.2.2.2.2.2.2.2.2.2.2.2.2.2.2.2.2==2) then
      (law25_Same fu (r4.1,((r4.2.1,r4.2.2.1),((r4.2.2.2.1,r4.2.2.2.2.1),(r4.2.2.2.2.2.1,r4.2.2.2.2.2.2.1)))) (s.1,((s.2.1,s.2.2.1),((s.2.2.2.1,s.2.2.2.2.1),(s.2.2.2.2.2.1,s.2.2.2.2.2.2))))).bind fun r7=>
      bif r7 then
       (law26_awake fu).bind fun r8=>
       some r8
      else
       some false
     else
      some false
  |.inr o2=>
   some o2
end
end Go.Ab.V
namespace Go.Ab
theorem w64{x:Int}(h: -9223372036854775808<=x/\x<=9223372036854775807):IntKind.wrap .i64 x=x:=by
 simp only[IntKind.wrap,IntKind.bits,IntKind.signed];simp;omega
theorem kxZ{n:Nat}(h:n<4611686018427387904):∃m,fuel=m+(n+1):=⟨4611686018427387903-n,by unfold fuel;omega⟩
theorem e9Z{τ ο:Type}{f:τ->Option (τ⊕ο)}(S:Nat->τ):∀(n m:Nat),(∀k,k<n->f (S k)=some (.inl (S (k+1))))->iter (m+n) f (S 0)=iter m f (S n)
 |0,m,_=>rfl
 |n+1,m,h=>by
  have e:m+(n+1)=(m+1)+n:=by omega
  rw[e,e9Z S n (m+1) fun k hk=>h k (by omega)];show(f (S n)).ob _=_;rw[h n (by omega)]
  rfl
theorem iuZ{τ ο:Type}{f:τ->Option (τ⊕ο)}{o:ο}(S:Nat->τ)(n:Nat)(hn:n<4611686018427387904)(hs:∀k,k<n->f (S k)=some (.inl (S (k+1))))(he:f (S n)=some (.inr o)):iter fuel f (S 0)=some o:=by
 obtain⟨m,hm⟩:=kxZ hn;have e:fuel=(m+1)+n:=by omega
 rw[e,e9Z S n (m+1) hs];show(f (S n)).ob _=_;rw[he]
 rfl
end Go.Ab
set_option maxRecDepth 100000
set_option maxHeartbeats 4000000
namespace Go.Ab.D
open Go Go.Ab
abbrev InoT:=Int×(Int×(Bool×(Bool×(Int×(List (Int×Int)×(Int×List (List UInt8×Int)))))))
abbrev RepT:=Int×(Int×(Int×((Int×Int)×(Bool×(Int×(List UInt8×(List (List UInt8×Int)×(Bool×Int))))))))
abbrev RestT:=(List InoT×Int)×((Int×List (Int×(Int×List RepT)))×(List (Int×List Int)×List (Int×Int)))
def ino26:List InoT:=[(1,(1,(true,(true,(0,([],(1,[])))))))]
def pl26:List (Int×List Int):=[(1,[0])]
def rest26:RestT:=((ino26,0),((1,[]),(pl26,[])))
def nocall:Int×(Int×(UInt8×((Int×Int)×(List UInt8×((Int×Int)×(List UInt8×(Int×(Int×List UInt8)))))))):=(0,(0,((UInt8.ofNat 0),((0,0),([],((0,0),([],(0,(0,[])))))))))
theorem myZ:state_New fuel 1 [(1,[0])]=some (0,(ino26,(0,(1,([],(pl26,([],0))))))):=by
 rw[V.state_New_v]
 kernel_rfl
theorem jRZ(n:Int):∃c l,sMov fuel (n,rest26) (-1) (-1)=some (n,(0,(1,(c,(ino26,([],(pl26,([],l)))))))):=by
 refine⟨100,[],?_⟩;rw[V.sMov_v]
 kernel_rfl
theorem kFZ(n:Int)(h0:0<=n)(h1:n<=1099511627776):sRig fuel (n,rest26) 16=some true:=by
 delta sRig
 dsimp only;rw[decide_eq_false (show¬n<0 by omega),decide_eq_false (show¬n>1099511627776 by omega)]
 kernel_rfl
theorem jAZ(N:Int):srig fuel (1,(N,(nocall,([],(0,(0,0))))))=some (decide (1<=N)&&decide (N<=1099511627776)):=by
 delta srig
 dsimp only;show(bif decide (N>=1) then some (decide (N<=1099511627776)) else some false)=_;by_cases h:1<=N
 ·rw[decide_eq_true h];rfl
 ·rw[decide_eq_false h];rfl
theorem m3Z:byte? ((nocall.2.2.1.toNat:Nat):Int)=some (UInt8.ofNat 0):=by kernel_rfl
def out26(n e:Int):Int×(List InoT×(Int×(Int×(List (Int×(Int×List RepT))×(List (Int×List Int)×(List (Int×Int)×(Int×(Int×(Int×(Int×(Int×(Bool×(Int×(Bool×(Int×Int))))))))))))))):=
 (n,(ino26,(0,(1,([],(pl26,([],(0,(0,(0,(0,(0,(false,(0,(false,(0,e))))))))))))))))
theorem l9Z(n N:Int)(h0:0<=n)(h1:n<=1099511627776):
 save_Do fuel (n,rest26) 16 (1,(N,(nocall,([],(0,(0,0))))))=
  some (bif (decide (1<=N)&&decide (N<=1099511627776)) then(bif N==n+1 then out26 N 0 else out26 n 80) else out26 n 2):=by
 obtain⟨c,l,hm⟩:=jRZ n
 delta save_Do
 dsimp only;have hm':sMov fuel (n,((rest26.1.1,rest26.1.2),((rest26.2.1.1,rest26.2.1.2),(rest26.2.2.1,rest26.2.2.2)))) (-1) (-1)=_:=hm;have hr':sRig fuel (n,((rest26.1.1,rest26.1.2),((rest26.2.1.1,rest26.2.1.2),(rest26.2.2.1,rest26.2.2.2)))) 16=_:=kFZ n h0 h1;rw[hm',hr',m3Z];dsimp only[Option.bind_some];have hc:srig fuel (1,(N,((nocall.1,(nocall.2.1,(UInt8.ofNat 0,((nocall.2.2.2.1.1,nocall.2.2.2.1.2),(nocall.2.2.2.2.1,((nocall.2.2.2.2.2.1.1,nocall.2.2.2.2.2.1.2),(nocall.2.2.2.2.2.2.1,(nocall.2.2.2.2.2.2.2.1,(nocall.2.2.2.2.2.2.2.2.1,nocall.2.2.2.2.2.2.2.2.2))))))))),([],(0,(0,0))))))=_:=jAZ N;rw[hc,w64 (by omega)];cases(decide (1<=N)&&decide (N<=1099511627776)) with
 |false=>rfl
 |true=>cases N==n+1<;>rfl
theorem llZ(n:Int):law25_Same fuel (n,rest26) (n,rest26)=some true:=by
 delta law25_Same
 dsimp only;rw[beq_self_eq_true]
 kernel_rfl
theorem kfZ:law26_awake fuel=some true:=by
 rw[V.law26_awake_v]
 kernel_rfl
end Go.Ab.D
set_option maxRecDepth 100000
set_option maxHeartbeats 4000000
namespace Go.Ab.D
open Go Go.Ab
abbrev St26:=Int×(List InoT×(Int×(Int×(List (Int×(Int×List RepT))×(List (Int×List Int)×List (Int×Int))))))
def st26(n:Int):St26:=(n,(ino26,(0,(1,([],(pl26,[]))))))
theorem lFZ(lives:Int)(k:Nat)(hk:(k:Int)<Int.tmod lives 21)(hl:Int.tmod lives 21<=20):
 law26_SaveLife_l0 fuel lives ((k:Int)+1) k ino26 0 1 [] pl26 []=some (.inl (((k+1:Nat):Int)+1,st26 ((k+1:Nat):Int))):=by
 delta law26_SaveLife_l0
 have e1:save_Do fuel ((k:Int),((ino26,0),((1,[]),(pl26,[])))) 16 (1,((k:Int)+1,(nocall,([],(0,(0,0))))))=some (out26 (k+1) 0):=by
  refine(l9Z k (k+1) (by omega) (by omega)).trans ?_;rw[decide_eq_true (show(1:Int)<=(k:Int)+1 by omega),decide_eq_true (show(k:Int)+1<=1099511627776 by omega),beq_self_eq_true]
  rfl
 have e2:save_Do fuel ((k:Int)+1,((ino26,0),((1,[]),(pl26,[])))) 16 (1,((k:Int)+1,(nocall,([],(0,(0,0))))))=some (out26 (k+1) 80):=by
  refine(l9Z (k+1) (k+1) (by omega) (by omega)).trans ?_;rw[decide_eq_true (show(1:Int)<=(k:Int)+1 by omega),decide_eq_true (show(k:Int)+1<=1099511627776 by omega),beq_false_of_ne (show(k:Int)+1≠(k:Int)+1+1 by omega)]
  rfl
 rw[w64 (x:=Int.tmod lives 21) (by omega),decide_eq_true (show(k:Int)+1<=Int.tmod lives 21 by omega),cond_true];refine(congrArg (fun o=>Option.bind o _) e1).trans ?_;refine(congrArg (fun o=>Option.bind o _) e2).trans ?_;rw[w64 (x:=(k:Int)+1+1) (by omega)];show(bif !((k:Int)+1==(k:Int)+1) then some (Sum.inr (Sum.inr false)) else some (Sum.inl ((k:Int)+1+1,st26 ((k:Int)+1))))=_;rw[beq_self_eq_true]
 rfl
theorem lrZ(lives:Int)(k:Nat)(hk:(k:Int)=Int.tmod lives 21)(hl:Int.tmod lives 21<=20):
 law26_SaveLife_l0 fuel lives ((k:Int)+1) k ino26 0 1 [] pl26 []=some (.inr (.inl (st26 k))):=by
 delta law26_SaveLife_l0
 rw[w64 (x:=Int.tmod lives 21) (by omega),decide_eq_false (show¬(k:Int)+1<=Int.tmod lives 21 by omega),cond_false]
 rfl
theorem lkZ(lives:Int)(h0:0<=lives)(h1:lives<=255):
 ∃k:Nat,k<=20/\law26_SaveLife_l0_it fuel lives (1,st26 0)=some (.inl (st26 k)):=by
 have ht:0<=Int.tmod lives 21/\Int.tmod lives 21<=20:=by
  rw[Int.tmod_eq_emod_of_nonneg h0];omega
 obtain⟨k,hk⟩:∃k:Nat,(k:Int)=Int.tmod lives 21:=⟨(Int.tmod lives 21).toNat,by omega⟩;refine⟨k,by omega,?_⟩
 delta law26_SaveLife_l0_it
 exact iuZ (f:=fun tt:Int×St26=>law26_SaveLife_l0 fuel lives tt.1 tt.2.1 tt.2.2.1 tt.2.2.2.1 tt.2.2.2.2.1 tt.2.2.2.2.2.1 tt.2.2.2.2.2.2.1 tt.2.2.2.2.2.2.2)
  (fun k:Nat=>((k:Int)+1,st26 (k:Int))) k (by omega) (fun j hj=>lFZ lives j (by omega) ht.2) (lrZ lives k hk ht.2)
theorem law26_SaveLife_true(lives other:Int)(k0:OkV (.int .u8) lives)(_k1:OkV (.int .i64) other):law26_SaveLife fuel lives other=some true:=by
 have b0:0<=lives/\lives<=255:=k0;obtain⟨k,hk,hl⟩:=lkZ lives b0.1 b0.2
 delta law26_SaveLife
 rw[myZ];refine(congrArg (fun o=>Option.bind o _) hl).trans ?_;show(bif other==IntKind.wrap .i64 ((k:Int)+1) then _ else _)=_;rw[w64 (by omega),kfZ];cases ho:other==(k:Int)+1 with
 |true=>rfl
 |false=>
  rw[cond_false];have e:=l9Z k other (by omega) (by omega);rw[ho,cond_false] at e;refine(congrArg (fun o=>Option.bind o _) e).trans ?_;have es:law25_Same fuel ((k:Int),((ino26,0),((1,[]),(pl26,[])))) ((k:Int),((ino26,0),((1,[]),(pl26,[]))))=some true:=llZ k;cases(decide (1<=other)&&decide (other<=1099511627776)) with
  |true=>refine(congrArg (fun o=>Option.bind o _) es).trans ?_;rfl
  |false=>refine(congrArg (fun o=>Option.bind o _) es).trans ?_;rfl
end Go.Ab.D
