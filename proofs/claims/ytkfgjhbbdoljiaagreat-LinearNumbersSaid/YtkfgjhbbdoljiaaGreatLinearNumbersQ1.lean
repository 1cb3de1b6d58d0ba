/- What the functions compute; the plain law. -/
import Derived.Test.YtkfgjhbbdoljiaaGreatLinearNumbersD3
import Derived.KernelRfl
set_option linter.all false
set_option maxRecDepth 100000
set_option maxHeartbeats 4000000
namespace Go.Ab.V
open Go Go.Ab Go.Ab.D
noncomputable section
def sClo3(fu:Nat)(s:List ((Int×Int))):Option (List ((Int×Int))):=
 need ((Nat.ble ((0+s.length)*16) room)&&(Nat.ble (0+s.length) room))<|
 some s
theorem hdZ: @Go.Ab.D.sClo3= @Go.Ab.V.sClo3:=by
 funext fu s;show nilQ _ _=_;cases s with
 |nil=>exact(if_pos fun _=>rfl).trans rfl
 |cons a l=>exact(if_pos (fun h=>by cases h)).trans rfl
def sClo(fu:Nat)(s:List ((List UInt8×Int))):Option (List ((List UInt8×Int))):=
 need ((Nat.ble ((0+s.length)*24) room)&&(Nat.ble (0+s.length) room))<|
 some s
theorem kjZ: @Go.Ab.D.sClo= @Go.Ab.V.sClo:=by
 funext fu s;show nilQ _ _=_;cases s with
 |nil=>exact(if_pos fun _=>rfl).trans rfl
 |cons a l=>exact(if_pos (fun h=>by cases h)).trans rfl
def inode_own(fu:Nat)(n:qT0):Option ((Int×(Int×(Bool×(Bool×(Int×(Int×(List ((Int×Int))×List ((List UInt8×Int)))))))))):=
 (sClo3 fu n.2.2.2.2.2.1).bind fun r=>
 (sClo fu n.2.2.2.2.2.2.2).bind fun r1=>
 some (n.1,(n.2.1,(n.2.2.1,(n.2.2.2.1,(n.2.2.2.2.1,(n.2.2.2.2.2.2.1,(r,r1)))))))
theorem erZ: @Go.Ab.D.inode_own= @Go.Ab.V.inode_own:=by
 delta Go.Ab.D.inode_own Go.Ab.V.inode_own
 rw[hdZ,kjZ]
 try kernel_rfl
def inode_Get(fu:Nat)(t:(List (qT0)×Int))(h:(Int×Int)):Option ((Int×(Int×(Bool×(Bool×(Int×(List ((Int×Int))×(Int×(List ((List UInt8×Int))×Int))))))))):=
 Option.bind (α:=((Bool×(List (qT0)×(Int×(Int×(Int×(Int×(Int×(Bool×(Bool×(Int×Int)))))))))))) (
  bif (decide (h.1<1)) then
   some (true,(t.1,(t.2,(h.1,(h.2,(0,(0,(false,(false,(0,0))))))))))
  else
   some ((decide (h.1>((t.1.length:Nat):Int))),(t.1,(t.2,(h.1,(h.2,(0,(0,(false,(false,(0,0))))))))))) fun o=>
 bif o.1 then
  some (0,(0,(false,(false,(0,([],(0,([],170))))))))
 else
  (idx? (IntKind.wrap .i64 (o.2.2.2.1-1)) o.2.1.length).bind fun q=>
  (o.2.1)[q]?.bind fun r=>
  Option.bind (α:=((Bool×(Int×(Int×(Bool×(Bool×(Int×(Int×qT0))))))))) (
   bif (!r.2.2.1) then
    some (true,(o.2.2.2.2.2.1,(o.2.2.2.2.2.2.1,(o.2.2.2.2.2.2.2.1,(o.2.2.2.2.2.2.2.2.1,(o.2.2.2.2.2.2.2.2.2.1,(o.2.2.2.2.2.2.2.2.2.2,(r.1,(r.2.1,(r.2.2.1,(r.2.2.2.1,(r.2.2.2.2.1,(r.2.2.2.2.2.1,(r.2.2.2.2.2.2.1,r.2.2.2.2.2.2.2))))))))))))))
   else
    some ((!(r.2.1==o.2.2.2.2.1)),(o.2.2.2.2.2.1,(o.2.2.2.2.2.2.1,(o.2.2.2.2.2.2.2.1,(o.2.2.2.2.2.2.2.2.1,(o.2.2.2.2.2.2.2.2.2.1,(o.2.2.2.2.2.2.2.2.2.2,(r.1,(r.2.1,(r.2.2.1,(r.2.2.2.1,(r.2.2.2.2.1,(r.2.2.2.2.2.1,(r.2.2.2.2.2.2.1,r.2.2.2.2.2.2.2))))))))))))))) fun o1=>
  bif o1.1 then
   some (0,(0,(false,(false,(0,([],(0,([],170))))))))
  else
   (inode_own fu (o1.2.2.2.2.2.2.2.1,(o1.2.2.2.2.2.2.2.2.1,(o1.2.2.2.2.2.2.2.2.2.1,(o1.2.2.2.2.2.2.2.2.2.2.1,(o1.2.2.2.2.2.2.2.2.2.2.2.1,(o1.2.2.2.2.2.2.2.2.2.2.2.2.1,(o1.2.2.2.2.2.2.2.2.2.2.2.2.2.1,o1.2.2.2.2.2.2.2.2.2.2.2.2.2.2)))))))).bind fun r1=>
   some (r1.1,(r1.2.1,(r1.2.2.1,(r1.2.2.2.1,(r1.2.2.2.2.1,(r1.2.2.2.2.2.2.1,(r1.2.2.2.2.2.1,(r1.2.2.2.2.2.2.2,0))))))))
theorem heZ: @Go.Ab.D.inode_Get= @Go.Ab.V.inode_Get:=by
 delta Go.Ab.D.inode_Get Go.Ab.V.inode_Get
 rw[erZ]
 try kernel_rfl
def tdir(fu:Nat)(t:(List (qT0)×Int))(h:(Int×Int)):Option ((Int×(Int×(Bool×(Bool×(Int×(List ((Int×Int))×(Int×(List ((List UInt8×Int))×Int))))))))):=
 (inode_Get fu (t.1,t.2) (h.1,h.2)).bind fun r=>
 Option.bind (α:=((Bool×(Int×(Int×(Bool×(Bool×(Int×(Int×qT0))))))))) (
  bif (r.2.2.2.2.2.2.2.2==0) then
   some ((!r.2.2.2.1),(0,(0,(false,(false,(0,(0,(r.1,(r.2.1,(r.2.2.1,(r.2.2.2.1,(r.2.2.2.2.1,(r.2.2.2.2.2.1,(r.2.2.2.2.2.2.1,r.2.2.2.2.2.2.2.1))))))))))))))
  else
   some (false,(0,(0,(false,(false,(0,(0,(r.1,(r.2.1,(r.2.2.1,(r.2.2.2.1,(r.2.2.2.2.1,(r.2.2.2.2.2.1,(r.2.2.2.2.2.2.1,r.2.2.2.2.2.2.2.1))))))))))))))) fun o=>
 bif o.1 then
  some (0,(0,(false,(false,(0,([],(0,([],173))))))))
 else
  some (o.2.2.2.2.2.2.2.1,(o.2.2.2.2.2.2.2.2.1,(o.2.2.2.2.2.2.2.2.2.1,(o.2.2.2.2.2.2.2.2.2.2.1,(o.2.2.2.2.2.2.2.2.2.2.2.1,(o.2.2.2.2.2.2.2.2.2.2.2.2.1,(o.2.2.2.2.2.2.2.2.2.2.2.2.2.1,(o.2.2.2.2.2.2.2.2.2.2.2.2.2.2,r.2.2.2.2.2.2.2.2))))))))
theorem nuZ: @Go.Ab.D.tdir= @Go.Ab.V.tdir:=by
 delta Go.Ab.D.tdir Go.Ab.V.tdir
 rw[heZ]
 try kernel_rfl
def task_l0(fu:Nat)(l:List ((Int×Int)))(x:Int)(h:List (qT0))(h1:Int)(h2:List (qT0)):Option ((Int×(List (qT0)×(Int×List (qT0))))⊕(List (qT0)⊕(Int×List (qT0)))):=
 bif (decide (x<((l.length:Nat):Int))) then
  (idx? x l.length).bind fun q=>
  (l)[q]?.bind fun r1=>
  (tdir fu (h,h1) (r1.1,r1.2)).bind fun r2=>
  bif (!(r2.2.2.2.2.2.2.2.2==0)) then
   some (.inr (.inr (r2.2.2.2.2.2.2.2.2,[])))
  else
   need ((Nat.ble ((h2.length+1)*88) room)&&(Nat.ble (h2.length+1) room))<|
   some (.inl ((IntKind.wrap .i64 (x+1)),(h,(h1,(h2++[(r2.1,(r2.2.1,(r2.2.2.1,(r2.2.2.2.1,(r2.2.2.2.2.1,(r2.2.2.2.2.2.1,(r2.2.2.2.2.2.2.1,r2.2.2.2.2.2.2.2.1)))))))])))))
 else
  some (.inr (.inl h2))
theorem kdZ: @Go.Ab.D.task_l0= @Go.Ab.V.task_l0:=by
 delta Go.Ab.D.task_l0 Go.Ab.V.task_l0
 rw[nuZ]
 try kernel_rfl
def task_l0_it(fu:Nat)(l:List ((Int×Int)))(tt:(Int×(List (qT0)×(Int×List (qT0))))):Option (List (qT0)⊕(Int×List (qT0))):=
 iter fu (fun tt=>task_l0 fu l tt.1 tt.2.1 tt.2.2.1 tt.2.2.2) tt
theorem gHZ: @Go.Ab.D.task_l0_it= @Go.Ab.V.task_l0_it:=by
 delta Go.Ab.D.task_l0_it Go.Ab.V.task_l0_it
 rw[kdZ]
 try kernel_rfl
def task(fu:Nat)(t:(List (qT0)×Int))(l:List ((Int×Int))):Option ((Int×List (qT0))):=
 (tRig fu (t.1,t.2)).bind fun r=>
 bif (!r) then
  some (180,[])
 else
  (task_l0_it fu l (0,(t.1,(t.2,[])))).bind fun o=>
  match o with
  |.inl s=>
   some (0,s)
  |.inr o1=>
   some o1
theorem mcZ: @Go.Ab.D.task= @Go.Ab.V.task:=by
 delta Go.Ab.D.task Go.Ab.V.task
 rw[gHZ]
 try kernel_rfl
def tLoo(fu:Nat)(t:(List (qT0)×Int))(dir:(Int×Int))(name:List UInt8):Option ((Int×(Int×Int))):=
 (task fu (t.1,t.2) [(dir.1,dir.2)]).bind fun r=>
 bif (!(r.1==0)) then
  some (0,(0,r.1))
 else
  (tNam fu name).bind fun r1=>
  bif (!r1) then
   some (0,(0,176))
  else
   (idx? 0 r.2.length).bind fun q=>
   (r.2)[q]?.bind fun r2=>
   (tent fu r2 name).bind fun r3=>
   bif (!r3.2) then
    some (0,(0,171))
   else
    (idx? 0 r.2.length).bind fun q1=>
    (r.2)[q1]?.bind fun r4=>
    (idx? r3.1 r4.2.2.2.2.2.2.2.length).bind fun q2=>
    (r4.2.2.2.2.2.2.2)[q2]?.bind fun r5=>
    (idx? (IntKind.wrap .i64 (r5.2-1)) t.1.length).bind fun q3=>
    (t.1)[q3]?.bind fun r6=>
    some (r5.2,(r6.2.1,0))
theorem n5Z: @Go.Ab.D.tLoo= @Go.Ab.V.tLoo:=by
 delta Go.Ab.D.tLoo Go.Ab.V.tLoo
 rw[mcZ]
 try kernel_rfl
def mdoeloo(fu:Nat)(h:List (qT0))(h1:Int)(h2:List (List (UInt8)))(h3:Int)(h4:Int)(h5:Int)(h6:Int)(h7:Int)(h8:List UInt8)(h9:Int)(h10:Int)(h11:List UInt8)(h12:Int)(h13:Int)(h14:List (UInt8))(h15:Int)(h16:Int)(h17:Int)(h18:Int)(h19:Int)(h20:Bool)(h21:Int)(h22:Bool)(h23:Int):Option ((Int×qT8)):=
 (tLoo fu (h,h1) (h6,h7) h8).bind fun r=>
 bif (r.2.2==0) then
  (idx? (IntKind.wrap .i64 (r.1-1)) h.length).bind fun q=>
  (h)[q]?.bind fun r1=>
  some (r.2.2,(h,(h1,(h2,(h3,(h4,(h5,(h6,(h7,(h8,(h9,(h10,(h11,(h12,(h13,(h14,(h15,(h16,(h17,(r.1,(r.2.1,(r1.2.2.2.1,(r1.2.2.2.2.1,(h22,h23))))))))))))))))))))))))
 else
  some (r.2.2,(h,(h1,(h2,(h3,(h4,(h5,(h6,(h7,(h8,(h9,(h10,(h11,(h12,(h13,(h14,(h15,(h16,(h17,(h18,(h19,(h20,(h21,(h22,h23))))))))))))))))))))))))
theorem jDZ: @Go.Ab.D.mdoeloo= @Go.Ab.V.mdoeloo:=by
 delta Go.Ab.D.mdoeloo Go.Ab.V.mdoeloo
 rw[n5Z]
 try kernel_rfl
def sClo2(fu:Nat)(s:List (qT0)):Option (List (qT0)):=
 need ((Nat.ble ((0+s.length)*88) room)&&(Nat.ble (0+s.length) room))<|
 some s
theorem hzZ: @Go.Ab.D.sClo2= @Go.Ab.V.sClo2:=by
 funext fu s;show nilQ _ _=_;cases s with
 |nil=>exact(if_pos fun _=>rfl).trans rfl
 |cons a l=>exact(if_pos (fun h=>by cases h)).trans rfl
def tcop_l0(fu:Nat)(r:List (qT0))(x:Int)(h:Int)(h1:List (qT0))(h2:Int):Option ((Int×qT39)⊕(qT39)):=
 bif (decide (x<((r.length:Nat):Int))) then
  (idx? x h1.length).bind fun q=>
  (h1)[q]?.bind fun r1=>
  (sClo3 fu r1.2.2.2.2.2.1).bind fun r2=>
  (h1)[q]?.bind fun r3=>
  (sClo fu r3.2.2.2.2.2.2.2).bind fun r4=>
  (h1)[q]?.bind fun r5=>
  ((List.set h1 q (r5.1,(r5.2.1,(r5.2.2.1,(r5.2.2.2.1,(r5.2.2.2.2.1,(r2,r5.2.2.2.2.2.2))))))))[q]?.bind fun r6=>
  some (.inl ((IntKind.wrap .i64 (x+1)),(h,((List.set (List.set h1 q (r5.1,(r5.2.1,(r5.2.2.1,(r5.2.2.2.1,(r5.2.2.2.2.1,(r2,r5.2.2.2.2.2.2))))))) q (r6.1,(r6.2.1,(r6.2.2.1,(r6.2.2.2.1,(r6.2.2.2.2.1,(r6.2.2.2.2.2.1,(r6.2.2.2.2.2.2.1,r4)))))))),h2))))
 else
  some (.inr (h,(h1,h2)))
theorem jFZ: @Go.Ab.D.tcop_l0= @Go.Ab.V.tcop_l0:=by
 delta Go.Ab.D.tcop_l0 Go.Ab.V.tcop_l0
 rw[hdZ,kjZ]
 try kernel_rfl
def tcop_l0_it(fu:Nat)(r:List (qT0))(tt:(Int×qT39)):Option (qT39):=
 iter fu (fun tt=>tcop_l0 fu r tt.1 tt.2.1 tt.2.2.1 tt.2.2.2) tt
theorem guZ: @Go.Ab.D.tcop_l0_it= @Go.Ab.V.tcop_l0_it:=by
 delta Go.Ab.D.tcop_l0_it Go.Ab.V.tcop_l0_it
 rw[jFZ]
 try kernel_rfl
def tcop(fu:Nat)(t:(List (qT0)×Int)):Option ((Int×List (qT0))):=
 (sClo2 fu t.1).bind fun r=>
 (tcop_l0_it fu r (0,(t.2,(r,0)))).bind fun o=>
 some (o.1,o.2.1)
theorem nmZ: @Go.Ab.D.tcop= @Go.Ab.V.tcop:=by
 delta Go.Ab.D.tcop Go.Ab.V.tcop
 rw[hzZ,guZ]
 try kernel_rfl
def icopE_l0(fu:Nat)(r:List (qT0))(x:Int)(h:Int)(h1:List qT13)(h2:Int)(h3:List qT28):Option ((Int×(Int×(List qT13×(Int×List qT28))))⊕((Int×(List qT13×(Int×List qT28))))):=
 bif (decide (x<((r.length:Nat):Int))) then
  (idx? x h1.length).bind fun q=>
  (h1)[q]?.bind fun r1=>
  (lowD (.ref 1 (.pair .str (.int .i64))) r1.2.2.2.2.2.2.2).bind fun x1=>
  (inode_own fu (r1.1,(r1.2.1,(r1.2.2.1,(r1.2.2.2.1,(r1.2.2.2.2.1,(r1.2.2.2.2.2.1,(r1.2.2.2.2.2.2.1,x1)))))))).bind fun r2=>
  (idx? x h1.length).bind fun q1=>
  (h1)[q1]?.bind fun r3=>
  some (.inl ((IntKind.wrap .i64 (x+1)),(h,((List.set h1 q1 (r2.1,(r2.2.1,(r2.2.2.1,(r2.2.2.2.1,(r2.2.2.2.2.1,(r2.2.2.2.2.2.2.1,(r2.2.2.2.2.2.1,(.inr (some (h3.length,(0,r2.2.2.2.2.2.2.2.length)))))))))))),(h2,(h3++[(1,r2.2.2.2.2.2.2.2)]))))))
 else
  some (.inr (h,(h1,(h2,h3))))
theorem jzZ: @Go.Ab.D.icopE_l0= @Go.Ab.V.icopE_l0:=by
 delta Go.Ab.D.icopE_l0 Go.Ab.V.icopE_l0
 rw[erZ]
 try kernel_rfl
def icopE_l0_it(fu:Nat)(r:List (qT0))(tt:(Int×(Int×(List qT13×(Int×List qT28))))):Option ((Int×(List qT13×(Int×List qT28)))):=
 iter fu (fun tt=>icopE_l0 fu r tt.1 tt.2.1 tt.2.2.1 tt.2.2.2.1 tt.2.2.2.2) tt
theorem fyZ: @Go.Ab.D.icopE_l0_it= @Go.Ab.V.icopE_l0_it:=by
 delta Go.Ab.D.icopE_l0_it Go.Ab.V.icopE_l0_it
 rw[jzZ]
 try kernel_rfl
def icopE(fu:Nat)(t:(List (qT0)×Int)):Option ((Int×(List qT13×List qT28))):=
 (sClo2 fu t.1).bind fun r=>
 (icopE_l0_it fu r (0,(t.2,((List.map (liftT qY12) r),(0,[]))))).bind fun o=>
 some (o.1,(o.2.1,o.2.2.2))
theorem mLZ: @Go.Ab.D.icopE= @Go.Ab.V.icopE:=by
 delta Go.Ab.D.icopE Go.Ab.V.icopE
 rw[hzZ,fyZ]
 try kernel_rfl
def iAllE(fu:Nat)(t:(List (qT0)×Int))(dir:Bool)(parent:Int):Option (qT38):=
 (icopE fu (t.1,t.2)).bind fun r=>
 (iRig fu (t.1,t.2)).bind fun r1=>
 bif (!r1) then
  some (r.1,(0,(0,(180,(r.2.1,r.2.2)))))
 else
  (inode_is fu (t.1,t.2) parent true).bind fun r2=>
  bif (!r2) then
   some (r.1,(0,(0,(2,(r.2.1,r.2.2)))))
  else
   (unrefL (unrefD [⟨1,(.pair .str (.int .i64)),(List.map frz1 r.2.2)⟩] qY12) r.2.1).bind fun l=>
   (sIndFun4 fu l).bind fun r3=>
   Option.bind (α:=((Bool×qT38))) (
    bif (decide (r3<0)) then
     some ((decide (((r.2.1.length:Nat):Int)>=500)),(0,(0,(0,(r.1,(r.2.1,r.2.2))))))
    else
     some (false,(0,(0,(0,(r.1,(r.2.1,r.2.2))))))) fun o=>
   bif o.1 then
    some (o.2.2.2.2.1,(0,(0,(5,(o.2.2.2.2.2.1,o.2.2.2.2.2.2)))))
   else
    Option.bind (α:=((Int×qT38)⊕qT38)) (
     bif (decide (r3<0)) then
      need ((Nat.ble ((o.2.2.2.2.2.1.length+1)*88) room)&&(Nat.ble (o.2.2.2.2.2.1.length+1) room))<|
      some (.inl (((o.2.2.2.2.2.1.length:Nat):Int),(o.2.1,(o.2.2.1,(o.2.2.2.1,(o.2.2.2.2.1,((o.2.2.2.2.2.1++(List.map (liftT qY12) ([((IntKind.wrap .i64 (((o.2.2.2.2.2.1.length:Nat):Int)+1)),(0,(false,(false,(0,([],(0,[])))))))]:List (qT0)))),o.2.2.2.2.2.2)))))))
     else
      (idx? r3 o.2.2.2.2.2.1.length).bind fun q=>
      (o.2.2.2.2.2.1)[q]?.bind fun r4=>
      bif (decide (r4.2.1>=1099511627776)) then
       some (.inr (o.2.2.2.2.1,(0,(0,(5,(o.2.2.2.2.2.1,o.2.2.2.2.2.2))))))
      else
       some (.inl (r3,(o.2.1,(o.2.2.1,(o.2.2.2.1,(o.2.2.2.2.1,(o.2.2.2.2.2.1,o.2.2.2.2.2.2)))))))) fun o1=>
    match o1 with
    |.inl s=>
     (idx? s.1 s.2.2.2.2.2.1.length).bind fun q1=>
     (s.2.2.2.2.2.1)[q1]?.bind fun r5=>
     (s.2.2.2.2.2.1)[q1]?.bind fun r6=>
     ((List.set s.2.2.2.2.2.1 q1 (r6.1,((IntKind.wrap .i64 (r5.2.1+1)),r6.2.2))))[q1]?.bind fun r7=>
     ((List.set (List.set s.2.2.2.2.2.1 q1 (r6.1,((IntKind.wrap .i64 (r5.2.1+1)),r6.2.2))) q1 (r7.1,(r7.2.1,(true,r7.2.2.2)))))[q1]?.bind fun r8=>
     ((List.set (List.set (List.set s.2.2.2.2.2.1 q1 (r6.1,((IntKind.wrap .i64 (r5.2.1+1)),r6.2.2))) q1 (r7.1,(r7.2.1,(true,r7.2.2.2)))) q1 (r8.1,(r8.2.1,(r8.2.2.1,(dir,r8.2.2.2.2))))))[q1]?.bind fun r9=>
     ((List.set (List.set (List.set (List.set s.2.2.2.2.2.1 q1 (r6.1,((IntKind.wrap .i64 (r5.2.1+1)),r6.2.2))) q1 (r7.1,(r7.2.1,(true,r7.2.2.2)))) q1 (r8.1,(r8.2.1,(r8.2.2.1,(dir,r8.2.2.2.2))))) q1 (r9.1,(r9.2.1,(r9.2.2.1,(r9.2.2.2.1,(r9.2.2.2.2.1,(r9.2.2.2.2.2.1,(parent,r9.2.2.2.2.2.2.2)))))))))[q1]?.bind fun r10=>
     ((List.set (List.set (List.set (List.set s.2.2.2.2.2.1 q1 (r6.1,((IntKind.wrap .i64 (r5.2.1+1)),r6.2.2))) q1 (r7.1,(r7.2.1,(true,r7.2.2.2)))) q1 (r8.1,(r8.2.1,(r8.2.2.1,(dir,r8.2.2.2.2))))) q1 (r9.1,(r9.2.1,(r9.2.2.1,(r9.2.2.2.1,(r9.2.2.2.2.1,(r9.2.2.2.2.2.1,(parent,r9.2.2.2.2.2.2.2)))))))))[q1]?.bind fun r11=>
     some (s.2.2.2.2.1,(r10.1,(r11.2.1,(0,((List.set (List.set (List.set (List.set s.2.2.2.2.2.1 q1 (r6.1,((IntKind.wrap .i64 (r5.2.1+1)),r6.2.2))) q1 (r7.1,(r7.2.1,(true,r7.2.2.2)))) q1 (r8.1,(r8.2.1,(r8.2.2.1,(dir,r8.2.2.2.2))))) q1 (r9.1,(r9.2.1,(r9.2.2.1,(r9.2.2.2.1,(r9.2.2.2.2.1,(r9.2.2.2.2.2.1,(parent,r9.2.2.2.2.2.2.2)))))))),s.2.2.2.2.2.2)))))
    |.inr o2=>
     some o2
theorem nbZ: @Go.Ab.D.iAllE= @Go.Ab.V.iAllE:=by
 delta Go.Ab.D.iAllE Go.Ab.V.iAllE
 rw[mLZ]
 try kernel_rfl
def tree_Make(fu:Nat)(t:(List (qT0)×Int))(dir:(Int×Int))(name:List UInt8)(is_:Bool):Option ((List (qT0)×(Int×(Int×(Int×Int))))):=
 (task fu (t.1,t.2) [(dir.1,dir.2)]).bind fun r=>
 bif (!(r.1==0)) then
  (tcop fu (t.1,t.2)).bind fun r1=>
  some (r1.2,(r1.1,(0,(0,r.1))))
 else
  (idx? 0 r.2.length).bind fun q=>
  (r.2)[q]?.bind fun r2=>
  (tent fu r2 name).bind fun r3=>
  (tNam fu name).bind fun r4=>
  bif (!r4) then
   (tcop fu (t.1,t.2)).bind fun r5=>
   some (r5.2,(r5.1,(0,(0,176))))
  else
   bif r3.2 then
    (tcop fu (t.1,t.2)).bind fun r6=>
    some (r6.2,(r6.1,(0,(0,172))))
   else
    (idx? 0 r.2.length).bind fun q1=>
    (r.2)[q1]?.bind fun r7=>
    bif (decide (((r7.2.2.2.2.2.2.2.length:Nat):Int)>=100)) then
     (tcop fu (t.1,t.2)).bind fun r8=>
     some (r8.2,(r8.1,(0,(0,5))))
    else
     (iAllE fu (t.1,t.2) is_ dir.1).bind fun r9=>
     bif (!(r9.2.2.2.1==0)) then
      (unrefL (unrefD [⟨1,(.pair .str (.int .i64)),(List.map frz1 r9.2.2.2.2.2)⟩] qY12) r9.2.2.2.2.1).bind fun l2=>
      some (l2,(r9.1,(0,(0,r9.2.2.2.1))))
     else
      (tput fu dir.1 name r9.2.1 r9.1 r9.2.2.2.2.1 r9.2.2.2.2.2).bind fun r10=>
      (unrefL (unrefD [⟨1,(.pair .str (.int .i64)),(List.map frz1 r10.2.2)⟩] qY12) r10.2.1).bind fun l3=>
      some (l3,(r10.1,(r9.2.1,(r9.2.2.1,0))))
theorem hMZ: @Go.Ab.D.tree_Make= @Go.Ab.V.tree_Make:=by
 delta Go.Ab.D.tree_Make Go.Ab.V.tree_Make
 rw[mcZ,nmZ,nbZ]
 try kernel_rfl
def mdoemak(fu:Nat)(h:List (qT0))(h1:Int)(h2:List (List (UInt8)))(h3:Int)(h4:Int)(h5:Int)(h6:Int)(h7:Int)(h8:List UInt8)(h9:Int)(h10:Int)(h11:List UInt8)(h12:Int)(h13:Int)(h14:List (UInt8))(h15:Int)(h16:Int)(h17:Int)(h18:Int)(h19:Int)(h20:Bool)(h21:Int)(h22:Bool)(h23:Int):Option ((Int×qT8)):=
 (tree_Make fu (h,h1) (h6,h7) h8 (h5==3)).bind fun r=>
 bif (r.2.2.2.2==0) then
  some (r.2.2.2.2,(r.1,(r.2.1,(h2,(h3,(h4,(h5,(h6,(h7,(h8,(h9,(h10,(h11,(h12,(h13,(h14,(h15,(h16,(h17,(r.2.2.1,(r.2.2.2.1,((h5==3),(h21,(h22,h23))))))))))))))))))))))))
 else
  some (r.2.2.2.2,(h,(h1,(h2,(h3,(h4,(h5,(h6,(h7,(h8,(h9,(h10,(h11,(h12,(h13,(h14,(h15,(h16,(h17,(h18,(h19,(h20,(h21,(h22,h23))))))))))))))))))))))))
theorem kBZ: @Go.Ab.D.mdoemak= @Go.Ab.V.mdoemak:=by
 delta Go.Ab.D.mdoemak Go.Ab.V.mdoemak
 rw[hMZ]
 try kernel_rfl
def mcop_l0(fu:Nat)(r:List (qT0))(x:Int)(h:Int)(h1:List (qT0))(h2:Int):Option ((Int×qT39)⊕(qT39)):=
 bif (decide (x<((r.length:Nat):Int))) then
  (idx? x h1.length).bind fun q=>
  (h1)[q]?.bind fun r1=>
  (sClo3 fu r1.2.2.2.2.2.1).bind fun r2=>
  (idx? x h1.length).bind fun q1=>
  (h1)[q1]?.bind fun r3=>
  (sClo fu r3.2.2.2.2.2.2.2).bind fun r4=>
  (idx? x h1.length).bind fun q2=>
  (h1)[q2]?.bind fun r5=>
  (idx? x (List.set h1 q2 (r5.1,(r5.2.1,(r5.2.2.1,(r5.2.2.2.1,(r5.2.2.2.2.1,(r2,r5.2.2.2.2.2.2))))))).length).bind fun q3=>
  ((List.set h1 q2 (r5.1,(r5.2.1,(r5.2.2.1,(r5.2.2.2.1,(r5.2.2.2.2.1,(r2,r5.2.2.2.2.2.2))))))))[q3]?.bind fun r6=>
  some (.inl ((IntKind.wrap .i64 (x+1)),(h,((List.set (List.set h1 q2 (r5.1,(r5.2.1,(r5.2.2.1,(r5.2.2.2.1,(r5.2.2.2.2.1,(r2,r5.2.2.2.2.2.2))))))) q3 (r6.1,(r6.2.1,(r6.2.2.1,(r6.2.2.2.1,(r6.2.2.2.2.1,(r6.2.2.2.2.2.1,(r6.2.2.2.2.2.2.1,r4)))))))),h2))))
 else
  some (.inr (h,(h1,h2)))
theorem knZ: @Go.Ab.D.mcop_l0= @Go.Ab.V.mcop_l0:=by
 delta Go.Ab.D.mcop_l0 Go.Ab.V.mcop_l0
 rw[hdZ,kjZ]
 try kernel_rfl
def mcop_l0_it(fu:Nat)(r:List (qT0))(tt:(Int×qT39)):Option (qT39):=
 iter fu (fun tt=>mcop_l0 fu r tt.1 tt.2.1 tt.2.2.1 tt.2.2.2) tt
theorem gbZ: @Go.Ab.D.mcop_l0_it= @Go.Ab.V.mcop_l0_it:=by
 delta Go.Ab.D.mcop_l0_it Go.Ab.V.mcop_l0_it
 rw[knZ]
 try kernel_rfl
def mcop(fu:Nat)(t:(List (qT0)×Int)):Option ((Int×List (qT0))):=
 (sClo2 fu t.1).bind fun r=>
 (mcop_l0_it fu r (0,(t.2,(r,0)))).bind fun o=>
 some (o.1,o.2.1)
theorem lQZ: @Go.Ab.D.mcop= @Go.Ab.V.mcop:=by
 delta Go.Ab.D.mcop Go.Ab.V.mcop
 rw[hzZ,gbZ]
 try kernel_rfl
def sClo4(fu:Nat)(s:List (UInt8)):Option (List (UInt8)):=
 need ((Nat.ble ((0+s.length)*1) room)&&(Nat.ble (0+s.length) room))<|
 some s
theorem hKZ: @Go.Ab.D.sClo4= @Go.Ab.V.sClo4:=by
 funext fu s;show nilQ _ _=_;cases s with
 |nil=>exact(if_pos fun _=>rfl).trans rfl
 |cons a l=>exact(if_pos (fun h=>by cases h)).trans rfl
def mdoemad_l0(fu:Nat)(r:(Int×List (qT0)))(x:Int)(h24:List (qT0))(h25:Int)(h26:List (List (UInt8)))(h27:Int)(h28:Int)(h29:Int)(h30:Int)(h31:Int)(h32:List UInt8)(h33:Int)(h34:Int)(h35:List UInt8)(h36:Int)(h37:Int)(h38:List (UInt8))(h39:Int)(h40:Int)(h41:Int)(h42:Int)(h43:Int)(h44:Bool)(h45:Int)(h46:Bool)(h47:Int)(h48:Int)(h49:Int)(h50:List (qT0))(h51:List (List (UInt8))):Option ((Int×qT14)⊕(qT14)):=
 bif (decide (x<((r.2.length:Nat):Int))) then
  (idx? x h50.length).bind fun q=>
  (h50)[q]?.bind fun r1=>
  Option.bind (α:=((Bool×qT14))) (
   bif (decide (x<((h26.length:Nat):Int))) then
    some (r1.2.2.1,(h24,(h25,(h26,(h27,(h28,(h29,(h30,(h31,(h32,(h33,(h34,(h35,(h36,(h37,(h38,(h39,(h40,(h41,(h42,(h43,(h44,(h45,(h46,(h47,(h48,(h49,(h50,h51))))))))))))))))))))))))))))
   else
    some (false,(h24,(h25,(h26,(h27,(h28,(h29,(h30,(h31,(h32,(h33,(h34,(h35,(h36,(h37,(h38,(h39,(h40,(h41,(h42,(h43,(h44,(h45,(h46,(h47,(h48,(h49,(h50,h51))))))))))))))))))))))))))))) fun o=>
  Option.bind (α:=((List (qT0)×(Int×(List (List (UInt8))×(Int×(Int×(Int×(Int×(Int×(List UInt8×(Int×(Int×(List UInt8×(Int×(Int×(List (UInt8)×(Int×(Int×(Int×(Int×(Int×(Bool×(Int×(Bool×(Int×(Int×(Int×(List (qT0)×(List (List (UInt8))×List (UInt8))))))))))))))))))))))))))))))) (
   bif o.1 then
    (idx? x o.2.2.2.1.length).bind fun q1=>
    (o.2.2.2.1)[q1]?.bind fun r2=>
    (sClo4 fu r2).bind fun r3=>
    some (o.2.1,(o.2.2.1,(o.2.2.2.1,(o.2.2.2.2.1,(o.2.2.2.2.2.1,(o.2.2.2.2.2.2.1,(o.2.2.2.2.2.2.2.1,(o.2.2.2.2.2.2.2.2.1,(o.2.2.2.2.2.2.2.2.2.1,(o.2.2.2.2.2.2.2.2.2.2.1,(o.2.2.2.2.2.2.2.2.2.2.2.1,(o.2.2.2.2.2.2.2.2.2.2.2.2.1,(o.2.2.2.2.2.2.2.2.2.2.2.2.2.1,(o.2.2.2.2.2.2.2.2.2.2.2.2.2.2.1,(o.2.2.2.2.2.2.2.2.2.2.2.2.2.2.2.1,(o.2.2.2.2.2.2.2.2.2.2.2.2.2.2.2.2.1,(o.2.2.2.2.2.2.2.2.2.2.2.2.2.2.2.2.2.1,(o.2.2.2.2.2.2.2.2.2.2.2.2.2.2.2.2.2.2.1,(o.2.2.2.2.2.2.2.2.2.2.2.2.2.2.2.2.2.2.2.1,(o.2.2.2.2.2.2.2.2.2.2.2.2.2.2.2.2.2.2.2.2.1,(o.2.2.2.2.2.2.2.2.2.2.2.2.2.2.2.2.2.2.2.2.2.1,(o.2.2.2.2.2.2.2.2.2.2.2.2.2.2.2.2.2.2.2.2.2.2.1,(o.2.2.2.2.2.2.2.2.2.2.2.2.2.2.2.2.2.2.2.2.2.2.2.1,(o.2.2.2.2.2.2.2.2.2.2.2.2.2.2.2.2.2.2.2.2.2.2.2.2.1,(o.2.2.2.2.2.2.2.2.2.2.2.2.2.2.2.2.2.2.2.2.2.2.2.2.2.1,(o.2.2.2.2.2.2.2.2.2.2.2.2.2.2.2.2.2.2.2.2.2.2.2.2.2.2.1,(o.2.2.2.2.2.2.2.2.2.2.2.2.2.2.2.2.2.2.2.2.2.2.2.2.2.2.2.1,(o.2.2.2.2.2.2.2.2.2.2.2.2.2.2.2.2.2.2.2.2.2.2.2.2.2.2.2.2,r3))))))))))))))))))))))))))))
   else
    some (o.2.1,(o.2.2.1,(o.2.2.2.1,(o.2.2.2.2.1,(o.2.2.2.2.2.1,(o.2.2.2.2.2.2.1,(o.2.2.2.2.2.2.2.1,(o.2.2.2.2.2.2.2.2.1,(o.2.2.2.2.2.2.2.2.2.1,(o.2.2.2.2.2.2.2.2.2.2.1,(o.2.2.2.2.2.2.2.2.2.2.2.1,(o.2.2.2.2.2.2.2.2.2.2.2.2.1,(o.2.2.2.2.2.2.2.2.2.2.2.2.2.1,(o.2.2.2.2.2.2.2.2.2.2.2.2.2.2.1,(o.2.2.2.2.2.2.2.2.2.2.2.2.2.2.2.1,(o.2.2.2.2.2.2.2.2.2.2.2.2.2.2.2.2.1,(o.2.2.2.2.2.2.2.2.2.2.2.2.2.2.2.2.2.1,(o.2.2.2.2.2.2.2.2.2.2.2.2.2.2.2.2.2.2.1,(o.2.2.2.2.2.2.2.2.2.2.2.2.2.2.2.2.2.2.2.1,(o.2.2.2.2.2.2.2.2.2.2.2.2.2.2.2.2.2.2.2.2.1,(o.2.2.2.2.2.2.2.2.2.2.2.2.2.2.2.2.2.2.2.2.2.1,(o.2.2.2.2.2.2.2.2.2.2.2.2.2.2.2.2.2.2.2.2.2.2.1,(o.2.2.2.2.2.2.2.2.2.2.2.2.2.2.2.2.2.2.2.2.2.2.2.1,(o.2.2.2.2.2.2.2.2.2.2.2.2.2.2.2.2.2.2.2.2.2.2.2.2.1,(o.2.2.2.2.2.2.2.2.2.2.2.2.2.2.2.2.2.2.2.2.2.2.2.2.2.1,(o.2.2.2.2.2.2.2.2.2.2.2.2.2.2.2.2.2.2.2.2.2.2.2.2.2.2.1,(o.2.2.2.2.2.2.2.2.2.2.2.2.2.2.2.2.2.2.2.2.2.2.2.2.2.2.2.1,(o.2.2.2.2.2.2.2.2.2.2.2.2.2.2.2.2.2.2.2.2.2.2.2.2.2.2.2.2,[]))))))))))))))))))))))))))))) fun o1=>
  need ((Nat.ble ((o1.2.2.2.2.2.2.2.2.2.2.2.2.2.2.2.2.2.2.2.2.2.2.2.2.2.2.2.1.length+1)*24) room)&&(Nat.ble (o1.2.2.2.2.2.2.2.2.2.2.2.2.2.2.2.2.2.2.2.2.2.2.2.2.2.2.2.1.length+1) room))<|
  some (.inl ((IntKind.wrap .i64 (x+1)),(o1.1,(o1.2.1,(o1.2.2.1,(o1.2.2.2.1,(o1.2.2.2.2.1,(o1.2.2.2.2.2.1,(o1.2.2.2.2.2.2.1,(o1.2.2.2.2.2.2.2.1,(o1.2.2.2.2.2.2.2.2.1,(o1.2.2.2.2.2.2.2.2.2.1,(o1.2.2.2.2.2.2.2.2.2.2.1,(o1.2.2.2.2.2.2.2.2.2.2.2.1,(o1.2.2.2.2.2.2.2.2.2.2.2.2.1,(o1.2.2.2.2.2.2.2.2.2.2.2.2.2.1,(o1.2.2.2.2.2.2.2.2.2.2.2.2.2.2.1,(o1.2.2.2.2.2.2.2.2.2.2.2.2.2.2.2.1,(o1.2.2.2.2.2.2.2.2.2.2.2.2.2.2.2.2.1,(o1.2.2.2.2.2.2.2.2.2.2.2.2.2.2.2.2.2.1,(o1.2.2.2.2.2.2.2.2.2.2.2.2.2.2.2.2.2.2.1,(o1.2.2.2.2.2.2.2.2.2.2.2.2.2.2.2.2.2.2.2.1,(o1.2.2.2.2.2.2.2.2.2.2.2.2.2.2.2.2.2.2.2.2.1,(o1.2.2.2.2.2.2.2.2.2.2.2.2.2.2.2.2.2.2.2.2.2.1,(o1.2.2.2.2.2.2.2.2.2.2.2.2.2.2.2.2.2.2.2.2.2.2.1,(o1.2.2.2.2.2.2.2.2.2.2.2.2.2.2.2.2.2.2.2.2.2.2.2.1,(o1.2.2.2.2.2.2.2.2.2.2.2.2.2.2.2.2.2.2.2.2.2.2.2.2.1,(o1.2.2.2.2.2.2.2.2.2.2.2.2.2.2.2.2.2.2.2.2.2.2.2.2.2.1,(o1.2.2.2.2.2.2.2.2.2.2.2.2.2.2.2.2.2.2.2.2.2.2.2.2.2.2.1,(o1.2.2.2.2.2.2.2.2.2.2.2.2.2.2.2.2.2.2.2.2.2.2.2.2.2.2.2.1++[o1.2.2.2.2.2.2.2.2.2.2.2.2.2.2.2.2.2.2.2.2.2.2.2.2.2.2.2.2]))))))))))))))))))))))))))))))
 else
  some (.inr (h24,(h25,(h26,(h27,(h28,(h29,(h30,(h31,(h32,(h33,(h34,(h35,(h36,(h37,(h38,(h39,(h40,(h41,(h42,(h43,(h44,(h45,(h46,(h47,(h48,(h49,(h50,h51))))))))))))))))))))))))))))
theorem g0Z: @Go.Ab.D.mdoemad_l0= @Go.Ab.V.mdoemad_l0:=by
 delta Go.Ab.D.mdoemad_l0 Go.Ab.V.mdoemad_l0
 rw[hKZ]
 try kernel_rfl
def mdoemad_l0_it(fu:Nat)(r:(Int×List (qT0)))(tt:(Int×qT14)):Option (qT14):=
 iter fu (fun tt=>mdoemad_l0 fu r tt.1 tt.2.1 tt.2.2.1 tt.2.2.2.1 tt.2.2.2.2.1 tt.2.2.2.2.2.1 tt.2.2.2.2.2.2.1 tt.2.2.2.2.2.2.2.1 tt.2.2.2.2.2.2.2.2.1 tt.2.2.2.2.2.2.2.2.2.1 tt.2.2.2.2.2.2.2.2.2.2.1 tt.2.2.2.2.2.2.2.2.2.2.2.1 tt.2.2.2.2.2.2.2.2.2.2.2.2.1 tt.2.2.2.2.2.2.2.2.2.2.2.2.2.1 tt.2.2.2.2.2.2.2.2.2.2.2.2.2.2.1 tt.2.2.2.2.2.2.2.2.2.2.2.2.2.2.2.1 tt.2.2.2.2.2.2.2.2.2.2.2.2.2.2.2.2.1 tt.2.2.2.2.2.2.2.2.2.2.2.2.2.2.2.2.2.1 tt.2.2.2.2.2.2.2.2.2.2.2.2.2.2.2.2.2.2.1 tt.2.2.2.2.2.2.2.2.2.2.2.2.2.2.2.2.2.2.2.1 tt.2.2.2.2.2.2.2.2.2.2.2.2.2.2.2.2.2.2.2.2.1 tt.2.2.2.2.2.2.2.2.2.2.2.2.2.2.2.2.2.2.2.2.2.1 tt.2.2.2.2.2.2.2.2.2.2.2.2.2.2.2.2.2.2.2.2.2.2.1 tt.2.2.2.2.2.2.2.2.2.2.2.2.2.2.2.2.2.2.2.2.2.2.2.1 tt.2.2.2.2.2.2.2.2.2.2.2.2.2.2.2.2.2.2.2.2.2.2.2.2.1 tt.2.2.2.2.2.2.2.2.2.2.2.2.2.2.2.2.2.2.2.2.2.2.2.2.2.1 tt.2.2.2.2.2.2.2.2.2.2.2.2.2.2.2.2.2.2.2.2.2.2.2.2.2.2.1 tt.2.2.2.2.2.2.2.2.2.2.2.2.2.2.2.2.2.2.2.2.2.2.2.2.2.2.2.1 tt.2.2.2.2.2.2.2.2.2.2.2.2.2.2.2.2.2.2.2.2.2.2.2.2.2.2.2.2) tt
theorem emZ: @Go.Ab.D.mdoemad_l0_it= @Go.Ab.V.mdoemad_l0_it:=by
 delta Go.Ab.D.mdoemad_l0_it Go.Ab.V.mdoemad_l0_it
 rw[g0Z]
 try kernel_rfl
def mdoemad(fu:Nat)(h:List (qT0))(h1:Int)(h2:List (List (UInt8)))(h3:Int)(h4:Int)(h5:Int)(h6:Int)(h7:Int)(h8:List UInt8)(h9:Int)(h10:Int)(h11:List UInt8)(h12:Int)(h13:Int)(h14:List (UInt8))(h15:Int)(h16:Int)(h17:Int)(h18:Int)(h19:Int)(h20:Bool)(h21:Int)(h22:Bool)(h23:Int):Option ((Int×(List (qT0)×(Int×(List (List (UInt8))×(Int×(Int×(Int×(Int×(Int×(List UInt8×(Int×(Int×(List UInt8×(Int×(Int×(List (UInt8)×(Int×(Int×(Int×(Int×(Int×(Bool×(Int×(Bool×(Int×(List (qT0)×List (List (UInt8))))))))))))))))))))))))))))):=
 (mcop fu (h,h1)).bind fun r=>
 (mdoemad_l0_it fu r (0,(h,(h1,(h2,(h3,(h4,(h5,(h6,(h7,(h8,(h9,(h10,(h11,(h12,(h13,(h14,(h15,(h16,(h17,(h18,(h19,(h20,(h21,(h22,(h23,(0,(r.1,(r.2,[]))))))))))))))))))))))))))))).bind fun o2=>
 some (o2.2.2.2.2.2.2.2.2.2.2.2.2.2.2.2.2.2.2.2.2.2.2.2.2.2.1,(o2.1,(o2.2.1,(o2.2.2.1,(o2.2.2.2.1,(o2.2.2.2.2.1,(o2.2.2.2.2.2.1,(o2.2.2.2.2.2.2.1,(o2.2.2.2.2.2.2.2.1,(o2.2.2.2.2.2.2.2.2.1,(o2.2.2.2.2.2.2.2.2.2.1,(o2.2.2.2.2.2.2.2.2.2.2.1,(o2.2.2.2.2.2.2.2.2.2.2.2.1,(o2.2.2.2.2.2.2.2.2.2.2.2.2.1,(o2.2.2.2.2.2.2.2.2.2.2.2.2.2.1,(o2.2.2.2.2.2.2.2.2.2.2.2.2.2.2.1,(o2.2.2.2.2.2.2.2.2.2.2.2.2.2.2.2.1,(o2.2.2.2.2.2.2.2.2.2.2.2.2.2.2.2.2.1,(o2.2.2.2.2.2.2.2.2.2.2.2.2.2.2.2.2.2.1,(o2.2.2.2.2.2.2.2.2.2.2.2.2.2.2.2.2.2.2.1,(o2.2.2.2.2.2.2.2.2.2.2.2.2.2.2.2.2.2.2.2.1,(o2.2.2.2.2.2.2.2.2.2.2.2.2.2.2.2.2.2.2.2.2.1,(o2.2.2.2.2.2.2.2.2.2.2.2.2.2.2.2.2.2.2.2.2.2.1,(o2.2.2.2.2.2.2.2.2.2.2.2.2.2.2.2.2.2.2.2.2.2.2.1,(o2.2.2.2.2.2.2.2.2.2.2.2.2.2.2.2.2.2.2.2.2.2.2.2.1,(o2.2.2.2.2.2.2.2.2.2.2.2.2.2.2.2.2.2.2.2.2.2.2.2.2.2.2.1,o2.2.2.2.2.2.2.2.2.2.2.2.2.2.2.2.2.2.2.2.2.2.2.2.2.2.2.2))))))))))))))))))))))))))
theorem jSZ: @Go.Ab.D.mdoemad= @Go.Ab.V.mdoemad:=by
 delta Go.Ab.D.mdoemad Go.Ab.V.mdoemad
 rw[lQZ,emZ]
 try kernel_rfl
def model_Do_l0(fu:Nat)(o1:qT16)(x:Int)(h:Int)(h1:Int)(h2:Int)(h3:Int)(h4:Int)(h5:List UInt8)(h6:Int)(h7:Int)(h8:List UInt8)(h9:Int)(h10:Int)(h11:List (UInt8))(h12:Int)(h13:Int)(h14:Int)(h15:Int)(h16:Int)(h17:Int)(h18:Bool)(h19:Int)(h20:Bool)(h21:Int)(h22:Int)(h23:List (qT0))(h24:List (List (UInt8))):Option ((Int×qT11)⊕(qT11)):=
 bif (decide (x<((o1.2.2.2.1.length:Nat):Int))) then
  (idx? x o1.2.2.2.1.length).bind fun q=>
  (o1.2.2.2.1)[q]?.bind fun r15=>
  (sClo4 fu r15).bind fun r16=>
  need ((Nat.ble ((h24.length+1)*24) room)&&(Nat.ble (h24.length+1) room))<|
  some (.inl ((IntKind.wrap .i64 (x+1)),(h,(h1,(h2,(h3,(h4,(h5,(h6,(h7,(h8,(h9,(h10,(h11,(h12,(h13,(h14,(h15,(h16,(h17,(h18,(h19,(h20,(h21,(h22,(h23,(h24++[r16])))))))))))))))))))))))))))
 else
  some (.inr (h,(h1,(h2,(h3,(h4,(h5,(h6,(h7,(h8,(h9,(h10,(h11,(h12,(h13,(h14,(h15,(h16,(h17,(h18,(h19,(h20,(h21,(h22,(h23,h24)))))))))))))))))))))))))
theorem feZ: @Go.Ab.D.model_Do_l0= @Go.Ab.V.model_Do_l0:=by
 delta Go.Ab.D.model_Do_l0 Go.Ab.V.model_Do_l0
 rw[hKZ]
 try kernel_rfl
def model_Do_l0_it(fu:Nat)(o1:qT16)(tt:(Int×qT11)):Option (qT11):=
 iter fu (fun tt=>model_Do_l0 fu o1 tt.1 tt.2.1 tt.2.2.1 tt.2.2.2.1 tt.2.2.2.2.1 tt.2.2.2.2.2.1 tt.2.2.2.2.2.2.1 tt.2.2.2.2.2.2.2.1 tt.2.2.2.2.2.2.2.2.1 tt.2.2.2.2.2.2.2.2.2.1 tt.2.2.2.2.2.2.2.2.2.2.1 tt.2.2.2.2.2.2.2.2.2.2.2.1 tt.2.2.2.2.2.2.2.2.2.2.2.2.1 tt.2.2.2.2.2.2.2.2.2.2.2.2.2.1 tt.2.2.2.2.2.2.2.2.2.2.2.2.2.2.1 tt.2.2.2.2.2.2.2.2.2.2.2.2.2.2.2.1 tt.2.2.2.2.2.2.2.2.2.2.2.2.2.2.2.2.1 tt.2.2.2.2.2.2.2.2.2.2.2.2.2.2.2.2.2.1 tt.2.2.2.2.2.2.2.2.2.2.2.2.2.2.2.2.2.2.1 tt.2.2.2.2.2.2.2.2.2.2.2.2.2.2.2.2.2.2.2.1 tt.2.2.2.2.2.2.2.2.2.2.2.2.2.2.2.2.2.2.2.2.1 tt.2.2.2.2.2.2.2.2.2.2.2.2.2.2.2.2.2.2.2.2.2.1 tt.2.2.2.2.2.2.2.2.2.2.2.2.2.2.2.2.2.2.2.2.2.2.1 tt.2.2.2.2.2.2.2.2.2.2.2.2.2.2.2.2.2.2.2.2.2.2.2.1 tt.2.2.2.2.2.2.2.2.2.2.2.2.2.2.2.2.2.2.2.2.2.2.2.2.1 tt.2.2.2.2.2.2.2.2.2.2.2.2.2.2.2.2.2.2.2.2.2.2.2.2.2) tt
theorem dyZ: @Go.Ab.D.model_Do_l0_it= @Go.Ab.V.model_Do_l0_it:=by
 delta Go.Ab.D.model_Do_l0_it Go.Ab.V.model_Do_l0_it
 rw[feZ]
 try kernel_rfl
def model_Do_l1(fu:Nat)(m:((List (qT0)×Int)×List (List (UInt8))))(x1:Int)(h25:Int)(h26:Int)(h27:Int)(h28:Int)(h29:Int)(h30:List UInt8)(h31:Int)(h32:Int)(h33:List UInt8)(h34:Int)(h35:Int)(h36:List (UInt8))(h37:Int)(h38:Int)(h39:Int)(h40:Int)(h41:Int)(h42:Int)(h43:Bool)(h44:Int)(h45:Bool)(h46:Int)(h47:Int)(h48:List (qT0))(h49:List (List (UInt8))):Option ((Int×qT11)⊕(qT11)):=
 bif (decide (x1<((m.2.length:Nat):Int))) then
  (idx? x1 m.2.length).bind fun q1=>
  (m.2)[q1]?.bind fun r19=>
  (sClo4 fu r19).bind fun r20=>
  need ((Nat.ble ((h49.length+1)*24) room)&&(Nat.ble (h49.length+1) room))<|
  some (.inl ((IntKind.wrap .i64 (x1+1)),(h25,(h26,(h27,(h28,(h29,(h30,(h31,(h32,(h33,(h34,(h35,(h36,(h37,(h38,(h39,(h40,(h41,(h42,(h43,(h44,(h45,(h46,(h47,(h48,(h49++[r20])))))))))))))))))))))))))))
 else
  some (.inr (h25,(h26,(h27,(h28,(h29,(h30,(h31,(h32,(h33,(h34,(h35,(h36,(h37,(h38,(h39,(h40,(h41,(h42,(h43,(h44,(h45,(h46,(h47,(h48,h49)))))))))))))))))))))))))
theorem fEZ: @Go.Ab.D.model_Do_l1= @Go.Ab.V.model_Do_l1:=by
 delta Go.Ab.D.model_Do_l1 Go.Ab.V.model_Do_l1
 rw[hKZ]
 try kernel_rfl
def model_Do_l1_it(fu:Nat)(m:((List (qT0)×Int)×List (List (UInt8))))(tt:(Int×qT11)):Option (qT11):=
 iter fu (fun tt=>model_Do_l1 fu m tt.1 tt.2.1 tt.2.2.1 tt.2.2.2.1 tt.2.2.2.2.1 tt.2.2.2.2.2.1 tt.2.2.2.2.2.2.1 tt.2.2.2.2.2.2.2.1 tt.2.2.2.2.2.2.2.2.1 tt.2.2.2.2.2.2.2.2.2.1 tt.2.2.2.2.2.2.2.2.2.2.1 tt.2.2.2.2.2.2.2.2.2.2.2.1 tt.2.2.2.2.2.2.2.2.2.2.2.2.1 tt.2.2.2.2.2.2.2.2.2.2.2.2.2.1 tt.2.2.2.2.2.2.2.2.2.2.2.2.2.2.1 tt.2.2.2.2.2.2.2.2.2.2.2.2.2.2.2.1 tt.2.2.2.2.2.2.2.2.2.2.2.2.2.2.2.2.1 tt.2.2.2.2.2.2.2.2.2.2.2.2.2.2.2.2.2.1 tt.2.2.2.2.2.2.2.2.2.2.2.2.2.2.2.2.2.2.1 tt.2.2.2.2.2.2.2.2.2.2.2.2.2.2.2.2.2.2.2.1 tt.2.2.2.2.2.2.2.2.2.2.2.2.2.2.2.2.2.2.2.2.1 tt.2.2.2.2.2.2.2.2.2.2.2.2.2.2.2.2.2.2.2.2.2.1 tt.2.2.2.2.2.2.2.2.2.2.2.2.2.2.2.2.2.2.2.2.2.2.1 tt.2.2.2.2.2.2.2.2.2.2.2.2.2.2.2.2.2.2.2.2.2.2.2.1 tt.2.2.2.2.2.2.2.2.2.2.2.2.2.2.2.2.2.2.2.2.2.2.2.2.1 tt.2.2.2.2.2.2.2.2.2.2.2.2.2.2.2.2.2.2.2.2.2.2.2.2.2) tt
theorem dvZ: @Go.Ab.D.model_Do_l1_it= @Go.Ab.V.model_Do_l1_it:=by
 delta Go.Ab.D.model_Do_l1_it Go.Ab.V.model_Do_l1_it
 rw[fEZ]
 try kernel_rfl
def model_Do(fu:Nat)(m:((List (qT0)×Int)×List (List (UInt8))))(c:(Int×(Int×(UInt8×((Int×Int)×(List UInt8×((Int×Int)×(List UInt8×(Int×(Int×List (UInt8))))))))))):Option ((Int×(Int×(Int×(Int×(Int×(Int×(Bool×(Int×(Bool×(Int×(List (qT0)×List (List (UInt8)))))))))))))):=
 need ((!((UInt8.ofNat 2)==(UInt8.ofNat 1)))&&true)<|
 need ((!((UInt8.ofNat 3)==(UInt8.ofNat 1)))&&((!((UInt8.ofNat 3)==(UInt8.ofNat 2)))&&true))<|
 need ((!((UInt8.ofNat 4)==(UInt8.ofNat 1)))&&((!((UInt8.ofNat 4)==(UInt8.ofNat 2)))&&((!((UInt8.ofNat 4)==(UInt8.ofNat 3)))&&true)))<|
 need ((!((UInt8.ofNat 5)==(UInt8.ofNat 1)))&&((!((UInt8.ofNat 5)==(UInt8.ofNat 2)))&&((!((UInt8.ofNat 5)==(UInt8.ofNat 3)))&&((!((UInt8.ofNat 5)==(UInt8.ofNat 4)))&&true))))<|
 need ((!((UInt8.ofNat 6)==(UInt8.ofNat 1)))&&((!((UInt8.ofNat 6)==(UInt8.ofNat 2)))&&((!((UInt8.ofNat 6)==(UInt8.ofNat 3)))&&((!((UInt8.ofNat 6)==(UInt8.ofNat 4)))&&((!((UInt8.ofNat 6)==(UInt8.ofNat 5)))&&true)))))<|
 need ((!((UInt8.ofNat 7)==(UInt8.ofNat 1)))&&((!((UInt8.ofNat 7)==(UInt8.ofNat 2)))&&((!((UInt8.ofNat 7)==(UInt8.ofNat 3)))&&((!((UInt8.ofNat 7)==(UInt8.ofNat 4)))&&((!((UInt8.ofNat 7)==(UInt8.ofNat 5)))&&((!((UInt8.ofNat 7)==(UInt8.ofNat 6)))&&true))))))<|
 need ((!((UInt8.ofNat 8)==(UInt8.ofNat 1)))&&((!((UInt8.ofNat 8)==(UInt8.ofNat 2)))&&((!((UInt8.ofNat 8)==(UInt8.ofNat 3)))&&((!((UInt8.ofNat 8)==(UInt8.ofNat 4)))&&((!((UInt8.ofNat 8)==(UInt8.ofNat 5)))&&((!((UInt8.ofNat 8)==(UInt8.ofNat 6)))&&((!((UInt8.ofNat 8)==(UInt8.ofNat 7)))&&true)))))))<|
 need ((!((UInt8.ofNat 9)==(UInt8.ofNat 1)))&&((!((UInt8.ofNat 9)==(UInt8.ofNat 2)))&&((!((UInt8.ofNat 9)==(UInt8.ofNat 3)))&&((!((UInt8.ofNat 9)==(UInt8.ofNat 4)))&&((!((UInt8.ofNat 9)==(UInt8.ofNat 5)))&&((!((UInt8.ofNat 9)==(UInt8.ofNat 6)))&&((!((UInt8.ofNat 9)==(UInt8.ofNat 7)))&&((!((UInt8.ofNat 9)==(UInt8.ofNat 8)))&&true))))))))<|
 need ((!((UInt8.ofNat 10)==(UInt8.ofNat 1)))&&((!((UInt8.ofNat 10)==(UInt8.ofNat 2)))&&((!((UInt8.ofNat 10)==(UInt8.ofNat 3)))&&((!((UInt8.ofNat 10)==(UInt8.ofNat 4)))&&((!((UInt8.ofNat 10)==(UInt8.ofNat 5)))&&((!((UInt8.ofNat 10)==(UInt8.ofNat 6)))&&((!((UInt8.ofNat 10)==(UInt8.ofNat 7)))&&((!((UInt8.ofNat 10)==(UInt8.ofNat 8)))&&((!((UInt8.ofNat 10)==(UInt8.ofNat 9)))&&true)))))))))<|
 need ((!((UInt8.ofNat 11)==(UInt8.ofNat 1)))&&((!((UInt8.ofNat 11)==(UInt8.ofNat 2)))&&((!((UInt8.ofNat 11)==(UInt8.ofNat 3)))&&((!((UInt8.ofNat 11)==(UInt8.ofNat 4)))&&((!((UInt8.ofNat 11)==(UInt8.ofNat 5)))&&((!((UInt8.ofNat 11)==(UInt8.ofNat 6)))&&((!((UInt8.ofNat 11)==(UInt8.ofNat 7)))&&((!((UInt8.ofNat 11)==(UInt8.ofNat 8)))&&((!((UInt8.ofNat 11)==(UInt8.ofNat 9)))&&((!((UInt8.ofNat 11)==(UInt8.ofNat 10)))&&true))))))))))<|
 need ((!((UInt8.ofNat 12)==(UInt8.ofNat 1)))&&((!((UInt8.ofNat 12)==(UInt8.ofNat 2)))&&((!((UInt8.ofNat 12)==(UInt8.ofNat 3)))&&((!((UInt8.ofNat 12)==(UInt8.ofNat 4)))&&((!((UInt8.ofNat 12)==(UInt8.ofNat 5)))&&((!((UInt8.ofNat 12)==(UInt8.ofNat 6)))&&((!((UInt8.ofNat 12)==(UInt8.ofNat 7)))&&((!((UInt8.ofNat 12)==(UInt8.ofNat 8)))&&((!((UInt8.ofNat 12)==(UInt8.ofNat 9)))&&((!((UInt8.ofNat 12)==(UInt8.ofNat 10)))&&((!((UInt8.ofNat 12)==(UInt8.ofNat 11)))&&true)))))))))))<|
 (mRig fu ((m.1.1,m.1.2),m.2)).bind fun r=>
 bif r then
  (byte? ((c.2.2.1.toNat:Nat):Int)).bind fun c1=>
  (cRigCal fu (c.1,(c.2.1,(c1,((c.2.2.2.1.1,c.2.2.2.1.2),(c.2.2.2.2.1,((c.2.2.2.2.2.1.1,c.2.2.2.2.2.1.2),(c.2.2.2.2.2.2.1,(c.2.2.2.2.2.2.2.1,(c.2.2.2.2.2.2.2.2.1,c.2.2.2.2.2.2.2.2.2)))))))))).bind fun r1=>
  Option.bind (α:=(qT16)) (
   bif r1 then
    Option.bind (α:=(qT16)) (
     (byte? ((c.2.2.1.toNat:Nat):Int)).bind fun c2=>
     bif (c2==(UInt8.ofNat 1)) then
      (mdoeloo fu m.1.1 m.1.2 m.2 c.1 c.2.1 ((c.2.2.1.toNat:Nat):Int) c.2.2.2.1.1 c.2.2.2.1.2 c.2.2.2.2.1 c.2.2.2.2.2.1.1 c.2.2.2.2.2.1.2 c.2.2.2.2.2.2.1 c.2.2.2.2.2.2.2.1 c.2.2.2.2.2.2.2.2.1 c.2.2.2.2.2.2.2.2.2 c.1 c.2.1 0 0 0 false 0 false 0).bind fun r2=>
      some (r2.1,(m.1.1,(m.1.2,(m.2,(c.1,(c.2.1,(((c.2.2.1.toNat:Nat):Int),(c.2.2.2.1.1,(c.2.2.2.1.2,(c.2.2.2.2.1,(c.2.2.2.2.2.1.1,(c.2.2.2.2.2.1.2,(c.2.2.2.2.2.2.1,(c.2.2.2.2.2.2.2.1,(c.2.2.2.2.2.2.2.2.1,(c.2.2.2.2.2.2.2.2.2,(0,(0,(0,(0,(0,(0,(false,(0,(false,(0,(r2.2.1,(r2.2.2.1,(r2.2.2.2.1,(r2.2.2.2.2.1,(r2.2.2.2.2.2.1,(r2.2.2.2.2.2.2.1,(r2.2.2.2.2.2.2.2.1,(r2.2.2.2.2.2.2.2.2.1,(r2.2.2.2.2.2.2.2.2.2.1,(r2.2.2.2.2.2.2.2.2.2.2.1,(r2.2.2.2.2.2.2.2.2.2.2.2.1,(r2.2.2.2.2.2.2.2.2.2.2.2.2.1,(r2.2.2.2.2.2.2.2.2.2.2.2.2.2.1,(r2.2.2.2.2.2.2.2.2.2.2.2.2.2.2.1,(r2.2.2.2.2.2.2.2.2.2.2.2.2.2.2.2.1,(r2.2.2.2.2.2.2.2.2.2.2.2.2.2.2.2.2.1,(r2.2.2.2.2.2.2.2.2.2.2.2.2.2.2.2.2.2.1,(r2.2.2.2.2.2.2.2.2.2.2.2.2.2.2.2.2.2.2.1,(r2.2.2.2.2.2.2.2.2.2.2.2.2.2.2.2.2.2.2.2.1,(r2.2.2.2.2.2.2.2.2.2.2.2.2.2.2.2.2.2.2.2.2.1,(r2.2.2.2.2.2.2.2.2.2.2.2.2.2.2.2.2.2.2.2.2.2.1,(r2.2.2.2.2.2.2.2.2.2.2.2.2.2.2.2.2.2.2.2.2.2.2.1,(r2.2.2.2.2.2.2.2.2.2.2.2.2.2.2.2.2.2.2.2.2.2.2.2.1,r2.2.2.2.2.2.2.2.2.2.2.2.2.2.2.2.2.2.2.2.2.2.2.2.2)))))))))))))))))))))))))))))))))))))))))))))))))
     else
      bif (c2==(UInt8.ofNat 2)) then
       (mdoemak fu m.1.1 m.1.2 m.2 c.1 c.2.1 ((c.2.2.1.toNat:Nat):Int) c.2.2.2.1.1 c.2.2.2.1.2 c.2.2.2.2.1 c.2.2.2.2.2.1.1 c.2.2.2.2.2.1.2 c.2.2.2.2.2.2.1 c.2.2.2.2.2.2.2.1 c.2.2.2.2.2.2.2.2.1 c.2.2.2.2.2.2.2.2.2 c.1 c.2.1 0 0 0 false 0 false 0).bind fun r3=>
       some (r3.1,(m.1.1,(m.1.2,(m.2,(c.1,(c.2.1,(((c.2.2.1.toNat:Nat):Int),(c.2.2.2.1.1,(c.2.2.2.1.2,(c.2.2.2.2.1,(c.2.2.2.2.2.1.1,(c.2.2.2.2.2.1.2,(c.2.2.2.2.2.2.1,(c.2.2.2.2.2.2.2.1,(c.2.2.2.2.2.2.2.2.1,(c.2.2.2.2.2.2.2.2.2,(0,(0,(0,(0,(0,(0,(false,(0,(false,(0,(r3.2.1,(r3.2.2.1,(r3.2.2.2.1,(r3.2.2.2.2.1,(r3.2.2.2.2.2.1,(r3.2.2.2.2.2.2.1,(r3.2.2.2.2.2.2.2.1,(r3.2.2.2.2.2.2.2.2.1,(r3.2.2.2.2.2.2.2.2.2.1,(r3.2.2.2.2.2.2.2.2.2.2.1,(r3.2.2.2.2.2.2.2.2.2.2.2.1,(r3.2.2.2.2.2.2.2.2.2.2.2.2.1,(r3.2.2.2.2.2.2.2.2.2.2.2.2.2.1,(r3.2.2.2.2.2.2.2.2.2.2.2.2.2.2.1,(r3.2.2.2.2.2.2.2.2.2.2.2.2.2.2.2.1,(r3.2.2.2.2.2.2.2.2.2.2.2.2.2.2.2.2.1,(r3.2.2.2.2.2.2.2.2.2.2.2.2.2.2.2.2.2.1,(r3.2.2.2.2.2.2.2.2.2.2.2.2.2.2.2.2.2.2.1,(r3.2.2.2.2.2.2.2.2.2.2.2.2.2.2.2.2.2.2.2.1,(r3.2.2.2.2.2.2.2.2.2.2.2.2.2.2.2.2.2.2.2.2.1,(r3.2.2.2.2.2.2.2.2.2.2.2.2.2.2.2.2.2.2.2.2.2.1,(r3.2.2.2.2.2.2.2.2.2.2.2.2.2.2.2.2.2.2.2.2.2.2.1,(r3.2.2.2.2.2.2.2.2.2.2.2.2.2.2.2.2.2.2.2.2.2.2.2.1,r3.2.2.2.2.2.2.2.2.2.2.2.2.2.2.2.2.2.2.2.2.2.2.2.2)))))))))))))))))))))))))))))))))))))))))))))))))
      else
       bif (c2==(UInt8.ofNat 3)) then
        (mdoemak fu m.1.1 m.1.2 m.2 c.1 c.2.1 ((c.2.2.1.toNat:Nat):Int) c.2.2.2.1.1 c.2.2.2.1.2 c.2.2.2.2.1 c.2.2.2.2.2.1.1 c.2.2.2.2.2.1.2 c.2.2.2.2.2.2.1 c.2.2.2.2.2.2.2.1 c.2.2.2.2.2.2.2.2.1 c.2.2.2.2.2.2.2.2.2 c.1 c.2.1 0 0 0 false 0 false 0).bind fun r4=>
        some (r4.1,(m.1.1,(m.1.2,(m.2,(c.1,(c.2.1,(((c.2.2.1.toNat:Nat):Int),(c.2.2.2.1.1,(c.2.2.2.1.2,(c.2.2.2.2.1,(c.2.2.2.2.2.1.1,(c.2.2.2.2.2.1.2,(c.2.2.2.2.2.2.1,(c.2.2.2.2.2.2.2.1,(c.2.2.2.2.2.2.2.2.1,(c.2.2.2.2.2.2.2.2.2,(0,(0,(0,(0,(0,(0,(false,(0,(false,(0,(r4.2.1,(r4.2.2.1,(r4.2.2.2.1,(r4.2.2.2.2.1,(r4.2.2.2.2.2.1,(r4.2.2.2.2.2.2.1,(r4.2.2.2.2.2.2.2.1,(r4.2.2.2.2.2.2.2.2.1,(r4.2.2.2.2.2.2.2.2.2.1,(r4.2.2.2.2.2.2.2.2.2.2.1,(r4.2.2.2.2.2.2.2.2.2.2.2.1,(r4.2.2.2.2.2.2.2.2.2.2.2.2.1,(r4.2.2.2.2.2.2.2.2.2.2.2.2.2.1,(r4.2.2.2.2.2.2.2.2.2.2.2.2.2.2.1,(r4.2.2.2.2.2.2.2.2.2.2.2.2.2.2.2.1,(r4.2.2.2.2.2.2.2.2.2.2.2.2.2.2.2.2.1,(r4.2.2.2.2.2.2.2.2.2.2.2.2.2.2.2.2.2.1,(r4.2.2.2.2.2.2.2.2.2.2.2.2.2.2.2.2.2.2.1,(r4.2.2.2.2.2.2.2.2.2.2.2.2.2.2.2.2.2.2.2.1,(r4.2.2.2.2.2.2.2.2.2.2.2.2.2.2.2.2.2.2.2.2.1,(r4.2.2.2.2.2.2.2.2.2.2.2.2.2.2.2.2.2.2.2.2.2.1,(r4.2.2.2.2.2.2.2.2.2.2.2.2.2.2.2.2.2.2.2.2.2.2.1,(r4.2.2.2.2.2.2.2.2.2.2.2.2.2.2.2.2.2.2.2.2.2.2.2.1,r4.2.2.2.2.2.2.2.2.2.2.2.2.2.2.2.2.2.2.2.2.2.2.2.2)))))))))))))))))))))))))))))))))))))))))))))))))
       else
        bif (c2==(UInt8.ofNat 4)) then
         (mdoerea fu m.1.1 m.1.2 m.2 c.1 c.2.1 ((c.2.2.1.toNat:Nat):Int) c.2.2.2.1.1 c.2.2.2.1.2 c.2.2.2.2.1 c.2.2.2.2.2.1.1 c.2.2.2.2.2.1.2 c.2.2.2.2.2.2.1 c.2.2.2.2.2.2.2.1 c.2.2.2.2.2.2.2.2.1 c.2.2.2.2.2.2.2.2.2 c.1 c.2.1 0 0 0 false 0 false 0).bind fun r5=>
         Empty.elim r5
        else
         bif (c2==(UInt8.ofNat 5)) then
          (mdoewri fu m.1.1 m.1.2 m.2 c.1 c.2.1 ((c.2.2.1.toNat:Nat):Int) c.2.2.2.1.1 c.2.2.2.1.2 c.2.2.2.2.1 c.2.2.2.2.2.1.1 c.2.2.2.2.2.1.2 c.2.2.2.2.2.2.1 c.2.2.2.2.2.2.2.1 c.2.2.2.2.2.2.2.2.1 c.2.2.2.2.2.2.2.2.2 c.1 c.2.1 0 0 0 false 0 false 0).bind fun r6=>
          Empty.elim r6
         else
          bif (c2==(UInt8.ofNat 6)) then
           (mdoesiz fu m.1.1 m.1.2 m.2 c.1 c.2.1 ((c.2.2.1.toNat:Nat):Int) c.2.2.2.1.1 c.2.2.2.1.2 c.2.2.2.2.1 c.2.2.2.2.2.1.1 c.2.2.2.2.2.1.2 c.2.2.2.2.2.2.1 c.2.2.2.2.2.2.2.1 c.2.2.2.2.2.2.2.2.1 c.2.2.2.2.2.2.2.2.2 c.1 c.2.1 0 0 0 false 0 false 0).bind fun r7=>
           Empty.elim r7
          else
           bif (c2==(UInt8.ofNat 7)) then
            (mdoerem fu m.1.1 m.1.2 m.2 c.1 c.2.1 ((c.2.2.1.toNat:Nat):Int) c.2.2.2.1.1 c.2.2.2.1.2 c.2.2.2.2.1 c.2.2.2.2.2.1.1 c.2.2.2.2.2.1.2 c.2.2.2.2.2.2.1 c.2.2.2.2.2.2.2.1 c.2.2.2.2.2.2.2.2.1 c.2.2.2.2.2.2.2.2.2 c.1 c.2.1 0 0 0 false 0 false 0).bind fun r8=>
            Empty.elim r8
           else
            bif (c2==(UInt8.ofNat 8)) then
             (mdoerem fu m.1.1 m.1.2 m.2 c.1 c.2.1 ((c.2.2.1.toNat:Nat):Int) c.2.2.2.1.1 c.2.2.2.1.2 c.2.2.2.2.1 c.2.2.2.2.2.1.1 c.2.2.2.2.2.1.2 c.2.2.2.2.2.2.1 c.2.2.2.2.2.2.2.1 c.2.2.2.2.2.2.2.2.1 c.2.2.2.2.2.2.2.2.2 c.1 c.2.1 0 0 0 false 0 false 0).bind fun r9=>
             Empty.elim r9
            else
             bif (c2==(UInt8.ofNat 9)) then
              (mdoeren fu m.1.1 m.1.2 m.2 c.1 c.2.1 ((c.2.2.1.toNat:Nat):Int) c.2.2.2.1.1 c.2.2.2.1.2 c.2.2.2.2.1 c.2.2.2.2.2.1.1 c.2.2.2.2.2.1.2 c.2.2.2.2.2.2.1 c.2.2.2.2.2.2.2.1 c.2.2.2.2.2.2.2.2.1 c.2.2.2.2.2.2.2.2.2 c.1 c.2.1 0 0 0 false 0 false 0).bind fun r10=>
              Empty.elim r10
             else
              bif (c2==(UInt8.ofNat 10)) then
               (mdoelis fu m.1.1 m.1.2 m.2 c.1 c.2.1 ((c.2.2.1.toNat:Nat):Int) c.2.2.2.1.1 c.2.2.2.1.2 c.2.2.2.2.1 c.2.2.2.2.2.1.1 c.2.2.2.2.2.1.2 c.2.2.2.2.2.2.1 c.2.2.2.2.2.2.2.1 c.2.2.2.2.2.2.2.2.1 c.2.2.2.2.2.2.2.2.2 c.1 c.2.1 0 0 0 false 0 false 0).bind fun r11=>
               Empty.elim r11
              else
               bif (c2==(UInt8.ofNat 11)) then
                (mdoeget fu m.1.1 m.1.2 m.2 c.1 c.2.1 ((c.2.2.1.toNat:Nat):Int) c.2.2.2.1.1 c.2.2.2.1.2 c.2.2.2.2.1 c.2.2.2.2.2.1.1 c.2.2.2.2.2.1.2 c.2.2.2.2.2.2.1 c.2.2.2.2.2.2.2.1 c.2.2.2.2.2.2.2.2.1 c.2.2.2.2.2.2.2.2.2 c.1 c.2.1 0 0 0 false 0 false 0).bind fun r12=>
                Empty.elim r12
               else
                bif (c2==(UInt8.ofNat 12)) then
                 (mdoesta fu m.1.1 m.1.2 m.2 c.1 c.2.1 ((c.2.2.1.toNat:Nat):Int) c.2.2.2.1.1 c.2.2.2.1.2 c.2.2.2.2.1 c.2.2.2.2.2.1.1 c.2.2.2.2.2.1.2 c.2.2.2.2.2.2.1 c.2.2.2.2.2.2.2.1 c.2.2.2.2.2.2.2.2.1 c.2.2.2.2.2.2.2.2.2 c.1 c.2.1 0 0 0 false 0 false 0).bind fun r13=>
                 some (r13.1,(m.1.1,(m.1.2,(m.2,(c.1,(c.2.1,(((c.2.2.1.toNat:Nat):Int),(c.2.2.2.1.1,(c.2.2.2.1.2,(c.2.2.2.2.1,(c.2.2.2.2.2.1.1,(c.2.2.2.2.2.1.2,(c.2.2.2.2.2.2.1,(c.2.2.2.2.2.2.2.1,(c.2.2.2.2.2.2.2.2.1,(c.2.2.2.2.2.2.2.2.2,(0,(0,(0,(0,(0,(0,(false,(0,(false,(0,(r13.2.1,(r13.2.2.1,(r13.2.2.2.1,(r13.2.2.2.2.1,(r13.2.2.2.2.2.1,(r13.2.2.2.2.2.2.1,(r13.2.2.2.2.2.2.2.1,(r13.2.2.2.2.2.2.2.2.1,(r13.2.2.2.2.2.2.2.2.2.1,(r13.2.2.2.2.2.2.2.2.2.2.1,(r13.2.2.2.2.2.2.2.2.2.2.2.1,(r13.2.2.2.2.2.2.2.2.2.2.2.2.1,(r13.2.2.2.2.2.2.2.2.2.2.2.2.2.1,(r13.2.2.2.2.2.2.2.2.2.2.2.2.2.2.1,(r13.2.2.2.2.2.2.2.2.2.2.2.2.2.2.2.1,(r13.2.2.2.2.2.2.2.2.2.2.2.2.2.2.2.2.1,(r13.2.2.2.2.2.2.2.2.2.2.2.2.2.2.2.2.2.1,(r13.2.2.2.2.2.2.2.2.2.2.2.2.2.2.2.2.2.2.1,(r13.2.2.2.2.2.2.2.2.2.2.2.2.2.2.2.2.2.2.2.1,(r13.2.2.2.2.2.2.2.2.2.2.2.2.2.2.2.2.2.2.2.2.1,(r13.2.2.2.2.2.2.2.2.2.2.2.2.2.2.2.2.2.2.2.2.2.1,(r13.2.2.2.2.2.2.2.2.2.2.2.2.2.2.2.2.2.2.2.2.2.2.1,(r13.2.2.2.2.2.2.2.2.2.2.2.2.2.2.2.2.2.2.2.2.2.2.2.1,r13.2.2.2.2.2.2.2.2.2.2.2.2.2.2.2.2.2.2.2.2.2.2.2.2)))))))))))))))))))))))))))))))))))))))))))))))))
                else
                 none) fun o=>
    some (o.1,(o.2.1,(o.2.2.1,(o.2.2.2.1,(o.2.2.2.2.1,(o.2.2.2.2.2.1,(o.2.2.2.2.2.2.1,(o.2.2.2.2.2.2.2.1,(o.2.2.2.2.2.2.2.2.1,(o.2.2.2.2.2.2.2.2.2.1,(o.2.2.2.2.2.2.2.2.2.2.1,(o.2.2.2.2.2.2.2.2.2.2.2.1,(o.2.2.2.2.2.2.2.2.2.2.2.2.1,(o.2.2.2.2.2.2.2.2.2.2.2.2.2.1,(o.2.2.2.2.2.2.2.2.2.2.2.2.2.2.1,(o.2.2.2.2.2.2.2.2.2.2.2.2.2.2.2.1,(o.2.2.2.2.2.2.2.2.2.2.2.2.2.2.2.2.1,(o.2.2.2.2.2.2.2.2.2.2.2.2.2.2.2.2.2.1,(o.2.2.2.2.2.2.2.2.2.2.2.2.2.2.2.2.2.2.1,(o.2.2.2.2.2.2.2.2.2.2.2.2.2.2.2.2.2.2.2.1,(o.2.2.2.2.2.2.2.2.2.2.2.2.2.2.2.2.2.2.2.2.1,(o.2.2.2.2.2.2.2.2.2.2.2.2.2.2.2.2.2.2.2.2.2.1,(o.2.2.2.2.2.2.2.2.2.2.2.2.2.2.2.2.2.2.2.2.2.2.1,(o.2.2.2.2.2.2.2.2.2.2.2.2.2.2.2.2.2.2.2.2.2.2.2.1,(o.2.2.2.2.2.2.2.2.2.2.2.2.2.2.2.2.2.2.2.2.2.2.2.2.1,(o.2.2.2.2.2.2.2.2.2.2.2.2.2.2.2.2.2.2.2.2.2.2.2.2.2.1,(o.2.2.2.2.2.2.2.2.2.2.2.2.2.2.2.2.2.2.2.2.2.2.2.2.2.2.1,(o.2.2.2.2.2.2.2.2.2.2.2.2.2.2.2.2.2.2.2.2.2.2.2.2.2.2.2.1,(o.2.2.2.2.2.2.2.2.2.2.2.2.2.2.2.2.2.2.2.2.2.2.2.2.2.2.2.2.1,(o.2.2.2.2.2.2.2.2.2.2.2.2.2.2.2.2.2.2.2.2.2.2.2.2.2.2.2.2.2.1,(o.2.2.2.2.2.2.2.2.2.2.2.2.2.2.2.2.2.2.2.2.2.2.2.2.2.2.2.2.2.2.1,(o.2.2.2.2.2.2.2.2.2.2.2.2.2.2.2.2.2.2.2.2.2.2.2.2.2.2.2.2.2.2.2.1,(o.2.2.2.2.2.2.2.2.2.2.2.2.2.2.2.2.2.2.2.2.2.2.2.2.2.2.2.2.2.2.2.2.1,(o.2.2.2.2.2.2.2.2.2.2.2.2.2.2.2.2.2.2.2.2.2.2.2.2.2.2.2.2.2.2.2.2.2.1,(o.2.2.2.2.2.2.2.2.2.2.2.2.2.2.2.2.2.2.2.2.2.2.2.2.2.2.2.2.2.2.2.2.2.2.1,(o.2.2.2.2.2.2.2.2.2.2.2.2.2.2.2.2.2.2.2.2.2.2.2.2.2.2.2.2.2.2.2.2.2.2.2.1,(o.2.2.2.2.2.2.2.2.2.2.2.2.2.2.2.2.2.2.2.2.2.2.2.2.2.2.2.2.2.2.2.2.2.2.2.2.1,(o.2.2.2.2.2.2.2.2.2.2.2.2.2.2.2.2.2.2.2.2.2.2.2.2.2.2.2.2.2.2.2.2.2.2.2.2.2.1,(o.2.2.2.2.2.2.2.2.2.2.2.2.2.2.2.2.2.2.2.2.2.2.2.2.2.2.2.2.2.2.2.2.2.2.2.2.2.2.1,(o.2.2.2.2.2.2.2.2.2.2.2.2.2.2.2.2.2.2.2.2.2.2.2.2.2.2.2.2.2.2.2.2.2.2.2.2.2.2.2.1,(o.2.2.2.2.2.2.2.2.2.2.2.2.2.2.2.2.2.2.2.2.2.2.2.2.2.2.2.2.2.2.2.2.2.2.2.2.2.2.2.2.1,(o.2.2.2.2.2.2.2.2.2.2.2.2.2.2.2.2.2.2.2.2.2.2.2.2.2.2.2.2.2.2.2.2.2.2.2.2.2.2.2.2.2.1,(o.2.2.2.2.2.2.2.2.2.2.2.2.2.2.2.2.2.2.2.2.2.2.2.2.2.2.2.2.2.2.2.2.2.2.2.2.2.2.2.2.2.2.1,(o.2.2.2.2.2.2.2.2.2.2.2.2.2.2.2.2.2.2.2.2.2.2.2.2.2.2.2.2.2.2.2.2.2.2.2.2.2.2.2.2.2.2.2.1,(o.2.2.2.2.2.2.2.2.2.2.2.2.2.2.2.2.2.2.2.2.2.2.2.2.2.2.2.2.2.2.2.2.2.2.2.2.2.2.2.2.2.2.2.2.1,(o.2.2.2.2.2.2.2.2.2.2.2.2.2.2.2.2.2.2.2.2.2.2.2.2.2.2.2.2.2.2.2.2.2.2.2.2.2.2.2.2.2.2.2.2.2.1,(o.2.2.2.2.2.2.2.2.2.2.2.2.2.2.2.2.2.2.2.2.2.2.2.2.2.2.2.2.2.2.2.2.2.2.2.2.2.2.2.2.2.2.2.2.2.2.1,(o.2.2.2.2.2.2.2.2.2.2.2.2.2.2.2.2.2.2.2.2.2.2.2.2.2.2.2.2.2.2.2.2.2.2.2.2.2.2.2.2.2.2.2.2.2.2.2.1,(o.2.2.2.2.2.2.2.2.2.2.2.2.2.2.2.2.2.2.2.2.2.2.2.2.2.2.2.2.2.2.2.2.2.2.2.2.2.2.2.2.2.2.2.2.2.2.2.2.1,o.2.2.2.2.2.2.2.2.2.2.2.2.2.2.2.2.2.2.2.2.2.2.2.2.2.2.2.2.2.2.2.2.2.2.2.2.2.2.2.2.2.2.2.2.2.2.2.2.2)))))))))))))))))))))))))))))))))))))))))))))))))
   else
    some (179,(m.1.1,(m.1.2,(m.2,(c.1,(c.2.1,(((c.2.2.1.toNat:Nat):Int),(c.2.2.2.1.1,(c.2.2.2.1.2,(c.2.2.2.2.1,(c.2.2.2.2.2.1.1,(c.2.2.2.2.2.1.2,(c.2.2.2.2.2.2.1,(c.2.2.2.2.2.2.2.1,(c.2.2.2.2.2.2.2.2.1,(c.2.2.2.2.2.2.2.2.2,(0,(0,(0,(0,(0,(0,(false,(0,(false,(0,(m.1.1,(m.1.2,(m.2,(c.1,(c.2.1,(((c.2.2.1.toNat:Nat):Int),(c.2.2.2.1.1,(c.2.2.2.1.2,(c.2.2.2.2.1,(c.2.2.2.2.2.1.1,(c.2.2.2.2.2.1.2,(c.2.2.2.2.2.2.1,(c.2.2.2.2.2.2.2.1,(c.2.2.2.2.2.2.2.2.1,(c.2.2.2.2.2.2.2.2.2,(c.1,(c.2.1,(0,(0,(0,(false,(0,(false,0)))))))))))))))))))))))))))))))))))))))))))))))))) fun o1=>
  bif (!(o1.1==0)) then
   (mcop fu (o1.2.1,o1.2.2.1)).bind fun r14=>
   (model_Do_l0_it fu o1 (0,(o1.2.2.2.2.1,(o1.2.2.2.2.2.1,(o1.2.2.2.2.2.2.1,(o1.2.2.2.2.2.2.2.1,(o1.2.2.2.2.2.2.2.2.1,(o1.2.2.2.2.2.2.2.2.2.1,(o1.2.2.2.2.2.2.2.2.2.2.1,(o1.2.2.2.2.2.2.2.2.2.2.2.1,(o1.2.2.2.2.2.2.2.2.2.2.2.2.1,(o1.2.2.2.2.2.2.2.2.2.2.2.2.2.1,(o1.2.2.2.2.2.2.2.2.2.2.2.2.2.2.1,(o1.2.2.2.2.2.2.2.2.2.2.2.2.2.2.2.1,(o1.2.2.2.2.2.2.2.2.2.2.2.2.2.2.2.2.1,(o1.2.2.2.2.2.2.2.2.2.2.2.2.2.2.2.2.2.1,(o1.2.2.2.2.2.2.2.2.2.2.2.2.2.2.2.2.2.2.1,(o1.2.2.2.2.2.2.2.2.2.2.2.2.2.2.2.2.2.2.2.1,(o1.2.2.2.2.2.2.2.2.2.2.2.2.2.2.2.2.2.2.2.2.1,(o1.2.2.2.2.2.2.2.2.2.2.2.2.2.2.2.2.2.2.2.2.2.1,(o1.2.2.2.2.2.2.2.2.2.2.2.2.2.2.2.2.2.2.2.2.2.2.1,(o1.2.2.2.2.2.2.2.2.2.2.2.2.2.2.2.2.2.2.2.2.2.2.2.1,(o1.2.2.2.2.2.2.2.2.2.2.2.2.2.2.2.2.2.2.2.2.2.2.2.2.1,(o1.2.2.2.2.2.2.2.2.2.2.2.2.2.2.2.2.2.2.2.2.2.2.2.2.2.1,(r14.1,(r14.2,[])))))))))))))))))))))))))).bind fun o2=>
   some (o2.2.2.2.2.2.2.2.2.2.2.2.2.2.2.2.2.2.2.2.2.2.2.1,(o2.1,(o2.2.1,(o1.1,(0,(0,(false,(0,(false,(0,(o2.2.2.2.2.2.2.2.2.2.2.2.2.2.2.2.2.2.2.2.2.2.2.2.1,o2.2.2.2.2.2.2.2.2.2.2.2.2.2.2.2.2.2.2.2.2.2.2.2.2)))))))))))
  else
   (mdoemad fu o1.2.2.2.2.2.2.2.2.2.2.2.2.2.2.2.2.2.2.2.2.2.2.2.2.2.2.1 o1.2.2.2.2.2.2.2.2.2.2.2.2.2.2.2.2.2.2.2.2.2.2.2.2.2.2.2.1 o1.2.2.2.2.2.2.2.2.2.2.2.2.2.2.2.2.2.2.2.2.2.2.2.2.2.2.2.2.1 o1.2.2.2.2.2.2.2.2.2.2.2.2.2.2.2.2.2.2.2.2.2.2.2.2.2.2.2.2.2.1 o1.2.2.2.2.2.2.2.2.2.2.2.2.2.2.2.2.2.2.2.2.2.2.2.2.2.2.2.2.2.2.1 o1.2.2.2.2.2.2.2.2.2.2.2.2.2.2.2.2.2.2.2.2.2.2.2.2.2.2.2.2.2.2.2.1 o1.2.2.2.2.2.2.2.2.2.2.2.2.2.2.2.2.2.2.2.2.2.2.2.2.2.2.2.2.2.2.2.2.1 o1.2.2.2.2.2.2.2.2.2.2.2.2.2.2.2.2.2.2.2.2.2.2.2.2.2.2.2.2.2.2.2.2.2.1 o1.2.2.2.2.2.2.2.2.2.2.2.2.2.2.2.2.2.2.2.2.2.2.2.2.2.2.2.2.2.2.2.2.2.2.1 o1.2.2.2.2.2.2.2.2.2.2.2.2.2.2.2.2.2.2.2.2.2.2.2.2.2.2.2.2.2.2.2.2.2.2.2.1 o1.2.2.2.2.2.2.2.2.2.2.2.2.2.2.2.2.2.2.2.2.2.2.2.2.2.2.2.2.2.2.2.2.2.2.2.2.1 o1.2.2.2.2.2.2.2.2.2.2.2.2.2.2.2.2.2.2.2.2.2.2.2.2.2.2.2.2.2.2.2.2.2.2.2.2.2.1 o1.2.2.2.2.2.2.2.2.2.2.2.2.2.2.2.2.2.2.2.2.2.2.2.2.2.2.2.2.2.2.2.2.2.2.2.2.2.2.1 o1.2.2.2.2.2.2.2.2.2.2.2.2.2.2.2.2.2.2.2.2.2.2.2.2.2.2.2.2.2.2.2.2.2.2.2.2.2.2.2.1 o1.2.2.2.2.2.2.2.2.2.2.2.2.2.2.2.2.2.2.2.2.2.2.2.2.2.2.2.2.2.2.2.2.2.2.2.2.2.2.2.2.1 o1.2.2.2.2.2.2.2.2.2.2.2.2.2.2.2.2.2.2.2.2.2.2.2.2.2.2.2.2.2.2.2.2.2.2.2.2.2.2.2.2.2.1 o1.2.2.2.2.2.2.2.2.2.2.2.2.2.2.2.2.2.2.2.2.2.2.2.2.2.2.2.2.2.2.2.2.2.2.2.2.2.2.2.2.2.2.1 o1.2.2.2.2.2.2.2.2.2.2.2.2.2.2.2.2.2.2.2.2.2.2.2.2.2.2.2.2.2.2.2.2.2.2.2.2.2.2.2.2.2.2.2.1 o1.2.2.2.2.2.2.2.2.2.2.2.2.2.2.2.2.2.2.2.2.2.2.2.2.2.2.2.2.2.2.2.2.2.2.2.2.2.2.2.2.2.2.2.2.1 o1.2.2.2.2.2.2.2.2.2.2.2.2.2.2.2.2.2.2.2.2.2.2.2.2.2.2.2.2.2.2.2.2.2.2.2.2.2.2.2.2.2.2.2.2.2.1 o1.2.2.2.2.2.2.2.2.2.2.2.2.2.2.2.2.2.2.2.2.2.2.2.2.2.2.2.2.2.2.2.2.2.2.2.2.2.2.2.2.2.2.2.2.2.2.1 o1.2.2.2.2.2.2.2.2.2.2.2.2.2.2.2.2.2.2.2.2.2.2.2.2.2.2.2.2.2.2.2.2.2.2.2.2.2.2.2.2.2.2.2.2.2.2.2.1 o1.2.2.2.2.2.2.2.2.2.2.2.2.2.2.2.2.2.2.2.2.2.2.2.2.2.2.2.2.2.2.2.2.2.2.2.2.2.2.2.2.2.2.2.2.2.2.2.2.1 o1.2.2.2.2.2.2.2.2.2.2.2.2.2.2.2.2.2.2.2.2.2.2.2.2.2.2.2.2.2.2.2.2.2.2.2.2.2.2.2.2.2.2.2.2.2.2.2.2.2).bind fun r17=>
   some (r17.1,(o1.2.2.2.2.2.2.2.2.2.2.2.2.2.2.2.2.2.2.2.2.2.2.2.2.2.2.2.2.2.2.2.2.2.2.2.2.2.2.2.2.2.1,(o1.2.2.2.2.2.2.2.2.2.2.2.2.2.2.2.2.2.2.2.2.2.2.2.2.2.2.2.2.2.2.2.2.2.2.2.2.2.2.2.2.2.2.1,(o1.2.2.2.2.2.2.2.2.2.2.2.2.2.2.2.2.2.2.2.2.2.2.2.2.2.2.2.2.2.2.2.2.2.2.2.2.2.2.2.2.2.2.2.1,(o1.2.2.2.2.2.2.2.2.2.2.2.2.2.2.2.2.2.2.2.2.2.2.2.2.2.2.2.2.2.2.2.2.2.2.2.2.2.2.2.2.2.2.2.2.1,(o1.2.2.2.2.2.2.2.2.2.2.2.2.2.2.2.2.2.2.2.2.2.2.2.2.2.2.2.2.2.2.2.2.2.2.2.2.2.2.2.2.2.2.2.2.2.1,(o1.2.2.2.2.2.2.2.2.2.2.2.2.2.2.2.2.2.2.2.2.2.2.2.2.2.2.2.2.2.2.2.2.2.2.2.2.2.2.2.2.2.2.2.2.2.2.1,(o1.2.2.2.2.2.2.2.2.2.2.2.2.2.2.2.2.2.2.2.2.2.2.2.2.2.2.2.2.2.2.2.2.2.2.2.2.2.2.2.2.2.2.2.2.2.2.2.1,(o1.2.2.2.2.2.2.2.2.2.2.2.2.2.2.2.2.2.2.2.2.2.2.2.2.2.2.2.2.2.2.2.2.2.2.2.2.2.2.2.2.2.2.2.2.2.2.2.2.1,(o1.2.2.2.2.2.2.2.2.2.2.2.2.2.2.2.2.2.2.2.2.2.2.2.2.2.2.2.2.2.2.2.2.2.2.2.2.2.2.2.2.2.2.2.2.2.2.2.2.2,(r17.2.2.2.2.2.2.2.2.2.2.2.2.2.2.2.2.2.2.2.2.2.2.2.2.2.1,r17.2.2.2.2.2.2.2.2.2.2.2.2.2.2.2.2.2.2.2.2.2.2.2.2.2.2)))))))))))
 else
  (mcop fu (m.1.1,m.1.2)).bind fun r18=>
  (model_Do_l1_it fu m (0,(c.1,(c.2.1,(((c.2.2.1.toNat:Nat):Int),(c.2.2.2.1.1,(c.2.2.2.1.2,(c.2.2.2.2.1,(c.2.2.2.2.2.1.1,(c.2.2.2.2.2.1.2,(c.2.2.2.2.2.2.1,(c.2.2.2.2.2.2.2.1,(c.2.2.2.2.2.2.2.2.1,(c.2.2.2.2.2.2.2.2.2,(0,(0,(0,(0,(0,(0,(false,(0,(false,(0,(r18.1,(r18.2,[])))))))))))))))))))))))))).bind fun o3=>
  some (o3.2.2.2.2.2.2.2.2.2.2.2.2.2.2.2.2.2.2.2.2.2.2.1,(o3.1,(o3.2.1,(180,(0,(0,(false,(0,(false,(0,(o3.2.2.2.2.2.2.2.2.2.2.2.2.2.2.2.2.2.2.2.2.2.2.2.1,o3.2.2.2.2.2.2.2.2.2.2.2.2.2.2.2.2.2.2.2.2.2.2.2.2)))))))))))
theorem jtZ: @Go.Ab.D.model_Do= @Go.Ab.V.model_Do:=by
 delta Go.Ab.D.model_Do Go.Ab.V.model_Do
 rw[jDZ,kBZ,lQZ,dyZ,jSZ,dvZ]
 try kernel_rfl
def sClo5(fu:Nat)(s:List (Bool)):Option (List (Bool)):=
 need ((Nat.ble ((0+s.length)*1) room)&&(Nat.ble (0+s.length) room))<|
 some s
theorem mJZ: @Go.Ab.D.sClo5= @Go.Ab.V.sClo5:=by
 funext fu s;show nilQ _ _=_;cases s with
 |nil=>exact(if_pos fun _=>rfl).trans rfl
 |cons a l=>exact(if_pos (fun h=>by cases h)).trans rfl
def lstanex(fu:Nat)(s:qT7)(l:List (qT1))(i:Int):Option ((List (Bool)×(List (qT0)×(Int×(List (List (UInt8))×Bool))))):=
 (lmay fu l s.1 i).bind fun r=>
 bif (!r) then
  some (s.1,(s.2.1.1,(s.2.1.2,(s.2.2,false))))
 else
  (idx? i l.length).bind fun q=>
  (l)[q]?.bind fun r1=>
  (model_Do fu s.2 r1.1).bind fun r2=>
  Option.bind (α:=((Bool×(List (Bool)×(List (qT0)×(Int×(List (List (UInt8))×(Int×(Int×(List (qT0)×List (List (UInt8)))))))))))) (
   (idx? i l.length).bind fun q1=>
   (l)[q1]?.bind fun r3=>
   bif (decide (r3.2.2.2>0)) then
    (idx? i l.length).bind fun q2=>
    (l)[q2]?.bind fun r4=>
    (lsam fu (r2.2.1,(r2.2.2.1,(r2.2.2.2.1,((r2.2.2.2.2.1,r2.2.2.2.2.2.1),(r2.2.2.2.2.2.2.1,(r2.2.2.2.2.2.2.2.1,([],([],(r2.2.2.2.2.2.2.2.2.1,r2.2.2.2.2.2.2.2.2.2.1))))))))) r4.2.1).bind fun r5=>
    some ((!r5),(s.1,(s.2.1.1,(s.2.1.2,(s.2.2,(0,(r2.1,r2.2.2.2.2.2.2.2.2.2.2)))))))
   else
    some (false,(s.1,(s.2.1.1,(s.2.1.2,(s.2.2,(0,(r2.1,r2.2.2.2.2.2.2.2.2.2.2)))))))) fun o=>
  bif o.1 then
   some (o.2.1,(o.2.2.1,(o.2.2.2.1,(o.2.2.2.2.1,false))))
  else
   (sClo5 fu o.2.1).bind fun r6=>
   (idx? i r6.length).bind fun q3=>
   (r6)[q3]?.bind fun r7=>
   some ((List.set r6 q3 true),(o.2.2.2.2.2.2.2.1,(o.2.2.2.2.2.2.1,(o.2.2.2.2.2.2.2.2,true))))
theorem gFZ: @Go.Ab.D.lstanex= @Go.Ab.V.lstanex:=by
 delta Go.Ab.D.lstanex Go.Ab.V.lstanex
 rw[jtZ,mJZ]
 try kernel_rfl
def lJud_l0(fu:Nat)(h2:List (qT1))(x1:Int)(h5:List (qT1))(h6:List (qT7))(h7:List (Bool))(h8:List (qT0))(h9:Int)(h10:List (List (UInt8)))(h11:List (qT7)):Option ((Int×qT33)⊕((List (qT1)×(List (qT7)×List (qT7))))):=
 bif (decide (x1<((h2.length:Nat):Int))) then
  (lstanex fu (h7,((h8,h9),h10)) h5 x1).bind fun r4=>
  Option.bind (α:=((Bool×(List (qT1)×(List (qT7)×(List (Bool)×(List (qT0)×(Int×(List (List (UInt8))×(List (Bool)×(List (qT0)×(Int×(List (List (UInt8))×List (qT7)))))))))))))) (
   bif r4.2.2.2.2 then
    (sConFun fu h6 r4.1 r4.2.1 r4.2.2.1 r4.2.2.2.1).bind fun r5=>
    some ((!r5.1),(h5,(r5.2.1,(h7,(h8,(h9,(h10,(r5.2.2.1,(r5.2.2.2.1,(r5.2.2.2.2.1,(r5.2.2.2.2.2,h11)))))))))))
   else
    some (false,(h5,(h6,(h7,(h8,(h9,(h10,(r4.1,(r4.2.1,(r4.2.2.1,(r4.2.2.2.1,h11)))))))))))) fun o1=>
  Option.bind (α:=(qT33)) (
   bif o1.1 then
    need ((Nat.ble ((o1.2.2.1.length+1)*80) room)&&(Nat.ble (o1.2.2.1.length+1) room))<|
    some (o1.2.1,((o1.2.2.1++[(o1.2.2.2.2.2.2.2.1,((o1.2.2.2.2.2.2.2.2.1,o1.2.2.2.2.2.2.2.2.2.1),o1.2.2.2.2.2.2.2.2.2.2.1))]),(o1.2.2.2.1,(o1.2.2.2.2.1,(o1.2.2.2.2.2.1,(o1.2.2.2.2.2.2.1,o1.2.2.2.2.2.2.2.2.2.2.2))))))
   else
    some (o1.2.1,(o1.2.2.1,(o1.2.2.2.1,(o1.2.2.2.2.1,(o1.2.2.2.2.2.1,(o1.2.2.2.2.2.2.1,o1.2.2.2.2.2.2.2.2.2.2.2))))))) fun o2=>
  some (.inl ((IntKind.wrap .i64 (x1+1)),o2))
 else
  some (.inr (h5,(h6,h11)))
theorem k6Z: @Go.Ab.D.lJud_l0= @Go.Ab.V.lJud_l0:=by
 delta Go.Ab.D.lJud_l0 Go.Ab.V.lJud_l0
 rw[gFZ]
 try kernel_rfl
def lJud_l0_it(fu:Nat)(h2:List (qT1))(tt:(Int×qT33)):Option ((List (qT1)×(List (qT7)×List (qT7)))):=
 iter fu (fun tt=>lJud_l0 fu h2 tt.1 tt.2.1 tt.2.2.1 tt.2.2.2.1 tt.2.2.2.2.1 tt.2.2.2.2.2.1 tt.2.2.2.2.2.2.1 tt.2.2.2.2.2.2.2) tt
theorem fPZ: @Go.Ab.D.lJud_l0_it= @Go.Ab.V.lJud_l0_it:=by
 delta Go.Ab.D.lJud_l0_it Go.Ab.V.lJud_l0_it
 rw[k6Z]
 try kernel_rfl
def lJud_l1(fu:Nat)(h1:List (qT7))(x:Int)(h2:List (qT1))(h3:List (qT7))(h4:List (qT7)):Option ((Int×(List (qT1)×(List (qT7)×List (qT7))))⊕((List (qT1)×List (qT7)))):=
 bif (decide (x<((h1.length:Nat):Int))) then
  (idx? x h4.length).bind fun q1=>
  (h4)[q1]?.bind fun r3=>
  (lJud_l0_it fu h2 (0,(h2,(h3,(r3.1,(r3.2.1.1,(r3.2.1.2,(r3.2.2,h4)))))))).bind fun o3=>
  some (.inl ((IntKind.wrap .i64 (x+1)),o3))
 else
  some (.inr (h2,h3))
theorem k0Z: @Go.Ab.D.lJud_l1= @Go.Ab.V.lJud_l1:=by
 delta Go.Ab.D.lJud_l1 Go.Ab.V.lJud_l1
 rw[fPZ]
 try kernel_rfl
def lJud_l1_it(fu:Nat)(h1:List (qT7))(tt:(Int×(List (qT1)×(List (qT7)×List (qT7))))):Option ((List (qT1)×List (qT7))):=
 iter fu (fun tt=>lJud_l1 fu h1 tt.1 tt.2.1 tt.2.2.1 tt.2.2.2) tt
theorem g6Z: @Go.Ab.D.lJud_l1_it= @Go.Ab.V.lJud_l1_it:=by
 delta Go.Ab.D.lJud_l1_it Go.Ab.V.lJud_l1_it
 rw[k0Z]
 try kernel_rfl
def lJud_l2(fu:Nat)(most:Int)(h:List (qT1))(h1:List (qT7)):Option ((List (qT1)×List (qT7))⊕(Unit⊕(Bool×Int))):=
 bif (decide (((h1.length:Nat):Int)>0)) then
  (sConFun2 fu h1 h).bind fun r2=>
  bif r2.1 then
   some (.inr (.inr (true,0)))
  else
   bif (decide (((h1.length:Nat):Int)>most)) then
    some (.inr (.inr (false,5)))
   else
    (lJud_l1_it fu h1 (0,(r2.2,([],h1)))).bind fun o4=>
    some (.inl o4)
 else
  some (.inr (.inl ()))
theorem kCZ: @Go.Ab.D.lJud_l2= @Go.Ab.V.lJud_l2:=by
 delta Go.Ab.D.lJud_l2 Go.Ab.V.lJud_l2
 rw[g6Z]
 try kernel_rfl
def lJud_l2_it(fu:Nat)(most:Int)(tt:(List (qT1)×List (qT7))):Option (Unit⊕(Bool×Int)):=
 iter fu (fun tt=>lJud_l2 fu most tt.1 tt.2) tt
theorem fUZ: @Go.Ab.D.lJud_l2_it= @Go.Ab.V.lJud_l2_it:=by
 delta Go.Ab.D.lJud_l2_it Go.Ab.V.lJud_l2_it
 rw[kCZ]
 try kernel_rfl
def lJud(fu:Nat)(l:List (qT1))(most:Int):Option ((Bool×Int)):=
 (lRig fu l).bind fun r=>
 bif (!r) then
  some (false,270)
 else
  Option.bind (α:=((Bool×List (qT1)))) (
   bif (decide (most<1)) then
    some (true,l)
   else
    some ((decide (most>1000)),l)) fun o=>
  bif o.1 then
   some (false,2)
  else
   (upto? ((o.2.length:Nat):Int) room).bind fun m=>
   (upto? ((o.2.length:Nat):Int) m).bind fun q=>
   need (Nat.ble (m*1) room)<|
   (model_New fu).bind fun r1=>
   (lJud_l2_it fu most (o.2,[((List.replicate (α:=Bool) q false),((r1.2.1,r1.1),r1.2.2))])).bind fun o5=>
   match o5 with
   |.inl s=>
    some (false,0)
   |.inr o6=>
    some o6
theorem lTZ: @Go.Ab.D.lJud= @Go.Ab.V.lJud:=by
 delta Go.Ab.D.lJud Go.Ab.V.lJud
 rw[fUZ]
 try kernel_rfl
def law28_judged(fu:Nat)(l:List (qT1)):Option (Int):=
 (lJud fu l 100).bind fun r=>
 bif (!(r.2==0)) then
  some (IntKind.wrap .i64 (10+r.2))
 else
  bif r.1 then
   some 1
  else
   some 0
theorem bDZ: @Go.Ab.D.law28_judged= @Go.Ab.V.law28_judged:=by
 delta Go.Ab.D.law28_judged Go.Ab.V.law28_judged
 rw[lTZ]
 try kernel_rfl
def lOrd_l0(fu:Nat)(o:List (Int))(l:List (qT1))(x:Int)(h:List (Bool))(h1:List (qT0))(h2:Int)(h3:List (List (UInt8))):Option ((Int×qT22)⊕(qT22⊕Bool)):=
 bif (decide (x<((o.length:Nat):Int))) then
  (idx? x o.length).bind fun q1=>
  (o)[q1]?.bind fun r2=>
  Option.bind (α:=((Bool×qT22))) (
   bif (decide (r2<0)) then
    some (true,(h,(h1,(h2,h3))))
   else
    some ((decide (r2>=((l.length:Nat):Int))),(h,(h1,(h2,h3))))) fun o1=>
  bif o1.1 then
   some (.inr (.inr false))
  else
   (lstanex fu (o1.2.1,((o1.2.2.1,o1.2.2.2.1),o1.2.2.2.2)) l r2).bind fun r3=>
   bif (!r3.2.2.2.2) then
    some (.inr (.inr false))
   else
    some (.inl ((IntKind.wrap .i64 (x+1)),(r3.1,(r3.2.1,(r3.2.2.1,r3.2.2.2.1)))))
 else
  some (.inr (.inl (h,(h1,(h2,h3)))))
theorem kDZ: @Go.Ab.D.lOrd_l0= @Go.Ab.V.lOrd_l0:=by
 delta Go.Ab.D.lOrd_l0 Go.Ab.V.lOrd_l0
 rw[gFZ]
 try kernel_rfl
def lOrd_l0_it(fu:Nat)(o:List (Int))(l:List (qT1))(tt:(Int×qT22)):Option (qT22⊕Bool):=
 iter fu (fun tt=>lOrd_l0 fu o l tt.1 tt.2.1 tt.2.2.1 tt.2.2.2.1 tt.2.2.2.2) tt
theorem gPZ: @Go.Ab.D.lOrd_l0_it= @Go.Ab.V.lOrd_l0_it:=by
 delta Go.Ab.D.lOrd_l0_it Go.Ab.V.lOrd_l0_it
 rw[kDZ]
 try kernel_rfl
def lOrd(fu:Nat)(l:List (qT1))(o:List (Int)):Option (Bool):=
 (lRig fu l).bind fun r=>
 bif (!r) then
  some false
 else
  (upto? ((l.length:Nat):Int) room).bind fun m=>
  (upto? ((l.length:Nat):Int) m).bind fun q=>
  need (Nat.ble (m*1) room)<|
  (model_New fu).bind fun r1=>
  (lOrd_l0_it fu o l (0,((List.replicate (α:=Bool) q false),(r1.2.1,(r1.1,r1.2.2))))).bind fun o2=>
  match o2 with
  |.inl s=>
   (lstawho fu (s.1,((s.2.1,s.2.2.1),s.2.2.2)) l).bind fun r4=>
   some r4
  |.inr o3=>
   some o3
theorem idZ: @Go.Ab.D.lOrd= @Go.Ab.V.lOrd:=by
 delta Go.Ab.D.lOrd Go.Ab.V.lOrd
 rw[gPZ]
 try kernel_rfl
def law28_awake(fu:Nat):Option (Bool):=
 (law28_past fu 0 1 2 1 4 0 (2,1)).bind fun r=>
 (law28_past fu 1 1 1 2 3 0 (2,1)).bind fun r1=>
 (law28_past fu 1 1 1 2 3 171 (0,0)).bind fun r2=>
 (law28_past fu 0 1 2 1 0 0 (0,0)).bind fun r3=>
 Option.bind (α:=((Bool×(Int×(Int×(Int×(Int×(Int×(Int×(Int×(Int×(Int×(List UInt8×(Int×(Int×(List UInt8×(Int×(Int×(Int×(Int×(Int×(Int×(Int×(Bool×(Int×(Bool×(Int×(Int×(Int×qT6))))))))))))))))))))))))))))) (
  (byte? r.2.2.1).bind fun c=>
  (byte? r1.2.2.1).bind fun c1=>
  (law28_judged fu [((r.1,(r.2.1,(c,((r.2.2.2.1,r.2.2.2.2.1),(r.2.2.2.2.2.1,((r.2.2.2.2.2.2.1,r.2.2.2.2.2.2.2.1),(r.2.2.2.2.2.2.2.2.1,(r.2.2.2.2.2.2.2.2.2.1,(r.2.2.2.2.2.2.2.2.2.2.1,[]))))))))),((r.2.2.2.2.2.2.2.2.2.2.2.1,(r.2.2.2.2.2.2.2.2.2.2.2.2.1,(r.2.2.2.2.2.2.2.2.2.2.2.2.2.1,((r.2.2.2.2.2.2.2.2.2.2.2.2.2.2.1,r.2.2.2.2.2.2.2.2.2.2.2.2.2.2.2.1),(r.2.2.2.2.2.2.2.2.2.2.2.2.2.2.2.2.1,(r.2.2.2.2.2.2.2.2.2.2.2.2.2.2.2.2.2.1,([],([],(r.2.2.2.2.2.2.2.2.2.2.2.2.2.2.2.2.2.2.1,r.2.2.2.2.2.2.2.2.2.2.2.2.2.2.2.2.2.2.2.1))))))))),r.2.2.2.2.2.2.2.2.2.2.2.2.2.2.2.2.2.2.2.2)),((r1.1,(r1.2.1,(c1,((r1.2.2.2.1,r1.2.2.2.2.1),(r1.2.2.2.2.2.1,((r1.2.2.2.2.2.2.1,r1.2.2.2.2.2.2.2.1),(r1.2.2.2.2.2.2.2.2.1,(r1.2.2.2.2.2.2.2.2.2.1,(r1.2.2.2.2.2.2.2.2.2.2.1,[]))))))))),((r1.2.2.2.2.2.2.2.2.2.2.2.1,(r1.2.2.2.2.2.2.2.2.2.2.2.2.1,(r1.2.2.2.2.2.2.2.2.2.2.2.2.2.1,((r1.2.2.2.2.2.2.2.2.2.2.2.2.2.2.1,r1.2.2.2.2.2.2.2.2.2.2.2.2.2.2.2.1),(r1.2.2.2.2.2.2.2.2.2.2.2.2.2.2.2.2.1,(r1.2.2.2.2.2.2.2.2.2.2.2.2.2.2.2.2.2.1,([],([],(r1.2.2.2.2.2.2.2.2.2.2.2.2.2.2.2.2.2.2.1,r1.2.2.2.2.2.2.2.2.2.2.2.2.2.2.2.2.2.2.2.1))))))))),r1.2.2.2.2.2.2.2.2.2.2.2.2.2.2.2.2.2.2.2.2))]).bind fun r4=>
  bif (r4==1) then
   (byte? r.2.2.1).bind fun c2=>
   (byte? r1.2.2.1).bind fun c3=>
   (lOrd fu [((r.1,(r.2.1,(c2,((r.2.2.2.1,r.2.2.2.2.1),(r.2.2.2.2.2.1,((r.2.2.2.2.2.2.1,r.2.2.2.2.2.2.2.1),(r.2.2.2.2.2.2.2.2.1,(r.2.2.2.2.2.2.2.2.2.1,(r.2.2.2.2.2.2.2.2.2.2.1,[]))))))))),((r.2.2.2.2.2.2.2.2.2.2.2.1,(r.2.2.2.2.2.2.2.2.2.2.2.2.1,(r.2.2.2.2.2.2.2.2.2.2.2.2.2.1,((r.2.2.2.2.2.2.2.2.2.2.2.2.2.2.1,r.2.2.2.2.2.2.2.2.2.2.2.2.2.2.2.1),(r.2.2.2.2.2.2.2.2.2.2.2.2.2.2.2.2.1,(r.2.2.2.2.2.2.2.2.2.2.2.2.2.2.2.2.2.1,([],([],(r.2.2.2.2.2.2.2.2.2.2.2.2.2.2.2.2.2.2.1,r.2.2.2.2.2.2.2.2.2.2.2.2.2.2.2.2.2.2.2.1))))))))),r.2.2.2.2.2.2.2.2.2.2.2.2.2.2.2.2.2.2.2.2)),((r1.1,(r1.2.1,(c3,((r1.2.2.2.1,r1.2.2.2.2.1),(r1.2.2.2.2.2.1,((r1.2.2.2.2.2.2.1,r1.2.2.2.2.2.2.2.1),(r1.2.2.2.2.2.2.2.2.1,(r1.2.2.2.2.2.2.2.2.2.1,(r1.2.2.2.2.2.2.2.2.2.2.1,[]))))))))),((r1.2.2.2.2.2.2.2.2.2.2.2.1,(r1.2.2.2.2.2.2.2.2.2.2.2.2.1,(r1.2.2.2.2.2.2.2.2.2.2.2.2.2.1,((r1.2.2.2.2.2.2.2.2.2.2.2.2.2.2.1,r1.2.2.2.2.2.2.2.2.2.2.2.2.2.2.2.1),(r1.2.2.2.2.2.2.2.2.2.2.2.2.2.2.2.2.1,(r1.2.2.2.2.2.2.2.2.2.2.2.2.2.2.2.2.2.1,([],([],(r1.2.2.2.2.2.2.2.2.2.2.2.2.2.2.2.2.2.2.1,r1.2.2.2.2.2.2.2.2.2.2.2.2.2.2.2.2.2.2.2.1))))))))),r1.2.2.2.2.2.2.2.2.2.2.2.2.2.2.2.2.2.2.2.2))] [0,1]).bind fun r5=>
   bif r5 then
    (byte? r.2.2.1).bind fun c4=>
    (byte? r2.2.2.1).bind fun c5=>
    (law28_judged fu [((r.1,(r.2.1,(c4,((r.2.2.2.1,r.2.2.2.2.1),(r.2.2.2.2.2.1,((r.2.2.2.2.2.2.1,r.2.2.2.2.2.2.2.1),(r.2.2.2.2.2.2.2.2.1,(r.2.2.2.2.2.2.2.2.2.1,(r.2.2.2.2.2.2.2.2.2.2.1,[]))))))))),((r.2.2.2.2.2.2.2.2.2.2.2.1,(r.2.2.2.2.2.2.2.2.2.2.2.2.1,(r.2.2.2.2.2.2.2.2.2.2.2.2.2.1,((r.2.2.2.2.2.2.2.2.2.2.2.2.2.2.1,r.2.2.2.2.2.2.2.2.2.2.2.2.2.2.2.1),(r.2.2.2.2.2.2.2.2.2.2.2.2.2.2.2.2.1,(r.2.2.2.2.2.2.2.2.2.2.2.2.2.2.2.2.2.1,([],([],(r.2.2.2.2.2.2.2.2.2.2.2.2.2.2.2.2.2.2.1,r.2.2.2.2.2.2.2.2.2.2.2.2.2.2.2.2.2.2.2.1))))))))),r.2.2.2.2.2.2.2.2.2.2.2.2.2.2.2.2.2.2.2.2)),((r2.1,(r2.2.1,(c5,((r2.2.2.2.1,r2.2.2.2.2.1),(r2.2.2.2.2.2.1,((r2.2.2.2.2.2.2.1,r2.2.2.2.2.2.2.2.1),(r2.2.2.2.2.2.2.2.2.1,(r2.2.2.2.2.2.2.2.2.2.1,(r2.2.2.2.2.2.2.2.2.2.2.1,[]))))))))),((r2.2.2.2.2.2.2.2.2.2.2.2.1,(r2.2.2.2.2.2.2.2.2.2.2.2.2.1,(r2.2.2.2.2.2.2.2.2.2.2.2.2.2.1,((r2.2.2.2.2.2.2.2.2.2.2.2.2.2.2.1,r2.2.2.2.2.2.2.2.2.2.2.2.2.2.2.2.1),(r2.2.2.2.2.2.2.2.2.2.2.2.2.2.2.2.2.1,(r2.2.2.2.2.2.2.2.2.2.2.2.2.2.2.2.2.2.1,([],([],(r2.2.2.2.2.2.2.2.2.2.2.2.2.2.2.2.2.2.2.1,r2.2.2.2.2.2.2.2.2.2.2.2.2.2.2.2.2.2.2.2.1))))))))),r2.2.2.2.2.2.2.2.2.2.2.2.2.2.2.2.2.2.2.2.2))]).bind fun r6=>
    bif (r6==1) then
     (byte? r.2.2.1).bind fun c6=>
     (byte? r2.2.2.1).bind fun c7=>
     (lOrd fu [((r.1,(r.2.1,(c6,((r.2.2.2.1,r.2.2.2.2.1),(r.2.2.2.2.2.1,((r.2.2.2.2.2.2.1,r.2.2.2.2.2.2.2.1),(r.2.2.2.2.2.2.2.2.1,(r.2.2.2.2.2.2.2.2.2.1,(r.2.2.2.2.2.2.2.2.2.2.1,[]))))))))),((r.2.2.2.2.2.2.2.2.2.2.2.1,(r.2.2.2.2.2.2.2.2.2.2.2.2.1,(r.2.2.2.2.2.2.2.2.2.2.2.2.2.1,((r.2.2.2.2.2.2.2.2.2.2.2.2.2.2.1,r.2.2.2.2.2.2.2.2.2.2.2.2.2.2.2.1),(r.2.2.2.2.2.2.2.2.2.2.2.2.2.2.2.2.1,(r.2.2.2.2.2.2.2.2.2.2.2.2.2.2.2.2.2.1,([],([],(r.2.2.2.2.2.2.2.2.2.2.2.2.2.2.2.2.2.2.1,r.2.2.2.2.2.2.2.2.2.2.2.2.2.2.2.2.2.2.2.1))))))))),r.2.2.2.2.2.2.2.2.2.2.2.2.2.2.2.2.2.2.2.2)),((r2.1,(r2.2.1,(c7,((r2.2.2.2.1,r2.2.2.2.2.1),(r2.2.2.2.2.2.1,((r2.2.2.2.2.2.2.1,r2.2.2.2.2.2.2.2.1),(r2.2.2.2.2.2.2.2.2.1,(r2.2.2.2.2.2.2.2.2.2.1,(r2.2.2.2.2.2.2.2.2.2.2.1,[]))))))))),((r2.2.2.2.2.2.2.2.2.2.2.2.1,(r2.2.2.2.2.2.2.2.2.2.2.2.2.1,(r2.2.2.2.2.2.2.2.2.2.2.2.2.2.1,((r2.2.2.2.2.2.2.2.2.2.2.2.2.2.2.1,r2.2.2.2.2.2.2.2.2.2.2.2.2.2.2.2.1),(r2.2.2.2.2.2.2.2.2.2.2.2.2.2.2.2.2.1,(r2.2.2.2.2.2.2.2.2.2.2.2.2.2.2.2.2.2.1,([],([],(r2.2.2.2.2.2.2.2.2.2.2.2.2.2.2.2.2.2.2.1,r2.2.2.2.2.2.2.2.2.2.2.2.2.2.2.2.2.2.2.2.1))))))))),r2.2.2.2.2.2.2.2.2.2.2.2.2.2.2.2.2.2.2.2.2))] [1,0]).bind fun r7=>
     bif r7 then
      (byte? r.2.2.1).bind fun c8=>
      (byte? r2.2.2.1).bind fun c9=>
      (lOrd fu [((r.1,(r.2.1,(c8,((r.2.2.2.1,r.2.2.2.2.1),(r.2.2.2.2.2.1,((r.2.2.2.2.2.2.1,r.2.2.2.2.2.2.2.1),(r.2.2.2.2.2.2.2.2.1,(r.2.2.2.2.2.2.2.2.2.1,(r.2.2.2.2.2.2.2.2.2.2.1,[]))))))))),((r.2.2.2.2.2.2.2.2.2.2.2.1,(r.2.2.2.2.2.2.2.2.2.2.2.2.1,(r.2.2.2.2.2.2.2.2.2.2.2.2.2.1,((r.2.2.2.2.2.2.2.2.2.2.2.2.2.2.1,r.2.2.2.2.2.2.2.2.2.2.2.2.2.2.2.1),(r.2.2.2.2.2.2.2.2.2.2.2.2.2.2.2.2.1,(r.2.2.2.2.2.2.2.2.2.2.2.2.2.2.2.2.2.1,([],([],(r.2.2.2.2.2.2.2.2.2.2.2.2.2.2.2.2.2.2.1,r.2.2.2.2.2.2.2.2.2.2.2.2.2.2.2.2.2.2.2.1))))))))),r.2.2.2.2.2.2.2.2.2.2.2.2.2.2.2.2.2.2.2.2)),((r2.1,(r2.2.1,(c9,((r2.2.2.2.1,r2.2.2.2.2.1),(r2.2.2.2.2.2.1,((r2.2.2.2.2.2.2.1,r2.2.2.2.2.2.2.2.1),(r2.2.2.2.2.2.2.2.2.1,(r2.2.2.2.2.2.2.2.2.2.1,(r2.2.2.2.2.2.2.2.2.2.2.1,[]))))))))),((r2.2.2.2.2.2.2.2.2.2.2.2.1,(r2.2.2.2.2.2.2.2.2.2.2.2.2.1,(r2.2.2.2.2.2.2.2.2.2.2.2.2.2.1,((r2.2.2.2.2.2.2.2.2.2.2.2.2.2.2.1,r2.2.2.2.2.2.2.2.2.2.2.2.2.2.2.2.1),(r2.2.2.2.2.2.2.2.2.2.2.2.2.2.2.2.2.1,(r2.2.2.2.2.2.2.2.2.2.2.2.2.2.2.2.2.2.1,([],([],(r2.2.2.2.2.2.2.2.2.2.2.2.2.2.2.2.2.2.2.1,r2.2.2.2.2.2.2.2.2.2.2.2.2.2.2.2.2.2.2.2.1))))))))),r2.2.2.2.2.2.2.2.2.2.2.2.2.2.2.2.2.2.2.2.2))] [0,1]).bind fun r8=>
      some ((!r8),(2,(1,(0,(0,(r.1,(r.2.1,(r.2.2.1,(r.2.2.2.1,(r.2.2.2.2.1,(r.2.2.2.2.2.1,(r.2.2.2.2.2.2.1,(r.2.2.2.2.2.2.2.1,(r.2.2.2.2.2.2.2.2.1,(r.2.2.2.2.2.2.2.2.2.1,(r.2.2.2.2.2.2.2.2.2.2.1,(r.2.2.2.2.2.2.2.2.2.2.2.1,(r.2.2.2.2.2.2.2.2.2.2.2.2.1,(r.2.2.2.2.2.2.2.2.2.2.2.2.2.1,(r.2.2.2.2.2.2.2.2.2.2.2.2.2.2.1,(r.2.2.2.2.2.2.2.2.2.2.2.2.2.2.2.1,(r.2.2.2.2.2.2.2.2.2.2.2.2.2.2.2.2.1,(r.2.2.2.2.2.2.2.2.2.2.2.2.2.2.2.2.2.1,(r.2.2.2.2.2.2.2.2.2.2.2.2.2.2.2.2.2.2.1,(r.2.2.2.2.2.2.2.2.2.2.2.2.2.2.2.2.2.2.2.1,(r.2.2.2.2.2.2.2.2.2.2.2.2.2.2.2.2.2.2.2.2.1,(r.2.2.2.2.2.2.2.2.2.2.2.2.2.2.2.2.2.2.2.2.2,r3)))))))))))))))))))))))))))
     else
      some (false,(2,(1,(0,(0,(r.1,(r.2.1,(r.2.2.1,(r.2.2.2.1,(r.2.2.2.2.1,(r.2.2.2.2.2.1,(r.2.2.2.2.2.2.1,(r.2.2.2.2.2.2.2.1,(r.2.2.2.2.2.2.2.2.1,(r.2.2.2.2.2.2.2.2.2.1,(r.2.2.2.2.2.2.2.2.2.2.1,(r.2.2.2.2.2.2.2.2.2.2.2.1,(r.2.2.2.2.2.2.2.2.2.2.2.2.1,(r.2.2.2.2.2.2.2.2.2.2.2.2.2.1,(r.2.2.2.2.2.2.2.2.2.2.2.2.2.2.1,(r.2.2.2.2.2.2.2.2.2.2.2.2.2.2.2.1,(r.2.2.2.2.2.2.2.2.2.2.2.2.2.2.2.2.1,(r.2.2.2.2.2.2.2.2.2.2.2.2.2.2.2.2.2.1,(r.2.2.2.2.2.2.2.2.2.2.2.2.2.2.2.2.2.2.1,(r.2.2.2.2.2.2.2.2.2.2.2.2.2.2.2.2.2.2.2.1,(r.2.2.2.2.2.2.2.2.2.2.2.2.2.2.2.2.2.2.2.2.1,(r.2.2.2.2.2.2.2.2.2.2.2.2.2.2.2.2.2.2.2.2.2,r3)))))))))))))))))))))))))))
    else
     some (false,(2,(1,(0,(0,(r.1,(r.2.1,(r.2.2.1,(r.2.2.2.1,(r.2.2.2.2.1,(r.2.2.2.2.2.1,(r.2.2.2.2.2.2.1,(r.2.2.2.2.2.2.2.1,(r.2.2.2.2.2.2.2.2.1,(r.2.2.2.2.2.2.2.2.2.1,(r.2.2.2.2.2.2.2.2.2.2.1,(r.2.2.2.2.2.2.2.2.2.2.2.1,(r.2.2.2.2.2.2.2.2.2.2.2.2.1,(r.2.2.2.2.2.2.2.2.2.2.2.2.2.1,(r.2.2.2.2.2.2.2.2.2.2.2.2.2.2.1,(r.2.2.2.2.2.2.2.2.2.2.2.2.2.2.2.1,(r.2.2.2.2.2.2.2.2.2.2.2.2.2.2.2.2.1,(r.2.2.2.2.2.2.2.2.2.2.2.2.2.2.2.2.2.1,(r.2.2.2.2.2.2.2.2.2.2.2.2.2.2.2.2.2.2.1,(r.2.2.2.2.2.2.2.2.2.2.2.2.2.2.2.2.2.2.2.1,(r.2.2.2.2.2.2.2.2.2.2.2.2.2.2.2.2.2.2.2.2.1,(r.2.2.2.2.2.2.2.2.2.2.2.2.2.2.2.2.2.2.2.2.2,r3)))))))))))))))))))))))))))
   else
    some (false,(2,(1,(0,(0,(r.1,(r.2.1,(r.2.2.1,(r.2.2.2.1,(r.2.2.2.2.1,(r.2.2.2.2.2.1,(r.2.2.2.2.2.2.1,(r.2.2.2.2.2.2.2.1,(r.2.2.2.2.2.2.2.2.1,(r.2.2.2.2.2.2.2.2.2.1,(r.2.2.2.2.2.2.2.2.2.2.1,(r.2.2.2.2.2.2.2.2.2.2.2.1,(r.2.2.2.2.2.2.2.2.2.2.2.2.1,(r.2.2.2.2.2.2.2.2.2.2.2.2.2.1,(r.2.2.2.2.2.2.2.2.2.2.2.2.2.2.1,(r.2.2.2.2.2.2.2.2.2.2.2.2.2.2.2.1,(r.2.2.2.2.2.2.2.2.2.2.2.2.2.2.2.2.1,(r.2.2.2.2.2.2.2.2.2.2.2.2.2.2.2.2.2.1,(r.2.2.2.2.2.2.2.2.2.2.2.2.2.2.2.2.2.2.1,(r.2.2.2.2.2.2.2.2.2.2.2.2.2.2.2.2.2.2.2.1,(r.2.2.2.2.2.2.2.2.2.2.2.2.2.2.2.2.2.2.2.2.1,(r.2.2.2.2.2.2.2.2.2.2.2.2.2.2.2.2.2.2.2.2.2,r3)))))))))))))))))))))))))))
  else
   some (false,(2,(1,(0,(0,(r.1,(r.2.1,(r.2.2.1,(r.2.2.2.1,(r.2.2.2.2.1,(r.2.2.2.2.2.1,(r.2.2.2.2.2.2.1,(r.2.2.2.2.2.2.2.1,(r.2.2.2.2.2.2.2.2.1,(r.2.2.2.2.2.2.2.2.2.1,(r.2.2.2.2.2.2.2.2.2.2.1,(r.2.2.2.2.2.2.2.2.2.2.2.1,(r.2.2.2.2.2.2.2.2.2.2.2.2.1,(r.2.2.2.2.2.2.2.2.2.2.2.2.2.1,(r.2.2.2.2.2.2.2.2.2.2.2.2.2.2.1,(r.2.2.2.2.2.2.2.2.2.2.2.2.2.2.2.1,(r.2.2.2.2.2.2.2.2.2.2.2.2.2.2.2.2.1,(r.2.2.2.2.2.2.2.2.2.2.2.2.2.2.2.2.2.1,(r.2.2.2.2.2.2.2.2.2.2.2.2.2.2.2.2.2.2.1,(r.2.2.2.2.2.2.2.2.2.2.2.2.2.2.2.2.2.2.2.1,(r.2.2.2.2.2.2.2.2.2.2.2.2.2.2.2.2.2.2.2.2.1,(r.2.2.2.2.2.2.2.2.2.2.2.2.2.2.2.2.2.2.2.2.2,r3)))))))))))))))))))))))))))) fun o=>
 Option.bind (α:=((Bool×(Int×(Int×(Int×(Int×qT6))))))) (
  (law28_past fu 1 1 1 5 6 171 (o.2.2.2.1,o.2.2.2.2.1)).bind fun r9=>
  (byte? o.2.2.2.2.2.2.2.1).bind fun c10=>
  (byte? r9.2.2.1).bind fun c11=>
  (law28_judged fu [((o.2.2.2.2.2.1,(o.2.2.2.2.2.2.1,(c10,((o.2.2.2.2.2.2.2.2.1,o.2.2.2.2.2.2.2.2.2.1),(o.2.2.2.2.2.2.2.2.2.2.1,((o.2.2.2.2.2.2.2.2.2.2.2.1,o.2.2.2.2.2.2.2.2.2.2.2.2.1),(o.2.2.2.2.2.2.2.2.2.2.2.2.2.1,(o.2.2.2.2.2.2.2.2.2.2.2.2.2.2.1,(o.2.2.2.2.2.2.2.2.2.2.2.2.2.2.2.1,[]))))))))),((o.2.2.2.2.2.2.2.2.2.2.2.2.2.2.2.2.1,(o.2.2.2.2.2.2.2.2.2.2.2.2.2.2.2.2.2.1,(o.2.2.2.2.2.2.2.2.2.2.2.2.2.2.2.2.2.2.1,((o.2.2.2.2.2.2.2.2.2.2.2.2.2.2.2.2.2.2.2.1,o.2.2.2.2.2.2.2.2.2.2.2.2.2.2.2.2.2.2.2.2.1),(o.2.2.2.2.2.2.2.2.2.2.2.2.2.2.2.2.2.2.2.2.2.1,(o.2.2.2.2.2.2.2.2.2.2.2.2.2.2.2.2.2.2.2.2.2.2.1,([],([],(o.2.2.2.2.2.2.2.2.2.2.2.2.2.2.2.2.2.2.2.2.2.2.2.1,o.2.2.2.2.2.2.2.2.2.2.2.2.2.2.2.2.2.2.2.2.2.2.2.2.1))))))))),(o.2.2.2.2.2.2.2.2.2.2.2.2.2.2.2.2.2.2.2.2.2.2.2.2.2.1,o.2.2.2.2.2.2.2.2.2.2.2.2.2.2.2.2.2.2.2.2.2.2.2.2.2.2.1))),((r9.1,(r9.2.1,(c11,((r9.2.2.2.1,r9.2.2.2.2.1),(r9.2.2.2.2.2.1,((r9.2.2.2.2.2.2.1,r9.2.2.2.2.2.2.2.1),(r9.2.2.2.2.2.2.2.2.1,(r9.2.2.2.2.2.2.2.2.2.1,(r9.2.2.2.2.2.2.2.2.2.2.1,[]))))))))),((r9.2.2.2.2.2.2.2.2.2.2.2.1,(r9.2.2.2.2.2.2.2.2.2.2.2.2.1,(r9.2.2.2.2.2.2.2.2.2.2.2.2.2.1,((r9.2.2.2.2.2.2.2.2.2.2.2.2.2.2.1,r9.2.2.2.2.2.2.2.2.2.2.2.2.2.2.2.1),(r9.2.2.2.2.2.2.2.2.2.2.2.2.2.2.2.2.1,(r9.2.2.2.2.2.2.2.2.2.2.2.2.2.2.2.2.2.1,([],([],(r9.2.2.2.2.2.2.2.2.2.2.2.2.2.2.2.2.2.2.1,r9.2.2.2.2.2.2.2.2.2.2.2.2.2.2.2.2.2.2.2.1))))))))),r9.2.2.2.2.2.2.2.2.2.2.2.2.2.2.2.2.2.2.2.2))]).bind fun r10=>
  bif (r10==0) then
   (law28_past fu 1 1 2 2 3 0 (o.2.1,o.2.2.1)).bind fun r11=>
   (byte? o.2.2.2.2.2.2.2.1).bind fun c12=>
   (byte? r11.2.2.1).bind fun c13=>
   (law28_judged fu [((o.2.2.2.2.2.1,(o.2.2.2.2.2.2.1,(c12,((o.2.2.2.2.2.2.2.2.1,o.2.2.2.2.2.2.2.2.2.1),(o.2.2.2.2.2.2.2.2.2.2.1,((o.2.2.2.2.2.2.2.2.2.2.2.1,o.2.2.2.2.2.2.2.2.2.2.2.2.1),(o.2.2.2.2.2.2.2.2.2.2.2.2.2.1,(o.2.2.2.2.2.2.2.2.2.2.2.2.2.2.1,(o.2.2.2.2.2.2.2.2.2.2.2.2.2.2.2.1,[]))))))))),((o.2.2.2.2.2.2.2.2.2.2.2.2.2.2.2.2.1,(o.2.2.2.2.2.2.2.2.2.2.2.2.2.2.2.2.2.1,(o.2.2.2.2.2.2.2.2.2.2.2.2.2.2.2.2.2.2.1,((o.2.2.2.2.2.2.2.2.2.2.2.2.2.2.2.2.2.2.2.1,o.2.2.2.2.2.2.2.2.2.2.2.2.2.2.2.2.2.2.2.2.1),(o.2.2.2.2.2.2.2.2.2.2.2.2.2.2.2.2.2.2.2.2.2.1,(o.2.2.2.2.2.2.2.2.2.2.2.2.2.2.2.2.2.2.2.2.2.2.1,([],([],(o.2.2.2.2.2.2.2.2.2.2.2.2.2.2.2.2.2.2.2.2.2.2.2.1,o.2.2.2.2.2.2.2.2.2.2.2.2.2.2.2.2.2.2.2.2.2.2.2.2.1))))))))),(o.2.2.2.2.2.2.2.2.2.2.2.2.2.2.2.2.2.2.2.2.2.2.2.2.2.1,o.2.2.2.2.2.2.2.2.2.2.2.2.2.2.2.2.2.2.2.2.2.2.2.2.2.2.1))),((r11.1,(r11.2.1,(c13,((r11.2.2.2.1,r11.2.2.2.2.1),(r11.2.2.2.2.2.1,((r11.2.2.2.2.2.2.1,r11.2.2.2.2.2.2.2.1),(r11.2.2.2.2.2.2.2.2.1,(r11.2.2.2.2.2.2.2.2.2.1,(r11.2.2.2.2.2.2.2.2.2.2.1,[]))))))))),((r11.2.2.2.2.2.2.2.2.2.2.2.1,(r11.2.2.2.2.2.2.2.2.2.2.2.2.1,(r11.2.2.2.2.2.2.2.2.2.2.2.2.2.1,((r11.2.2.2.2.2.2.2.2.2.2.2.2.2.2.1,r11.2.2.2.2.2.2.2.2.2.2.2.2.2.2.2.1),(r11.2.2.2.2.2.2.2.2.2.2.2.2.2.2.2.2.1,(r11.2.2.2.2.2.2.2.2.2.2.2.2.2.2.2.2.2.1,([],([],(r11.2.2.2.2.2.2.2.2.2.2.2.2.2.2.2.2.2.2.1,r11.2.2.2.2.2.2.2.2.2.2.2.2.2.2.2.2.2.2.2.1))))))))),r11.2.2.2.2.2.2.2.2.2.2.2.2.2.2.2.2.2.2.2.2))]).bind fun r12=>
   bif (r12==0) then
    (law28_past fu 1 1 2 2 3 172 (o.2.2.2.1,o.2.2.2.2.1)).bind fun r13=>
    (byte? o.2.2.2.2.2.2.2.1).bind fun c14=>
    (byte? r13.2.2.1).bind fun c15=>
    (law28_judged fu [((o.2.2.2.2.2.1,(o.2.2.2.2.2.2.1,(c14,((o.2.2.2.2.2.2.2.2.1,o.2.2.2.2.2.2.2.2.2.1),(o.2.2.2.2.2.2.2.2.2.2.1,((o.2.2.2.2.2.2.2.2.2.2.2.1,o.2.2.2.2.2.2.2.2.2.2.2.2.1),(o.2.2.2.2.2.2.2.2.2.2.2.2.2.1,(o.2.2.2.2.2.2.2.2.2.2.2.2.2.2.1,(o.2.2.2.2.2.2.2.2.2.2.2.2.2.2.2.1,[]))))))))),((o.2.2.2.2.2.2.2.2.2.2.2.2.2.2.2.2.1,(o.2.2.2.2.2.2.2.2.2.2.2.2.2.2.2.2.2.1,(o.2.2.2.2.2.2.2.2.2.2.2.2.2.2.2.2.2.2.1,((o.2.2.2.2.2.2.2.2.2.2.2.2.2.2.2.2.2.2.2.1,o.2.2.2.2.2.2.2.2.2.2.2.2.2.2.2.2.2.2.2.2.1),(o.2.2.2.2.2.2.2.2.2.2.2.2.2.2.2.2.2.2.2.2.2.1,(o.2.2.2.2.2.2.2.2.2.2.2.2.2.2.2.2.2.2.2.2.2.2.1,([],([],(o.2.2.2.2.2.2.2.2.2.2.2.2.2.2.2.2.2.2.2.2.2.2.2.1,o.2.2.2.2.2.2.2.2.2.2.2.2.2.2.2.2.2.2.2.2.2.2.2.2.1))))))))),(o.2.2.2.2.2.2.2.2.2.2.2.2.2.2.2.2.2.2.2.2.2.2.2.2.2.1,o.2.2.2.2.2.2.2.2.2.2.2.2.2.2.2.2.2.2.2.2.2.2.2.2.2.2.1))),((r13.1,(r13.2.1,(c15,((r13.2.2.2.1,r13.2.2.2.2.1),(r13.2.2.2.2.2.1,((r13.2.2.2.2.2.2.1,r13.2.2.2.2.2.2.2.1),(r13.2.2.2.2.2.2.2.2.1,(r13.2.2.2.2.2.2.2.2.2.1,(r13.2.2.2.2.2.2.2.2.2.2.1,[]))))))))),((r13.2.2.2.2.2.2.2.2.2.2.2.1,(r13.2.2.2.2.2.2.2.2.2.2.2.2.1,(r13.2.2.2.2.2.2.2.2.2.2.2.2.2.1,((r13.2.2.2.2.2.2.2.2.2.2.2.2.2.2.1,r13.2.2.2.2.2.2.2.2.2.2.2.2.2.2.2.1),(r13.2.2.2.2.2.2.2.2.2.2.2.2.2.2.2.2.1,(r13.2.2.2.2.2.2.2.2.2.2.2.2.2.2.2.2.2.1,([],([],(r13.2.2.2.2.2.2.2.2.2.2.2.2.2.2.2.2.2.2.1,r13.2.2.2.2.2.2.2.2.2.2.2.2.2.2.2.2.2.2.2.1))))))))),r13.2.2.2.2.2.2.2.2.2.2.2.2.2.2.2.2.2.2.2.2))]).bind fun r14=>
    some ((r14==1),(o.2.1,(o.2.2.1,(o.2.2.2.1,(o.2.2.2.2.1,o.2.2.2.2.2.2.2.2.2.2.2.2.2.2.2.2.2.2.2.2.2.2.2.2.2.2.2)))))
   else
    some (false,(o.2.1,(o.2.2.1,(o.2.2.2.1,(o.2.2.2.2.1,o.2.2.2.2.2.2.2.2.2.2.2.2.2.2.2.2.2.2.2.2.2.2.2.2.2.2.2)))))
  else
   some (false,(o.2.1,(o.2.2.1,(o.2.2.2.1,(o.2.2.2.2.1,o.2.2.2.2.2.2.2.2.2.2.2.2.2.2.2.2.2.2.2.2.2.2.2.2.2.2.2)))))) fun o1=>
 bif o.1 then
  bif o1.1 then
   (law28_past fu 1 1 1 5 6 0 (o1.2.1,o1.2.2.1)).bind fun r15=>
   (byte? o1.2.2.2.2.2.2.2.1).bind fun c16=>
   (byte? r15.2.2.1).bind fun c17=>
   (law28_judged fu [((o1.2.2.2.2.2.1,(o1.2.2.2.2.2.2.1,(c16,((o1.2.2.2.2.2.2.2.2.1,o1.2.2.2.2.2.2.2.2.2.1),(o1.2.2.2.2.2.2.2.2.2.2.1,((o1.2.2.2.2.2.2.2.2.2.2.2.1,o1.2.2.2.2.2.2.2.2.2.2.2.2.1),(o1.2.2.2.2.2.2.2.2.2.2.2.2.2.1,(o1.2.2.2.2.2.2.2.2.2.2.2.2.2.2.1,(o1.2.2.2.2.2.2.2.2.2.2.2.2.2.2.2.1,[]))))))))),((o1.2.2.2.2.2.2.2.2.2.2.2.2.2.2.2.2.1,(o1.2.2.2.2.2.2.2.2.2.2.2.2.2.2.2.2.2.1,(o1.2.2.2.2.2.2.2.2.2.2.2.2.2.2.2.2.2.2.1,((o1.2.2.2.2.2.2.2.2.2.2.2.2.2.2.2.2.2.2.2.1,o1.2.2.2.2.2.2.2.2.2.2.2.2.2.2.2.2.2.2.2.2.1),(o1.2.2.2.2.2.2.2.2.2.2.2.2.2.2.2.2.2.2.2.2.2.1,(o1.2.2.2.2.2.2.2.2.2.2.2.2.2.2.2.2.2.2.2.2.2.2.1,([],([],(o1.2.2.2.2.2.2.2.2.2.2.2.2.2.2.2.2.2.2.2.2.2.2.2.1,o1.2.2.2.2.2.2.2.2.2.2.2.2.2.2.2.2.2.2.2.2.2.2.2.2.1))))))))),o1.2.2.2.2.2.2.2.2.2.2.2.2.2.2.2.2.2.2.2.2.2.2.2.2.2)),((r15.1,(r15.2.1,(c17,((r15.2.2.2.1,r15.2.2.2.2.1),(r15.2.2.2.2.2.1,((r15.2.2.2.2.2.2.1,r15.2.2.2.2.2.2.2.1),(r15.2.2.2.2.2.2.2.2.1,(r15.2.2.2.2.2.2.2.2.2.1,(r15.2.2.2.2.2.2.2.2.2.2.1,[]))))))))),((r15.2.2.2.2.2.2.2.2.2.2.2.1,(r15.2.2.2.2.2.2.2.2.2.2.2.2.1,(r15.2.2.2.2.2.2.2.2.2.2.2.2.2.1,((r15.2.2.2.2.2.2.2.2.2.2.2.2.2.2.1,r15.2.2.2.2.2.2.2.2.2.2.2.2.2.2.2.1),(r15.2.2.2.2.2.2.2.2.2.2.2.2.2.2.2.2.1,(r15.2.2.2.2.2.2.2.2.2.2.2.2.2.2.2.2.2.1,([],([],(r15.2.2.2.2.2.2.2.2.2.2.2.2.2.2.2.2.2.2.1,r15.2.2.2.2.2.2.2.2.2.2.2.2.2.2.2.2.2.2.2.1))))))))),r15.2.2.2.2.2.2.2.2.2.2.2.2.2.2.2.2.2.2.2.2))]).bind fun r16=>
   bif (r16==1) then
    (law28_past fu 1 1 1 5 6 171 (o1.2.2.2.1,o1.2.2.2.2.1)).bind fun r17=>
    (byte? o1.2.2.2.2.2.2.2.1).bind fun c18=>
    (byte? r17.2.2.1).bind fun c19=>
    (law28_judged fu [((o1.2.2.2.2.2.1,(o1.2.2.2.2.2.2.1,(c18,((o1.2.2.2.2.2.2.2.2.1,o1.2.2.2.2.2.2.2.2.2.1),(o1.2.2.2.2.2.2.2.2.2.2.1,((o1.2.2.2.2.2.2.2.2.2.2.2.1,o1.2.2.2.2.2.2.2.2.2.2.2.2.1),(o1.2.2.2.2.2.2.2.2.2.2.2.2.2.1,(o1.2.2.2.2.2.2.2.2.2.2.2.2.2.2.1,(o1.2.2.2.2.2.2.2.2.2.2.2.2.2.2.2.1,[]))))))))),((o1.2.2.2.2.2.2.2.2.2.2.2.2.2.2.2.2.1,(o1.2.2.2.2.2.2.2.2.2.2.2.2.2.2.2.2.2.1,(o1.2.2.2.2.2.2.2.2.2.2.2.2.2.2.2.2.2.2.1,((o1.2.2.2.2.2.2.2.2.2.2.2.2.2.2.2.2.2.2.2.1,o1.2.2.2.2.2.2.2.2.2.2.2.2.2.2.2.2.2.2.2.2.1),(o1.2.2.2.2.2.2.2.2.2.2.2.2.2.2.2.2.2.2.2.2.2.1,(o1.2.2.2.2.2.2.2.2.2.2.2.2.2.2.2.2.2.2.2.2.2.2.1,([],([],(o1.2.2.2.2.2.2.2.2.2.2.2.2.2.2.2.2.2.2.2.2.2.2.2.1,o1.2.2.2.2.2.2.2.2.2.2.2.2.2.2.2.2.2.2.2.2.2.2.2.2.1))))))))),o1.2.2.2.2.2.2.2.2.2.2.2.2.2.2.2.2.2.2.2.2.2.2.2.2.2)),((r17.1,(r17.2.1,(c19,((r17.2.2.2.1,r17.2.2.2.2.1),(r17.2.2.2.2.2.1,((r17.2.2.2.2.2.2.1,r17.2.2.2.2.2.2.2.1),(r17.2.2.2.2.2.2.2.2.1,(r17.2.2.2.2.2.2.2.2.2.1,(r17.2.2.2.2.2.2.2.2.2.2.1,[]))))))))),((r17.2.2.2.2.2.2.2.2.2.2.2.1,(r17.2.2.2.2.2.2.2.2.2.2.2.2.1,(r17.2.2.2.2.2.2.2.2.2.2.2.2.2.1,((r17.2.2.2.2.2.2.2.2.2.2.2.2.2.2.1,r17.2.2.2.2.2.2.2.2.2.2.2.2.2.2.2.1),(r17.2.2.2.2.2.2.2.2.2.2.2.2.2.2.2.2.1,(r17.2.2.2.2.2.2.2.2.2.2.2.2.2.2.2.2.2.1,([],([],(r17.2.2.2.2.2.2.2.2.2.2.2.2.2.2.2.2.2.2.1,r17.2.2.2.2.2.2.2.2.2.2.2.2.2.2.2.2.2.2.2.1))))))))),r17.2.2.2.2.2.2.2.2.2.2.2.2.2.2.2.2.2.2.2.2))]).bind fun r18=>
    some (r18==1)
   else
    some false
  else
   some false
 else
  some false
theorem fdZ: @Go.Ab.D.law28_awake= @Go.Ab.V.law28_awake:=by
 delta Go.Ab.D.law28_awake Go.Ab.V.law28_awake
 rw[bDZ,idZ]
 try kernel_rfl
def law28_LinearNumbersG_l0(gP:(Int)->(Int)->(Int)->(Int)->(Int)->(Int)->((Int×Int))->Option (qT6))(fu:Nat)(x:Int)(h:Int)(h1:Int)(h2:Int)(h3:Int)(h4:Int)(h5:Int)(h6:Int)(h7:List UInt8)(h8:Int)(h9:Int)(h10:List UInt8)(h11:Int)(h12:Int)(h13:Int)(h14:Int)(h15:Int)(h16:Int)(h17:Int)(h18:Bool)(h19:Int)(h20:Bool)(h21:Int)(h22:Int)(h23:Int)(h24:List (List (qT1))):Option ((Int×qT21)⊕((Int×(Int×qT6))⊕Bool)):=
 bif (decide (x<12)) then
  (idx? x h24.length).bind fun q=>
  (h24)[q]?.bind fun r11=>
  Option.bind (α:=((Bool×qT21))) (
   (lRig fu r11).bind fun r12=>
   bif r12 then
    some (true,(h,(h1,(h2,(h3,(h4,(h5,(h6,(h7,(h8,(h9,(h10,(h11,(h12,(h13,(h14,(h15,(h16,(h17,(h18,(h19,(h20,(h21,(h22,(h23,h24)))))))))))))))))))))))))
   else
    (law28_judged fu r11).bind fun r13=>
    bif (!(r13==280)) then
     some (true,(h,(h1,(h2,(h3,(h4,(h5,(h6,(h7,(h8,(h9,(h10,(h11,(h12,(h13,(h14,(h15,(h16,(h17,(h18,(h19,(h20,(h21,(h22,(h23,h24)))))))))))))))))))))))))
    else
     (lOrd fu r11 []).bind fun r14=>
     some (r14,(h,(h1,(h2,(h3,(h4,(h5,(h6,(h7,(h8,(h9,(h10,(h11,(h12,(h13,(h14,(h15,(h16,(h17,(h18,(h19,(h20,(h21,(h22,(h23,h24)))))))))))))))))))))))))) fun o=>
  bif o.1 then
   some (.inr (.inr (decide (x<0))))
  else
   some (.inl ((IntKind.wrap .i64 (x+1)),o.2))
 else
  some (.inr (.inl (h,(h1,(h2,(h3,(h4,(h5,(h6,(h7,(h8,(h9,(h10,(h11,(h12,(h13,(h14,(h15,(h16,(h17,(h18,(h19,(h20,(h21,(h22,h23)))))))))))))))))))))))))
theorem bAZ: @Go.Ab.D.law28_LinearNumbersG_l0= @Go.Ab.V.law28_LinearNumbersG_l0:=by
 delta Go.Ab.D.law28_LinearNumbersG_l0 Go.Ab.V.law28_LinearNumbersG_l0
 rw[bDZ,idZ]
 try kernel_rfl
def law28_LinearNumbersG_l0_it(gP:(Int)->(Int)->(Int)->(Int)->(Int)->(Int)->((Int×Int))->Option (qT6))(fu:Nat)(tt:(Int×qT21)):Option ((Int×(Int×qT6))⊕Bool):=
 iter fu (fun tt=>law28_LinearNumbersG_l0 gP fu tt.1 tt.2.1 tt.2.2.1 tt.2.2.2.1 tt.2.2.2.2.1 tt.2.2.2.2.2.1 tt.2.2.2.2.2.2.1 tt.2.2.2.2.2.2.2.1 tt.2.2.2.2.2.2.2.2.1 tt.2.2.2.2.2.2.2.2.2.1 tt.2.2.2.2.2.2.2.2.2.2.1 tt.2.2.2.2.2.2.2.2.2.2.2.1 tt.2.2.2.2.2.2.2.2.2.2.2.2.1 tt.2.2.2.2.2.2.2.2.2.2.2.2.2.1 tt.2.2.2.2.2.2.2.2.2.2.2.2.2.2.1 tt.2.2.2.2.2.2.2.2.2.2.2.2.2.2.2.1 tt.2.2.2.2.2.2.2.2.2.2.2.2.2.2.2.2.1 tt.2.2.2.2.2.2.2.2.2.2.2.2.2.2.2.2.2.1 tt.2.2.2.2.2.2.2.2.2.2.2.2.2.2.2.2.2.2.1 tt.2.2.2.2.2.2.2.2.2.2.2.2.2.2.2.2.2.2.2.1 tt.2.2.2.2.2.2.2.2.2.2.2.2.2.2.2.2.2.2.2.2.1 tt.2.2.2.2.2.2.2.2.2.2.2.2.2.2.2.2.2.2.2.2.2.1 tt.2.2.2.2.2.2.2.2.2.2.2.2.2.2.2.2.2.2.2.2.2.2.1 tt.2.2.2.2.2.2.2.2.2.2.2.2.2.2.2.2.2.2.2.2.2.2.2.1 tt.2.2.2.2.2.2.2.2.2.2.2.2.2.2.2.2.2.2.2.2.2.2.2.2.1 tt.2.2.2.2.2.2.2.2.2.2.2.2.2.2.2.2.2.2.2.2.2.2.2.2.2) tt
theorem bjZ: @Go.Ab.D.law28_LinearNumbersG_l0_it= @Go.Ab.V.law28_LinearNumbersG_l0_it:=by
 delta Go.Ab.D.law28_LinearNumbersG_l0_it Go.Ab.V.law28_LinearNumbersG_l0_it
 rw[bAZ]
 try kernel_rfl
def law28_LinearNumbersG_l1(gP:(Int)->(Int)->(Int)->(Int)->(Int)->(Int)->((Int×Int))->Option (qT6))(fu:Nat)(x1:Int)(h25:Int)(h26:Int)(h27:List (qT1))(h28:List (List (Int))):Option ((Int×(Int×(Int×(List (qT1)×List (List (Int))))))⊕((Int×(Int×List (qT1)))⊕Bool)):=
 bif (decide (x1<4)) then
  (idx? x1 h28.length).bind fun q1=>
  (h28)[q1]?.bind fun r15=>
  (lOrd fu h27 r15).bind fun r16=>
  bif r16 then
   some (.inr (.inr (decide (x1<0))))
  else
   some (.inl ((IntKind.wrap .i64 (x1+1)),(h25,(h26,(h27,h28)))))
 else
  some (.inr (.inl (h25,(h26,h27))))
theorem bBZ: @Go.Ab.D.law28_LinearNumbersG_l1= @Go.Ab.V.law28_LinearNumbersG_l1:=by
 delta Go.Ab.D.law28_LinearNumbersG_l1 Go.Ab.V.law28_LinearNumbersG_l1
 rw[idZ]
 try kernel_rfl
def law28_LinearNumbersG_l1_it(gP:(Int)->(Int)->(Int)->(Int)->(Int)->(Int)->((Int×Int))->Option (qT6))(fu:Nat)(tt:(Int×(Int×(Int×(List (qT1)×List (List (Int))))))):Option ((Int×(Int×List (qT1)))⊕Bool):=
 iter fu (fun tt=>law28_LinearNumbersG_l1 gP fu tt.1 tt.2.1 tt.2.2.1 tt.2.2.2.1 tt.2.2.2.2) tt
theorem blZ: @Go.Ab.D.law28_LinearNumbersG_l1_it= @Go.Ab.V.law28_LinearNumbersG_l1_it:=by
 delta Go.Ab.D.law28_LinearNumbersG_l1_it Go.Ab.V.law28_LinearNumbersG_l1_it
 rw[bBZ]
 try kernel_rfl
def law28_LinearNumbersG(gP:(Int)->(Int)->(Int)->(Int)->(Int)->(Int)->((Int×Int))->Option (qT6))(fu:Nat):Option (Bool):=
 (gP 0 1 2 1 4 0 (2,1)).bind fun r=>
 (gP 0 1 2 1 0 0 (0,0)).bind fun r1=>
 (gP 0 0 2 1 4 0 (2,1)).bind fun r2=>
 (byte? r2.2.2.1).bind fun c=>
 (gP 0 1 2 0 4 0 (2,1)).bind fun r3=>
 (byte? r3.2.2.1).bind fun c1=>
 (gP 0 1 2 5 4 0 (2,1)).bind fun r4=>
 (byte? r4.2.2.1).bind fun c2=>
 (gP 0 1 2 5 (-1) 0 (0,0)).bind fun r5=>
 (byte? r5.2.2.1).bind fun c3=>
 (gP 0 1 2 1 1099511627777 0 (2,1)).bind fun r6=>
 (byte? r6.2.2.1).bind fun c4=>
 (byte? r.2.2.1).bind fun c5=>
 (byte? r1.2.2.1).bind fun c6=>
 (gP 0 1 1 5 6 0 (2,1)).bind fun r7=>
 (byte? r.2.2.1).bind fun c7=>
 (byte? r7.2.2.1).bind fun c8=>
 (gP 0 2 1 4 6 0 (2,1)).bind fun r8=>
 (byte? r.2.2.1).bind fun c9=>
 (byte? r8.2.2.1).bind fun c10=>
 (gP 0 1 2 1 0 0 (0,0)).bind fun r9=>
 (gP 0 2 1 5 6 0 (2,1)).bind fun r10=>
 (byte? r9.2.2.1).bind fun c11=>
 (byte? r10.2.2.1).bind fun c12=>
 (law28_LinearNumbersG_l0_it gP fu (0,(0,(0,(r.1,(r.2.1,(r.2.2.1,(r.2.2.2.1,(r.2.2.2.2.1,(r.2.2.2.2.2.1,(r.2.2.2.2.2.2.1,(r.2.2.2.2.2.2.2.1,(r.2.2.2.2.2.2.2.2.1,(r.2.2.2.2.2.2.2.2.2.1,(r.2.2.2.2.2.2.2.2.2.2.1,(r.2.2.2.2.2.2.2.2.2.2.2.1,(r.2.2.2.2.2.2.2.2.2.2.2.2.1,(r.2.2.2.2.2.2.2.2.2.2.2.2.2.1,(r.2.2.2.2.2.2.2.2.2.2.2.2.2.2.1,(r.2.2.2.2.2.2.2.2.2.2.2.2.2.2.2.1,(r.2.2.2.2.2.2.2.2.2.2.2.2.2.2.2.2.1,(r.2.2.2.2.2.2.2.2.2.2.2.2.2.2.2.2.2.1,(r.2.2.2.2.2.2.2.2.2.2.2.2.2.2.2.2.2.2.1,(r.2.2.2.2.2.2.2.2.2.2.2.2.2.2.2.2.2.2.2.1,(r.2.2.2.2.2.2.2.2.2.2.2.2.2.2.2.2.2.2.2.2.1,(r.2.2.2.2.2.2.2.2.2.2.2.2.2.2.2.2.2.2.2.2.2,[[((0,(0,((UInt8.ofNat 0),((0,0),([],((0,0),([],(0,(0,[]))))))))),((0,(0,(0,((0,0),(false,(0,([],([],(false,0))))))))),(0,0)))],[((r2.1,(r2.2.1,(c,((r2.2.2.2.1,r2.2.2.2.2.1),(r2.2.2.2.2.2.1,((r2.2.2.2.2.2.2.1,r2.2.2.2.2.2.2.2.1),(r2.2.2.2.2.2.2.2.2.1,(r2.2.2.2.2.2.2.2.2.2.1,(r2.2.2.2.2.2.2.2.2.2.2.1,[]))))))))),((r2.2.2.2.2.2.2.2.2.2.2.2.1,(r2.2.2.2.2.2.2.2.2.2.2.2.2.1,(r2.2.2.2.2.2.2.2.2.2.2.2.2.2.1,((r2.2.2.2.2.2.2.2.2.2.2.2.2.2.2.1,r2.2.2.2.2.2.2.2.2.2.2.2.2.2.2.2.1),(r2.2.2.2.2.2.2.2.2.2.2.2.2.2.2.2.2.1,(r2.2.2.2.2.2.2.2.2.2.2.2.2.2.2.2.2.2.1,([],([],(r2.2.2.2.2.2.2.2.2.2.2.2.2.2.2.2.2.2.2.1,r2.2.2.2.2.2.2.2.2.2.2.2.2.2.2.2.2.2.2.2.1))))))))),r2.2.2.2.2.2.2.2.2.2.2.2.2.2.2.2.2.2.2.2.2))],[((r3.1,(r3.2.1,(c1,((r3.2.2.2.1,r3.2.2.2.2.1),(r3.2.2.2.2.2.1,((r3.2.2.2.2.2.2.1,r3.2.2.2.2.2.2.2.1),(r3.2.2.2.2.2.2.2.2.1,(r3.2.2.2.2.2.2.2.2.2.1,(r3.2.2.2.2.2.2.2.2.2.2.1,[]))))))))),((r3.2.2.2.2.2.2.2.2.2.2.2.1,(r3.2.2.2.2.2.2.2.2.2.2.2.2.1,(r3.2.2.2.2.2.2.2.2.2.2.2.2.2.1,((r3.2.2.2.2.2.2.2.2.2.2.2.2.2.2.1,r3.2.2.2.2.2.2.2.2.2.2.2.2.2.2.2.1),(r3.2.2.2.2.2.2.2.2.2.2.2.2.2.2.2.2.1,(r3.2.2.2.2.2.2.2.2.2.2.2.2.2.2.2.2.2.1,([],([],(r3.2.2.2.2.2.2.2.2.2.2.2.2.2.2.2.2.2.2.1,r3.2.2.2.2.2.2.2.2.2.2.2.2.2.2.2.2.2.2.2.1))))))))),r3.2.2.2.2.2.2.2.2.2.2.2.2.2.2.2.2.2.2.2.2))],[((r4.1,(r4.2.1,(c2,((r4.2.2.2.1,r4.2.2.2.2.1),(r4.2.2.2.2.2.1,((r4.2.2.2.2.2.2.1,r4.2.2.2.2.2.2.2.1),(r4.2.2.2.2.2.2.2.2.1,(r4.2.2.2.2.2.2.2.2.2.1,(r4.2.2.2.2.2.2.2.2.2.2.1,[]))))))))),((r4.2.2.2.2.2.2.2.2.2.2.2.1,(r4.2.2.2.2.2.2.2.2.2.2.2.2.1,(r4.2.2.2.2.2.2.2.2.2.2.2.2.2.1,((r4.2.2.2.2.2.2.2.2.2.2.2.2.2.2.1,r4.2.2.2.2.2.2.2.2.2.2.2.2.2.2.2.1),(r4.2.2.2.2.2.2.2.2.2.2.2.2.2.2.2.2.1,(r4.2.2.2.2.2.2.2.2.2.2.2.2.2.2.2.2.2.1,([],([],(r4.2.2.2.2.2.2.2.2.2.2.2.2.2.2.2.2.2.2.1,r4.2.2.2.2.2.2.2.2.2.2.2.2.2.2.2.2.2.2.2.1))))))))),r4.2.2.2.2.2.2.2.2.2.2.2.2.2.2.2.2.2.2.2.2))],[((r5.1,(r5.2.1,(c3,((r5.2.2.2.1,r5.2.2.2.2.1),(r5.2.2.2.2.2.1,((r5.2.2.2.2.2.2.1,r5.2.2.2.2.2.2.2.1),(r5.2.2.2.2.2.2.2.2.1,(r5.2.2.2.2.2.2.2.2.2.1,(r5.2.2.2.2.2.2.2.2.2.2.1,[]))))))))),((r5.2.2.2.2.2.2.2.2.2.2.2.1,(r5.2.2.2.2.2.2.2.2.2.2.2.2.1,(r5.2.2.2.2.2.2.2.2.2.2.2.2.2.1,((r5.2.2.2.2.2.2.2.2.2.2.2.2.2.2.1,r5.2.2.2.2.2.2.2.2.2.2.2.2.2.2.2.1),(r5.2.2.2.2.2.2.2.2.2.2.2.2.2.2.2.2.1,(r5.2.2.2.2.2.2.2.2.2.2.2.2.2.2.2.2.2.1,([],([],(r5.2.2.2.2.2.2.2.2.2.2.2.2.2.2.2.2.2.2.1,r5.2.2.2.2.2.2.2.2.2.2.2.2.2.2.2.2.2.2.2.1))))))))),r5.2.2.2.2.2.2.2.2.2.2.2.2.2.2.2.2.2.2.2.2))],[((r6.1,(r6.2.1,(c4,((r6.2.2.2.1,r6.2.2.2.2.1),(r6.2.2.2.2.2.1,((r6.2.2.2.2.2.2.1,r6.2.2.2.2.2.2.2.1),(r6.2.2.2.2.2.2.2.2.1,(r6.2.2.2.2.2.2.2.2.2.1,(r6.2.2.2.2.2.2.2.2.2.2.1,[]))))))))),((r6.2.2.2.2.2.2.2.2.2.2.2.1,(r6.2.2.2.2.2.2.2.2.2.2.2.2.1,(r6.2.2.2.2.2.2.2.2.2.2.2.2.2.1,((r6.2.2.2.2.2.2.2.2.2.2.2.2.2.2.1,r6.2.2.2.2.2.2.2.2.2.2.2.2.2.2.2.1),(r6.2.2.2.2.2.2.2.2.2.2.2.2.2.2.2.2.1,(r6.2.2.2.2.2.2.2.2.2.2.2.2.2.2.2.2.2.1,([],([],(r6.2.2.2.2.2.2.2.2.2.2.2.2.2.2.2.2.2.2.1,r6.2.2.2.2.2.2.2.2.2.2.2.2.2.2.2.2.2.2.2.1))))))))),r6.2.2.2.2.2.2.2.2.2.2.2.2.2.2.2.2.2.2.2.2))],[((r.1,(r.2.1,(c5,((r.2.2.2.1,r.2.2.2.2.1),(r.2.2.2.2.2.1,((r.2.2.2.2.2.2.1,r.2.2.2.2.2.2.2.1),(r.2.2.2.2.2.2.2.2.1,(r.2.2.2.2.2.2.2.2.2.1,(r.2.2.2.2.2.2.2.2.2.2.1,[]))))))))),((r.2.2.2.2.2.2.2.2.2.2.2.1,(2,(r.2.2.2.2.2.2.2.2.2.2.2.2.2.1,((r.2.2.2.2.2.2.2.2.2.2.2.2.2.2.1,r.2.2.2.2.2.2.2.2.2.2.2.2.2.2.2.1),(r.2.2.2.2.2.2.2.2.2.2.2.2.2.2.2.2.1,(r.2.2.2.2.2.2.2.2.2.2.2.2.2.2.2.2.2.1,([],([],(r.2.2.2.2.2.2.2.2.2.2.2.2.2.2.2.2.2.2.1,r.2.2.2.2.2.2.2.2.2.2.2.2.2.2.2.2.2.2.2.1))))))))),r.2.2.2.2.2.2.2.2.2.2.2.2.2.2.2.2.2.2.2.2))],[((r1.1,(r1.2.1,(c6,((r1.2.2.2.1,r1.2.2.2.2.1),(r1.2.2.2.2.2.1,((r1.2.2.2.2.2.2.1,r1.2.2.2.2.2.2.2.1),(r1.2.2.2.2.2.2.2.2.1,(r1.2.2.2.2.2.2.2.2.2.1,(r1.2.2.2.2.2.2.2.2.2.2.1,[]))))))))),((r1.2.2.2.2.2.2.2.2.2.2.2.1,(r1.2.2.2.2.2.2.2.2.2.2.2.2.1,(r1.2.2.2.2.2.2.2.2.2.2.2.2.2.1,((r1.2.2.2.2.2.2.2.2.2.2.2.2.2.2.1,r1.2.2.2.2.2.2.2.2.2.2.2.2.2.2.2.1),(r1.2.2.2.2.2.2.2.2.2.2.2.2.2.2.2.2.1,(1,([],([],(r1.2.2.2.2.2.2.2.2.2.2.2.2.2.2.2.2.2.2.1,r1.2.2.2.2.2.2.2.2.2.2.2.2.2.2.2.2.2.2.2.1))))))))),r1.2.2.2.2.2.2.2.2.2.2.2.2.2.2.2.2.2.2.2.2))],[((r.1,(r.2.1,(c7,((r.2.2.2.1,r.2.2.2.2.1),(r.2.2.2.2.2.1,((r.2.2.2.2.2.2.1,r.2.2.2.2.2.2.2.1),(r.2.2.2.2.2.2.2.2.1,(r.2.2.2.2.2.2.2.2.2.1,(r.2.2.2.2.2.2.2.2.2.2.1,[]))))))))),((r.2.2.2.2.2.2.2.2.2.2.2.1,(r.2.2.2.2.2.2.2.2.2.2.2.2.1,(r.2.2.2.2.2.2.2.2.2.2.2.2.2.1,((r.2.2.2.2.2.2.2.2.2.2.2.2.2.2.1,r.2.2.2.2.2.2.2.2.2.2.2.2.2.2.2.1),(r.2.2.2.2.2.2.2.2.2.2.2.2.2.2.2.2.1,(r.2.2.2.2.2.2.2.2.2.2.2.2.2.2.2.2.2.1,([],([],(r.2.2.2.2.2.2.2.2.2.2.2.2.2.2.2.2.2.2.1,r.2.2.2.2.2.2.2.2.2.2.2.2.2.2.2.2.2.2.2.1))))))))),r.2.2.2.2.2.2.2.2.2.2.2.2.2.2.2.2.2.2.2.2)),((r7.1,(r7.2.1,(c8,((r7.2.2.2.1,r7.2.2.2.2.1),(r7.2.2.2.2.2.1,((r7.2.2.2.2.2.2.1,r7.2.2.2.2.2.2.2.1),(r7.2.2.2.2.2.2.2.2.1,(r7.2.2.2.2.2.2.2.2.2.1,(r7.2.2.2.2.2.2.2.2.2.2.1,[]))))))))),((r7.2.2.2.2.2.2.2.2.2.2.2.1,(r7.2.2.2.2.2.2.2.2.2.2.2.2.1,(r7.2.2.2.2.2.2.2.2.2.2.2.2.2.1,((r7.2.2.2.2.2.2.2.2.2.2.2.2.2.2.1,r7.2.2.2.2.2.2.2.2.2.2.2.2.2.2.2.1),(r7.2.2.2.2.2.2.2.2.2.2.2.2.2.2.2.2.1,(r7.2.2.2.2.2.2.2.2.2.2.2.2.2.2.2.2.2.1,([],([],(r7.2.2.2.2.2.2.2.2.2.2.2.2.2.2.2.2.2.2.1,r7.2.2.2.2.2.2.2.2.2.2.2.2.2.2.2.2.2.2.2.1))))))))),r7.2.2.2.2.2.2.2.2.2.2.2.2.2.2.2.2.2.2.2.2))],[((r.1,(r.2.1,(c9,((r.2.2.2.1,r.2.2.2.2.1),(r.2.2.2.2.2.1,((r.2.2.2.2.2.2.1,r.2.2.2.2.2.2.2.1),(r.2.2.2.2.2.2.2.2.1,(r.2.2.2.2.2.2.2.2.2.1,(r.2.2.2.2.2.2.2.2.2.2.1,[]))))))))),((r.2.2.2.2.2.2.2.2.2.2.2.1,(r.2.2.2.2.2.2.2.2.2.2.2.2.1,(r.2.2.2.2.2.2.2.2.2.2.2.2.2.1,((r.2.2.2.2.2.2.2.2.2.2.2.2.2.2.1,r.2.2.2.2.2.2.2.2.2.2.2.2.2.2.2.1),(r.2.2.2.2.2.2.2.2.2.2.2.2.2.2.2.2.1,(r.2.2.2.2.2.2.2.2.2.2.2.2.2.2.2.2.2.1,([],([],(r.2.2.2.2.2.2.2.2.2.2.2.2.2.2.2.2.2.2.1,r.2.2.2.2.2.2.2.2.2.2.2.2.2.2.2.2.2.2.2.1))))))))),r.2.2.2.2.2.2.2.2.2.2.2.2.2.2.2.2.2.2.2.2)),((r8.1,(r8.2.1,(c10,((r8.2.2.2.1,r8.2.2.2.2.1),(r8.2.2.2.2.2.1,((r8.2.2.2.2.2.2.1,r8.2.2.2.2.2.2.2.1),(r8.2.2.2.2.2.2.2.2.1,(r8.2.2.2.2.2.2.2.2.2.1,(r8.2.2.2.2.2.2.2.2.2.2.1,[]))))))))),((r8.2.2.2.2.2.2.2.2.2.2.2.1,(r8.2.2.2.2.2.2.2.2.2.2.2.2.1,(r8.2.2.2.2.2.2.2.2.2.2.2.2.2.1,((r8.2.2.2.2.2.2.2.2.2.2.2.2.2.2.1,r8.2.2.2.2.2.2.2.2.2.2.2.2.2.2.2.1),(r8.2.2.2.2.2.2.2.2.2.2.2.2.2.2.2.2.1,(r8.2.2.2.2.2.2.2.2.2.2.2.2.2.2.2.2.2.1,([],([],(r8.2.2.2.2.2.2.2.2.2.2.2.2.2.2.2.2.2.2.1,r8.2.2.2.2.2.2.2.2.2.2.2.2.2.2.2.2.2.2.2.1))))))))),r8.2.2.2.2.2.2.2.2.2.2.2.2.2.2.2.2.2.2.2.2))],[((r9.1,(r9.2.1,(c11,((r9.2.2.2.1,r9.2.2.2.2.1),(r9.2.2.2.2.2.1,((r9.2.2.2.2.2.2.1,r9.2.2.2.2.2.2.2.1),(r9.2.2.2.2.2.2.2.2.1,(r9.2.2.2.2.2.2.2.2.2.1,(r9.2.2.2.2.2.2.2.2.2.2.1,[]))))))))),((r9.2.2.2.2.2.2.2.2.2.2.2.1,(r9.2.2.2.2.2.2.2.2.2.2.2.2.1,(r9.2.2.2.2.2.2.2.2.2.2.2.2.2.1,((r9.2.2.2.2.2.2.2.2.2.2.2.2.2.2.1,r9.2.2.2.2.2.2.2.2.2.2.2.2.2.2.2.1),(r9.2.2.2.2.2.2.2.2.2.2.2.2.2.2.2.2.1,(r9.2.2.2.2.2.2.2.2.2.2.2.2.2.2.2.2.2.1,([],([],(r9.2.2.2.2.2.2.2.2.2.2.2.2.2.2.2.2.2.2.1,r9.2.2.2.2.2.2.2.2.2.2.2.2.2.2.2.2.2.2.2.1))))))))),r9.2.2.2.2.2.2.2.2.2.2.2.2.2.2.2.2.2.2.2.2)),((r10.1,(r10.2.1,(c12,((r10.2.2.2.1,r10.2.2.2.2.1),(r10.2.2.2.2.2.1,((r10.2.2.2.2.2.2.1,r10.2.2.2.2.2.2.2.1),(r10.2.2.2.2.2.2.2.2.1,(r10.2.2.2.2.2.2.2.2.2.1,(r10.2.2.2.2.2.2.2.2.2.2.1,[]))))))))),((r10.2.2.2.2.2.2.2.2.2.2.2.1,(r10.2.2.2.2.2.2.2.2.2.2.2.2.1,(r10.2.2.2.2.2.2.2.2.2.2.2.2.2.1,((r10.2.2.2.2.2.2.2.2.2.2.2.2.2.2.1,r10.2.2.2.2.2.2.2.2.2.2.2.2.2.2.2.1),(r10.2.2.2.2.2.2.2.2.2.2.2.2.2.2.2.2.1,(r10.2.2.2.2.2.2.2.2.2.2.2.2.2.2.2.2.2.1,([],([],(r10.2.2.2.2.2.2.2.2.2.2.2.2.2.2.2.2.2.2.1,r10.2.2.2.2.2.2.2.2.2.2.2.2.2.2.2.2.2.2.2.1))))))))),r10.2.2.2.2.2.2.2.2.2.2.2.2.2.2.2.2.2.2.2.2))],(List.replicate (α:=qT1) 201 ((0,(0,(0,((0,0),([],((0,0),([],(0,(0,[]))))))))),((0,(0,(0,((0,0),(false,(0,([],([],(false,0))))))))),(0,0))))])))))))))))))))))))))))))).bind fun o1=>
 match o1 with
 |.inl s=>
  (byte? s.2.2.2.2.1).bind fun c13=>
  (law28_LinearNumbersG_l1_it gP fu (0,(s.1,(s.2.1,([((s.2.2.1,(s.2.2.2.1,(c13,((s.2.2.2.2.2.1,s.2.2.2.2.2.2.1),(s.2.2.2.2.2.2.2.1,((s.2.2.2.2.2.2.2.2.1,s.2.2.2.2.2.2.2.2.2.1),(s.2.2.2.2.2.2.2.2.2.2.1,(s.2.2.2.2.2.2.2.2.2.2.2.1,(s.2.2.2.2.2.2.2.2.2.2.2.2.1,[]))))))))),((s.2.2.2.2.2.2.2.2.2.2.2.2.2.1,(s.2.2.2.2.2.2.2.2.2.2.2.2.2.2.1,(s.2.2.2.2.2.2.2.2.2.2.2.2.2.2.2.1,((s.2.2.2.2.2.2.2.2.2.2.2.2.2.2.2.2.1,s.2.2.2.2.2.2.2.2.2.2.2.2.2.2.2.2.2.1),(s.2.2.2.2.2.2.2.2.2.2.2.2.2.2.2.2.2.2.1,(s.2.2.2.2.2.2.2.2.2.2.2.2.2.2.2.2.2.2.2.1,([],([],(s.2.2.2.2.2.2.2.2.2.2.2.2.2.2.2.2.2.2.2.2.1,s.2.2.2.2.2.2.2.2.2.2.2.2.2.2.2.2.2.2.2.2.2.1))))))))),s.2.2.2.2.2.2.2.2.2.2.2.2.2.2.2.2.2.2.2.2.2.2))],[[],[1],[(-1)],[0,0]]))))).bind fun o3=>
  match o3 with
  |.inl s1=>
   (lJud fu s1.2.2 0).bind fun r17=>
   (lJud fu s1.2.2 1001).bind fun r18=>
   (lJud fu [] 1).bind fun r19=>
   (gP 0 1 2 1 4 151 (s1.1,s1.2.1)).bind fun r20=>
   (gP 1 1 1 5 6 171 (s1.1,s1.2.1)).bind fun r21=>
   (law28_LinearNumbersG_l2_it gP fu (0,(s1.1,(s1.2.1,(s1.2.2,(r20.1,(r20.2.1,(r20.2.2.1,(r20.2.2.2.1,(r20.2.2.2.2.1,(r20.2.2.2.2.2.1,(r20.2.2.2.2.2.2.1,(r20.2.2.2.2.2.2.2.1,(r20.2.2.2.2.2.2.2.2.1,(r20.2.2.2.2.2.2.2.2.2.1,(r20.2.2.2.2.2.2.2.2.2.2.1,(r20.2.2.2.2.2.2.2.2.2.2.2.1,(r20.2.2.2.2.2.2.2.2.2.2.2.2.1,(r20.2.2.2.2.2.2.2.2.2.2.2.2.2.1,(r20.2.2.2.2.2.2.2.2.2.2.2.2.2.2.1,(r20.2.2.2.2.2.2.2.2.2.2.2.2.2.2.2.1,(r20.2.2.2.2.2.2.2.2.2.2.2.2.2.2.2.2.1,(r20.2.2.2.2.2.2.2.2.2.2.2.2.2.2.2.2.2.1,(r20.2.2.2.2.2.2.2.2.2.2.2.2.2.2.2.2.2.2.1,(r20.2.2.2.2.2.2.2.2.2.2.2.2.2.2.2.2.2.2.2.1,(r20.2.2.2.2.2.2.2.2.2.2.2.2.2.2.2.2.2.2.2.2.1,(r20.2.2.2.2.2.2.2.2.2.2.2.2.2.2.2.2.2.2.2.2.2,(r21.1,(r21.2.1,(r21.2.2.1,(r21.2.2.2.1,(r21.2.2.2.2.1,(r21.2.2.2.2.2.1,(r21.2.2.2.2.2.2.1,(r21.2.2.2.2.2.2.2.1,(r21.2.2.2.2.2.2.2.2.1,(r21.2.2.2.2.2.2.2.2.2.1,(r21.2.2.2.2.2.2.2.2.2.2.1,(r21.2.2.2.2.2.2.2.2.2.2.2.1,(r21.2.2.2.2.2.2.2.2.2.2.2.2.1,(r21.2.2.2.2.2.2.2.2.2.2.2.2.2.1,(r21.2.2.2.2.2.2.2.2.2.2.2.2.2.2.1,(r21.2.2.2.2.2.2.2.2.2.2.2.2.2.2.2.1,(r21.2.2.2.2.2.2.2.2.2.2.2.2.2.2.2.2.1,(r21.2.2.2.2.2.2.2.2.2.2.2.2.2.2.2.2.2.1,(r21.2.2.2.2.2.2.2.2.2.2.2.2.2.2.2.2.2.2.1,(r21.2.2.2.2.2.2.2.2.2.2.2.2.2.2.2.2.2.2.2.1,(r21.2.2.2.2.2.2.2.2.2.2.2.2.2.2.2.2.2.2.2.2.1,(r21.2.2.2.2.2.2.2.2.2.2.2.2.2.2.2.2.2.2.2.2.2,[]))))))))))))))))))))))))))))))))))))))))))))))))).bind fun o5=>
   (gP 10 1 1 10 11 0 (o5.1,o5.2.1)).bind fun r23=>
   (upto? 1 o5.2.2.2.2.2.2.2.2.2.2.2.2.2.2.2.2.2.2.2.2.2.2.2.2.2.2.2.2.2.2.2.2.2.2.2.2.2.2.2.2.2.2.2.2.2.2.2.length).bind fun q2=>
   need (Nat.ble (0+q2) o5.2.2.2.2.2.2.2.2.2.2.2.2.2.2.2.2.2.2.2.2.2.2.2.2.2.2.2.2.2.2.2.2.2.2.2.2.2.2.2.2.2.2.2.2.2.2.2.length)<|
   (lJud fu (List.take q2 (List.drop 0 o5.2.2.2.2.2.2.2.2.2.2.2.2.2.2.2.2.2.2.2.2.2.2.2.2.2.2.2.2.2.2.2.2.2.2.2.2.2.2.2.2.2.2.2.2.2.2.2)) 1).bind fun r24=>
   Option.bind (α:=((Bool×(List (qT1)×(List (qT1)×qT6))))) (
    bif (r17.2==2) then
     bif (r18.2==2) then
      bif r19.1 then
       bif (r19.2==0) then
        (byte? o5.2.2.2.2.2.1).bind fun c16=>
        (byte? o5.2.2.2.2.2.2.2.2.2.2.2.2.2.2.2.2.2.2.2.2.2.2.2.2.2.2.2.1).bind fun c17=>
        (law28_judged fu [((o5.2.2.2.1,(o5.2.2.2.2.1,(c16,((o5.2.2.2.2.2.2.1,o5.2.2.2.2.2.2.2.1),(o5.2.2.2.2.2.2.2.2.1,((o5.2.2.2.2.2.2.2.2.2.1,o5.2.2.2.2.2.2.2.2.2.2.1),(o5.2.2.2.2.2.2.2.2.2.2.2.1,(o5.2.2.2.2.2.2.2.2.2.2.2.2.1,(o5.2.2.2.2.2.2.2.2.2.2.2.2.2.1,[]))))))))),((o5.2.2.2.2.2.2.2.2.2.2.2.2.2.2.1,(o5.2.2.2.2.2.2.2.2.2.2.2.2.2.2.2.1,(o5.2.2.2.2.2.2.2.2.2.2.2.2.2.2.2.2.1,((o5.2.2.2.2.2.2.2.2.2.2.2.2.2.2.2.2.2.1,o5.2.2.2.2.2.2.2.2.2.2.2.2.2.2.2.2.2.2.1),(o5.2.2.2.2.2.2.2.2.2.2.2.2.2.2.2.2.2.2.2.1,(o5.2.2.2.2.2.2.2.2.2.2.2.2.2.2.2.2.2.2.2.2.1,([],([],(o5.2.2.2.2.2.2.2.2.2.2.2.2.2.2.2.2.2.2.2.2.2.1,o5.2.2.2.2.2.2.2.2.2.2.2.2.2.2.2.2.2.2.2.2.2.2.1))))))))),(o5.2.2.2.2.2.2.2.2.2.2.2.2.2.2.2.2.2.2.2.2.2.2.2.1,o5.2.2.2.2.2.2.2.2.2.2.2.2.2.2.2.2.2.2.2.2.2.2.2.2.1))),((o5.2.2.2.2.2.2.2.2.2.2.2.2.2.2.2.2.2.2.2.2.2.2.2.2.2.1,(o5.2.2.2.2.2.2.2.2.2.2.2.2.2.2.2.2.2.2.2.2.2.2.2.2.2.2.1,(c17,((o5.2.2.2.2.2.2.2.2.2.2.2.2.2.2.2.2.2.2.2.2.2.2.2.2.2.2.2.2.1,o5.2.2.2.2.2.2.2.2.2.2.2.2.2.2.2.2.2.2.2.2.2.2.2.2.2.2.2.2.2.1),(o5.2.2.2.2.2.2.2.2.2.2.2.2.2.2.2.2.2.2.2.2.2.2.2.2.2.2.2.2.2.2.1,((o5.2.2.2.2.2.2.2.2.2.2.2.2.2.2.2.2.2.2.2.2.2.2.2.2.2.2.2.2.2.2.2.1,o5.2.2.2.2.2.2.2.2.2.2.2.2.2.2.2.2.2.2.2.2.2.2.2.2.2.2.2.2.2.2.2.2.1),(o5.2.2.2.2.2.2.2.2.2.2.2.2.2.2.2.2.2.2.2.2.2.2.2.2.2.2.2.2.2.2.2.2.2.1,(o5.2.2.2.2.2.2.2.2.2.2.2.2.2.2.2.2.2.2.2.2.2.2.2.2.2.2.2.2.2.2.2.2.2.2.1,(o5.2.2.2.2.2.2.2.2.2.2.2.2.2.2.2.2.2.2.2.2.2.2.2.2.2.2.2.2.2.2.2.2.2.2.2.1,[]))))))))),((o5.2.2.2.2.2.2.2.2.2.2.2.2.2.2.2.2.2.2.2.2.2.2.2.2.2.2.2.2.2.2.2.2.2.2.2.2.1,(o5.2.2.2.2.2.2.2.2.2.2.2.2.2.2.2.2.2.2.2.2.2.2.2.2.2.2.2.2.2.2.2.2.2.2.2.2.2.1,(o5.2.2.2.2.2.2.2.2.2.2.2.2.2.2.2.2.2.2.2.2.2.2.2.2.2.2.2.2.2.2.2.2.2.2.2.2.2.2.1,((o5.2.2.2.2.2.2.2.2.2.2.2.2.2.2.2.2.2.2.2.2.2.2.2.2.2.2.2.2.2.2.2.2.2.2.2.2.2.2.2.1,o5.2.2.2.2.2.2.2.2.2.2.2.2.2.2.2.2.2.2.2.2.2.2.2.2.2.2.2.2.2.2.2.2.2.2.2.2.2.2.2.2.1),(o5.2.2.2.2.2.2.2.2.2.2.2.2.2.2.2.2.2.2.2.2.2.2.2.2.2.2.2.2.2.2.2.2.2.2.2.2.2.2.2.2.2.1,(o5.2.2.2.2.2.2.2.2.2.2.2.2.2.2.2.2.2.2.2.2.2.2.2.2.2.2.2.2.2.2.2.2.2.2.2.2.2.2.2.2.2.2.1,([],([],(o5.2.2.2.2.2.2.2.2.2.2.2.2.2.2.2.2.2.2.2.2.2.2.2.2.2.2.2.2.2.2.2.2.2.2.2.2.2.2.2.2.2.2.2.1,o5.2.2.2.2.2.2.2.2.2.2.2.2.2.2.2.2.2.2.2.2.2.2.2.2.2.2.2.2.2.2.2.2.2.2.2.2.2.2.2.2.2.2.2.2.1))))))))),(o5.2.2.2.2.2.2.2.2.2.2.2.2.2.2.2.2.2.2.2.2.2.2.2.2.2.2.2.2.2.2.2.2.2.2.2.2.2.2.2.2.2.2.2.2.2.1,o5.2.2.2.2.2.2.2.2.2.2.2.2.2.2.2.2.2.2.2.2.2.2.2.2.2.2.2.2.2.2.2.2.2.2.2.2.2.2.2.2.2.2.2.2.2.2.1)))]).bind fun r25=>
        bif (r25==1) then
         (byte? o5.2.2.2.2.2.1).bind fun c18=>
         (byte? o5.2.2.2.2.2.2.2.2.2.2.2.2.2.2.2.2.2.2.2.2.2.2.2.2.2.2.2.1).bind fun c19=>
         (lOrd fu [((o5.2.2.2.1,(o5.2.2.2.2.1,(c18,((o5.2.2.2.2.2.2.1,o5.2.2.2.2.2.2.2.1),(o5.2.2.2.2.2.2.2.2.1,((o5.2.2.2.2.2.2.2.2.2.1,o5.2.2.2.2.2.2.2.2.2.2.1),(o5.2.2.2.2.2.2.2.2.2.2.2.1,(o5.2.2.2.2.2.2.2.2.2.2.2.2.1,(o5.2.2.2.2.2.2.2.2.2.2.2.2.2.1,[]))))))))),((o5.2.2.2.2.2.2.2.2.2.2.2.2.2.2.1,(o5.2.2.2.2.2.2.2.2.2.2.2.2.2.2.2.1,(o5.2.2.2.2.2.2.2.2.2.2.2.2.2.2.2.2.1,((o5.2.2.2.2.2.2.2.2.2.2.2.2.2.2.2.2.2.1,o5.2.2.2.2.2.2.2.2.2.2.2.2.2.2.2.2.2.2.1),(o5.2.2.2.2.2.2.2.2.2.2.2.2.2.2.2.2.2.2.2.1,(o5.2.2.2.2.2.2.2.2.2.2.2.2.2.2.2.2.2.2.2.2.1,([],([],(o5.2.2.2.2.2.2.2.2.2.2.2.2.2.2.2.2.2.2.2.2.2.1,o5.2.2.2.2.2.2.2.2.2.2.2.2.2.2.2.2.2.2.2.2.2.2.1))))))))),(o5.2.2.2.2.2.2.2.2.2.2.2.2.2.2.2.2.2.2.2.2.2.2.2.1,o5.2.2.2.2.2.2.2.2.2.2.2.2.2.2.2.2.2.2.2.2.2.2.2.2.1))),((o5.2.2.2.2.2.2.2.2.2.2.2.2.2.2.2.2.2.2.2.2.2.2.2.2.2.1,(o5.2.2.2.2.2.2.2.2.2.2.2.2.2.2.2.2.2.2.2.2.2.2.2.2.2.2.1,(c19,((o5.2.2.2.2.2.2.2.2.2.2.2.2.2.2.2.2.2.2.2.2.2.2.2.2.2.2.2.2.1,o5.2.2.2.2.2.2.2.2.2.2.2.2.2.2.2.2.2.2.2.2.2.2.2.2.2.2.2.2.2.1),(o5.2.2.2.2.2.2.2.2.2.2.2.2.2.2.2.2.2.2.2.2.2.2.2.2.2.2.2.2.2.2.1,((o5.2.2.2.2.2.2.2.2.2.2.2.2.2.2.2.2.2.2.2.2.2.2.2.2.2.2.2.2.2.2.2.1,o5.2.2.2.2.2.2.2.2.2.2.2.2.2.2.2.2.2.2.2.2.2.2.2.2.2.2.2.2.2.2.2.2.1),(o5.2.2.2.2.2.2.2.2.2.2.2.2.2.2.2.2.2.2.2.2.2.2.2.2.2.2.2.2.2.2.2.2.2.1,(o5.2.2.2.2.2.2.2.2.2.2.2.2.2.2.2.2.2.2.2.2.2.2.2.2.2.2.2.2.2.2.2.2.2.2.1,(o5.2.2.2.2.2.2.2.2.2.2.2.2.2.2.2.2.2.2.2.2.2.2.2.2.2.2.2.2.2.2.2.2.2.2.2.1,[]))))))))),((o5.2.2.2.2.2.2.2.2.2.2.2.2.2.2.2.2.2.2.2.2.2.2.2.2.2.2.2.2.2.2.2.2.2.2.2.2.1,(o5.2.2.2.2.2.2.2.2.2.2.2.2.2.2.2.2.2.2.2.2.2.2.2.2.2.2.2.2.2.2.2.2.2.2.2.2.2.1,(o5.2.2.2.2.2.2.2.2.2.2.2.2.2.2.2.2.2.2.2.2.2.2.2.2.2.2.2.2.2.2.2.2.2.2.2.2.2.2.1,((o5.2.2.2.2.2.2.2.2.2.2.2.2.2.2.2.2.2.2.2.2.2.2.2.2.2.2.2.2.2.2.2.2.2.2.2.2.2.2.2.1,o5.2.2.2.2.2.2.2.2.2.2.2.2.2.2.2.2.2.2.2.2.2.2.2.2.2.2.2.2.2.2.2.2.2.2.2.2.2.2.2.2.1),(o5.2.2.2.2.2.2.2.2.2.2.2.2.2.2.2.2.2.2.2.2.2.2.2.2.2.2.2.2.2.2.2.2.2.2.2.2.2.2.2.2.2.1,(o5.2.2.2.2.2.2.2.2.2.2.2.2.2.2.2.2.2.2.2.2.2.2.2.2.2.2.2.2.2.2.2.2.2.2.2.2.2.2.2.2.2.2.1,([],([],(o5.2.2.2.2.2.2.2.2.2.2.2.2.2.2.2.2.2.2.2.2.2.2.2.2.2.2.2.2.2.2.2.2.2.2.2.2.2.2.2.2.2.2.2.1,o5.2.2.2.2.2.2.2.2.2.2.2.2.2.2.2.2.2.2.2.2.2.2.2.2.2.2.2.2.2.2.2.2.2.2.2.2.2.2.2.2.2.2.2.2.1))))))))),(o5.2.2.2.2.2.2.2.2.2.2.2.2.2.2.2.2.2.2.2.2.2.2.2.2.2.2.2.2.2.2.2.2.2.2.2.2.2.2.2.2.2.2.2.2.2.1,o5.2.2.2.2.2.2.2.2.2.2.2.2.2.2.2.2.2.2.2.2.2.2.2.2.2.2.2.2.2.2.2.2.2.2.2.2.2.2.2.2.2.2.2.2.2.2.1)))] [0,1]).bind fun r26=>
         bif (!r26) then
          (byte? o5.2.2.2.2.2.1).bind fun c20=>
          (byte? o5.2.2.2.2.2.2.2.2.2.2.2.2.2.2.2.2.2.2.2.2.2.2.2.2.2.2.2.1).bind fun c21=>
          (lOrd fu [((o5.2.2.2.1,(o5.2.2.2.2.1,(c20,((o5.2.2.2.2.2.2.1,o5.2.2.2.2.2.2.2.1),(o5.2.2.2.2.2.2.2.2.1,((o5.2.2.2.2.2.2.2.2.2.1,o5.2.2.2.2.2.2.2.2.2.2.1),(o5.2.2.2.2.2.2.2.2.2.2.2.1,(o5.2.2.2.2.2.2.2.2.2.2.2.2.1,(o5.2.2.2.2.2.2.2.2.2.2.2.2.2.1,[]))))))))),((o5.2.2.2.2.2.2.2.2.2.2.2.2.2.2.1,(o5.2.2.2.2.2.2.2.2.2.2.2.2.2.2.2.1,(o5.2.2.2.2.2.2.2.2.2.2.2.2.2.2.2.2.1,((o5.2.2.2.2.2.2.2.2.2.2.2.2.2.2.2.2.2.1,o5.2.2.2.2.2.2.2.2.2.2.2.2.2.2.2.2.2.2.1),(o5.2.2.2.2.2.2.2.2.2.2.2.2.2.2.2.2.2.2.2.1,(o5.2.2.2.2.2.2.2.2.2.2.2.2.2.2.2.2.2.2.2.2.1,([],([],(o5.2.2.2.2.2.2.2.2.2.2.2.2.2.2.2.2.2.2.2.2.2.1,o5.2.2.2.2.2.2.2.2.2.2.2.2.2.2.2.2.2.2.2.2.2.2.1))))))))),(o5.2.2.2.2.2.2.2.2.2.2.2.2.2.2.2.2.2.2.2.2.2.2.2.1,o5.2.2.2.2.2.2.2.2.2.2.2.2.2.2.2.2.2.2.2.2.2.2.2.2.1))),((o5.2.2.2.2.2.2.2.2.2.2.2.2.2.2.2.2.2.2.2.2.2.2.2.2.2.1,(o5.2.2.2.2.2.2.2.2.2.2.2.2.2.2.2.2.2.2.2.2.2.2.2.2.2.2.1,(c21,((o5.2.2.2.2.2.2.2.2.2.2.2.2.2.2.2.2.2.2.2.2.2.2.2.2.2.2.2.2.1,o5.2.2.2.2.2.2.2.2.2.2.2.2.2.2.2.2.2.2.2.2.2.2.2.2.2.2.2.2.2.1),(o5.2.2.2.2.2.2.2.2.2.2.2.2.2.2.2.2.2.2.2.2.2.2.2.2.2.2.2.2.2.2.1,((o5.2.2.2.2.2.2.2.2.2.2.2.2.2.2.2.2.2.2.2.2.2.2.2.2.2.2.2.2.2.2.2.1,o5.2.2.2.2.2.2.2.2.2.2.2.2.2.2.2.2.2.2.2.2.2.2.2.2.2.2.2.2.2.2.2.2.1),(o5.2.2.2.2.2.2.2.2.2.2.2.2.2.2.2.2.2.2.2.2.2.2.2.2.2.2.2.2.2.2.2.2.2.1,(o5.2.2.2.2.2.2.2.2.2.2.2.2.2.2.2.2.2.2.2.2.2.2.2.2.2.2.2.2.2.2.2.2.2.2.1,(o5.2.2.2.2.2.2.2.2.2.2.2.2.2.2.2.2.2.2.2.2.2.2.2.2.2.2.2.2.2.2.2.2.2.2.2.1,[]))))))))),((o5.2.2.2.2.2.2.2.2.2.2.2.2.2.2.2.2.2.2.2.2.2.2.2.2.2.2.2.2.2.2.2.2.2.2.2.2.1,(o5.2.2.2.2.2.2.2.2.2.2.2.2.2.2.2.2.2.2.2.2.2.2.2.2.2.2.2.2.2.2.2.2.2.2.2.2.2.1,(o5.2.2.2.2.2.2.2.2.2.2.2.2.2.2.2.2.2.2.2.2.2.2.2.2.2.2.2.2.2.2.2.2.2.2.2.2.2.2.1,((o5.2.2.2.2.2.2.2.2.2.2.2.2.2.2.2.2.2.2.2.2.2.2.2.2.2.2.2.2.2.2.2.2.2.2.2.2.2.2.2.1,o5.2.2.2.2.2.2.2.2.2.2.2.2.2.2.2.2.2.2.2.2.2.2.2.2.2.2.2.2.2.2.2.2.2.2.2.2.2.2.2.2.1),(o5.2.2.2.2.2.2.2.2.2.2.2.2.2.2.2.2.2.2.2.2.2.2.2.2.2.2.2.2.2.2.2.2.2.2.2.2.2.2.2.2.2.1,(o5.2.2.2.2.2.2.2.2.2.2.2.2.2.2.2.2.2.2.2.2.2.2.2.2.2.2.2.2.2.2.2.2.2.2.2.2.2.2.2.2.2.2.1,([],([],(o5.2.2.2.2.2.2.2.2.2.2.2.2.2.2.2.2.2.2.2.2.2.2.2.2.2.2.2.2.2.2.2.2.2.2.2.2.2.2.2.2.2.2.2.1,o5.2.2.2.2.2.2.2.2.2.2.2.2.2.2.2.2.2.2.2.2.2.2.2.2.2.2.2.2.2.2.2.2.2.2.2.2.2.2.2.2.2.2.2.2.1))))))))),(o5.2.2.2.2.2.2.2.2.2.2.2.2.2.2.2.2.2.2.2.2.2.2.2.2.2.2.2.2.2.2.2.2.2.2.2.2.2.2.2.2.2.2.2.2.2.1,o5.2.2.2.2.2.2.2.2.2.2.2.2.2.2.2.2.2.2.2.2.2.2.2.2.2.2.2.2.2.2.2.2.2.2.2.2.2.2.2.2.2.2.2.2.2.2.1)))] [1]).bind fun r27=>
          some (r27,(o5.2.2.1,(o5.2.2.2.2.2.2.2.2.2.2.2.2.2.2.2.2.2.2.2.2.2.2.2.2.2.2.2.2.2.2.2.2.2.2.2.2.2.2.2.2.2.2.2.2.2.2.2,(r23.1,(r23.2.1,(r23.2.2.1,(r23.2.2.2.1,(r23.2.2.2.2.1,([97],(r23.2.2.2.2.2.2.1,(r23.2.2.2.2.2.2.2.1,(r23.2.2.2.2.2.2.2.2.1,(r23.2.2.2.2.2.2.2.2.2.1,(r23.2.2.2.2.2.2.2.2.2.2.1,(r23.2.2.2.2.2.2.2.2.2.2.2.1,(r23.2.2.2.2.2.2.2.2.2.2.2.2.1,(r23.2.2.2.2.2.2.2.2.2.2.2.2.2.1,(3,(1,r23.2.2.2.2.2.2.2.2.2.2.2.2.2.2.2.2)))))))))))))))))))
         else
          some (false,(o5.2.2.1,(o5.2.2.2.2.2.2.2.2.2.2.2.2.2.2.2.2.2.2.2.2.2.2.2.2.2.2.2.2.2.2.2.2.2.2.2.2.2.2.2.2.2.2.2.2.2.2.2,(r23.1,(r23.2.1,(r23.2.2.1,(r23.2.2.2.1,(r23.2.2.2.2.1,([97],(r23.2.2.2.2.2.2.1,(r23.2.2.2.2.2.2.2.1,(r23.2.2.2.2.2.2.2.2.1,(r23.2.2.2.2.2.2.2.2.2.1,(r23.2.2.2.2.2.2.2.2.2.2.1,(r23.2.2.2.2.2.2.2.2.2.2.2.1,(r23.2.2.2.2.2.2.2.2.2.2.2.2.1,(r23.2.2.2.2.2.2.2.2.2.2.2.2.2.1,(3,(1,r23.2.2.2.2.2.2.2.2.2.2.2.2.2.2.2.2)))))))))))))))))))
        else
         some (false,(o5.2.2.1,(o5.2.2.2.2.2.2.2.2.2.2.2.2.2.2.2.2.2.2.2.2.2.2.2.2.2.2.2.2.2.2.2.2.2.2.2.2.2.2.2.2.2.2.2.2.2.2.2,(r23.1,(r23.2.1,(r23.2.2.1,(r23.2.2.2.1,(r23.2.2.2.2.1,([97],(r23.2.2.2.2.2.2.1,(r23.2.2.2.2.2.2.2.1,(r23.2.2.2.2.2.2.2.2.1,(r23.2.2.2.2.2.2.2.2.2.1,(r23.2.2.2.2.2.2.2.2.2.2.1,(r23.2.2.2.2.2.2.2.2.2.2.2.1,(r23.2.2.2.2.2.2.2.2.2.2.2.2.1,(r23.2.2.2.2.2.2.2.2.2.2.2.2.2.1,(3,(1,r23.2.2.2.2.2.2.2.2.2.2.2.2.2.2.2.2)))))))))))))))))))
       else
        some (false,(o5.2.2.1,(o5.2.2.2.2.2.2.2.2.2.2.2.2.2.2.2.2.2.2.2.2.2.2.2.2.2.2.2.2.2.2.2.2.2.2.2.2.2.2.2.2.2.2.2.2.2.2.2,(r23.1,(r23.2.1,(r23.2.2.1,(r23.2.2.2.1,(r23.2.2.2.2.1,([97],(r23.2.2.2.2.2.2.1,(r23.2.2.2.2.2.2.2.1,(r23.2.2.2.2.2.2.2.2.1,(r23.2.2.2.2.2.2.2.2.2.1,(r23.2.2.2.2.2.2.2.2.2.2.1,(r23.2.2.2.2.2.2.2.2.2.2.2.1,(r23.2.2.2.2.2.2.2.2.2.2.2.2.1,(r23.2.2.2.2.2.2.2.2.2.2.2.2.2.1,(3,(1,r23.2.2.2.2.2.2.2.2.2.2.2.2.2.2.2.2)))))))))))))))))))
      else
       some (false,(o5.2.2.1,(o5.2.2.2.2.2.2.2.2.2.2.2.2.2.2.2.2.2.2.2.2.2.2.2.2.2.2.2.2.2.2.2.2.2.2.2.2.2.2.2.2.2.2.2.2.2.2.2,(r23.1,(r23.2.1,(r23.2.2.1,(r23.2.2.2.1,(r23.2.2.2.2.1,([97],(r23.2.2.2.2.2.2.1,(r23.2.2.2.2.2.2.2.1,(r23.2.2.2.2.2.2.2.2.1,(r23.2.2.2.2.2.2.2.2.2.1,(r23.2.2.2.2.2.2.2.2.2.2.1,(r23.2.2.2.2.2.2.2.2.2.2.2.1,(r23.2.2.2.2.2.2.2.2.2.2.2.2.1,(r23.2.2.2.2.2.2.2.2.2.2.2.2.2.1,(3,(1,r23.2.2.2.2.2.2.2.2.2.2.2.2.2.2.2.2)))))))))))))))))))
     else
      some (false,(o5.2.2.1,(o5.2.2.2.2.2.2.2.2.2.2.2.2.2.2.2.2.2.2.2.2.2.2.2.2.2.2.2.2.2.2.2.2.2.2.2.2.2.2.2.2.2.2.2.2.2.2.2,(r23.1,(r23.2.1,(r23.2.2.1,(r23.2.2.2.1,(r23.2.2.2.2.1,([97],(r23.2.2.2.2.2.2.1,(r23.2.2.2.2.2.2.2.1,(r23.2.2.2.2.2.2.2.2.1,(r23.2.2.2.2.2.2.2.2.2.1,(r23.2.2.2.2.2.2.2.2.2.2.1,(r23.2.2.2.2.2.2.2.2.2.2.2.1,(r23.2.2.2.2.2.2.2.2.2.2.2.2.1,(r23.2.2.2.2.2.2.2.2.2.2.2.2.2.1,(3,(1,r23.2.2.2.2.2.2.2.2.2.2.2.2.2.2.2.2)))))))))))))))))))
    else
     some (false,(o5.2.2.1,(o5.2.2.2.2.2.2.2.2.2.2.2.2.2.2.2.2.2.2.2.2.2.2.2.2.2.2.2.2.2.2.2.2.2.2.2.2.2.2.2.2.2.2.2.2.2.2.2,(r23.1,(r23.2.1,(r23.2.2.1,(r23.2.2.2.1,(r23.2.2.2.2.1,([97],(r23.2.2.2.2.2.2.1,(r23.2.2.2.2.2.2.2.1,(r23.2.2.2.2.2.2.2.2.1,(r23.2.2.2.2.2.2.2.2.2.1,(r23.2.2.2.2.2.2.2.2.2.2.1,(r23.2.2.2.2.2.2.2.2.2.2.2.1,(r23.2.2.2.2.2.2.2.2.2.2.2.2.1,(r23.2.2.2.2.2.2.2.2.2.2.2.2.2.1,(3,(1,r23.2.2.2.2.2.2.2.2.2.2.2.2.2.2.2.2)))))))))))))))))))) fun o6=>
   bif o6.1 then
    bif r24.1 then
     bif (r24.2==0) then
      (law28_judged fu o6.2.2.1).bind fun r28=>
      bif (r28==1) then
       (byte? o6.2.2.2.2.2.1).bind fun c22=>
       need ((Nat.ble ((o6.2.2.1.length+1)*264) room)&&(Nat.ble (o6.2.2.1.length+1) room))<|
       (law28_judged fu (o6.2.2.1++[((o6.2.2.2.1,(o6.2.2.2.2.1,(c22,((o6.2.2.2.2.2.2.1,o6.2.2.2.2.2.2.2.1),(o6.2.2.2.2.2.2.2.2.1,((o6.2.2.2.2.2.2.2.2.2.1,o6.2.2.2.2.2.2.2.2.2.2.1),(o6.2.2.2.2.2.2.2.2.2.2.2.1,(o6.2.2.2.2.2.2.2.2.2.2.2.2.1,(o6.2.2.2.2.2.2.2.2.2.2.2.2.2.1,[]))))))))),((o6.2.2.2.2.2.2.2.2.2.2.2.2.2.2.1,(o6.2.2.2.2.2.2.2.2.2.2.2.2.2.2.2.1,(o6.2.2.2.2.2.2.2.2.2.2.2.2.2.2.2.2.1,((o6.2.2.2.2.2.2.2.2.2.2.2.2.2.2.2.2.2.1,o6.2.2.2.2.2.2.2.2.2.2.2.2.2.2.2.2.2.2.1),(o6.2.2.2.2.2.2.2.2.2.2.2.2.2.2.2.2.2.2.2.1,(o6.2.2.2.2.2.2.2.2.2.2.2.2.2.2.2.2.2.2.2.2.1,([],([],(o6.2.2.2.2.2.2.2.2.2.2.2.2.2.2.2.2.2.2.2.2.2.1,o6.2.2.2.2.2.2.2.2.2.2.2.2.2.2.2.2.2.2.2.2.2.2.1))))))))),o6.2.2.2.2.2.2.2.2.2.2.2.2.2.2.2.2.2.2.2.2.2.2.2))])).bind fun r29=>
       bif (r29==0) then
        (lOrd fu o6.2.1 [0]).bind fun r30=>
        bif r30 then
         (law28_awake fu).bind fun r31=>
         some r31
        else
         some false
       else
        some false
      else
       some false
     else
      some false
    else
     some false
   else
    some false
  |.inr o4=>
   some o4
 |.inr o2=>
  some o2
theorem ceZ: @Go.Ab.D.law28_LinearNumbersG= @Go.Ab.V.law28_LinearNumbersG:=by
 delta Go.Ab.D.law28_LinearNumbersG Go.Ab.V.law28_LinearNumbersG
 rw[bjZ,blZ,lTZ,bDZ,idZ,fdZ]
 try kernel_rfl
def law28_LinearNumbers(fu:Nat):Option (Bool):=
 law28_LinearNumbersG (law28_past fu) fu
theorem law28_LinearNumbers_v: @Go.Ab.D.law28_LinearNumbers= @Go.Ab.V.law28_LinearNumbers:=by
 delta Go.Ab.D.law28_LinearNumbers Go.Ab.V.law28_LinearNumbers
 rw[ceZ]
 try kernel_rfl
end
end Go.Ab.V
namespace Go.Ab.V
open Go Go.Ab Go.Ab.D
theorem numbers28:law28_LinearNumbers fuel=some true:=by kernel_rfl
end Go.Ab.V
namespace Go.Ab.D
theorem law28_LinearNumbers_true:law28_LinearNumbers fuel=some true:=by
 rw[Go.Ab.V.law28_LinearNumbers_v];exact Go.Ab.V.numbers28
end Go.Ab.D
