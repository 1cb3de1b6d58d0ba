/- Functions of the program as plain Lean functions: each equation is checked by the kernel; what is told of a function follows from it. -/
import Derived.Test.YtdeibkibmmnnoaaGreatModelReadsD1
set_option linter.all false
set_option maxRecDepth 100000
set_option maxHeartbeats 4000000
namespace Go.Ab.D
open Go.Proofs
open Go Go.Ab
noncomputable section
def mdoesizW(fu:Nat)(id:Int)(size:Int)(h:List (qT1))(h1:Int)(h2:List (List (UInt8)))(h3:Int)(h4:Int)(h5:Int)(h6:Int)(h7:Int)(h8:List UInt8)(h9:Int)(h10:Int)(h11:List UInt8)(h12:Int)(h13:Int)(h14:List (UInt8))(h15:Int)(h16:Int)(h17:Int)(h18:Int)(h19:Int)(h20:Bool)(h21:Int)(h22:Bool)(h23:Int):Option (((List (UInt8)⊕Option (Nat×(Nat×Nat)))×(Int×(Int×(Int×(Int×(Int×(Int×(List UInt8×(Int×(Int×(List UInt8×(Int×(Int×(List (UInt8)×(Int×(Int×(Int×(Int×(Int×(Bool×(Int×(Bool×(Int×(List (qT1)×(List ((List (UInt8)⊕Option (Nat×(Nat×Nat))))×List ((Nat×List (UInt8))))))))))))))))))))))))))))):=
 (upto? size room).bind fun m=>
 (upto? size m).bind fun q=>
 need (Nat.ble (m*1) room)<|
 (idx? (IntKind.wrap .i64 (id-1)) h2.length).bind fun q1=>
 (h2)[q1]?.bind fun r=>
 (sClo5 fu h2).bind fun r1=>
 (idx? (IntKind.wrap .i64 (id-1)) (List.map (liftT (.ref 3 .byte)) r1).length).bind fun q2=>
 ((List.map (liftT (.ref 3 .byte)) r1))[q2]?.bind fun r2=>
 (mcop fu (h,h1)).bind fun r3=>
 (idx? (IntKind.wrap .i64 (id-1)) r3.2.length).bind fun q3=>
 (r3.2)[q3]?.bind fun r4=>
 some ((.inr (some (0,(0,(splice (List.replicate (α:=UInt8) q 0) 0 (List.take (List.replicate (α:=UInt8) q 0).length r)).length)))),(r3.1,(h3,(h4,(h5,(h6,(h7,(h8,(h9,(h10,(h11,(h12,(h13,(h14,(h15,(h16,(h17,(h6,(h7,(h20,(size,(h22,(h23,((List.set r3.2 q3 (r4.1,(r4.2.1,(r4.2.2.1,(r4.2.2.2.1,(size,r4.2.2.2.2.2)))))),((List.set (List.map (liftT (.ref 3 .byte)) r1) q2 (.inr (some (0,(0,(splice (List.replicate (α:=UInt8) q 0) 0 (List.take (List.replicate (α:=UInt8) q 0).length r)).length))))),([]++[(1,(splice (List.replicate (α:=UInt8) q 0) 0 (List.take (List.replicate (α:=UInt8) q 0).length r)))]))))))))))))))))))))))))))
def mdoesizW_fa:FnA:=⟨.two lf (.two (.reg [(1,{ids:=[100]})]) (.two lf (.two (.reg [(5,{ids:=[101]})]) (.pre (.newFam 3 5 .byte) (.pre (.toRef 101 (.ref 3 .byte)) (.pre (.mem 7 3) (.two lf (.two (.reg [(5,{ids:=[102],fn:=1})]) (.two lf (.two lf lf)))))))))),⟨(.cons (.own 0 0 0 0) qL41),[(0,false,qB2)]⟩,[⟨(.cons (.p (.ref 3 .byte)) .nil),[(0,false,qB52),(1,false,(.rows 49 qY0)),(2,false,(.rows 33 (.ref 3 .byte))),(999987,false,(.fam 5 .byte))]⟩],[0]⟩
def mdoesizW_ft(fu:Nat):FnT:=⟨51,mdoesizW_fa.i,mdoesizW_fa.os,u26 (mdoesizW fu)⟩
theorem hLZ(fu:Nat):Told Tryz.prog (mdoesizW_ft fu):=tk fu mdoesizW_fa (aaZ (g1Z fu) (aaZ (dYZ fu) acZ)) Tryz.func51 (by kernel_rfl) fun t=>by kernel_rfl
def mdoewri(fu:Nat)(h:List (qT1))(h1:Int)(h2:List (List (UInt8)))(h3:Int)(h4:Int)(h5:Int)(h6:Int)(h7:Int)(h8:List UInt8)(h9:Int)(h10:Int)(h11:List UInt8)(h12:Int)(h13:Int)(h14:List (UInt8))(h15:Int)(h16:Int)(h17:Int)(h18:Int)(h19:Int)(h20:Bool)(h21:Int)(h22:Bool)(h23:Int):Option ((Int×qT9)):=
 (mdoefil fu h h1 h2 h3 h4 h5 h6 h7 h8 h9 h10 h11 h12 h13 h14 h15 h16 h17 h18 h19 h20 h21 h22 h23).bind fun r=>
 bif (!(r.2.2.1==0)) then
  some (r.2.2.1,(r.2.2.2.1,(r.2.2.2.2.1,(r.2.2.2.2.2.1,(r.2.2.2.2.2.2.1,(r.2.2.2.2.2.2.2.1,(r.2.2.2.2.2.2.2.2.1,(r.2.2.2.2.2.2.2.2.2.1,(r.2.2.2.2.2.2.2.2.2.2.1,(r.2.2.2.2.2.2.2.2.2.2.2.1,(r.2.2.2.2.2.2.2.2.2.2.2.2.1,(r.2.2.2.2.2.2.2.2.2.2.2.2.2.1,(r.2.2.2.2.2.2.2.2.2.2.2.2.2.2.1,(r.2.2.2.2.2.2.2.2.2.2.2.2.2.2.2.1,(r.2.2.2.2.2.2.2.2.2.2.2.2.2.2.2.2.1,(r.2.2.2.2.2.2.2.2.2.2.2.2.2.2.2.2.2.1,(r.2.2.2.2.2.2.2.2.2.2.2.2.2.2.2.2.2.2.1,(r.2.2.2.2.2.2.2.2.2.2.2.2.2.2.2.2.2.2.2.1,(r.2.2.2.2.2.2.2.2.2.2.2.2.2.2.2.2.2.2.2.2.1,(r.2.2.2.2.2.2.2.2.2.2.2.2.2.2.2.2.2.2.2.2.2.1,(r.2.2.2.2.2.2.2.2.2.2.2.2.2.2.2.2.2.2.2.2.2.2.1,(r.2.2.2.2.2.2.2.2.2.2.2.2.2.2.2.2.2.2.2.2.2.2.2.1,(r.2.2.2.2.2.2.2.2.2.2.2.2.2.2.2.2.2.2.2.2.2.2.2.2.1,(r.2.2.2.2.2.2.2.2.2.2.2.2.2.2.2.2.2.2.2.2.2.2.2.2.2.1,r.2.2.2.2.2.2.2.2.2.2.2.2.2.2.2.2.2.2.2.2.2.2.2.2.2.2))))))))))))))))))))))))
 else
  bif (decide ((IntKind.wrap .i64 (r.2.2.2.2.2.2.2.2.2.2.2.2.2.2.2.1+((r.2.2.2.2.2.2.2.2.2.2.2.2.2.2.2.2.2.1.length:Nat):Int)))>65536)) then
   some (177,(r.2.2.2.1,(r.2.2.2.2.1,(r.2.2.2.2.2.1,(r.2.2.2.2.2.2.1,(r.2.2.2.2.2.2.2.1,(r.2.2.2.2.2.2.2.2.1,(r.2.2.2.2.2.2.2.2.2.1,(r.2.2.2.2.2.2.2.2.2.2.1,(r.2.2.2.2.2.2.2.2.2.2.2.1,(r.2.2.2.2.2.2.2.2.2.2.2.2.1,(r.2.2.2.2.2.2.2.2.2.2.2.2.2.1,(r.2.2.2.2.2.2.2.2.2.2.2.2.2.2.1,(r.2.2.2.2.2.2.2.2.2.2.2.2.2.2.2.1,(r.2.2.2.2.2.2.2.2.2.2.2.2.2.2.2.2.1,(r.2.2.2.2.2.2.2.2.2.2.2.2.2.2.2.2.2.1,(r.2.2.2.2.2.2.2.2.2.2.2.2.2.2.2.2.2.2.1,(r.2.2.2.2.2.2.2.2.2.2.2.2.2.2.2.2.2.2.2.1,(r.2.2.2.2.2.2.2.2.2.2.2.2.2.2.2.2.2.2.2.2.1,(r.2.2.2.2.2.2.2.2.2.2.2.2.2.2.2.2.2.2.2.2.2.1,(r.2.2.2.2.2.2.2.2.2.2.2.2.2.2.2.2.2.2.2.2.2.2.1,(r.2.2.2.2.2.2.2.2.2.2.2.2.2.2.2.2.2.2.2.2.2.2.2.1,(r.2.2.2.2.2.2.2.2.2.2.2.2.2.2.2.2.2.2.2.2.2.2.2.2.1,(r.2.2.2.2.2.2.2.2.2.2.2.2.2.2.2.2.2.2.2.2.2.2.2.2.2.1,r.2.2.2.2.2.2.2.2.2.2.2.2.2.2.2.2.2.2.2.2.2.2.2.2.2.2))))))))))))))))))))))))
  else
   Option.bind (α:=((Int×qT9))) (
    bif (((r.2.2.2.2.2.2.2.2.2.2.2.2.2.2.2.2.2.1.length:Nat):Int)==0) then
     some (0,(r.2.2.2.1,(r.2.2.2.2.1,(r.2.2.2.2.2.1,(r.2.2.2.2.2.2.1,(r.2.2.2.2.2.2.2.1,(r.2.2.2.2.2.2.2.2.1,(r.2.2.2.2.2.2.2.2.2.1,(r.2.2.2.2.2.2.2.2.2.2.1,(r.2.2.2.2.2.2.2.2.2.2.2.1,(r.2.2.2.2.2.2.2.2.2.2.2.2.1,(r.2.2.2.2.2.2.2.2.2.2.2.2.2.1,(r.2.2.2.2.2.2.2.2.2.2.2.2.2.2.1,(r.2.2.2.2.2.2.2.2.2.2.2.2.2.2.2.1,(r.2.2.2.2.2.2.2.2.2.2.2.2.2.2.2.2.1,(r.2.2.2.2.2.2.2.2.2.2.2.2.2.2.2.2.2.1,(r.2.2.2.2.2.2.2.2.2.2.2.2.2.2.2.2.2.2.1,(r.2.2.2.2.2.2.2.2.2.2.2.2.2.2.2.2.2.2.2.1,(r.2.2.2.2.2.2.2.2.2.2.2.2.2.2.2.2.2.2.2.2.1,(r.2.2.2.2.2.2.2.2.2.2.2.2.2.2.2.2.2.2.2.2.2.1,(r.2.2.2.2.2.2.2.2.2.2.2.2.2.2.2.2.2.2.2.2.2.2.1,(r.2.2.2.2.2.2.2.2.2.2.2.2.2.2.2.2.2.2.2.2.2.2.2.1,(r.2.2.2.2.2.2.2.2.2.2.2.2.2.2.2.2.2.2.2.2.2.2.2.2.1,(r.2.2.2.2.2.2.2.2.2.2.2.2.2.2.2.2.2.2.2.2.2.2.2.2.2.1,r.2.2.2.2.2.2.2.2.2.2.2.2.2.2.2.2.2.2.2.2.2.2.2.2.2.2))))))))))))))))))))))))
    else
     some ((IntKind.wrap .i64 (r.2.2.2.2.2.2.2.2.2.2.2.2.2.2.2.1+((r.2.2.2.2.2.2.2.2.2.2.2.2.2.2.2.2.2.1.length:Nat):Int))),(r.2.2.2.1,(r.2.2.2.2.1,(r.2.2.2.2.2.1,(r.2.2.2.2.2.2.1,(r.2.2.2.2.2.2.2.1,(r.2.2.2.2.2.2.2.2.1,(r.2.2.2.2.2.2.2.2.2.1,(r.2.2.2.2.2.2.2.2.2.2.1,(r.2.2.2.2.2.2.2.2.2.2.2.1,(r.2.2.2.2.2.2.2.2.2.2.2.2.1,(r.2.2.2.2.2.2.2.2.2.2.2.2.2.1,(r.2.2.2.2.2.2.2.2.2.2.2.2.2.2.1,(r.2.2.2.2.2.2.2.2.2.2.2.2.2.2.2.1,(r.2.2.2.2.2.2.2.2.2.2.2.2.2.2.2.2.1,(r.2.2.2.2.2.2.2.2.2.2.2.2.2.2.2.2.2.1,(r.2.2.2.2.2.2.2.2.2.2.2.2.2.2.2.2.2.2.1,(r.2.2.2.2.2.2.2.2.2.2.2.2.2.2.2.2.2.2.2.1,(r.2.2.2.2.2.2.2.2.2.2.2.2.2.2.2.2.2.2.2.2.1,(r.2.2.2.2.2.2.2.2.2.2.2.2.2.2.2.2.2.2.2.2.2.1,(r.2.2.2.2.2.2.2.2.2.2.2.2.2.2.2.2.2.2.2.2.2.2.1,(r.2.2.2.2.2.2.2.2.2.2.2.2.2.2.2.2.2.2.2.2.2.2.2.1,(r.2.2.2.2.2.2.2.2.2.2.2.2.2.2.2.2.2.2.2.2.2.2.2.2.1,(r.2.2.2.2.2.2.2.2.2.2.2.2.2.2.2.2.2.2.2.2.2.2.2.2.2.1,r.2.2.2.2.2.2.2.2.2.2.2.2.2.2.2.2.2.2.2.2.2.2.2.2.2.2))))))))))))))))))))))))) fun o=>
   (mdoesizW fu r.1 (if o.1>((r.2.1.length:Nat):Int) then o.1 else((r.2.1.length:Nat):Int)) o.2.1 o.2.2.1 o.2.2.2.1 o.2.2.2.2.1 o.2.2.2.2.2.1 o.2.2.2.2.2.2.1 o.2.2.2.2.2.2.2.1 o.2.2.2.2.2.2.2.2.1 o.2.2.2.2.2.2.2.2.2.1 o.2.2.2.2.2.2.2.2.2.2.1 o.2.2.2.2.2.2.2.2.2.2.2.1 o.2.2.2.2.2.2.2.2.2.2.2.2.1 o.2.2.2.2.2.2.2.2.2.2.2.2.2.1 o.2.2.2.2.2.2.2.2.2.2.2.2.2.2.1 o.2.2.2.2.2.2.2.2.2.2.2.2.2.2.2.1 o.2.2.2.2.2.2.2.2.2.2.2.2.2.2.2.2.1 o.2.2.2.2.2.2.2.2.2.2.2.2.2.2.2.2.2.1 o.2.2.2.2.2.2.2.2.2.2.2.2.2.2.2.2.2.2.1 o.2.2.2.2.2.2.2.2.2.2.2.2.2.2.2.2.2.2.2.1 o.2.2.2.2.2.2.2.2.2.2.2.2.2.2.2.2.2.2.2.2.1 o.2.2.2.2.2.2.2.2.2.2.2.2.2.2.2.2.2.2.2.2.2.1 o.2.2.2.2.2.2.2.2.2.2.2.2.2.2.2.2.2.2.2.2.2.2.1 o.2.2.2.2.2.2.2.2.2.2.2.2.2.2.2.2.2.2.2.2.2.2.2.1 o.2.2.2.2.2.2.2.2.2.2.2.2.2.2.2.2.2.2.2.2.2.2.2.2).bind fun r1=>
   (upto? (if(((refLen (s:=.byte) r1.1):Nat):Int)<r1.2.2.2.2.2.2.2.2.2.2.2.1 then(((refLen (s:=.byte) r1.1):Nat):Int) else r1.2.2.2.2.2.2.2.2.2.2.2.1) (refLen (s:=.byte) r1.1)).bind fun q=>
   (refPut (α:=UInt8) r1.2.2.2.2.2.2.2.2.2.2.2.2.2.2.2.2.2.2.2.2.2.2.2.2.2 (refSub (α:=UInt8) r1.1 q ((refLen (s:=.byte) r1.1)-q)) r1.2.2.2.2.2.2.2.2.2.2.2.2.2.1).bind fun m=>
   (unrefL (unrefD [⟨3,.byte,(List.map frz1 m.1)⟩] (.ref 3 .byte)) r1.2.2.2.2.2.2.2.2.2.2.2.2.2.2.2.2.2.2.2.2.2.2.2.2.1).bind fun l=>
   some (0,(r1.2.2.2.2.2.2.2.2.2.2.2.2.2.2.2.2.2.2.2.2.2.2.2.1,(r1.2.1,(l,(r1.2.2.1,(r1.2.2.2.1,(r1.2.2.2.2.1,(r1.2.2.2.2.2.1,(r1.2.2.2.2.2.2.1,(r1.2.2.2.2.2.2.2.1,(r1.2.2.2.2.2.2.2.2.1,(r1.2.2.2.2.2.2.2.2.2.1,(r1.2.2.2.2.2.2.2.2.2.2.1,(r1.2.2.2.2.2.2.2.2.2.2.2.1,(r1.2.2.2.2.2.2.2.2.2.2.2.2.1,(r1.2.2.2.2.2.2.2.2.2.2.2.2.2.1,(r1.2.2.2.2.2.2.2.2.2.2.2.2.2.2.1,(r1.2.2.2.2.2.2.2.2.2.2.2.2.2.2.2.1,(r1.2.2.2.2.2.2.2.2.2.2.2.2.2.2.2.2.1,(r1.2.2.2.2.2.2.2.2.2.2.2.2.2.2.2.2.2.1,(r1.2.2.2.2.2.2.2.2.2.2.2.2.2.2.2.2.2.2.1,(r1.2.2.2.2.2.2.2.2.2.2.2.2.2.2.2.2.2.2.2.1,(r1.2.2.2.2.2.2.2.2.2.2.2.2.2.2.2.2.2.2.2.2.1,(r1.2.2.2.2.2.2.2.2.2.2.2.2.2.2.2.2.2.2.2.2.2.1,r1.2.2.2.2.2.2.2.2.2.2.2.2.2.2.2.2.2.2.2.2.2.2.1))))))))))))))))))))))))
def mdoewri_fa:FnA:=⟨.two lf (.two (.reg [(1,{sh:=[0]})]) (.two lf (.two (.one (.two lf (.two lf (.two lf (.two lf (.two lf (.join ⟨[0,6],⟨(.cons (.own 0 0 0 0) qL4),[(0,false,qB2)]⟩⟩ false [] lf))))))) (.two (.reg [(6,{ids:=[100,101,999987],sh:=[0],fn:=1})]) (.two lf (.two lf (.pre (.pureCell 0 0) (.pre (.pureCell 0 2) lf)))))))),⟨qL39,[(0,false,qB2)]⟩,[⟨qL4,[(0,false,qB2)]⟩],[0]⟩
def mdoewri_ft(fu:Nat):FnT:=⟨28,mdoewri_fa.i,mdoewri_fa.os,u24 (mdoewri fu)⟩
theorem iBZ(fu:Nat):Told Tryz.prog (mdoewri_ft fu):=tk fu mdoewri_fa (aaZ (cSZ fu) (aaZ (hLZ fu) acZ)) Tryz.func28 (by kernel_rfl) fun t=>by kernel_rfl
def mdoesiz2(fu:Nat)(id:Int)(size:Int)(h:List (qT1))(h1:Int)(h2:List (List (UInt8)))(h3:Int)(h4:Int)(h5:Int)(h6:Int)(h7:Int)(h8:List UInt8)(h9:Int)(h10:Int)(h11:List UInt8)(h12:Int)(h13:Int)(h14:List (UInt8))(h15:Int)(h16:Int)(h17:Int)(h18:Int)(h19:Int)(h20:Bool)(h21:Int)(h22:Bool)(h23:Int):Option ((List (UInt8)×(Int×(Int×(Int×(Int×(Int×(Int×(List UInt8×(Int×(Int×(List UInt8×(Int×(Int×(List (UInt8)×(Int×(Int×(Int×(Int×(Int×(Bool×(Int×(Bool×(Int×(List (qT1)×List (List (UInt8))))))))))))))))))))))))))):=
 (upto? size room).bind fun m=>
 (upto? size m).bind fun q=>
 need (Nat.ble (m*1) room)<|
 (idx? (IntKind.wrap .i64 (id-1)) h2.length).bind fun q1=>
 (h2)[q1]?.bind fun r=>
 (sClo5 fu h2).bind fun r1=>
 (idx? (IntKind.wrap .i64 (id-1)) r1.length).bind fun q2=>
 (r1)[q2]?.bind fun r2=>
 (mcop fu (h,h1)).bind fun r3=>
 (idx? (IntKind.wrap .i64 (id-1)) r3.2.length).bind fun q3=>
 (r3.2)[q3]?.bind fun r4=>
 some ((splice (List.replicate (α:=UInt8) q 0) 0 (List.take (List.replicate (α:=UInt8) q 0).length r)),(r3.1,(h3,(h4,(h5,(h6,(h7,(h8,(h9,(h10,(h11,(h12,(h13,(h14,(h15,(h16,(h17,(h6,(h7,(h20,(size,(h22,(h23,((List.set r3.2 q3 (r4.1,(r4.2.1,(r4.2.2.1,(r4.2.2.2.1,(size,r4.2.2.2.2.2)))))),(List.set r1 q2 (splice (List.replicate (α:=UInt8) q 0) 0 (List.take (List.replicate (α:=UInt8) q 0).length r)))))))))))))))))))))))))))
def mdoesiz2_fa:FnA:=⟨.two lf (.two (.reg [(1,{ids:=[100]})]) (.two lf (.two (.reg [(5,{ids:=[101]})]) (.two lf (.two (.reg [(5,{ids:=[102],fn:=1})]) (.two lf (.two lf lf))))))),⟨(.cons (.own 0 0 0 0) qL41),[(0,false,qB2)]⟩,[⟨(.cons (.p (.sl .byte)) .nil),[(0,false,qB52),(1,false,(.rows 49 qY0)),(2,false,(.rows 33 (.sl .byte)))]⟩],[1]⟩
def mdoesiz2_ft(fu:Nat):FnT:=⟨51,mdoesiz2_fa.i,mdoesiz2_fa.os,u26 (mdoesiz2 fu)⟩
theorem hfZ(fu:Nat):Told Tryz.prog (mdoesiz2_ft fu):=tk fu mdoesiz2_fa (aaZ (g1Z fu) (aaZ (dYZ fu) acZ)) Tryz.func51 (by kernel_rfl) fun t=>by kernel_rfl
def mdoesiz(fu:Nat)(h:List (qT1))(h1:Int)(h2:List (List (UInt8)))(h3:Int)(h4:Int)(h5:Int)(h6:Int)(h7:Int)(h8:List UInt8)(h9:Int)(h10:Int)(h11:List UInt8)(h12:Int)(h13:Int)(h14:List (UInt8))(h15:Int)(h16:Int)(h17:Int)(h18:Int)(h19:Int)(h20:Bool)(h21:Int)(h22:Bool)(h23:Int):Option ((Int×qT9)):=
 (mdoefil fu h h1 h2 h3 h4 h5 h6 h7 h8 h9 h10 h11 h12 h13 h14 h15 h16 h17 h18 h19 h20 h21 h22 h23).bind fun r=>
 bif (!(r.2.2.1==0)) then
  some (r.2.2.1,(r.2.2.2.1,(r.2.2.2.2.1,(r.2.2.2.2.2.1,(r.2.2.2.2.2.2.1,(r.2.2.2.2.2.2.2.1,(r.2.2.2.2.2.2.2.2.1,(r.2.2.2.2.2.2.2.2.2.1,(r.2.2.2.2.2.2.2.2.2.2.1,(r.2.2.2.2.2.2.2.2.2.2.2.1,(r.2.2.2.2.2.2.2.2.2.2.2.2.1,(r.2.2.2.2.2.2.2.2.2.2.2.2.2.1,(r.2.2.2.2.2.2.2.2.2.2.2.2.2.2.1,(r.2.2.2.2.2.2.2.2.2.2.2.2.2.2.2.1,(r.2.2.2.2.2.2.2.2.2.2.2.2.2.2.2.2.1,(r.2.2.2.2.2.2.2.2.2.2.2.2.2.2.2.2.2.1,(r.2.2.2.2.2.2.2.2.2.2.2.2.2.2.2.2.2.2.1,(r.2.2.2.2.2.2.2.2.2.2.2.2.2.2.2.2.2.2.2.1,(r.2.2.2.2.2.2.2.2.2.2.2.2.2.2.2.2.2.2.2.2.1,(r.2.2.2.2.2.2.2.2.2.2.2.2.2.2.2.2.2.2.2.2.2.1,(r.2.2.2.2.2.2.2.2.2.2.2.2.2.2.2.2.2.2.2.2.2.2.1,(r.2.2.2.2.2.2.2.2.2.2.2.2.2.2.2.2.2.2.2.2.2.2.2.1,(r.2.2.2.2.2.2.2.2.2.2.2.2.2.2.2.2.2.2.2.2.2.2.2.2.1,(r.2.2.2.2.2.2.2.2.2.2.2.2.2.2.2.2.2.2.2.2.2.2.2.2.2.1,r.2.2.2.2.2.2.2.2.2.2.2.2.2.2.2.2.2.2.2.2.2.2.2.2.2.2))))))))))))))))))))))))
 else
  bif (decide (r.2.2.2.2.2.2.2.2.2.2.2.2.2.2.2.2.1>65536)) then
   some (177,(r.2.2.2.1,(r.2.2.2.2.1,(r.2.2.2.2.2.1,(r.2.2.2.2.2.2.1,(r.2.2.2.2.2.2.2.1,(r.2.2.2.2.2.2.2.2.1,(r.2.2.2.2.2.2.2.2.2.1,(r.2.2.2.2.2.2.2.2.2.2.1,(r.2.2.2.2.2.2.2.2.2.2.2.1,(r.2.2.2.2.2.2.2.2.2.2.2.2.1,(r.2.2.2.2.2.2.2.2.2.2.2.2.2.1,(r.2.2.2.2.2.2.2.2.2.2.2.2.2.2.1,(r.2.2.2.2.2.2.2.2.2.2.2.2.2.2.2.1,(r.2.2.2.2.2.2.2.2.2.2.2.2.2.2.2.2.1,(r.2.2.2.2.2.2.2.2.2.2.2.2.2.2.2.2.2.1,(r.2.2.2.2.2.2.2.2.2.2.2.2.2.2.2.2.2.2.1,(r.2.2.2.2.2.2.2.2.2.2.2.2.2.2.2.2.2.2.2.1,(r.2.2.2.2.2.2.2.2.2.2.2.2.2.2.2.2.2.2.2.2.1,(r.2.2.2.2.2.2.2.2.2.2.2.2.2.2.2.2.2.2.2.2.2.1,(r.2.2.2.2.2.2.2.2.2.2.2.2.2.2.2.2.2.2.2.2.2.2.1,(r.2.2.2.2.2.2.2.2.2.2.2.2.2.2.2.2.2.2.2.2.2.2.2.1,(r.2.2.2.2.2.2.2.2.2.2.2.2.2.2.2.2.2.2.2.2.2.2.2.2.1,(r.2.2.2.2.2.2.2.2.2.2.2.2.2.2.2.2.2.2.2.2.2.2.2.2.2.1,r.2.2.2.2.2.2.2.2.2.2.2.2.2.2.2.2.2.2.2.2.2.2.2.2.2.2))))))))))))))))))))))))
  else
   (mdoesiz2 fu r.1 r.2.2.2.2.2.2.2.2.2.2.2.2.2.2.2.2.1 r.2.2.2.1 r.2.2.2.2.1 r.2.2.2.2.2.1 r.2.2.2.2.2.2.1 r.2.2.2.2.2.2.2.1 r.2.2.2.2.2.2.2.2.1 r.2.2.2.2.2.2.2.2.2.1 r.2.2.2.2.2.2.2.2.2.2.1 r.2.2.2.2.2.2.2.2.2.2.2.1 r.2.2.2.2.2.2.2.2.2.2.2.2.1 r.2.2.2.2.2.2.2.2.2.2.2.2.2.1 r.2.2.2.2.2.2.2.2.2.2.2.2.2.2.1 r.2.2.2.2.2.2.2.2.2.2.2.2.2.2.2.1 r.2.2.2.2.2.2.2.2.2.2.2.2.2.2.2.2.1 r.2.2.2.2.2.2.2.2.2.2.2.2.2.2.2.2.2.1 r.2.2.2.2.2.2.2.2.2.2.2.2.2.2.2.2.2.2.1 r.2.2.2.2.2.2.2.2.2.2.2.2.2.2.2.2.2.2.2.1 r.2.2.2.2.2.2.2.2.2.2.2.2.2.2.2.2.2.2.2.2.1 r.2.2.2.2.2.2.2.2.2.2.2.2.2.2.2.2.2.2.2.2.2.1 r.2.2.2.2.2.2.2.2.2.2.2.2.2.2.2.2.2.2.2.2.2.2.1 r.2.2.2.2.2.2.2.2.2.2.2.2.2.2.2.2.2.2.2.2.2.2.2.1 r.2.2.2.2.2.2.2.2.2.2.2.2.2.2.2.2.2.2.2.2.2.2.2.2.1 r.2.2.2.2.2.2.2.2.2.2.2.2.2.2.2.2.2.2.2.2.2.2.2.2.2.1 r.2.2.2.2.2.2.2.2.2.2.2.2.2.2.2.2.2.2.2.2.2.2.2.2.2.2).bind fun r1=>
   some (0,(r1.2.2.2.2.2.2.2.2.2.2.2.2.2.2.2.2.2.2.2.2.2.2.2.1,(r1.2.1,(r1.2.2.2.2.2.2.2.2.2.2.2.2.2.2.2.2.2.2.2.2.2.2.2.2,(r1.2.2.1,(r1.2.2.2.1,(r1.2.2.2.2.1,(r1.2.2.2.2.2.1,(r1.2.2.2.2.2.2.1,(r1.2.2.2.2.2.2.2.1,(r1.2.2.2.2.2.2.2.2.1,(r1.2.2.2.2.2.2.2.2.2.1,(r1.2.2.2.2.2.2.2.2.2.2.1,(r1.2.2.2.2.2.2.2.2.2.2.2.1,(r1.2.2.2.2.2.2.2.2.2.2.2.2.1,(r1.2.2.2.2.2.2.2.2.2.2.2.2.2.1,(r1.2.2.2.2.2.2.2.2.2.2.2.2.2.2.1,(r1.2.2.2.2.2.2.2.2.2.2.2.2.2.2.2.1,(r1.2.2.2.2.2.2.2.2.2.2.2.2.2.2.2.2.1,(r1.2.2.2.2.2.2.2.2.2.2.2.2.2.2.2.2.2.1,(r1.2.2.2.2.2.2.2.2.2.2.2.2.2.2.2.2.2.2.1,(r1.2.2.2.2.2.2.2.2.2.2.2.2.2.2.2.2.2.2.2.1,(r1.2.2.2.2.2.2.2.2.2.2.2.2.2.2.2.2.2.2.2.2.1,(r1.2.2.2.2.2.2.2.2.2.2.2.2.2.2.2.2.2.2.2.2.2.1,r1.2.2.2.2.2.2.2.2.2.2.2.2.2.2.2.2.2.2.2.2.2.2.1))))))))))))))))))))))))
def mdoesiz_fa:FnA:=⟨.two lf (.two (.reg [(1,{sh:=[0]})]) (.two (.one (.two lf (.two lf (.two lf (.two lf lf))))) (.two (.reg [(7,{ids:=[100,101],sh:=[0],fn:=1})]) (.two lf (.pre (.pureCell 0 0) (.pre (.pureCell 0 2) lf)))))),⟨qL39,[(0,false,qB2)]⟩,[⟨qL4,[(0,false,qB2)]⟩],[0]⟩
def mdoesiz_ft(fu:Nat):FnT:=⟨29,mdoesiz_fa.i,mdoesiz_fa.os,u24 (mdoesiz fu)⟩
theorem i7Z(fu:Nat):Told Tryz.prog (mdoesiz_ft fu):=tk fu mdoesiz_fa (aaZ (cSZ fu) (aaZ (hfZ fu) acZ)) Tryz.func29 (by kernel_rfl) fun t=>by kernel_rfl
def tmis(fu:Nat)(dir:Bool)(n:qT1):Option (Int):=
 Option.bind (α:=((Bool×qT1))) (
  bif dir then
   some ((!n.2.2.2.1),(n.1,(n.2.1,(n.2.2.1,(n.2.2.2.1,(n.2.2.2.2.1,(n.2.2.2.2.2.1,(n.2.2.2.2.2.2.1,n.2.2.2.2.2.2.2))))))))
  else
   some (false,(n.1,(n.2.1,(n.2.2.1,(n.2.2.2.1,(n.2.2.2.2.1,(n.2.2.2.2.2.1,(n.2.2.2.2.2.2.1,n.2.2.2.2.2.2.2))))))))) fun o=>
 bif o.1 then
  some 173
 else
  Option.bind (α:=((Bool×qT1))) (
   bif (!dir) then
    some (o.2.2.2.2.1,(o.2.1,(o.2.2.1,(o.2.2.2.1,(o.2.2.2.2.1,(o.2.2.2.2.2.1,(o.2.2.2.2.2.2.1,(o.2.2.2.2.2.2.2.1,o.2.2.2.2.2.2.2.2))))))))
   else
    some (false,(o.2.1,(o.2.2.1,(o.2.2.2.1,(o.2.2.2.2.1,(o.2.2.2.2.2.1,(o.2.2.2.2.2.2.1,(o.2.2.2.2.2.2.2.1,o.2.2.2.2.2.2.2.2))))))))) fun o1=>
  bif o1.1 then
   some 174
  else
   bif (decide (((o1.2.2.2.2.2.2.2.2.length:Nat):Int)>0)) then
    some 175
   else
    some 0
def tmis_fa:FnA:=⟨.two (.reg [(0,{ids:=[100]})]) (.two (.one (.two (.join ⟨[3,5],⟨qL46,[(100,false,(.vars qL8))]⟩⟩ false [] lf) (.two lf (.two (.join ⟨[3,12],⟨qL46,[(100,false,(.vars qL8))]⟩⟩ false [] lf) (.two lf (.two lf (.two lf lf))))))) lf),⟨(.cons (.p .bool) (.cons (.p qY0) .nil)),[]⟩,[⟨qL4,[]⟩],[0]⟩
def tmis_ft(fu:Nat):FnT:=⟨79,tmis_fa.i,tmis_fa.os,fun t=>tmis fu t.1 t.2⟩
theorem iOZ(fu:Nat):Told Tryz.prog (tmis_ft fu):=tk fu tmis_fa acZ Tryz.func79 (by kernel_rfl) fun t=>by kernel_rfl
def tcopE_l0(fu:Nat)(r:List (qT1))(x:Int)(h:Int)(h1:List qT5)(h2:Int)(h3:List qT19):Option ((Int×(Int×(List qT5×(Int×List qT19))))⊕((Int×(List qT5×(Int×List qT19))))):=
 bif (decide (x<((r.length:Nat):Int))) then
  (idx? x h1.length).bind fun q=>
  (h1)[q]?.bind fun r1=>
  (sClo3 fu r1.2.2.2.2.2.1).bind fun r2=>
  (h1)[q]?.bind fun r3=>
  (lowD (.ref 1 (.pair .str (.int .i64))) r3.2.2.2.2.2.2.2).bind fun x1=>
  (sClo2 fu x1).bind fun r4=>
  (h1)[q]?.bind fun r5=>
  ((List.set h1 q (r5.1,(r5.2.1,(r5.2.2.1,(r5.2.2.2.1,(r5.2.2.2.2.1,(r2,r5.2.2.2.2.2.2))))))))[q]?.bind fun r6=>
  some (.inl ((IntKind.wrap .i64 (x+1)),(h,((List.set (List.set h1 q (r5.1,(r5.2.1,(r5.2.2.1,(r5.2.2.2.1,(r5.2.2.2.2.1,(r2,r5.2.2.2.2.2.2))))))) q (r6.1,(r6.2.1,(r6.2.2.1,(r6.2.2.2.1,(r6.2.2.2.2.1,(r6.2.2.2.2.2.1,(r6.2.2.2.2.2.2.1,(.inr (some (h3.length,(0,r4.length)))))))))))),(h2,(h3++[(1,r4)]))))))
 else
  some (.inr (h,(h1,(h2,h3))))
def tcopE_l0_it(fu:Nat)(r:List (qT1))(tt:(Int×(Int×(List qT5×(Int×List qT19))))):Option ((Int×(List qT5×(Int×List qT19)))):=
 iter fu (fun tt=>tcopE_l0 fu r tt.1 tt.2.1 tt.2.2.1 tt.2.2.2.1 tt.2.2.2.2) tt
def tcopE(fu:Nat)(t:(List (qT1)×Int)):Option ((Int×(List qT5×List qT19))):=
 (sClo fu t.1).bind fun r=>
 (tcopE_l0_it fu r (0,(t.2,((List.map (liftT qY3) r),(0,[]))))).bind fun o=>
 some (o.1,(o.2.1,o.2.2.2))
def tcopE_fa:FnA:=⟨.two (.reg [(0,{ids:=[100]}),(1,{ids:=[101]})]) (.two (.reg [(2,{ids:=[102]})]) (.two (.two lf (.one (.pre (.newFam 1 79 (.pair .str (.int .i64))) (.pre (.toRef 102 qY3) (.loop ⟨[1,2,12],⟨(.cons (.own 0 100 0 0) (.cons (.own 0 101 0 0) qL4)),[(100,false,qB50),(102,false,(.rows 49 qY3)),(101,false,qB32),(999985,false,qB27)]⟩⟩ false [(0,⟨[1,2],⟨(.cons (.own 0 100 0 0) (.cons (.own 0 101 0 0) .nil)),[(100,false,qB50),(102,false,(.rows 49 qY3)),(101,false,qB32),(999985,false,qB27)]⟩⟩)] (.two lf (.two lf (.two (.one (.two lf (.two lf (.reg [(6,{ids:=[103],fn:=1}),(11,{ids:=[104],md:=[3],fn:=2}),(17,{sh:=[104,999985]})])))) lf)))))))) lf)),⟨(.cons (.p qY33) .nil),[]⟩,[⟨(.cons (.agg (.cons (.slf 8 0) qL4)) .nil),[(0,false,(.rows 49 qY3)),(999985,false,qB27)]⟩],[0]⟩
def tcopE_ft(fu:Nat):FnT:=⟨75,tcopE_fa.i,tcopE_fa.os,fun t=>tcopE fu t⟩
theorem e6Z(fu:Nat):Told Tryz.prog (tcopE_ft fu):=tk fu tcopE_fa (aaZ (ctZ fu) (aaZ (dmZ fu) (aaZ (crZ fu) acZ))) Tryz.func75 (by kernel_rfl) fun t=>by kernel_rfl
def ttak1(fu:Nat)(e:(List UInt8×Int))(h:List UInt8):Option ((Bool×List UInt8)):=
 some ((e.1==h),h)
def ttak1_fa:FnA:=⟨.two (.reg [(0,{ids:=[100]})]) lf,⟨(.cons (.p (.pair .str (.int .i64))) qL39),[(0,false,qB44)]⟩,[⟨(.cons (.p .bool) .nil),[(0,false,qB44)]⟩],[0]⟩
def ttak1_ft(fu:Nat):FnT:=⟨101,ttak1_fa.i,ttak1_fa.os,fun t=>ttak1 fu t.1 t.2⟩
theorem gHZ(fu:Nat):Told Tryz.prog (ttak1_ft fu):=tk fu ttak1_fa acZ Tryz.func101 (by kernel_rfl) fun t=>by kernel_rfl
def sIndFun_l0(fu:Nat)(h:List ((List UInt8×Int)))(x:Int)(h2:List ((List UInt8×Int)))(h3:List UInt8):Option ((Int×qT48)⊕(qT48⊕(Int×qT48))):=
 bif (decide (x<((h.length:Nat):Int))) then
  (idx? x h2.length).bind fun q=>
  (h2)[q]?.bind fun r=>
  (ttak1 fu r h3).bind fun r1=>
  bif r1.1 then
   some (.inr (.inr (x,(h2,r1.2))))
  else
   some (.inl ((IntKind.wrap .i64 (x+1)),(h2,r1.2)))
 else
  some (.inr (.inl (h2,h3)))
def sIndFun_l0_it(fu:Nat)(h:List ((List UInt8×Int)))(tt:(Int×qT48)):Option (qT48⊕(Int×qT48)):=
 iter fu (fun tt=>sIndFun_l0 fu h tt.1 tt.2.1 tt.2.2) tt
def sIndFun(fu:Nat)(h:List ((List UInt8×Int)))(h1:List UInt8):Option ((Int×qT48)):=
 (sIndFun_l0_it fu h (0,(h,h1))).bind fun o=>
 match o with
 |.inl s=>
  some ((-1),(s.1,s.2))
 |.inr o1=>
  some o1
def sIndFun_fa:FnA:=⟨.two lf (.two (.two lf (.one (.loop ⟨[0,1,8],⟨(.cons (.slf 2 0) (.cons (.fn 101 .nil (.cons (.own 0 1 0 0) .nil)) qL4)),[(0,false,qB42),(1,false,qB44)]⟩⟩ true [(0,⟨[0,1],⟨(.cons (.slf 2 0) (.cons (.fn 101 .nil (.cons (.own 0 1 0 0) .nil)) .nil)),[(0,false,qB42),(1,false,qB44)]⟩⟩)] (.two lf (.two lf (.two (.one (.two lf (.two (.reg [(5,{sh:=[1]})]) (.two lf lf)))) lf)))))) lf),⟨(.cons (.slf 2 0) (.cons (.fn 101 .nil (.cons (.own 0 1 0 0) .nil)) .nil)),[(0,false,qB42),(1,false,qB44)]⟩,[⟨qL4,[(0,false,qB42),(1,false,qB44)]⟩],[0]⟩
def sIndFun_ft(fu:Nat):FnT:=⟨89,sIndFun_fa.i,sIndFun_fa.os,fun t=>sIndFun fu t.1 t.2⟩
theorem iGZ(fu:Nat):Told Tryz.prog (sIndFun_ft fu):=tk fu sIndFun_fa (aaZ (gHZ fu) acZ) Tryz.func89 (by kernel_rfl) fun t=>by kernel_rfl
def sDelFun_l0(fu:Nat)(i:Int)(j:Int)(h2:List ((List UInt8×Int)))(h3:List UInt8):Option ((Int×(Int×qT48))⊕((Int×qT48))):=
 bif (decide (j<((h2.length:Nat):Int))) then
  (idx? j h2.length).bind fun q=>
  (h2)[q]?.bind fun r1=>
  (ttak1 fu (r1.1,r1.2) h3).bind fun r2=>
  Option.bind (α:=((Int×qT48))) (
   bif (!r2.1) then
    (idx? i h2.length).bind fun q1=>
    (h2)[q1]?.bind fun r3=>
    some ((IntKind.wrap .i64 (i+1)),((List.set h2 q1 (r1.1,r1.2)),r2.2))
   else
    some (i,(h2,r2.2))) fun o=>
  some (.inl (o.1,((IntKind.wrap .i64 (j+1)),(o.2.1,o.2.2))))
 else
  some (.inr (i,(h2,h3)))
def sDelFun_l0_it(fu:Nat)(tt:(Int×(Int×qT48))):Option ((Int×qT48)):=
 iter fu (fun tt=>sDelFun_l0 fu tt.1 tt.2.1 tt.2.2.1 tt.2.2.2) tt
def sDelFun(fu:Nat)(h:List ((List UInt8×Int)))(h1:List UInt8):Option (qT48⊕(List UInt8×List ((List UInt8×Int)))):=
 (sIndFun fu h h1).bind fun r=>
 bif (r.1==(-1)) then
  some (.inl (r.2.1,r.2.2))
 else
  (sDelFun_l0_it fu (r.1,((IntKind.wrap .i64 (r.1+1)),(r.2.1,r.2.2)))).bind fun o1=>
  (upto? o1.1 o1.2.1.length).bind fun q2=>
  need (Nat.ble (q2+(o1.2.1.length-q2)) o1.2.1.length)<|
  (upto? o1.1 (splice o1.2.1 q2 (List.replicate (α:=(List UInt8×Int)) (o1.2.1.length-q2) ([],0))).length).bind fun q3=>
  need (Nat.ble q3 (splice o1.2.1 q2 (List.replicate (α:=(List UInt8×Int)) (o1.2.1.length-q2) ([],0))).length)<|
  some (.inr (o1.2.2,(List.take q3 (splice o1.2.1 q2 (List.replicate (α:=(List UInt8×Int)) (o1.2.1.length-q2) ([],0))))))
def sDelFun_fa:FnA:=⟨.two lf (.two (.reg [(2,{sh:=[0,1]})]) (.two (.two lf (.two lf lf)) (.two (.two lf (.one (.loop ⟨[0,1,5,6],⟨(.cons (.slf 2 0) (.cons (.fn 101 .nil (.cons (.own 0 1 0 0) .nil)) qL41)),[(0,false,qB42),(1,false,qB44)]⟩⟩ false [(0,⟨[0,1,5],⟨(.cons (.slf 2 0) (.cons (.fn 101 .nil (.cons (.own 0 1 0 0) .nil)) qL4)),[(0,false,qB42),(1,false,qB44)]⟩⟩)] (.two (.two lf lf) (.two (.one (.two (.reg [(4,{ids:=[100]})]) (.two (.reg [(2,{sh:=[1],fn:=1})]) (.join ⟨[0,1,5],⟨(.cons (.slf 2 0) (.cons (.fn 101 .nil (.cons (.own 0 1 0 0) .nil)) qL4)),[(0,false,qB42),(1,false,qB44)]⟩⟩ false [] (.two lf lf))))) lf))))) (.two lf lf)))),⟨(.cons (.slf 2 0) (.cons (.fn 101 .nil (.cons (.own 0 1 0 0) .nil)) .nil)),[(0,false,qB42),(1,false,qB44)]⟩,[⟨(.cons (.slf 2 0) .nil),[(0,false,qB42),(1,false,qB44)]⟩,⟨(.cons (.slf 2 2) .nil),[(1,false,qB44),(2,false,qB42)]⟩],[89]⟩
def sDelFun_ft(fu:Nat):FnT:=⟨100,sDelFun_fa.i,sDelFun_fa.os,fun t=>sDelFun fu t.1 t.2⟩
theorem eMZ(fu:Nat):Told Tryz.prog (sDelFun_ft fu):=tk fu sDelFun_fa (aaZ (iGZ fu) (aaZ (gHZ fu) acZ)) Tryz.func100 (by kernel_rfl) fun t=>by kernel_rfl
def ttak(fu:Nat)(dir:Int)(name:List UInt8)(h:Int)(h1:List qT5)(h2:List qT19):Option ((Int×(List qT5×List qT19))):=
 (idx? (IntKind.wrap .i64 (dir-1)) h1.length).bind fun q=>
 (h1)[q]?.bind fun r=>
 (openM h2 r.2.2.2.2.2.2.2).bind fun m=>
 (sDelFun fu m.1 name).bind fun r1=>
 match r1 with
 |.inl r2=>
  (h1)[q]?.bind fun r4=>
  some (h,((List.set h1 q (r4.1,(r4.2.1,(r4.2.2.1,(r4.2.2.2.1,(r4.2.2.2.2.1,(r4.2.2.2.2.2.1,(r4.2.2.2.2.2.2.1,(.inr (some (m.2.length,(0,r2.1.length)))))))))))),(m.2++[(1,r2.1)])))
 |.inr r3=>
  (h1)[q]?.bind fun r5=>
  some (h,((List.set h1 q (r5.1,(r5.2.1,(r5.2.2.1,(r5.2.2.2.1,(r5.2.2.2.2.1,(r5.2.2.2.2.2.1,(r5.2.2.2.2.2.2.1,(.inr (some (m.2.length,(0,r3.2.length)))))))))))),(m.2++[(1,r3.2)])))
def ttak_fa:FnA:=⟨.two (.reg [(0,{ids:=[100]})]) (.two lf (.reg [(6,{ids:=[101],sh:=[605089,100],md:=[505089,0]}),(9,{sh:=[605089,999985]})])),⟨(.cons (.own 0 0 0 0) (.cons (.p (.int .i64)) (.cons (.p .str) .nil))),[(0,false,(.vars (.cons (.slf 8 1) qL4))),(1,false,(.rows 49 qY3)),(999985,false,qB27)]⟩,[⟨.nil,[(0,false,(.vars (.cons (.slf 8 1) qL4))),(1,false,(.rows 49 qY3)),(999985,false,qB27)]⟩],[]⟩
def ttak_ft(fu:Nat):FnT:=⟨82,ttak_fa.i,ttak_fa.os,u5 (ttak fu)⟩
theorem fQZ(fu:Nat):Told Tryz.prog (ttak_ft fu):=tk fu ttak_fa (aaZ (eMZ fu) acZ) Tryz.func82 (by kernel_rfl) fun t=>by kernel_rfl
def iDro1(fu:Nat)(p:(Int×Int)):Option (Bool):=
 some ((p.1==0)&&(p.2==0))
def iDro1_fa:FnA:=⟨.two (.reg [(0,{ids:=[100]})]) lf,⟨(.cons (.p qY6) .nil),[]⟩,[⟨(.cons (.p .bool) .nil),[]⟩],[0]⟩
def iDro1_ft(fu:Nat):FnT:=⟨110,iDro1_fa.i,iDro1_fa.os,fun t=>iDro1 fu t⟩
theorem gPZ(fu:Nat):Told Tryz.prog (iDro1_ft fu):=tk fu iDro1_fa acZ Tryz.func110 (by kernel_rfl) fun t=>by kernel_rfl
def sIndFun4_l0(fu:Nat)(s:List ((Int×Int)))(x:Int):Option (Int⊕(Unit⊕Int)):=
 bif (decide (x<((s.length:Nat):Int))) then
  (idx? x s.length).bind fun q=>
  (s)[q]?.bind fun r=>
  (iDro1 fu r).bind fun r1=>
  bif r1 then
   some (.inr (.inr x))
  else
   some (.inl (IntKind.wrap .i64 (x+1)))
 else
  some (.inr (.inl ()))
def sIndFun4_l0_it(fu:Nat)(s:List ((Int×Int)))(tt:Int):Option (Unit⊕Int):=
 iter fu (fun tt=>sIndFun4_l0 fu s tt) tt
def sIndFun4(fu:Nat)(s:List ((Int×Int))):Option (Int):=
 (sIndFun4_l0_it fu s 0).bind fun o=>
 match o with
 |.inl s1=>
  some (-1)
 |.inr o1=>
  some o1
def sIndFun4_fa:FnA:=⟨.two lf (.two (.two lf (.one (.loop ⟨[8],⟨qL4,[]⟩⟩ true [(0,⟨[],⟨.nil,[]⟩⟩)] (.two lf (.two lf (.two (.one (.two lf (.two (.reg [(5,{})]) (.two lf lf)))) lf)))))) lf),⟨(.cons (.p (.sl qY6)) (.cons (.fn 110 .nil .nil) .nil)),[]⟩,[⟨qL4,[]⟩],[0]⟩
def sIndFun4_ft(fu:Nat):FnT:=⟨111,sIndFun4_fa.i,sIndFun4_fa.os,fun t=>sIndFun4 fu t⟩
theorem gRZ(fu:Nat):Told Tryz.prog (sIndFun4_ft fu):=tk fu sIndFun4_fa (aaZ (gPZ fu) acZ) Tryz.func111 (by kernel_rfl) fun t=>by kernel_rfl
def sDelFun2_l0(fu:Nat)(i:Int)(j:Int)(h1:List ((Int×Int))):Option ((Int×(Int×List ((Int×Int))))⊕((Int×List ((Int×Int))))):=
 bif (decide (j<((h1.length:Nat):Int))) then
  (idx? j h1.length).bind fun q=>
  (h1)[q]?.bind fun r1=>
  (iDro1 fu (r1.1,r1.2)).bind fun r2=>
  Option.bind (α:=((Int×List ((Int×Int))))) (
   bif (!r2) then
    (idx? i h1.length).bind fun q1=>
    (h1)[q1]?.bind fun r3=>
    some ((IntKind.wrap .i64 (i+1)),(List.set h1 q1 (r1.1,r1.2)))
   else
    some (i,h1)) fun o=>
  some (.inl (o.1,((IntKind.wrap .i64 (j+1)),o.2)))
 else
  some (.inr (i,h1))
def sDelFun2_l0_it(fu:Nat)(tt:(Int×(Int×List ((Int×Int))))):Option ((Int×List ((Int×Int)))):=
 iter fu (fun tt=>sDelFun2_l0 fu tt.1 tt.2.1 tt.2.2) tt
def sDelFun2(fu:Nat)(h:List ((Int×Int))):Option (List ((Int×Int))⊕List ((Int×Int))):=
 (sIndFun4 fu h).bind fun r=>
 bif (r==(-1)) then
  some (.inl h)
 else
  (sDelFun2_l0_it fu (r,((IntKind.wrap .i64 (r+1)),h))).bind fun o1=>
  (upto? o1.1 o1.2.length).bind fun q2=>
  need (Nat.ble (q2+(o1.2.length-q2)) o1.2.length)<|
  (upto? o1.1 (splice o1.2 q2 (List.replicate (α:=(Int×Int)) (o1.2.length-q2) (0,0))).length).bind fun q3=>
  need (Nat.ble q3 (splice o1.2 q2 (List.replicate (α:=(Int×Int)) (o1.2.length-q2) (0,0))).length)<|
  some (.inr (List.take q3 (splice o1.2 q2 (List.replicate (α:=(Int×Int)) (o1.2.length-q2) (0,0)))))
def sDelFun2_fa:FnA:=⟨.two lf (.two (.reg [(2,{md:=[2,0]})]) (.two (.two lf (.two lf lf)) (.two (.two lf (.one (.loop ⟨[0,5,6],⟨(.cons (.slf 2 0) qL41),[(0,false,(.rows 103 qY6))]⟩⟩ false [(0,⟨[0,5],⟨(.cons (.slf 2 0) qL4),[(0,false,(.rows 103 qY6))]⟩⟩)] (.two (.two lf lf) (.two (.one (.two (.reg [(4,{ids:=[100]})]) (.two (.reg [(2,{fn:=1})]) (.join ⟨[0,5],⟨(.cons (.slf 2 0) qL4),[(0,false,(.rows 103 qY6))]⟩⟩ false [] (.two lf lf))))) lf))))) (.two lf lf)))),⟨(.cons (.slf 2 0) (.cons (.fn 110 .nil .nil) .nil)),[(0,false,(.rows 103 qY6))]⟩,[⟨(.cons (.slf 2 0) .nil),[(0,false,(.rows 103 qY6))]⟩,⟨(.cons (.slf 2 1) .nil),[(1,false,(.rows 103 qY6))]⟩],[113]⟩
def sDelFun2_ft(fu:Nat):FnT:=⟨109,sDelFun2_fa.i,sDelFun2_fa.os,fun t=>sDelFun2 fu t⟩
theorem dIZ(fu:Nat):Told Tryz.prog (sDelFun2_ft fu):=tk fu sDelFun2_fa (aaZ (gRZ fu) (aaZ (gPZ fu) acZ)) Tryz.func109 (by kernel_rfl) fun t=>by kernel_rfl
def icopPgo0R_l0(fu:Nat)(r:List (qT1))(t1:Int)(x:Int)(h2:List qT5)(h3:Int)(h4:List qT30)(h5:Int)(h6:List qT43)(h7:List qT19):Option ((Int×(Int×(List qT5×(Int×(List qT30×(Int×(List qT43×List qT19)))))))⊕((Int×(List qT5×(Int×(List qT30×(Int×(List qT43×List qT19)))))))):=
 bif (decide (x<((r.length:Nat):Int))) then
  (idx? x h4.length).bind fun q=>
  (h4)[q]?.bind fun r1=>
  (lowD (.ref 0 qY6) r1.2.2.2.2.2.1).bind fun x1=>
  (inode_own fu (r1.1,(r1.2.1,(r1.2.2.1,(r1.2.2.2.1,(r1.2.2.2.2.1,(x1,(r1.2.2.2.2.2.2.1,r1.2.2.2.2.2.2.2)))))))).bind fun r2=>
  (idx? x h4.length).bind fun q1=>
  (h4)[q1]?.bind fun r3=>
  some (.inl (t1,((IntKind.wrap .i64 (x+1)),(h2,(h3,((List.set h4 q1 (r2.1,(r2.2.1,(r2.2.2.1,(r2.2.2.2.1,(r2.2.2.2.2.1,((.inr (some (h6.length,(0,r2.2.2.2.2.2.2.1.length)))),(r2.2.2.2.2.2.1,r2.2.2.2.2.2.2.2)))))))),(h5,((h6++[(1,r2.2.2.2.2.2.2.1)]),h7))))))))
 else
  some (.inr (t1,(h2,(h3,(h4,(h5,(h6,h7)))))))
def icopPgo0R_l0_it(fu:Nat)(r:List (qT1))(tt:(Int×(Int×(List qT5×(Int×(List qT30×(Int×(List qT43×List qT19)))))))):Option ((Int×(List qT5×(Int×(List qT30×(Int×(List qT43×List qT19))))))):=
 iter fu (fun tt=>icopPgo0R_l0 fu r tt.1 tt.2.1 tt.2.2.1 tt.2.2.2.1 tt.2.2.2.2.1 tt.2.2.2.2.2.1 tt.2.2.2.2.2.2.1 tt.2.2.2.2.2.2.2) tt
def icopPgo0R(fu:Nat)(t:Int)(h:List qT5)(h1:List qT19):Option ((Int×(List qT5×(List qT30×(List qT43×List qT19))))):=
 (unrefL (unrefD [⟨1,(.pair .str (.int .i64)),(List.map frz1 h1)⟩] qY3) h).bind fun l=>
 (sClo fu l).bind fun r=>
 (icopPgo0R_l0_it fu r (t,(0,(h,(t,((List.map (liftT qY22) r),(0,([],(List.map frz1 h1))))))))).bind fun o=>
 some (o.2.2.1,(o.2.1,(o.2.2.2.1,(o.2.2.2.2.2.1,o.2.2.2.2.2.2))))
def icopPgo0R_fa:FnA:=⟨.two (.reg [(0,{ids:=[100]}),(1,{ids:=[101]})]) (.two (.reg [(2,{ids:=[102],md:=[1]})]) (.two (.two lf (.one (.pre (.newFam 0 103 qY6) (.pre (.toRef 102 qY22) (.loop ⟨[0,1,2,10,12],⟨(.cons (.agg (.cons (.slf 8 0) qL4)) (.cons (.own 0 100 0 0) (.cons (.own 0 101 0 0) (.cons (.slf 8 102) qL4)))),[(0,true,(.rows 49 qY3)),(100,false,qB50),(102,false,(.rows 49 qY22)),(101,false,qB32),(999984,false,(.fam 103 qY6)),(999985,false,qB27)]⟩⟩ false [(0,⟨[0,1,2],⟨(.cons (.agg (.cons (.slf 8 0) qL4)) (.cons (.own 0 100 0 0) (.cons (.own 0 101 0 0) .nil))),[(0,true,(.rows 49 qY3)),(100,false,qB50),(102,false,(.rows 49 qY22)),(101,false,qB32),(999984,false,(.fam 103 qY6)),(999985,false,qB27)]⟩⟩)] (.two lf (.two lf (.two (.one (.two (.reg [(3,{ids:=[103]})]) (.reg [(4,{ids:=[104,105],md:=[3],fn:=1}),(6,{sh:=[104,999984]})]))) lf)))))))) lf)),⟨(.cons (.agg (.cons (.slf 8 0) qL4)) .nil),[(0,false,(.rows 49 qY3)),(999985,false,qB27)]⟩,[⟨(.cons (.agg (.cons (.slf 8 1) qL4)) .nil),[(0,true,(.rows 49 qY3)),(1,false,(.rows 49 qY22)),(999984,false,(.fam 103 qY6)),(999985,false,qB27)]⟩],[0]⟩
def icopPgo0R_ft(fu:Nat):FnT:=⟨94,icopPgo0R_fa.i,icopPgo0R_fa.os,u3 (icopPgo0R fu)⟩
theorem gbZ(fu:Nat):Told Tryz.prog (icopPgo0R_ft fu):=tk fu icopPgo0R_fa (aaZ (ctZ fu) (aaZ (b1Z fu) acZ)) Tryz.func94 (by kernel_rfl) fun t=>by kernel_rfl
def iDrogo0R(fu:Nat)(t:Int)(id:Int)(h:List qT5)(h1:List qT19):Option ((List (qT1)×(Int×(List ((Int×Int))×(Int×(List qT5×List qT19)))))):=
 (icopPgo0R fu t h h1).bind fun r=>
 (unrefL (unrefD [⟨1,(.pair .str (.int .i64)),(List.map frz1 r.2.2.2.2)⟩,⟨0,qY6,(List.map frz1 r.2.2.2.1)⟩] qY3) r.2.1).bind fun l=>
 (iRig fu (l,t)).bind fun r1=>
 bif (!r1) then
  (unrefL (unrefD [⟨1,(.pair .str (.int .i64)),(List.map frz1 r.2.2.2.2)⟩,⟨0,qY6,(List.map frz1 r.2.2.2.1)⟩] qY22) r.2.2.1).bind fun l6=>
  some (l6,(r.1,([],(180,(r.2.1,(List.map frz1 r.2.2.2.2))))))
 else
  Option.bind (α:=((Int×(Bool×(List qT5×(Int×(Int×(List qT30×(List qT43×List qT19))))))))) (
   bif (id==1) then
    some (t,(true,(r.2.1,(0,(r.1,(r.2.2.1,(r.2.2.2.1,r.2.2.2.2)))))))
   else
    (unrefL (unrefD [⟨1,(.pair .str (.int .i64)),(List.map frz1 r.2.2.2.2)⟩,⟨0,qY6,(List.map frz1 r.2.2.2.1)⟩] qY3) r.2.1).bind fun l1=>
    (inode_is fu (l1,t) id true).bind fun r2=>
    bif (!r2) then
     (unrefL (unrefD [⟨1,(.pair .str (.int .i64)),(List.map frz1 r.2.2.2.2)⟩,⟨0,qY6,(List.map frz1 r.2.2.2.1)⟩] qY3) r.2.1).bind fun l2=>
     (inode_is fu (l2,t) id false).bind fun r3=>
     some (t,((!r3),(r.2.1,(0,(r.1,(r.2.2.1,(r.2.2.2.1,r.2.2.2.2)))))))
    else
     some (t,(false,(r.2.1,(0,(r.1,(r.2.2.1,(r.2.2.2.1,r.2.2.2.2)))))))) fun o=>
  bif o.2.1 then
   (unrefL (unrefD [⟨1,(.pair .str (.int .i64)),(List.map frz1 o.2.2.2.2.2.2.2)⟩,⟨0,qY6,(List.map frz1 o.2.2.2.2.2.2.1)⟩] qY22) o.2.2.2.2.2.1).bind fun l7=>
   some (l7,(o.2.2.2.2.1,([],(2,(o.2.2.1,(List.map frz1 o.2.2.2.2.2.2.2))))))
  else
   (idx? (IntKind.wrap .i64 (id-1)) o.2.2.2.2.2.1.length).bind fun q=>
   Option.bind (α:=((Int×(Nat×(List qT5×(Int×(Int×(List qT30×(List ((Int×Int))×(List qT43×List qT19)))))))))) (
    (o.2.2.2.2.2.1)[q]?.bind fun r4=>
    (openM o.2.2.2.2.2.2.1 r4.2.2.2.2.2.1).bind fun m=>
    (sDelFun2 fu m.1).bind fun r5=>
    match r5 with
    |.inl r6=>
     some (o.1,(q,(o.2.2.1,(o.2.2.2.1,(o.2.2.2.2.1,(o.2.2.2.2.2.1,(r6,(m.2,o.2.2.2.2.2.2.2))))))))
    |.inr r7=>
     some (o.1,(q,(o.2.2.1,(o.2.2.2.1,(o.2.2.2.2.1,(o.2.2.2.2.2.1,(r7,(m.2,o.2.2.2.2.2.2.2))))))))) fun o1=>
   (o1.2.2.2.2.2.1)[o1.2.1]?.bind fun r8=>
   (o1.2.2.2.2.2.1)[o1.2.1]?.bind fun r9=>
   (unrefL (unrefD [⟨1,(.pair .str (.int .i64)),(List.map frz1 o1.2.2.2.2.2.2.2.2)⟩,⟨0,qY6,(List.map frz1 o1.2.2.2.2.2.2.2.1)⟩] qY22) (List.set o1.2.2.2.2.2.1 o1.2.1 (id,(r8.2.1,(false,(false,(0,((.inr none),(0,[]))))))))).bind fun l8=>
   some (l8,(o1.2.2.2.2.1,(o1.2.2.2.2.2.2.1,(0,(o1.2.2.1,(List.map frz1 o1.2.2.2.2.2.2.2.2))))))
def iDrogo0R_fa:FnA:=⟨.two (.reg [(0,{ids:=[100]}),(1,{ids:=[101]})]) (.two (.reg [(1,{ids:=[102,999984],sh:=[0,999985],md:=[3]}),(2,{ids:=[103]})]) (.two (.one (.two (.reg [(1,{md:=[2],fn:=1})]) (.two lf (.two (.join ⟨[0,4,7,17],⟨(.cons (.agg (.cons (.slf 8 0) qL4)) (.cons (.own 0 101 0 0) (.cons (.own 0 103 0 0) (.cons (.p .bool) .nil)))),[(0,true,(.rows 49 qY3)),(101,false,qB32),(103,false,qB50),(102,false,(.rows 49 qY22)),(999984,false,(.fam 103 qY6)),(999985,false,qB27)]⟩⟩ false [] (.reg [(5,{md:=[2,0,0],fn:=2}),(10,{md:=[2,0,0],fn:=2})])) (.two lf lf))))) (.two lf (.two (.join ⟨[0,4,7,8,9],⟨(.cons (.agg (.cons (.slf 8 0) qL4)) (.cons (.own 0 101 0 0) (.cons (.own 0 103 0 0) (.cons (.ownx 8 102 0) (.cons (.slf 2 620113) .nil))))),[(0,true,(.rows 49 qY3)),(101,false,qB32),(103,false,qB50),(102,false,(.rows 49 qY22)),(620113,false,(.rows 103 qY6)),(999984,false,(.fam 103 qY6)),(999985,false,qB27)]⟩⟩ false [] (.reg [(4,{ids:=[104],sh:=[620113],md:=[520113,0],fn:=3})])) (.two lf lf))))),⟨(.cons (.agg (.cons (.slf 8 0) qL4)) qL4),[(0,false,(.rows 49 qY3)),(999985,false,qB27)]⟩,[⟨(.cons (.agg (.cons (.p (.sl qY0)) qL4)) (.cons (.p (.sl qY6)) qL4)),[(0,true,(.rows 49 qY3)),(999985,false,qB27)]⟩],[1,1,0]⟩
def iDrogo0R_ft(fu:Nat):FnT:=⟨99,iDrogo0R_fa.i,iDrogo0R_fa.os,u4 (iDrogo0R fu)⟩
theorem gTZ(fu:Nat):Told Tryz.prog (iDrogo0R_ft fu):=tk fu iDrogo0R_fa (aaZ (gbZ fu) (aaZ (emZ fu) (aaZ (c7Z fu) (aaZ (dIZ fu) acZ)))) Tryz.func99 (by kernel_rfl) fun t=>by kernel_rfl
def twit(fu:Nat)(t:(List (qT1)×Int))(dir:Int)(name:List UInt8)(id:Int):Option ((List (qT1)×(Int×(List ((Int×Int))×Int)))):=
 (tcopE fu (t.1,t.2)).bind fun r=>
 (ttak fu dir name r.1 r.2.1 r.2.2).bind fun r1=>
 (iDrogo0R fu r1.1 id r1.2.1 r1.2.2).bind fun r2=>
 some (r2.1,(r2.2.1,(r2.2.2.1,r2.2.2.2.1)))
def twit_fa:FnA:=⟨.two (.reg [(0,{ids:=[100]}),(1,{ids:=[101]})]) (.two (.reg [(1,{ids:=[102,999985]}),(2,{ids:=[103]})]) (.two (.reg [(2,{sh:=[103,102,999985],fn:=1})]) (.two (.reg [(2,{sh:=[102,999985],md:=[3,0],fn:=2})]) lf))),⟨(.cons (.p qY33) (.cons (.p (.int .i64)) (.cons (.p .str) qL4))),[]⟩,[⟨(.cons (.agg (.cons (.p (.sl qY0)) qL4)) (.cons (.p (.sl qY6)) qL4)),[]⟩],[0,0,0]⟩
def twit_ft(fu:Nat):FnT:=⟨80,twit_fa.i,twit_fa.os,u4 (twit fu)⟩
theorem n2Z(fu:Nat):Told Tryz.prog (twit_ft fu):=tk fu twit_fa (aaZ (e6Z fu) (aaZ (fQZ fu) (aaZ (gTZ fu) acZ))) Tryz.func80 (by kernel_rfl) fun t=>by kernel_rfl
def tRem(fu:Nat)(t:(List (qT1)×Int))(dir:(Int×Int))(name:List UInt8)(is_:Bool):Option ((List (qT1)×(Int×(List ((Int×Int))×Int)))):=
 (task fu (t.1,t.2) [(dir.1,dir.2)]).bind fun r=>
 bif (!(r.1==0)) then
  (tcop fu (t.1,t.2)).bind fun r1=>
  some (r1.2,(r1.1,([],r.1)))
 else
  (tNam fu name).bind fun r2=>
  bif (!r2) then
   (tcop fu (t.1,t.2)).bind fun r3=>
   some (r3.2,(r3.1,([],176)))
  else
   (idx? 0 r.2.length).bind fun q=>
   (r.2)[q]?.bind fun r4=>
   (tent fu r4 name).bind fun r5=>
   bif (!r5.2) then
    (tcop fu (t.1,t.2)).bind fun r6=>
    some (r6.2,(r6.1,([],171)))
   else
    (idx? 0 r.2.length).bind fun q1=>
    (r.2)[q1]?.bind fun r7=>
    (idx? r5.1 r7.2.2.2.2.2.2.2.length).bind fun q2=>
    (r7.2.2.2.2.2.2.2)[q2]?.bind fun r8=>
    (idx? (IntKind.wrap .i64 (r8.2-1)) t.1.length).bind fun q3=>
    (t.1)[q3]?.bind fun r9=>
    (tmis fu is_ r9).bind fun r10=>
    bif (!(r10==0)) then
     (tcop fu (t.1,t.2)).bind fun r11=>
     some (r11.2,(r11.1,([],r10)))
    else
     (twit fu (t.1,t.2) dir.1 name r8.2).bind fun r12=>
     some (r12.1,(r12.2.1,(r12.2.2.1,r12.2.2.2)))
def tRem_fa:FnA:=⟨.two (.reg [(0,{ids:=[100]}),(1,{ids:=[101]}),(2,{ids:=[102]})]) (.two (.reg [(2,{ids:=[103]}),(3,{ids:=[104],md:=[0,1]})]) (.two (.two lf (.two (.two (.reg [(1,{ids:=[105],fn:=1})]) lf) lf)) (.two (.two (.reg [(1,{fn:=2})]) (.two (.two (.reg [(1,{ids:=[106],fn:=1})]) lf) lf)) (.two (.reg [(4,{fn:=3})]) (.two (.two lf (.two (.two (.reg [(1,{ids:=[107],fn:=1})]) lf) lf)) (.two lf (.two (.two (.reg [(7,{fn:=4})]) (.two lf (.two (.two (.reg [(1,{ids:=[108],fn:=1})]) lf) lf))) (.two (.reg [(5,{fn:=5})]) lf)))))))),⟨(.cons (.p qY33) (.cons (.p qY6) (.cons (.p .str) (.cons (.p .bool) .nil)))),[]⟩,[⟨(.cons (.agg (.cons (.p (.sl qY0)) qL4)) (.cons (.p (.sl qY6)) qL4)),[]⟩],[1,1,0]⟩
def tRem_ft(fu:Nat):FnT:=⟨52,tRem_fa.i,tRem_fa.os,u4 (tRem fu)⟩
theorem mFZ(fu:Nat):Told Tryz.prog (tRem_ft fu):=tk fu tRem_fa (aaZ (cKZ fu) (aaZ (fuZ fu) (aaZ (cRZ fu) (aaZ (bRZ fu) (aaZ (iOZ fu) (aaZ (n2Z fu) acZ)))))) Tryz.func52 (by kernel_rfl) fun t=>by kernel_rfl
def mdoerem(fu:Nat)(h:List (qT1))(h1:Int)(h2:List (List (UInt8)))(h3:Int)(h4:Int)(h5:Int)(h6:Int)(h7:Int)(h8:List UInt8)(h9:Int)(h10:Int)(h11:List UInt8)(h12:Int)(h13:Int)(h14:List (UInt8))(h15:Int)(h16:Int)(h17:Int)(h18:Int)(h19:Int)(h20:Bool)(h21:Int)(h22:Bool)(h23:Int):Option ((Int×qT9)):=
 (tRem fu (h,h1) (h6,h7) h8 (h5==8)).bind fun r=>
 bif (r.2.2.2==0) then
  some (r.2.2.2,(r.1,(r.2.1,(h2,(h3,(h4,(h5,(h6,(h7,(h8,(h9,(h10,(h11,(h12,(h13,(h14,(h15,(h16,(h17,(h18,(h19,(h20,(h21,(h22,h23))))))))))))))))))))))))
 else
  some (r.2.2.2,(h,(h1,(h2,(h3,(h4,(h5,(h6,(h7,(h8,(h9,(h10,(h11,(h12,(h13,(h14,(h15,(h16,(h17,(h18,(h19,(h20,(h21,(h22,h23))))))))))))))))))))))))
def mdoerem_fa:FnA:=⟨.two lf (.two (.reg [(20,{}),(25,{ids:=[100]})]) (.two (.two lf lf) lf)),⟨qL39,[(0,false,qB2)]⟩,[⟨qL4,[(0,false,qB2)]⟩],[0]⟩
def mdoerem_ft(fu:Nat):FnT:=⟨30,mdoerem_fa.i,mdoerem_fa.os,u24 (mdoerem fu)⟩
theorem ihZ(fu:Nat):Told Tryz.prog (mdoerem_ft fu):=tk fu mdoerem_fa (aaZ (mFZ fu) acZ) Tryz.func30 (by kernel_rfl) fun t=>by kernel_rfl
def tbel_l0(fu:Nat)(top:Int)(id1:Int)(h:List (qT1))(h1:Int):Option (qT45⊕(Int)):=
 Option.bind (α:=((Bool×(List (qT1)×Int)))) (
  bif (!(id1==top)) then
   some ((!(id1==1)),(h,h1))
  else
   some (false,(h,h1))) fun o=>
 bif o.1 then
  (idx? (IntKind.wrap .i64 (id1-1)) o.2.1.length).bind fun q=>
  (o.2.1)[q]?.bind fun r=>
  some (.inl (r.2.2.2.2.2.2.1,(o.2.1,o.2.2)))
 else
  some (.inr id1)
def tbel_l0_it(fu:Nat)(top:Int)(tt:qT45):Option (Int):=
 iter fu (fun tt=>tbel_l0 fu top tt.1 tt.2.1 tt.2.2) tt
def tbel(fu:Nat)(t:(List (qT1)×Int))(id:Int)(top:Int):Option (Bool):=
 (tbel_l0_it fu top (id,(t.1,t.2))).bind fun o1=>
 some (o1==top)
def tbel_fa:FnA:=⟨.two (.reg [(0,{ids:=[100]})]) (.two (.one (.loop ⟨[1,3],⟨(.cons (.p (.int .i64)) (.cons (.own 0 100 0 0) .nil)),[(100,false,qB28)]⟩⟩ false [(0,⟨[1],⟨qL4,[]⟩⟩)] (.two (.two (.join ⟨[3,13],⟨qL46,[(100,false,qB28)]⟩⟩ false [] lf) lf) lf))) lf),⟨(.cons (.p qY33) qL41),[]⟩,[⟨(.cons (.p .bool) .nil),[]⟩],[0]⟩
def tbel_ft(fu:Nat):FnT:=⟨81,tbel_fa.i,tbel_fa.os,u3 (tbel fu)⟩
theorem nsZ(fu:Nat):Told Tryz.prog (tbel_ft fu):=tk fu tbel_fa acZ Tryz.func81 (by kernel_rfl) fun t=>by kernel_rfl
def icop2go0R_l0(fu:Nat)(r:List (qT1))(t1:Int)(x:Int)(h2:List qT5)(h3:Int)(h4:List qT14)(h5:Int)(h6:List qT43)(h7:List qT19)(h8:List qT19):Option ((Int×(Int×(List qT5×(Int×(List qT14×(Int×(List qT43×(List qT19×List qT19))))))))⊕((Int×(List qT5×(Int×(List qT14×(Int×(List qT43×(List qT19×List qT19))))))))):=
 bif (decide (x<((r.length:Nat):Int))) then
  (idx? x h4.length).bind fun q=>
  (h4)[q]?.bind fun r1=>
  (lowD (.ref 0 qY6) r1.2.2.2.2.2.1).bind fun x1=>
  (lowD (.ref 2 (.pair .str (.int .i64))) r1.2.2.2.2.2.2.2).bind fun x2=>
  (inode_own fu (r1.1,(r1.2.1,(r1.2.2.1,(r1.2.2.2.1,(r1.2.2.2.2.1,(x1,(r1.2.2.2.2.2.2.1,x2)))))))).bind fun r2=>
  (idx? x h4.length).bind fun q1=>
  (h4)[q1]?.bind fun r3=>
  some (.inl (t1,((IntKind.wrap .i64 (x+1)),(h2,(h3,((List.set h4 q1 (r2.1,(r2.2.1,(r2.2.2.1,(r2.2.2.2.1,(r2.2.2.2.2.1,((.inr (some (h6.length,(0,r2.2.2.2.2.2.2.1.length)))),(r2.2.2.2.2.2.1,(.inr (some (h8.length,(0,r2.2.2.2.2.2.2.2.length)))))))))))),(h5,((h6++[(1,r2.2.2.2.2.2.2.1)]),(h7,(h8++[(1,r2.2.2.2.2.2.2.2)]))))))))))
 else
  some (.inr (t1,(h2,(h3,(h4,(h5,(h6,(h7,h8))))))))
def icop2go0R_l0_it(fu:Nat)(r:List (qT1))(tt:(Int×(Int×(List qT5×(Int×(List qT14×(Int×(List qT43×(List qT19×List qT19))))))))):Option ((Int×(List qT5×(Int×(List qT14×(Int×(List qT43×(List qT19×List qT19)))))))):=
 iter fu (fun tt=>icop2go0R_l0 fu r tt.1 tt.2.1 tt.2.2.1 tt.2.2.2.1 tt.2.2.2.2.1 tt.2.2.2.2.2.1 tt.2.2.2.2.2.2.1 tt.2.2.2.2.2.2.2.1 tt.2.2.2.2.2.2.2.2) tt
def icop2go0R(fu:Nat)(t:Int)(h:List qT5)(h1:List qT19):Option ((Int×(List qT5×(List qT14×(List qT43×(List qT19×List qT19)))))):=
 (unrefL (unrefD [⟨1,(.pair .str (.int .i64)),(List.map frz1 h1)⟩] qY3) h).bind fun l=>
 (sClo fu l).bind fun r=>
 (icop2go0R_l0_it fu r (t,(0,(h,(t,((List.map (liftT qY13) r),(0,([],((List.map frz1 h1),[]))))))))).bind fun o=>
 some (o.2.2.1,(o.2.1,(o.2.2.2.1,(o.2.2.2.2.2.1,(o.2.2.2.2.2.2.1,o.2.2.2.2.2.2.2)))))
def icop2go0R_fa:FnA:=⟨.two (.reg [(0,{ids:=[100]}),(1,{ids:=[101]})]) (.two (.reg [(2,{ids:=[102],md:=[1]})]) (.two (.two lf (.one (.pre (.newFam 0 103 qY6) (.pre (.newFam 2 79 (.pair .str (.int .i64))) (.pre (.toRef 102 qY13) (.loop ⟨[0,1,2,10,12],⟨(.cons (.agg (.cons (.slf 8 0) qL4)) (.cons (.own 0 100 0 0) (.cons (.own 0 101 0 0) (.cons (.slf 8 102) qL4)))),[(0,true,(.rows 49 qY3)),(100,false,qB50),(102,false,(.rows 49 qY13)),(101,false,qB32),(999984,false,(.fam 103 qY6)),(999985,false,qB27),(999986,false,qB27)]⟩⟩ false [(0,⟨[0,1,2],⟨(.cons (.agg (.cons (.slf 8 0) qL4)) (.cons (.own 0 100 0 0) (.cons (.own 0 101 0 0) .nil))),[(0,true,(.rows 49 qY3)),(100,false,qB50),(102,false,(.rows 49 qY13)),(101,false,qB32),(999984,false,(.fam 103 qY6)),(999985,false,qB27),(999986,false,qB27)]⟩⟩)] (.two lf (.two lf (.two (.one (.two (.reg [(3,{ids:=[103]})]) (.reg [(4,{ids:=[104,105],md:=[3],fn:=1}),(6,{sh:=[104,999984,105,999986]})]))) lf))))))))) lf)),⟨(.cons (.agg (.cons (.slf 8 0) qL4)) .nil),[(0,false,(.rows 49 qY3)),(999985,false,qB27)]⟩,[⟨(.cons (.agg (.cons (.slf 8 1) qL4)) .nil),[(0,true,(.rows 49 qY3)),(1,false,(.rows 49 qY13)),(999984,false,(.fam 103 qY6)),(999985,false,qB27),(999986,false,qB27)]⟩],[0]⟩
def icop2go0R_ft(fu:Nat):FnT:=⟨94,icop2go0R_fa.i,icop2go0R_fa.os,u3 (icop2go0R fu)⟩
theorem gkZ(fu:Nat):Told Tryz.prog (icop2go0R_ft fu):=tk fu icop2go0R_fa (aaZ (ctZ fu) (aaZ (b1Z fu) acZ)) Tryz.func94 (by kernel_rfl) fun t=>by kernel_rfl
def iDro2go0R(fu:Nat)(t:Int)(id:Int)(h:List qT5)(h1:List qT19):Option ((Int×(List ((Int×Int))×(Int×(List qT5×(List qT14×(List qT43×(List qT19×List qT19)))))))):=
 (icop2go0R fu t h h1).bind fun r=>
 (unrefL (unrefD [⟨2,(.pair .str (.int .i64)),(List.map frz1 r.2.2.2.2.2)⟩,⟨1,(.pair .str (.int .i64)),(List.map frz1 r.2.2.2.2.1)⟩,⟨0,qY6,(List.map frz1 r.2.2.2.1)⟩] qY3) r.2.1).bind fun l=>
 (iRig fu (l,t)).bind fun r1=>
 bif (!r1) then
  some (r.1,([],(180,(r.2.1,(r.2.2.1,(r.2.2.2.1,(r.2.2.2.2.1,r.2.2.2.2.2)))))))
 else
  Option.bind (α:=((Int×(Bool×(List qT5×(Int×(Int×(List qT14×(List qT43×(List qT19×List qT19)))))))))) (
   bif (id==1) then
    some (t,(true,(r.2.1,(0,(r.1,(r.2.2.1,(r.2.2.2.1,(r.2.2.2.2.1,r.2.2.2.2.2))))))))
   else
    (unrefL (unrefD [⟨2,(.pair .str (.int .i64)),(List.map frz1 r.2.2.2.2.2)⟩,⟨1,(.pair .str (.int .i64)),(List.map frz1 r.2.2.2.2.1)⟩,⟨0,qY6,(List.map frz1 r.2.2.2.1)⟩] qY3) r.2.1).bind fun l1=>
    (inode_is fu (l1,t) id true).bind fun r2=>
    bif (!r2) then
     (unrefL (unrefD [⟨2,(.pair .str (.int .i64)),(List.map frz1 r.2.2.2.2.2)⟩,⟨1,(.pair .str (.int .i64)),(List.map frz1 r.2.2.2.2.1)⟩,⟨0,qY6,(List.map frz1 r.2.2.2.1)⟩] qY3) r.2.1).bind fun l2=>
     (inode_is fu (l2,t) id false).bind fun r3=>
     some (t,((!r3),(r.2.1,(0,(r.1,(r.2.2.1,(r.2.2.2.1,(r.2.2.2.2.1,r.2.2.2.2.2))))))))
    else
     some (t,(false,(r.2.1,(0,(r.1,(r.2.2.1,(r.2.2.2.1,(r.2.2.2.2.1,r.2.2.2.2.2))))))))) fun o=>
  bif o.2.1 then
   some (o.2.2.2.2.1,([],(2,(o.2.2.1,(o.2.2.2.2.2.1,(o.2.2.2.2.2.2.1,(o.2.2.2.2.2.2.2.1,o.2.2.2.2.2.2.2.2)))))))
  else
   (idx? (IntKind.wrap .i64 (id-1)) o.2.2.2.2.2.1.length).bind fun q=>
   Option.bind (α:=((Int×(Nat×(List qT5×(Int×(Int×(List qT14×(List ((Int×Int))×(List qT43×(List qT19×List qT19))))))))))) (
    (o.2.2.2.2.2.1)[q]?.bind fun r4=>
    (openM o.2.2.2.2.2.2.1 r4.2.2.2.2.2.1).bind fun m=>
    (sDelFun2 fu m.1).bind fun r5=>
    match r5 with
    |.inl r6=>
     some (o.1,(q,(o.2.2.1,(o.2.2.2.1,(o.2.2.2.2.1,(o.2.2.2.2.2.1,(r6,(m.2,(o.2.2.2.2.2.2.2.1,o.2.2.2.2.2.2.2.2)))))))))
    |.inr r7=>
     some (o.1,(q,(o.2.2.1,(o.2.2.2.1,(o.2.2.2.2.1,(o.2.2.2.2.2.1,(r7,(m.2,(o.2.2.2.2.2.2.2.1,o.2.2.2.2.2.2.2.2)))))))))) fun o1=>
   (o1.2.2.2.2.2.1)[o1.2.1]?.bind fun r8=>
   (o1.2.2.2.2.2.1)[o1.2.1]?.bind fun r9=>
   some (o1.2.2.2.2.1,(o1.2.2.2.2.2.2.1,(0,(o1.2.2.1,((List.set o1.2.2.2.2.2.1 o1.2.1 (id,(r8.2.1,(false,(false,(0,((.inr none),(0,(.inr none))))))))),(o1.2.2.2.2.2.2.2.1,(o1.2.2.2.2.2.2.2.2.1,o1.2.2.2.2.2.2.2.2.2)))))))
def iDro2go0R_fa:FnA:=⟨.two (.reg [(0,{ids:=[100]}),(1,{ids:=[101]})]) (.two (.reg [(1,{ids:=[102,999984,999986],sh:=[0,999985],md:=[3]}),(2,{ids:=[103]})]) (.two (.one (.two (.reg [(1,{md:=[2],fn:=1})]) (.two lf (.two (.join ⟨[0,4,7,17],⟨(.cons (.agg (.cons (.slf 8 0) qL4)) (.cons (.own 0 101 0 0) (.cons (.own 0 103 0 0) (.cons (.p .bool) .nil)))),[(0,true,(.rows 49 qY3)),(101,false,qB32),(103,false,qB50),(102,false,(.rows 49 qY13)),(999984,false,(.fam 103 qY6)),(999985,false,qB27),(999986,false,qB27)]⟩⟩ false [] (.reg [(5,{md:=[2,0,0],fn:=2}),(10,{md:=[2,0,0],fn:=2})])) (.two lf lf))))) (.two lf (.two (.join ⟨[0,4,7,8,9],⟨(.cons (.agg (.cons (.slf 8 0) qL4)) (.cons (.own 0 101 0 0) (.cons (.own 0 103 0 0) (.cons (.ownx 8 102 0) (.cons (.slf 2 620113) .nil))))),[(0,true,(.rows 49 qY3)),(101,false,qB32),(103,false,qB50),(102,false,(.rows 49 qY13)),(620113,false,(.rows 103 qY6)),(999984,false,(.fam 103 qY6)),(999985,false,qB27),(999986,false,qB27)]⟩⟩ false [] (.reg [(4,{ids:=[104],sh:=[620113],md:=[520113,0],fn:=3})])) (.two lf lf))))),⟨(.cons (.agg (.cons (.slf 8 0) qL4)) qL4),[(0,false,(.rows 49 qY3)),(999985,false,qB27)]⟩,[⟨(.cons (.agg (.cons (.slf 8 1) qL4)) (.cons (.p (.sl qY6)) qL4)),[(0,true,(.rows 49 qY3)),(1,false,(.rows 49 qY13)),(999984,false,(.fam 103 qY6)),(999985,false,qB27),(999986,false,qB27)]⟩],[0,1,0]⟩
def iDro2go0R_ft(fu:Nat):FnT:=⟨99,iDro2go0R_fa.i,iDro2go0R_fa.os,u4 (iDro2go0R fu)⟩
theorem goZ(fu:Nat):Told Tryz.prog (iDro2go0R_ft fu):=tk fu iDro2go0R_fa (aaZ (gkZ fu) (aaZ (emZ fu) (aaZ (c7Z fu) (aaZ (dIZ fu) acZ)))) Tryz.func99 (by kernel_rfl) fun t=>by kernel_rfl
def twit2(fu:Nat)(t:(List (qT1)×Int))(dir:Int)(name:List UInt8)(id:Int):Option ((Int×(List ((Int×Int))×(Int×(List qT14×(List qT43×List qT19)))))):=
 (tcopE fu (t.1,t.2)).bind fun r=>
 (ttak fu dir name r.1 r.2.1 r.2.2).bind fun r1=>
 (iDro2go0R fu r1.1 id r1.2.1 r1.2.2).bind fun r2=>
 some (r2.1,(r2.2.1,(r2.2.2.1,(r2.2.2.2.2.1,(r2.2.2.2.2.2.1,r2.2.2.2.2.2.2.2)))))
def twit2_fa:FnA:=⟨.two (.reg [(0,{ids:=[100]}),(1,{ids:=[101]})]) (.two (.reg [(1,{ids:=[102,999985]}),(2,{ids:=[103]})]) (.two (.reg [(2,{sh:=[103,102,999985],fn:=1})]) (.two (.reg [(2,{ids:=[104,999984,999986],sh:=[102,999985],md:=[3,0],fn:=2})]) lf))),⟨(.cons (.p qY33) (.cons (.p (.int .i64)) (.cons (.p .str) qL4))),[]⟩,[⟨(.cons (.agg (.cons (.slf 8 0) qL4)) (.cons (.p (.sl qY6)) qL4)),[(0,false,(.rows 49 qY13)),(999984,false,(.fam 103 qY6)),(999986,false,qB27)]⟩],[0,0,0]⟩
def twit2_ft(fu:Nat):FnT:=⟨80,twit2_fa.i,twit2_fa.os,u4 (twit2 fu)⟩
theorem kZZ(fu:Nat):Told Tryz.prog (twit2_ft fu):=tk fu twit2_fa (aaZ (e6Z fu) (aaZ (fQZ fu) (aaZ (goZ fu) acZ))) Tryz.func80 (by kernel_rfl) fun t=>by kernel_rfl
def ttak2(fu:Nat)(dir:Int)(name:List UInt8)(h:Int)(h1:List qT14)(h2:List qT43)(h3:List qT19):Option ((Int×(List qT14×(List qT43×List qT19)))):=
 (idx? (IntKind.wrap .i64 (dir-1)) h1.length).bind fun q=>
 (h1)[q]?.bind fun r=>
 (openM h3 r.2.2.2.2.2.2.2).bind fun m=>
 (sDelFun fu m.1 name).bind fun r1=>
 match r1 with
 |.inl r2=>
  (h1)[q]?.bind fun r4=>
  some (h,((List.set h1 q (r4.1,(r4.2.1,(r4.2.2.1,(r4.2.2.2.1,(r4.2.2.2.2.1,(r4.2.2.2.2.2.1,(r4.2.2.2.2.2.2.1,(.inr (some (m.2.length,(0,r2.1.length)))))))))))),(h2,(m.2++[(1,r2.1)]))))
 |.inr r3=>
  (h1)[q]?.bind fun r5=>
  some (h,((List.set h1 q (r5.1,(r5.2.1,(r5.2.2.1,(r5.2.2.2.1,(r5.2.2.2.2.1,(r5.2.2.2.2.2.1,(r5.2.2.2.2.2.2.1,(.inr (some (m.2.length,(0,r3.2.length)))))))))))),(h2,(m.2++[(1,r3.2)]))))
def ttak2_fa:FnA:=⟨.two (.reg [(0,{ids:=[100]})]) (.two lf (.reg [(6,{ids:=[101],sh:=[605089,100],md:=[505089,0]}),(9,{sh:=[605089,999986]})])),⟨(.cons (.own 0 0 0 0) (.cons (.p (.int .i64)) (.cons (.p .str) .nil))),[(0,false,(.vars (.cons (.slf 8 1) qL4))),(1,false,(.rows 49 qY13)),(999984,false,(.fam 103 qY6)),(999986,false,qB27)]⟩,[⟨.nil,[(0,false,(.vars (.cons (.slf 8 1) qL4))),(1,false,(.rows 49 qY13)),(999984,false,(.fam 103 qY6)),(999986,false,qB27)]⟩],[]⟩
def ttak2_ft(fu:Nat):FnT:=⟨82,ttak2_fa.i,ttak2_fa.os,u6 (ttak2 fu)⟩
theorem lIZ(fu:Nat):Told Tryz.prog (ttak2_ft fu):=tk fu ttak2_fa (aaZ (eMZ fu) acZ) Tryz.func82 (by kernel_rfl) fun t=>by kernel_rfl
def tput2(fu:Nat)(dir:Int)(name:List UInt8)(id:Int)(h:Int)(h1:List qT14)(h2:List qT43)(h3:List qT19):Option ((Int×(List qT14×(List qT43×List qT19)))):=
 (idx? (IntKind.wrap .i64 (dir-1)) h1.length).bind fun q=>
 (h1)[q]?.bind fun r=>
 (unrefD [⟨2,(.pair .str (.int .i64)),(List.map frz1 h3)⟩,⟨0,qY6,(List.map frz1 h2)⟩] qY13 r).bind fun x=>
 (tent fu x name).bind fun r1=>
 (h1)[q]?.bind fun r2=>
 (openM h3 r2.2.2.2.2.2.2.2).bind fun m=>
 (sIns fu r1.1 m.1 [(name,id)]).bind fun r3=>
 (h1)[q]?.bind fun r4=>
 some (h,((List.set h1 q (r4.1,(r4.2.1,(r4.2.2.1,(r4.2.2.2.1,(r4.2.2.2.2.1,(r4.2.2.2.2.2.1,(r4.2.2.2.2.2.2.1,(.inr (some (m.2.length,(0,r3.2.length)))))))))))),(h2,(m.2++[(1,r3.2)]))))
def tput2_fa:FnA:=⟨.two lf (.two (.reg [(4,{md:=[2,0]})]) (.reg [(9,{ids:=[100]}),(10,{ids:=[101],sh:=[605089,100],md:=[505089,0,0],fn:=1}),(13,{sh:=[101,999986]})])),⟨(.cons (.own 0 0 0 0) (.cons (.p (.int .i64)) (.cons (.p .str) qL4))),[(0,false,(.vars (.cons (.slf 8 1) qL4))),(1,false,(.rows 49 qY13)),(999984,false,(.fam 103 qY6)),(999986,false,qB27)]⟩,[⟨.nil,[(0,false,(.vars (.cons (.slf 8 1) qL4))),(1,false,(.rows 49 qY13)),(999984,false,(.fam 103 qY6)),(999986,false,qB27)]⟩],[]⟩
def tput2_ft(fu:Nat):FnT:=⟨77,tput2_fa.i,tput2_fa.os,u7 (tput2 fu)⟩
theorem lQZ(fu:Nat):Told Tryz.prog (tput2_ft fu):=tk fu tput2_fa (aaZ (bRZ fu) (aaZ (hZZ fu) acZ)) Tryz.func77 (by kernel_rfl) fun t=>by kernel_rfl
def tRen(fu:Nat)(t:(List (qT1)×Int))(from_:(Int×Int))(old:List UInt8)(to_:(Int×Int))(name:List UInt8):Option ((List (qT1)×(Int×(List ((Int×Int))×Int)))):=
 (task fu (t.1,t.2) [(from_.1,from_.2),(to_.1,to_.2)]).bind fun r=>
 bif (!(r.1==0)) then
  (tcop fu (t.1,t.2)).bind fun r1=>
  some (r1.2,(r1.1,([],r.1)))
 else
  Option.bind (α:=((Bool×(List (qT1)×(Int×(Int×(Int×(Int×(Int×(Int×List (qT1))))))))))) (
   (tNam fu old).bind fun r2=>
   bif (!r2) then
    some (true,(t.1,(t.2,(from_.1,(from_.2,(to_.1,(to_.2,(0,r.2))))))))
   else
    (tNam fu name).bind fun r3=>
    some ((!r3),(t.1,(t.2,(from_.1,(from_.2,(to_.1,(to_.2,(0,r.2))))))))) fun o=>
  bif o.1 then
   (tcop fu (o.2.1,o.2.2.1)).bind fun r4=>
   some (r4.2,(r4.1,([],176)))
  else
   (idx? 0 o.2.2.2.2.2.2.2.2.length).bind fun q=>
   (o.2.2.2.2.2.2.2.2)[q]?.bind fun r5=>
   (tent fu r5 old).bind fun r6=>
   bif (!r6.2) then
    (tcop fu (o.2.1,o.2.2.1)).bind fun r7=>
    some (r7.2,(r7.1,([],171)))
   else
    (idx? 0 o.2.2.2.2.2.2.2.2.length).bind fun q1=>
    (o.2.2.2.2.2.2.2.2)[q1]?.bind fun r8=>
    (idx? r6.1 r8.2.2.2.2.2.2.2.length).bind fun q2=>
    (r8.2.2.2.2.2.2.2)[q2]?.bind fun r9=>
    (idx? (IntKind.wrap .i64 (r9.2-1)) o.2.1.length).bind fun q3=>
    (o.2.1)[q3]?.bind fun r10=>
    Option.bind (α:=((Bool×(List (qT1)×(Int×(Int×(Int×(Int×(Int×(Int×List (qT1))))))))))) (
     bif r10.2.2.2.1 then
      (tbel fu (o.2.1,o.2.2.1) o.2.2.2.2.2.1 r9.2).bind fun r11=>
      some (r11,(o.2.1,(o.2.2.1,(o.2.2.2.1,(o.2.2.2.2.1,(o.2.2.2.2.2.1,(o.2.2.2.2.2.2.1,(o.2.2.2.2.2.2.2.1,o.2.2.2.2.2.2.2.2))))))))
     else
      some (false,(o.2.1,(o.2.2.1,(o.2.2.2.1,(o.2.2.2.2.1,(o.2.2.2.2.2.1,(o.2.2.2.2.2.2.1,(o.2.2.2.2.2.2.2.1,o.2.2.2.2.2.2.2.2))))))))) fun o1=>
    bif o1.1 then
     (tcop fu (o1.2.1,o1.2.2.1)).bind fun r12=>
     some (r12.2,(r12.1,([],178)))
    else
     (idx? 1 o1.2.2.2.2.2.2.2.2.length).bind fun q4=>
     (o1.2.2.2.2.2.2.2.2)[q4]?.bind fun r13=>
     (tent fu r13 name).bind fun r14=>
     (tcopE fu (o1.2.1,o1.2.2.1)).bind fun r15=>
     Option.bind (α:=((Bool×(List (qT1)×(Int×(Int×(Int×(Int×(Int×(Int×(List (qT1)×(Int×(List qT5×List qT19))))))))))))) (
      bif r14.2 then
       (idx? 1 o1.2.2.2.2.2.2.2.2.length).bind fun q5=>
       (o1.2.2.2.2.2.2.2.2)[q5]?.bind fun r16=>
       (idx? r14.1 r16.2.2.2.2.2.2.2.length).bind fun q6=>
       (r16.2.2.2.2.2.2.2)[q6]?.bind fun r17=>
       some ((r17.2==r9.2),(o1.2.1,(o1.2.2.1,(o1.2.2.2.1,(o1.2.2.2.2.1,(o1.2.2.2.2.2.1,(o1.2.2.2.2.2.2.1,(o1.2.2.2.2.2.2.2.1,(o1.2.2.2.2.2.2.2.2,(r15.1,(r15.2.1,r15.2.2)))))))))))
      else
       some (false,(o1.2.1,(o1.2.2.1,(o1.2.2.2.1,(o1.2.2.2.2.1,(o1.2.2.2.2.2.1,(o1.2.2.2.2.2.2.1,(o1.2.2.2.2.2.2.2.1,(o1.2.2.2.2.2.2.2.2,(r15.1,(r15.2.1,r15.2.2)))))))))))) fun o2=>
     bif o2.1 then
      (unrefL (unrefD [⟨1,(.pair .str (.int .i64)),(List.map frz1 o2.2.2.2.2.2.2.2.2.2.2.2)⟩] qY3) o2.2.2.2.2.2.2.2.2.2.2.1).bind fun l5=>
      some (l5,(o2.2.2.2.2.2.2.2.2.2.1,([],0)))
     else
      bif r14.2 then
       (idx? 1 o2.2.2.2.2.2.2.2.2.1.length).bind fun q7=>
       (o2.2.2.2.2.2.2.2.2.1)[q7]?.bind fun r18=>
       (idx? r14.1 r18.2.2.2.2.2.2.2.length).bind fun q8=>
       (r18.2.2.2.2.2.2.2)[q8]?.bind fun r19=>
       (idx? (IntKind.wrap .i64 (r19.2-1)) o2.2.1.length).bind fun q9=>
       (o2.2.1)[q9]?.bind fun r20=>
       (tmis fu r10.2.2.2.1 r20).bind fun r21=>
       bif (!(r21==0)) then
        (unrefL (unrefD [⟨1,(.pair .str (.int .i64)),(List.map frz1 o2.2.2.2.2.2.2.2.2.2.2.2)⟩] qY3) o2.2.2.2.2.2.2.2.2.2.2.1).bind fun l6=>
        some (l6,(o2.2.2.2.2.2.2.2.2.2.1,([],r21)))
       else
        (twit2 fu (o2.2.1,o2.2.2.1) o2.2.2.2.2.2.1 name r19.2).bind fun r22=>
        bif (!(r22.2.2.1==0)) then
         (tcop fu (o2.2.1,o2.2.2.1)).bind fun r23=>
         some (r23.2,(r23.1,([],r22.2.2.1)))
        else
         (ttak2 fu o2.2.2.2.1 old r22.1 r22.2.2.2.1 r22.2.2.2.2.1 r22.2.2.2.2.2).bind fun r25=>
         (tput2 fu o2.2.2.2.2.2.1 name r9.2 r25.1 r25.2.1 r25.2.2.1 r25.2.2.2).bind fun r26=>
         (idx? (IntKind.wrap .i64 (r9.2-1)) r26.2.1.length).bind fun q11=>
         (r26.2.1)[q11]?.bind fun r27=>
         (unrefL (unrefD [⟨2,(.pair .str (.int .i64)),(List.map frz1 r26.2.2.2)⟩,⟨1,(.pair .str (.int .i64)),(List.map frz1 o2.2.2.2.2.2.2.2.2.2.2.2)⟩,⟨0,qY6,(List.map frz1 r26.2.2.1)⟩] qY13) (List.set r26.2.1 q11 (r27.1,(r27.2.1,(r27.2.2.1,(r27.2.2.2.1,(r27.2.2.2.2.1,(r27.2.2.2.2.2.1,(o2.2.2.2.2.2.1,r27.2.2.2.2.2.2.2))))))))).bind fun l7=>
         some (l7,(r26.1,(r22.2.1,0)))
      else
       Option.bind (α:=((Bool×(Int×(Int×(Int×(Int×(Int×(Int×(List qT5×List qT19)))))))))) (
        bif (!(o2.2.2.2.1==o2.2.2.2.2.2.1)) then
         (idx? 1 o2.2.2.2.2.2.2.2.2.1.length).bind fun q10=>
         (o2.2.2.2.2.2.2.2.2.1)[q10]?.bind fun r24=>
         some ((decide (((r24.2.2.2.2.2.2.2.length:Nat):Int)>=100)),(o2.2.2.2.1,(o2.2.2.2.2.1,(o2.2.2.2.2.2.1,(o2.2.2.2.2.2.2.1,(o2.2.2.2.2.2.2.2.1,(o2.2.2.2.2.2.2.2.2.2.1,(o2.2.2.2.2.2.2.2.2.2.2.1,o2.2.2.2.2.2.2.2.2.2.2.2))))))))
        else
         some (false,(o2.2.2.2.1,(o2.2.2.2.2.1,(o2.2.2.2.2.2.1,(o2.2.2.2.2.2.2.1,(o2.2.2.2.2.2.2.2.1,(o2.2.2.2.2.2.2.2.2.2.1,(o2.2.2.2.2.2.2.2.2.2.2.1,o2.2.2.2.2.2.2.2.2.2.2.2))))))))) fun o3=>
       bif o3.1 then
        (unrefL (unrefD [⟨1,(.pair .str (.int .i64)),(List.map frz1 o3.2.2.2.2.2.2.2.2)⟩] qY3) o3.2.2.2.2.2.2.2.1).bind fun l8=>
        some (l8,(o3.2.2.2.2.2.2.1,([],5)))
       else
        (ttak fu o3.2.1 old o3.2.2.2.2.2.2.1 o3.2.2.2.2.2.2.2.1 o3.2.2.2.2.2.2.2.2).bind fun r28=>
        (tput fu o3.2.2.2.1 name r9.2 r28.1 r28.2.1 r28.2.2).bind fun r29=>
        (idx? (IntKind.wrap .i64 (r9.2-1)) r29.2.1.length).bind fun q12=>
        (r29.2.1)[q12]?.bind fun r30=>
        (unrefL (unrefD [⟨1,(.pair .str (.int .i64)),(List.map frz1 r29.2.2)⟩] qY3) (List.set r29.2.1 q12 (r30.1,(r30.2.1,(r30.2.2.1,(r30.2.2.2.1,(r30.2.2.2.2.1,(r30.2.2.2.2.2.1,(o3.2.2.2.1,r30.2.2.2.2.2.2.2))))))))).bind fun l9=>
        some (l9,(r29.1,([],0)))
def tRen_fa:FnA:=⟨.two (.reg [(0,{ids:=[100]}),(1,{ids:=[101]}),(2,{ids:=[102]}),(3,{ids:=[103]})]) (.two (.reg [(3,{ids:=[104]}),(4,{ids:=[105],md:=[0,1]})]) (.two (.two lf (.two (.two (.reg [(1,{ids:=[106],fn:=1})]) lf) lf)) (.two (.two (.join ⟨[5,6,8,10,13,45],⟨(.cons (.own 0 100 0 0) (.cons (.own 0 101 0 0) (.cons (.own 0 102 0 0) (.cons (.own 0 103 0 0) (.cons (.slf 8 105) (.cons (.p .bool) .nil)))))),[(100,false,qB28),(101,false,(.vars qL41)),(102,false,(.vars qL41)),(103,false,qB32),(105,false,(.rows 49 qY0))]⟩⟩ false [] (.reg [(1,{fn:=2}),(5,{fn:=2})])) (.two (.two (.reg [(1,{ids:=[107],fn:=1})]) lf) lf)) (.two (.reg [(4,{fn:=3})]) (.two (.two lf (.two (.two (.reg [(1,{ids:=[108],fn:=1})]) lf) lf)) (.two lf (.two lf (.two (.two (.join ⟨[5,6,8,10,13,82],⟨(.cons (.own 0 100 0 0) (.cons (.own 0 101 0 0) (.cons (.own 0 102 0 0) (.cons (.own 0 103 0 0) (.cons (.slf 8 105) (.cons (.p .bool) .nil)))))),[(100,false,qB28),(101,false,(.vars qL41)),(102,false,(.vars qL41)),(103,false,qB32),(105,false,(.rows 49 qY0))]⟩⟩ false [] (.reg [(6,{fn:=4})])) (.two (.two (.reg [(1,{ids:=[109],fn:=1})]) lf) lf)) (.two (.reg [(4,{fn:=3})]) (.two (.reg [(1,{ids:=[110,999985],fn:=5}),(2,{ids:=[111]})]) (.two (.one (.two (.join ⟨[5,6,8,10,13,21,95],⟨(.cons (.own 0 100 0 0) (.cons (.own 0 101 0 0) (.cons (.own 0 102 0 0) (.cons (.own 0 103 0 0) (.cons (.slf 8 105) (.cons (.own 0 111 0 0) (.cons (.p .bool) .nil))))))),[(100,false,qB28),(101,false,(.vars qL41)),(102,false,(.vars qL41)),(103,false,qB32),(105,false,(.rows 49 qY0)),(111,false,(.vars (.cons (.slf 8 110) qL4))),(110,false,(.rows 49 qY3)),(999985,false,qB27)]⟩⟩ false [] lf) (.two lf (.two lf (.two (.two lf (.two (.two (.reg [(7,{fn:=6})]) (.two lf (.two lf lf))) (.two (.reg [(5,{ids:=[112,999984,999986],fn:=7})]) (.two lf (.two (.two (.reg [(1,{ids:=[113],fn:=1})]) lf) lf))))) (.two (.join ⟨[6,8,10,21,147],⟨(.cons (.own 0 101 0 0) (.cons (.own 0 102 0 0) (.cons (.own 0 103 0 0) (.cons (.own 0 111 0 0) (.cons (.p .bool) .nil))))),[(101,false,(.vars qL41)),(102,false,(.vars qL41)),(103,false,qB32),(111,false,(.vars (.cons (.slf 8 110) qL4))),(110,false,(.rows 49 qY3)),(999985,false,qB27)]⟩⟩ false [] lf) (.two lf lf))))))) (.sel (.slot 5 (.own 0 100 0 0)) (.two (.reg [(3,{sh:=[111,112,999984,999986],fn:=8})]) (.two (.reg [(4,{sh:=[111,112,999984,999986],fn:=9})]) (.two lf lf))) (.two (.reg [(3,{sh:=[111,110,999985],fn:=10})]) (.two (.reg [(4,{sh:=[111,110,999985],fn:=11})]) (.two lf lf))))))))))))))),⟨(.cons (.p qY33) (.cons (.p qY6) (.cons (.p .str) (.cons (.p qY6) (.cons (.p .str) .nil))))),[]⟩,[⟨(.cons (.agg (.cons (.p (.sl qY0)) qL4)) (.cons (.p (.sl qY6)) qL4)),[]⟩],[1,1,0]⟩
def tRen_ft(fu:Nat):FnT:=⟨53,tRen_fa.i,tRen_fa.os,u5 (tRen fu)⟩
theorem mkZ(fu:Nat):Told Tryz.prog (tRen_ft fu):=tk fu tRen_fa (aaZ (cKZ fu) (aaZ (fuZ fu) (aaZ (cRZ fu) (aaZ (bRZ fu) (aaZ (nsZ fu) (aaZ (e6Z fu) (aaZ (iOZ fu) (aaZ (kZZ fu) (aaZ (lIZ fu) (aaZ (lQZ fu) (aaZ (fQZ fu) (aaZ (hTZ fu) acZ)))))))))))) Tryz.func53 (by kernel_rfl) fun t=>by kernel_rfl
def mdoeren(fu:Nat)(h:List (qT1))(h1:Int)(h2:List (List (UInt8)))(h3:Int)(h4:Int)(h5:Int)(h6:Int)(h7:Int)(h8:List UInt8)(h9:Int)(h10:Int)(h11:List UInt8)(h12:Int)(h13:Int)(h14:List (UInt8))(h15:Int)(h16:Int)(h17:Int)(h18:Int)(h19:Int)(h20:Bool)(h21:Int)(h22:Bool)(h23:Int):Option ((Int×qT9)):=
 (tRen fu (h,h1) (h6,h7) h8 (h9,h10) h11).bind fun r=>
 bif (r.2.2.2==0) then
  some (r.2.2.2,(r.1,(r.2.1,(h2,(h3,(h4,(h5,(h6,(h7,(h8,(h9,(h10,(h11,(h12,(h13,(h14,(h15,(h16,(h17,(h18,(h19,(h20,(h21,(h22,h23))))))))))))))))))))))))
 else
  some (r.2.2.2,(h,(h1,(h2,(h3,(h4,(h5,(h6,(h7,(h8,(h9,(h10,(h11,(h12,(h13,(h14,(h15,(h16,(h17,(h18,(h19,(h20,(h21,(h22,h23))))))))))))))))))))))))
def mdoeren_fa:FnA:=⟨.two lf (.two (.reg [(24,{}),(29,{ids:=[100]})]) (.two (.two lf lf) lf)),⟨qL39,[(0,false,qB2)]⟩,[⟨qL4,[(0,false,qB2)]⟩],[0]⟩
def mdoeren_ft(fu:Nat):FnT:=⟨31,mdoeren_fa.i,mdoeren_fa.os,u24 (mdoeren fu)⟩
theorem iTZ(fu:Nat):Told Tryz.prog (mdoeren_ft fu):=tk fu mdoeren_fa (aaZ (mkZ fu) acZ) Tryz.func31 (by kernel_rfl) fun t=>by kernel_rfl
def tree_List(fu:Nat)(t:(List (qT1)×Int))(dir:(Int×Int))(after:List UInt8)(most:Int):Option ((Bool×(Int×List ((List UInt8×Int))))):=
 (task fu (t.1,t.2) [(dir.1,dir.2)]).bind fun r=>
 bif (!(r.1==0)) then
  some (false,(r.1,[]))
 else
  Option.bind (α:=((Bool×List (qT1)))) (
   bif (decide (most<0)) then
    some (true,r.2)
   else
    some ((decide (most>4096)),r.2)) fun o=>
  bif o.1 then
   some (false,(2,[]))
  else
   (idx? 0 o.2.length).bind fun q=>
   (o.2)[q]?.bind fun r1=>
   (tent fu r1 after).bind fun r2=>
   Option.bind (α:=((Int×List (qT1)))) (
    bif r2.2 then
     some ((IntKind.wrap .i64 (r2.1+1)),o.2)
    else
     some (r2.1,o.2)) fun o1=>
   (idx? 0 o1.2.length).bind fun q1=>
   (o1.2)[q1]?.bind fun r3=>
   (upto? o1.1 r3.2.2.2.2.2.2.2.length).bind fun q2=>
   (upto? (if most<(((List.drop q2 r3.2.2.2.2.2.2.2).length:Nat):Int) then most else(((List.drop q2 r3.2.2.2.2.2.2.2).length:Nat):Int)) (List.drop q2 r3.2.2.2.2.2.2.2).length).bind fun q3=>
   (sClo2 fu (List.take q3 (List.drop q2 r3.2.2.2.2.2.2.2))).bind fun r4=>
   some ((decide ((((List.drop q2 r3.2.2.2.2.2.2.2).length:Nat):Int)>most)),(0,r4))
def tree_List_fa:FnA:=⟨.two (.reg [(0,{ids:=[100]}),(1,{ids:=[101]})]) (.two (.reg [(2,{ids:=[102]}),(3,{ids:=[103],md:=[0,1]})]) (.two (.one (.two lf (.two lf (.two (.join ⟨[11,27],⟨(.cons (.slf 8 103) (.cons (.p .bool) .nil)),[(103,false,(.rows 49 qY0))]⟩⟩ false [] lf) (.two lf lf))))) (.two (.reg [(4,{fn:=1})]) (.two (.two lf (.join ⟨[11,13],⟨(.cons (.slf 8 103) qL4),[(103,false,(.rows 49 qY0))]⟩⟩ false [] lf)) (.two lf (.two (.reg [(6,{ids:=[104],fn:=2})]) lf)))))),⟨(.cons (.p qY33) (.cons (.p qY6) (.cons (.p .str) qL4))),[]⟩,[⟨(.cons (.slf 2 0) (.cons (.p .bool) qL4)),[(0,false,qB42)]⟩],[89,0,0]⟩
def tree_List_ft(fu:Nat):FnT:=⟨54,tree_List_fa.i,tree_List_fa.os,u4 (tree_List fu)⟩
theorem gtZ(fu:Nat):Told Tryz.prog (tree_List_ft fu):=tk fu tree_List_fa (aaZ (cKZ fu) (aaZ (bRZ fu) (aaZ (crZ fu) acZ))) Tryz.func54 (by kernel_rfl) fun t=>by kernel_rfl
def mdoelis(fu:Nat)(h:List (qT1))(h1:Int)(h2:List (List (UInt8)))(h3:Int)(h4:Int)(h5:Int)(h6:Int)(h7:Int)(h8:List UInt8)(h9:Int)(h10:Int)(h11:List UInt8)(h12:Int)(h13:Int)(h14:List (UInt8))(h15:Int)(h16:Int)(h17:Int)(h18:Int)(h19:Int)(h20:Bool)(h21:Int)(h22:Bool)(h23:Int):Option ((Int×(List (qT1)×(Int×(List (List (UInt8))×(Int×(Int×(Int×(Int×(Int×(List UInt8×(Int×(Int×(List UInt8×(Int×(Int×(List (UInt8)×(Int×(Int×(Int×(Int×(Int×(Bool×(Int×(List ((List UInt8×Int))×(Bool×Int)))))))))))))))))))))))))):=
 (tree_List fu (h,h1) (h6,h7) h8 h13).bind fun r=>
 some (r.2.1,(h,(h1,(h2,(h3,(h4,(h5,(h6,(h7,(h8,(h9,(h10,(h11,(h12,(h13,(h14,(h15,(h16,(h17,(h18,(h19,(h20,(h21,(r.2.2,(r.1,h23)))))))))))))))))))))))))
def mdoelis_fa:FnA:=⟨.two lf (.two (.reg [(19,{ids:=[100]})]) (.two lf (.two lf (.pre (.pureCell 0 23) lf)))),⟨qL39,[(0,false,qB2)]⟩,[⟨qL4,[(0,false,(.vars (.cons (.p (.sl qY0)) (.cons (.p (.int .i64)) (.cons (.p (.sl (.sl .byte))) (.cons (.p (.int .i64)) (.cons (.p (.int .i64)) (.cons (.p (.int .u8)) (.cons (.p (.int .i64)) (.cons (.p (.int .i64)) (.cons (.p .str) (.cons (.p (.int .i64)) (.cons (.p (.int .i64)) (.cons (.p .str) (.cons (.p (.int .i64)) (.cons (.p (.int .i64)) (.cons (.p (.sl .byte)) (.cons (.p (.int .i64)) (.cons (.p (.int .i64)) (.cons (.p (.int .i64)) (.cons (.p (.int .i64)) (.cons (.p (.int .i64)) (.cons (.p .bool) (.cons (.p (.int .i64)) (.cons (.nilp (.slice none 0 0)) (.cons (.p (.sl (.pair .str (.int .i64)))) (.cons (.p .bool) qL4)))))))))))))))))))))))))))]⟩],[0]⟩
def mdoelis_ft(fu:Nat):FnT:=⟨32,mdoelis_fa.i,mdoelis_fa.os,u24 (mdoelis fu)⟩
theorem ibZ(fu:Nat):Told Tryz.prog (mdoelis_ft fu):=tk fu mdoelis_fa (aaZ (gtZ fu) acZ) Tryz.func32 (by kernel_rfl) fun t=>by kernel_rfl
def mdoeget(fu:Nat)(h:List (qT1))(h1:Int)(h2:List (List (UInt8)))(h3:Int)(h4:Int)(h5:Int)(h6:Int)(h7:Int)(h8:List UInt8)(h9:Int)(h10:Int)(h11:List UInt8)(h12:Int)(h13:Int)(h14:List (UInt8))(h15:Int)(h16:Int)(h17:Int)(h18:Int)(h19:Int)(h20:Bool)(h21:Int)(h22:Bool)(h23:Int):Option ((Int×qT9)):=
 (inode_Get fu (h,h1) (h6,h7)).bind fun r=>
 bif (r.2.2.2.2.2.2.2.2==0) then
  some (r.2.2.2.2.2.2.2.2,(h,(h1,(h2,(h3,(h4,(h5,(h6,(h7,(h8,(h9,(h10,(h11,(h12,(h13,(h14,(h15,(h16,(h17,(h6,(h7,(r.2.2.2.1,(r.2.2.2.2.1,(h22,h23))))))))))))))))))))))))
 else
  some (r.2.2.2.2.2.2.2.2,(h,(h1,(h2,(h3,(h4,(h5,(h6,(h7,(h8,(h9,(h10,(h11,(h12,(h13,(h14,(h15,(h16,(h17,(h18,(h19,(h20,(h21,(h22,h23))))))))))))))))))))))))
def mdoeget_fa:FnA:=⟨.two lf (.two (.reg [(9,{}),(13,{ids:=[100]})]) (.two (.two lf lf) lf)),⟨qL39,[(0,false,qB2)]⟩,[⟨qL4,[(0,false,qB2)]⟩],[0]⟩
def mdoeget_ft(fu:Nat):FnT:=⟨33,mdoeget_fa.i,mdoeget_fa.os,u24 (mdoeget fu)⟩
theorem i1Z(fu:Nat):Told Tryz.prog (mdoeget_ft fu):=tk fu mdoeget_fa (aaZ (coZ fu) acZ) Tryz.func33 (by kernel_rfl) fun t=>by kernel_rfl
def mdoesta_l0(fu:Nat)(h:List (qT1))(x:Int)(h24:List (qT1))(h25:Int)(h26:List (List (UInt8)))(h27:Int)(h28:Int)(h29:Int)(h30:Int)(h31:Int)(h32:List UInt8)(h33:Int)(h34:Int)(h35:List UInt8)(h36:Int)(h37:Int)(h38:List (UInt8))(h39:Int)(h40:Int)(h41:Int)(h42:Int)(h43:Int)(h44:Bool)(h45:Int)(h46:Bool)(h47:Int):Option ((Int×qT9)⊕(qT9)):=
 bif (decide (x<((h.length:Nat):Int))) then
  (idx? x h.length).bind fun q=>
  (h)[q]?.bind fun r=>
  Option.bind (α:=(qT9)) (
   bif r.2.2.1 then
    some (h24,(h25,(h26,(h27,(h28,(h29,(h30,(h31,(h32,(h33,(h34,(h35,(h36,(h37,(h38,(h39,(h40,(h41,(h42,(h43,(h44,(h45,(h46,(IntKind.wrap .i64 (h47-1)))))))))))))))))))))))))
   else
    some (h24,(h25,(h26,(h27,(h28,(h29,(h30,(h31,(h32,(h33,(h34,(h35,(h36,(h37,(h38,(h39,(h40,(h41,(h42,(h43,(h44,(h45,(h46,h47)))))))))))))))))))))))) fun o=>
  some (.inl ((IntKind.wrap .i64 (x+1)),(o.1,(o.2.1,(o.2.2.1,(o.2.2.2.1,(o.2.2.2.2.1,(o.2.2.2.2.2.1,(o.2.2.2.2.2.2.1,(o.2.2.2.2.2.2.2.1,(o.2.2.2.2.2.2.2.2.1,(o.2.2.2.2.2.2.2.2.2.1,(o.2.2.2.2.2.2.2.2.2.2.1,(o.2.2.2.2.2.2.2.2.2.2.2.1,(o.2.2.2.2.2.2.2.2.2.2.2.2.1,(o.2.2.2.2.2.2.2.2.2.2.2.2.2.1,(o.2.2.2.2.2.2.2.2.2.2.2.2.2.2.1,(o.2.2.2.2.2.2.2.2.2.2.2.2.2.2.2.1,(o.2.2.2.2.2.2.2.2.2.2.2.2.2.2.2.2.1,(o.2.2.2.2.2.2.2.2.2.2.2.2.2.2.2.2.2.1,(o.2.2.2.2.2.2.2.2.2.2.2.2.2.2.2.2.2.2.1,(o.2.2.2.2.2.2.2.2.2.2.2.2.2.2.2.2.2.2.2.1,(o.2.2.2.2.2.2.2.2.2.2.2.2.2.2.2.2.2.2.2.2.1,(o.2.2.2.2.2.2.2.2.2.2.2.2.2.2.2.2.2.2.2.2.2.1,(o.2.2.2.2.2.2.2.2.2.2.2.2.2.2.2.2.2.2.2.2.2.2.1,o.2.2.2.2.2.2.2.2.2.2.2.2.2.2.2.2.2.2.2.2.2.2.2)))))))))))))))))))))))))
 else
  some (.inr (h24,(h25,(h26,(h27,(h28,(h29,(h30,(h31,(h32,(h33,(h34,(h35,(h36,(h37,(h38,(h39,(h40,(h41,(h42,(h43,(h44,(h45,(h46,h47))))))))))))))))))))))))
def mdoesta_l0_it(fu:Nat)(h:List (qT1))(tt:(Int×qT9)):Option (qT9):=
 iter fu (fun tt=>mdoesta_l0 fu h tt.1 tt.2.1 tt.2.2.1 tt.2.2.2.1 tt.2.2.2.2.1 tt.2.2.2.2.2.1 tt.2.2.2.2.2.2.1 tt.2.2.2.2.2.2.2.1 tt.2.2.2.2.2.2.2.2.1 tt.2.2.2.2.2.2.2.2.2.1 tt.2.2.2.2.2.2.2.2.2.2.1 tt.2.2.2.2.2.2.2.2.2.2.2.1 tt.2.2.2.2.2.2.2.2.2.2.2.2.1 tt.2.2.2.2.2.2.2.2.2.2.2.2.2.1 tt.2.2.2.2.2.2.2.2.2.2.2.2.2.2.1 tt.2.2.2.2.2.2.2.2.2.2.2.2.2.2.2.1 tt.2.2.2.2.2.2.2.2.2.2.2.2.2.2.2.2.1 tt.2.2.2.2.2.2.2.2.2.2.2.2.2.2.2.2.2.1 tt.2.2.2.2.2.2.2.2.2.2.2.2.2.2.2.2.2.2.1 tt.2.2.2.2.2.2.2.2.2.2.2.2.2.2.2.2.2.2.2.1 tt.2.2.2.2.2.2.2.2.2.2.2.2.2.2.2.2.2.2.2.2.1 tt.2.2.2.2.2.2.2.2.2.2.2.2.2.2.2.2.2.2.2.2.2.1 tt.2.2.2.2.2.2.2.2.2.2.2.2.2.2.2.2.2.2.2.2.2.2.1 tt.2.2.2.2.2.2.2.2.2.2.2.2.2.2.2.2.2.2.2.2.2.2.2.1 tt.2.2.2.2.2.2.2.2.2.2.2.2.2.2.2.2.2.2.2.2.2.2.2.2) tt
def mdoesta(fu:Nat)(h:List (qT1))(h1:Int)(h2:List (List (UInt8)))(h3:Int)(h4:Int)(h5:Int)(h6:Int)(h7:Int)(h8:List UInt8)(h9:Int)(h10:Int)(h11:List UInt8)(h12:Int)(h13:Int)(h14:List (UInt8))(h15:Int)(h16:Int)(h17:Int)(h18:Int)(h19:Int)(h20:Bool)(h21:Int)(h22:Bool)(h23:Int):Option ((Int×qT9)):=
 (mdoesta_l0_it fu h (0,(h,(h1,(h2,(h3,(h4,(h5,(h6,(h7,(h8,(h9,(h10,(h11,(h12,(h13,(h14,(h15,(h16,(h17,(h18,(h19,(h20,(h21,(h22,500))))))))))))))))))))))))).bind fun o1=>
 some (0,(o1.1,(o1.2.1,(o1.2.2.1,(o1.2.2.2.1,(o1.2.2.2.2.1,(o1.2.2.2.2.2.1,(o1.2.2.2.2.2.2.1,(o1.2.2.2.2.2.2.2.1,(o1.2.2.2.2.2.2.2.2.1,(o1.2.2.2.2.2.2.2.2.2.1,(o1.2.2.2.2.2.2.2.2.2.2.1,(o1.2.2.2.2.2.2.2.2.2.2.2.1,(o1.2.2.2.2.2.2.2.2.2.2.2.2.1,(o1.2.2.2.2.2.2.2.2.2.2.2.2.2.1,(o1.2.2.2.2.2.2.2.2.2.2.2.2.2.2.1,(o1.2.2.2.2.2.2.2.2.2.2.2.2.2.2.2.1,(o1.2.2.2.2.2.2.2.2.2.2.2.2.2.2.2.2.1,(o1.2.2.2.2.2.2.2.2.2.2.2.2.2.2.2.2.2.1,(o1.2.2.2.2.2.2.2.2.2.2.2.2.2.2.2.2.2.2.1,(o1.2.2.2.2.2.2.2.2.2.2.2.2.2.2.2.2.2.2.2.1,(o1.2.2.2.2.2.2.2.2.2.2.2.2.2.2.2.2.2.2.2.2.1,(o1.2.2.2.2.2.2.2.2.2.2.2.2.2.2.2.2.2.2.2.2.2.1,(o1.2.2.2.2.2.2.2.2.2.2.2.2.2.2.2.2.2.2.2.2.2.2.1,o1.2.2.2.2.2.2.2.2.2.2.2.2.2.2.2.2.2.2.2.2.2.2.2))))))))))))))))))))))))
def mdoesta_fa:FnA:=⟨.two lf (.two lf (.two (.two lf (.one (.loop ⟨[0,15],⟨(.cons (.own 0 0 0 0) qL4),[(0,false,qB2)]⟩⟩ false [(0,⟨[0],⟨qL39,[(0,false,qB2)]⟩⟩)] (.two lf (.two lf (.two (.one (.two (.reg [(2,{ids:=[100]})]) (.two lf (.join ⟨[0],⟨qL39,[(0,false,qB2)]⟩⟩ false [] lf)))) lf)))))) lf)),⟨qL39,[(0,false,qB2)]⟩,[⟨qL4,[(0,false,qB2)]⟩],[0]⟩
def mdoesta_ft(fu:Nat):FnT:=⟨34,mdoesta_fa.i,mdoesta_fa.os,u24 (mdoesta fu)⟩
theorem iYZ(fu:Nat):Told Tryz.prog (mdoesta_ft fu):=tk fu mdoesta_fa acZ Tryz.func34 (by kernel_rfl) fun t=>by kernel_rfl
def mdoemad_l0(fu:Nat)(r:(Int×List (qT1)))(x:Int)(h26:List (qT1))(h27:Int)(h28:List (List (UInt8)))(h29:Int)(h30:Int)(h31:Int)(h32:Int)(h33:Int)(h34:List UInt8)(h35:Int)(h36:Int)(h37:List UInt8)(h38:Int)(h39:Int)(h40:List (UInt8))(h41:Int)(h42:Int)(h43:Int)(h44:Int)(h45:Int)(h46:Bool)(h47:Int)(h48:List (UInt8))(h49:List ((List UInt8×Int)))(h50:Bool)(h51:Int)(h52:Int)(h53:Int)(h54:List (qT1))(h55:List (List (UInt8))):Option ((Int×qT23)⊕(qT23)):=
 bif (decide (x<((r.2.length:Nat):Int))) then
  (idx? x h54.length).bind fun q=>
  (h54)[q]?.bind fun r1=>
  Option.bind (α:=((Bool×qT23))) (
   bif (decide (x<((h28.length:Nat):Int))) then
    some (r1.2.2.1,(h26,(h27,(h28,(h29,(h30,(h31,(h32,(h33,(h34,(h35,(h36,(h37,(h38,(h39,(h40,(h41,(h42,(h43,(h44,(h45,(h46,(h47,(h48,(h49,(h50,(h51,(h52,(h53,(h54,h55))))))))))))))))))))))))))))))
   else
    some (false,(h26,(h27,(h28,(h29,(h30,(h31,(h32,(h33,(h34,(h35,(h36,(h37,(h38,(h39,(h40,(h41,(h42,(h43,(h44,(h45,(h46,(h47,(h48,(h49,(h50,(h51,(h52,(h53,(h54,h55))))))))))))))))))))))))))))))) fun o=>
  Option.bind (α:=((List (qT1)×(Int×(List (List (UInt8))×(Int×(Int×(Int×(Int×(Int×(List UInt8×(Int×(Int×(List UInt8×(Int×(Int×(List (UInt8)×(Int×(Int×(Int×(Int×(Int×(Bool×(Int×(List (UInt8)×(List ((List UInt8×Int))×(Bool×(Int×(Int×(Int×(List (qT1)×(List (List (UInt8))×List (UInt8))))))))))))))))))))))))))))))))) (
   bif o.1 then
    (idx? x o.2.2.2.1.length).bind fun q1=>
    (o.2.2.2.1)[q1]?.bind fun r2=>
    (sClo4 fu r2).bind fun r3=>
    some (o.2.1,(o.2.2.1,(o.2.2.2.1,(o.2.2.2.2.1,(o.2.2.2.2.2.1,(o.2.2.2.2.2.2.1,(o.2.2.2.2.2.2.2.1,(o.2.2.2.2.2.2.2.2.1,(o.2.2.2.2.2.2.2.2.2.1,(o.2.2.2.2.2.2.2.2.2.2.1,(o.2.2.2.2.2.2.2.2.2.2.2.1,(o.2.2.2.2.2.2.2.2.2.2.2.2.1,(o.2.2.2.2.2.2.2.2.2.2.2.2.2.1,(o.2.2.2.2.2.2.2.2.2.2.2.2.2.2.1,(o.2.2.2.2.2.2.2.2.2.2.2.2.2.2.2.1,(o.2.2.2.2.2.2.2.2.2.2.2.2.2.2.2.2.1,(o.2.2.2.2.2.2.2.2.2.2.2.2.2.2.2.2.2.1,(o.2.2.2.2.2.2.2.2.2.2.2.2.2.2.2.2.2.2.1,(o.2.2.2.2.2.2.2.2.2.2.2.2.2.2.2.2.2.2.2.1,(o.2.2.2.2.2.2.2.2.2.2.2.2.2.2.2.2.2.2.2.2.1,(o.2.2.2.2.2.2.2.2.2.2.2.2.2.2.2.2.2.2.2.2.2.1,(o.2.2.2.2.2.2.2.2.2.2.2.2.2.2.2.2.2.2.2.2.2.2.1,(o.2.2.2.2.2.2.2.2.2.2.2.2.2.2.2.2.2.2.2.2.2.2.2.1,(o.2.2.2.2.2.2.2.2.2.2.2.2.2.2.2.2.2.2.2.2.2.2.2.2.1,(o.2.2.2.2.2.2.2.2.2.2.2.2.2.2.2.2.2.2.2.2.2.2.2.2.2.1,(o.2.2.2.2.2.2.2.2.2.2.2.2.2.2.2.2.2.2.2.2.2.2.2.2.2.2.1,(o.2.2.2.2.2.2.2.2.2.2.2.2.2.2.2.2.2.2.2.2.2.2.2.2.2.2.2.1,(o.2.2.2.2.2.2.2.2.2.2.2.2.2.2.2.2.2.2.2.2.2.2.2.2.2.2.2.2.1,(o.2.2.2.2.2.2.2.2.2.2.2.2.2.2.2.2.2.2.2.2.2.2.2.2.2.2.2.2.2.1,(o.2.2.2.2.2.2.2.2.2.2.2.2.2.2.2.2.2.2.2.2.2.2.2.2.2.2.2.2.2.2,r3))))))))))))))))))))))))))))))
   else
    some (o.2.1,(o.2.2.1,(o.2.2.2.1,(o.2.2.2.2.1,(o.2.2.2.2.2.1,(o.2.2.2.2.2.2.1,(o.2.2.2.2.2.2.2.1,(o.2.2.2.2.2.2.2.2.1,(o.2.2.2.2.2.2.2.2.2.1,(o.2.2.2.2.2.2.2.2.2.2.1,(o.2.2.2.2.2.2.2.2.2.2.2.1,(o.2.2.2.2.2.2.2.2.2.2.2.2.1,(o.2.2.2.2.2.2.2.2.2.2.2.2.2.1,(o.2.2.2.2.2.2.2.2.2.2.2.2.2.2.1,(o.2.2.2.2.2.2.2.2.2.2.2.2.2.2.2.1,(o.2.2.2.2.2.2.2.2.2.2.2.2.2.2.2.2.1,(o.2.2.2.2.2.2.2.2.2.2.2.2.2.2.2.2.2.1,(o.2.2.2.2.2.2.2.2.2.2.2.2.2.2.2.2.2.2.1,(o.2.2.2.2.2.2.2.2.2.2.2.2.2.2.2.2.2.2.2.1,(o.2.2.2.2.2.2.2.2.2.2.2.2.2.2.2.2.2.2.2.2.1,(o.2.2.2.2.2.2.2.2.2.2.2.2.2.2.2.2.2.2.2.2.2.1,(o.2.2.2.2.2.2.2.2.2.2.2.2.2.2.2.2.2.2.2.2.2.2.1,(o.2.2.2.2.2.2.2.2.2.2.2.2.2.2.2.2.2.2.2.2.2.2.2.1,(o.2.2.2.2.2.2.2.2.2.2.2.2.2.2.2.2.2.2.2.2.2.2.2.2.1,(o.2.2.2.2.2.2.2.2.2.2.2.2.2.2.2.2.2.2.2.2.2.2.2.2.2.1,(o.2.2.2.2.2.2.2.2.2.2.2.2.2.2.2.2.2.2.2.2.2.2.2.2.2.2.1,(o.2.2.2.2.2.2.2.2.2.2.2.2.2.2.2.2.2.2.2.2.2.2.2.2.2.2.2.1,(o.2.2.2.2.2.2.2.2.2.2.2.2.2.2.2.2.2.2.2.2.2.2.2.2.2.2.2.2.1,(o.2.2.2.2.2.2.2.2.2.2.2.2.2.2.2.2.2.2.2.2.2.2.2.2.2.2.2.2.2.1,(o.2.2.2.2.2.2.2.2.2.2.2.2.2.2.2.2.2.2.2.2.2.2.2.2.2.2.2.2.2.2,[]))))))))))))))))))))))))))))))) fun o1=>
  need ((Nat.ble ((o1.2.2.2.2.2.2.2.2.2.2.2.2.2.2.2.2.2.2.2.2.2.2.2.2.2.2.2.2.2.1.length+1)*24) room)&&(Nat.ble (o1.2.2.2.2.2.2.2.2.2.2.2.2.2.2.2.2.2.2.2.2.2.2.2.2.2.2.2.2.2.1.length+1) room))<|
  some (.inl ((IntKind.wrap .i64 (x+1)),(o1.1,(o1.2.1,(o1.2.2.1,(o1.2.2.2.1,(o1.2.2.2.2.1,(o1.2.2.2.2.2.1,(o1.2.2.2.2.2.2.1,(o1.2.2.2.2.2.2.2.1,(o1.2.2.2.2.2.2.2.2.1,(o1.2.2.2.2.2.2.2.2.2.1,(o1.2.2.2.2.2.2.2.2.2.2.1,(o1.2.2.2.2.2.2.2.2.2.2.2.1,(o1.2.2.2.2.2.2.2.2.2.2.2.2.1,(o1.2.2.2.2.2.2.2.2.2.2.2.2.2.1,(o1.2.2.2.2.2.2.2.2.2.2.2.2.2.2.1,(o1.2.2.2.2.2.2.2.2.2.2.2.2.2.2.2.1,(o1.2.2.2.2.2.2.2.2.2.2.2.2.2.2.2.2.1,(o1.2.2.2.2.2.2.2.2.2.2.2.2.2.2.2.2.2.1,(o1.2.2.2.2.2.2.2.2.2.2.2.2.2.2.2.2.2.2.1,(o1.2.2.2.2.2.2.2.2.2.2.2.2.2.2.2.2.2.2.2.1,(o1.2.2.2.2.2.2.2.2.2.2.2.2.2.2.2.2.2.2.2.2.1,(o1.2.2.2.2.2.2.2.2.2.2.2.2.2.2.2.2.2.2.2.2.2.1,(o1.2.2.2.2.2.2.2.2.2.2.2.2.2.2.2.2.2.2.2.2.2.2.1,(o1.2.2.2.2.2.2.2.2.2.2.2.2.2.2.2.2.2.2.2.2.2.2.2.1,(o1.2.2.2.2.2.2.2.2.2.2.2.2.2.2.2.2.2.2.2.2.2.2.2.2.1,(o1.2.2.2.2.2.2.2.2.2.2.2.2.2.2.2.2.2.2.2.2.2.2.2.2.2.1,(o1.2.2.2.2.2.2.2.2.2.2.2.2.2.2.2.2.2.2.2.2.2.2.2.2.2.2.1,(o1.2.2.2.2.2.2.2.2.2.2.2.2.2.2.2.2.2.2.2.2.2.2.2.2.2.2.2.1,(o1.2.2.2.2.2.2.2.2.2.2.2.2.2.2.2.2.2.2.2.2.2.2.2.2.2.2.2.2.1,(o1.2.2.2.2.2.2.2.2.2.2.2.2.2.2.2.2.2.2.2.2.2.2.2.2.2.2.2.2.2.1++[o1.2.2.2.2.2.2.2.2.2.2.2.2.2.2.2.2.2.2.2.2.2.2.2.2.2.2.2.2.2.2]))))))))))))))))))))))))))))))))
 else
  some (.inr (h26,(h27,(h28,(h29,(h30,(h31,(h32,(h33,(h34,(h35,(h36,(h37,(h38,(h39,(h40,(h41,(h42,(h43,(h44,(h45,(h46,(h47,(h48,(h49,(h50,(h51,(h52,(h53,(h54,h55))))))))))))))))))))))))))))))
def mdoemad_l0_it(fu:Nat)(r:(Int×List (qT1)))(tt:(Int×qT23)):Option (qT23):=
 iter fu (fun tt=>mdoemad_l0 fu r tt.1 tt.2.1 tt.2.2.1 tt.2.2.2.1 tt.2.2.2.2.1 tt.2.2.2.2.2.1 tt.2.2.2.2.2.2.1 tt.2.2.2.2.2.2.2.1 tt.2.2.2.2.2.2.2.2.1 tt.2.2.2.2.2.2.2.2.2.1 tt.2.2.2.2.2.2.2.2.2.2.1 tt.2.2.2.2.2.2.2.2.2.2.2.1 tt.2.2.2.2.2.2.2.2.2.2.2.2.1 tt.2.2.2.2.2.2.2.2.2.2.2.2.2.1 tt.2.2.2.2.2.2.2.2.2.2.2.2.2.2.1 tt.2.2.2.2.2.2.2.2.2.2.2.2.2.2.2.1 tt.2.2.2.2.2.2.2.2.2.2.2.2.2.2.2.2.1 tt.2.2.2.2.2.2.2.2.2.2.2.2.2.2.2.2.2.1 tt.2.2.2.2.2.2.2.2.2.2.2.2.2.2.2.2.2.2.1 tt.2.2.2.2.2.2.2.2.2.2.2.2.2.2.2.2.2.2.2.1 tt.2.2.2.2.2.2.2.2.2.2.2.2.2.2.2.2.2.2.2.2.1 tt.2.2.2.2.2.2.2.2.2.2.2.2.2.2.2.2.2.2.2.2.2.1 tt.2.2.2.2.2.2.2.2.2.2.2.2.2.2.2.2.2.2.2.2.2.2.1 tt.2.2.2.2.2.2.2.2.2.2.2.2.2.2.2.2.2.2.2.2.2.2.2.1 tt.2.2.2.2.2.2.2.2.2.2.2.2.2.2.2.2.2.2.2.2.2.2.2.2.1 tt.2.2.2.2.2.2.2.2.2.2.2.2.2.2.2.2.2.2.2.2.2.2.2.2.2.1 tt.2.2.2.2.2.2.2.2.2.2.2.2.2.2.2.2.2.2.2.2.2.2.2.2.2.2.1 tt.2.2.2.2.2.2.2.2.2.2.2.2.2.2.2.2.2.2.2.2.2.2.2.2.2.2.2.1 tt.2.2.2.2.2.2.2.2.2.2.2.2.2.2.2.2.2.2.2.2.2.2.2.2.2.2.2.2.1 tt.2.2.2.2.2.2.2.2.2.2.2.2.2.2.2.2.2.2.2.2.2.2.2.2.2.2.2.2.2.1 tt.2.2.2.2.2.2.2.2.2.2.2.2.2.2.2.2.2.2.2.2.2.2.2.2.2.2.2.2.2.2) tt
def mdoemad(fu:Nat)(h:List (qT1))(h1:Int)(h2:List (List (UInt8)))(h3:Int)(h4:Int)(h5:Int)(h6:Int)(h7:Int)(h8:List UInt8)(h9:Int)(h10:Int)(h11:List UInt8)(h12:Int)(h13:Int)(h14:List (UInt8))(h15:Int)(h16:Int)(h17:Int)(h18:Int)(h19:Int)(h20:Bool)(h21:Int)(h22:List (UInt8))(h23:List ((List UInt8×Int)))(h24:Bool)(h25:Int):Option ((Int×(List (qT1)×(Int×(List (List (UInt8))×(Int×(Int×(Int×(Int×(Int×(List UInt8×(Int×(Int×(List UInt8×(Int×(Int×(List (UInt8)×(Int×(Int×(Int×(Int×(Int×(Bool×(Int×(List (UInt8)×(List ((List UInt8×Int))×(Bool×(Int×(List (qT1)×List (List (UInt8))))))))))))))))))))))))))))))):=
 (mcop fu (h,h1)).bind fun r=>
 (mdoemad_l0_it fu r (0,(h,(h1,(h2,(h3,(h4,(h5,(h6,(h7,(h8,(h9,(h10,(h11,(h12,(h13,(h14,(h15,(h16,(h17,(h18,(h19,(h20,(h21,(h22,(h23,(h24,(h25,(0,(r.1,(r.2,[]))))))))))))))))))))))))))))))).bind fun o2=>
 some (o2.2.2.2.2.2.2.2.2.2.2.2.2.2.2.2.2.2.2.2.2.2.2.2.2.2.2.2.1,(o2.1,(o2.2.1,(o2.2.2.1,(o2.2.2.2.1,(o2.2.2.2.2.1,(o2.2.2.2.2.2.1,(o2.2.2.2.2.2.2.1,(o2.2.2.2.2.2.2.2.1,(o2.2.2.2.2.2.2.2.2.1,(o2.2.2.2.2.2.2.2.2.2.1,(o2.2.2.2.2.2.2.2.2.2.2.1,(o2.2.2.2.2.2.2.2.2.2.2.2.1,(o2.2.2.2.2.2.2.2.2.2.2.2.2.1,(o2.2.2.2.2.2.2.2.2.2.2.2.2.2.1,(o2.2.2.2.2.2.2.2.2.2.2.2.2.2.2.1,(o2.2.2.2.2.2.2.2.2.2.2.2.2.2.2.2.1,(o2.2.2.2.2.2.2.2.2.2.2.2.2.2.2.2.2.1,(o2.2.2.2.2.2.2.2.2.2.2.2.2.2.2.2.2.2.1,(o2.2.2.2.2.2.2.2.2.2.2.2.2.2.2.2.2.2.2.1,(o2.2.2.2.2.2.2.2.2.2.2.2.2.2.2.2.2.2.2.2.1,(o2.2.2.2.2.2.2.2.2.2.2.2.2.2.2.2.2.2.2.2.2.1,(o2.2.2.2.2.2.2.2.2.2.2.2.2.2.2.2.2.2.2.2.2.2.1,(o2.2.2.2.2.2.2.2.2.2.2.2.2.2.2.2.2.2.2.2.2.2.2.1,(o2.2.2.2.2.2.2.2.2.2.2.2.2.2.2.2.2.2.2.2.2.2.2.2.1,(o2.2.2.2.2.2.2.2.2.2.2.2.2.2.2.2.2.2.2.2.2.2.2.2.2.1,(o2.2.2.2.2.2.2.2.2.2.2.2.2.2.2.2.2.2.2.2.2.2.2.2.2.2.1,(o2.2.2.2.2.2.2.2.2.2.2.2.2.2.2.2.2.2.2.2.2.2.2.2.2.2.2.2.2.1,o2.2.2.2.2.2.2.2.2.2.2.2.2.2.2.2.2.2.2.2.2.2.2.2.2.2.2.2.2.2))))))))))))))))))))))))))))
def mdoemad_fa:FnA:=⟨.two (.reg [(0,{ids:=[100]})]) (.two (.reg [(4,{ids:=[101]}),(6,{ids:=[102]})]) (.two (.two lf (.one (.pre (.ownCell 102 2 33 103) (.loop ⟨[0,2,3,15,17],⟨(.cons (.own 0 0 0 0) (.cons (.own 0 100 0 0) (.cons (.own 0 102 0 0) (.cons (.slf 8 101) qL4)))),[(0,true,qB7),(100,false,(.vars qL29)),(102,false,(.vars (.cons (.slf 8 101) (.cons (.p (.int .i64)) (.cons (.slf 1 103) .nil))))),(101,false,(.rows 49 qY0)),(103,false,(.rows 33 (.sl .byte)))]⟩⟩ false [(0,⟨[0,2,3],⟨(.cons (.own 0 0 0 0) (.cons (.own 0 100 0 0) (.cons (.own 0 102 0 0) .nil))),[(0,true,qB7),(100,false,(.vars qL29)),(102,false,(.vars (.cons (.slf 8 101) (.cons (.p (.int .i64)) (.cons (.slf 1 103) .nil))))),(101,false,(.rows 49 qY0)),(103,false,(.rows 33 (.sl .byte)))]⟩⟩)] (.two lf (.two lf (.two (.one (.two (.reg [(3,{ids:=[104]})]) (.two lf (.two (.two (.join ⟨[0,2,3,15,32],⟨(.cons (.own 0 0 0 0) (.cons (.own 0 100 0 0) (.cons (.own 0 102 0 0) (.cons (.slf 8 101) (.cons (.p .bool) .nil))))),[(0,true,qB7),(100,false,(.vars qL29)),(102,false,(.vars (.cons (.slf 8 101) (.cons (.p (.int .i64)) (.cons (.slf 1 103) .nil))))),(101,false,(.rows 49 qY0)),(103,false,(.rows 33 (.sl .byte)))]⟩⟩ false [] lf) (.pre (.ownNil 6 5 105) (.join ⟨[0,2,3,6,15],⟨(.cons (.own 0 0 0 0) (.cons (.own 0 100 0 0) (.cons (.own 0 102 0 0) (.cons (.slf 1 106) (.cons (.slf 8 101) .nil))))),[(0,true,qB7),(100,false,(.vars qL29)),(102,false,(.vars (.cons (.slf 8 101) (.cons (.p (.int .i64)) (.cons (.slf 1 103) .nil))))),(101,false,(.rows 49 qY0)),(103,false,(.rows 33 (.sl .byte))),(106,false,(.rows 5 .byte))]⟩⟩ false [] (.two (.reg [(7,{ids:=[106],fn:=1})]) lf)))) (.reg [(3,{ids:=[107]}),(4,{ids:=[108]})]))))) lf))))))) lf)),⟨qL39,[(0,true,qB7)]⟩,[⟨(.cons (.agg (.cons (.slf 8 1) (.cons (.p (.int .i64)) (.cons (.slf 1 2) .nil)))) .nil),[(0,true,qB7),(1,false,(.rows 49 qY0)),(2,false,(.rows 33 (.sl .byte)))]⟩],[0]⟩
def mdoemad_ft(fu:Nat):FnT:=⟨37,mdoemad_fa.i,mdoemad_fa.os,u26 (mdoemad fu)⟩
theorem hPZ(fu:Nat):Told Tryz.prog (mdoemad_ft fu):=tk fu mdoemad_fa (aaZ (dYZ fu) (aaZ (eAZ fu) acZ)) Tryz.func37 (by kernel_rfl) fun t=>by kernel_rfl
end
end Go.Ab.D
