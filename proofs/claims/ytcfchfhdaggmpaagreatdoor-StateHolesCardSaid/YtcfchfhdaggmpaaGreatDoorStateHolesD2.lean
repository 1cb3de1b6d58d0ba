/- Functions of the program as plain Lean functions: each equation is checked by the kernel; what is told of a function follows from it. -/
import Derived.Test.YtcfchfhdaggmpaaGreatDoorStateHolesD1
set_option linter.all false
set_option maxRecDepth 100000
set_option maxHeartbeats 4000000
namespace Go.Ab.D
open Go.Proofs
open Go Go.Ab
noncomputable section
def cRigCal(fu:Nat)(c:qT13):Option (Bool):=
 (csha fu ((c.2.2.1.toNat:Nat):Int)).bind fun r=>
 Option.bind (α:=((Bool×(Int×(Int×(Int×(Int×(Int×(List UInt8×(Int×(Int×(List UInt8×(Int×(Int×(List (UInt8)×qT63))))))))))))))) (
  bif (!r.2.2.2.2.2.2) then
   some (true,(c.1,(c.2.1,(((c.2.2.1.toNat:Nat):Int),(c.2.2.2.1.1,(c.2.2.2.1.2,(c.2.2.2.2.1,(c.2.2.2.2.2.1.1,(c.2.2.2.2.2.1.2,(c.2.2.2.2.2.2.1,(c.2.2.2.2.2.2.2.1,(c.2.2.2.2.2.2.2.2.1,(c.2.2.2.2.2.2.2.2.2,(r.1,(r.2.1,(r.2.2.1,(r.2.2.2.1,(r.2.2.2.2.1,r.2.2.2.2.2.1))))))))))))))))))
  else
   (cwho fu c.1 c.2.1).bind fun r1=>
   some ((!r1),(c.1,(c.2.1,(((c.2.2.1.toNat:Nat):Int),(c.2.2.2.1.1,(c.2.2.2.1.2,(c.2.2.2.2.1,(c.2.2.2.2.2.1.1,(c.2.2.2.2.2.1.2,(c.2.2.2.2.2.2.1,(c.2.2.2.2.2.2.2.1,(c.2.2.2.2.2.2.2.2.1,(c.2.2.2.2.2.2.2.2.2,(r.1,(r.2.1,(r.2.2.1,(r.2.2.2.1,(r.2.2.2.2.1,r.2.2.2.2.2.1))))))))))))))))))) fun o=>
 bif o.1 then
  some false
 else
  Option.bind (α:=((Bool×(Int×(Int×(Int×(Int×(Int×(List UInt8×(Int×(Int×(List UInt8×(Int×(Int×(List (UInt8)×qT63))))))))))))))) (
   (cRigCal1 fu o.2.2.2.2.2.2.2.2.2.2.2.2.2.1 (o.2.2.2.2.1,o.2.2.2.2.2.1)).bind fun r2=>
   bif (!r2) then
    some (true,(o.2.1,(o.2.2.1,(o.2.2.2.1,(o.2.2.2.2.1,(o.2.2.2.2.2.1,(o.2.2.2.2.2.2.1,(o.2.2.2.2.2.2.2.1,(o.2.2.2.2.2.2.2.2.1,(o.2.2.2.2.2.2.2.2.2.1,(o.2.2.2.2.2.2.2.2.2.2.1,(o.2.2.2.2.2.2.2.2.2.2.2.1,(o.2.2.2.2.2.2.2.2.2.2.2.2.1,(o.2.2.2.2.2.2.2.2.2.2.2.2.2.1,(o.2.2.2.2.2.2.2.2.2.2.2.2.2.2.1,(o.2.2.2.2.2.2.2.2.2.2.2.2.2.2.2.1,(o.2.2.2.2.2.2.2.2.2.2.2.2.2.2.2.2.1,(o.2.2.2.2.2.2.2.2.2.2.2.2.2.2.2.2.2.1,o.2.2.2.2.2.2.2.2.2.2.2.2.2.2.2.2.2.2))))))))))))))))))
   else
    (cRigCal1 fu o.2.2.2.2.2.2.2.2.2.2.2.2.2.2.2.1 (o.2.2.2.2.2.2.2.1,o.2.2.2.2.2.2.2.2.1)).bind fun r3=>
    bif (!r3) then
     some (true,(o.2.1,(o.2.2.1,(o.2.2.2.1,(o.2.2.2.2.1,(o.2.2.2.2.2.1,(o.2.2.2.2.2.2.1,(o.2.2.2.2.2.2.2.1,(o.2.2.2.2.2.2.2.2.1,(o.2.2.2.2.2.2.2.2.2.1,(o.2.2.2.2.2.2.2.2.2.2.1,(o.2.2.2.2.2.2.2.2.2.2.2.1,(o.2.2.2.2.2.2.2.2.2.2.2.2.1,(o.2.2.2.2.2.2.2.2.2.2.2.2.2.1,(o.2.2.2.2.2.2.2.2.2.2.2.2.2.2.1,(o.2.2.2.2.2.2.2.2.2.2.2.2.2.2.2.1,(o.2.2.2.2.2.2.2.2.2.2.2.2.2.2.2.2.1,(o.2.2.2.2.2.2.2.2.2.2.2.2.2.2.2.2.2.1,o.2.2.2.2.2.2.2.2.2.2.2.2.2.2.2.2.2.2))))))))))))))))))
    else
     (cRigCal2 fu o.2.2.2.2.2.2.2.2.2.2.2.2.2.2.1 o.2.2.2.2.2.2.1).bind fun r4=>
     bif (!r4) then
      some (true,(o.2.1,(o.2.2.1,(o.2.2.2.1,(o.2.2.2.2.1,(o.2.2.2.2.2.1,(o.2.2.2.2.2.2.1,(o.2.2.2.2.2.2.2.1,(o.2.2.2.2.2.2.2.2.1,(o.2.2.2.2.2.2.2.2.2.1,(o.2.2.2.2.2.2.2.2.2.2.1,(o.2.2.2.2.2.2.2.2.2.2.2.1,(o.2.2.2.2.2.2.2.2.2.2.2.2.1,(o.2.2.2.2.2.2.2.2.2.2.2.2.2.1,(o.2.2.2.2.2.2.2.2.2.2.2.2.2.2.1,(o.2.2.2.2.2.2.2.2.2.2.2.2.2.2.2.1,(o.2.2.2.2.2.2.2.2.2.2.2.2.2.2.2.2.1,(o.2.2.2.2.2.2.2.2.2.2.2.2.2.2.2.2.2.1,o.2.2.2.2.2.2.2.2.2.2.2.2.2.2.2.2.2.2))))))))))))))))))
     else
      (cRigCal2 fu o.2.2.2.2.2.2.2.2.2.2.2.2.2.2.2.1 o.2.2.2.2.2.2.2.2.2.1).bind fun r5=>
      some ((!r5),(o.2.1,(o.2.2.1,(o.2.2.2.1,(o.2.2.2.2.1,(o.2.2.2.2.2.1,(o.2.2.2.2.2.2.1,(o.2.2.2.2.2.2.2.1,(o.2.2.2.2.2.2.2.2.1,(o.2.2.2.2.2.2.2.2.2.1,(o.2.2.2.2.2.2.2.2.2.2.1,(o.2.2.2.2.2.2.2.2.2.2.2.1,(o.2.2.2.2.2.2.2.2.2.2.2.2.1,(o.2.2.2.2.2.2.2.2.2.2.2.2.2.1,(o.2.2.2.2.2.2.2.2.2.2.2.2.2.2.1,(o.2.2.2.2.2.2.2.2.2.2.2.2.2.2.2.1,(o.2.2.2.2.2.2.2.2.2.2.2.2.2.2.2.2.1,(o.2.2.2.2.2.2.2.2.2.2.2.2.2.2.2.2.2.1,o.2.2.2.2.2.2.2.2.2.2.2.2.2.2.2.2.2.2))))))))))))))))))) fun o1=>
  bif o1.1 then
   some false
  else
   Option.bind (α:=((Bool×(Int×(Int×(Int×(Int×(Int×(List UInt8×(Int×(Int×(List UInt8×(Int×(Int×(List (UInt8)×qT63))))))))))))))) (
    bif (decide (o1.2.2.2.2.2.2.2.2.2.2.1<0)) then
     some (true,(o1.2.1,(o1.2.2.1,(o1.2.2.2.1,(o1.2.2.2.2.1,(o1.2.2.2.2.2.1,(o1.2.2.2.2.2.2.1,(o1.2.2.2.2.2.2.2.1,(o1.2.2.2.2.2.2.2.2.1,(o1.2.2.2.2.2.2.2.2.2.1,(o1.2.2.2.2.2.2.2.2.2.2.1,(o1.2.2.2.2.2.2.2.2.2.2.2.1,(o1.2.2.2.2.2.2.2.2.2.2.2.2.1,(o1.2.2.2.2.2.2.2.2.2.2.2.2.2.1,(o1.2.2.2.2.2.2.2.2.2.2.2.2.2.2.1,(o1.2.2.2.2.2.2.2.2.2.2.2.2.2.2.2.1,(o1.2.2.2.2.2.2.2.2.2.2.2.2.2.2.2.2.1,(o1.2.2.2.2.2.2.2.2.2.2.2.2.2.2.2.2.2.1,o1.2.2.2.2.2.2.2.2.2.2.2.2.2.2.2.2.2.2))))))))))))))))))
    else
     bif (decide (o1.2.2.2.2.2.2.2.2.2.2.1>2147483648)) then
      some (true,(o1.2.1,(o1.2.2.1,(o1.2.2.2.1,(o1.2.2.2.2.1,(o1.2.2.2.2.2.1,(o1.2.2.2.2.2.2.1,(o1.2.2.2.2.2.2.2.1,(o1.2.2.2.2.2.2.2.2.1,(o1.2.2.2.2.2.2.2.2.2.1,(o1.2.2.2.2.2.2.2.2.2.2.1,(o1.2.2.2.2.2.2.2.2.2.2.2.1,(o1.2.2.2.2.2.2.2.2.2.2.2.2.1,(o1.2.2.2.2.2.2.2.2.2.2.2.2.2.1,(o1.2.2.2.2.2.2.2.2.2.2.2.2.2.2.1,(o1.2.2.2.2.2.2.2.2.2.2.2.2.2.2.2.1,(o1.2.2.2.2.2.2.2.2.2.2.2.2.2.2.2.2.1,(o1.2.2.2.2.2.2.2.2.2.2.2.2.2.2.2.2.2.1,o1.2.2.2.2.2.2.2.2.2.2.2.2.2.2.2.2.2.2))))))))))))))))))
     else
      bif (!o1.2.2.2.2.2.2.2.2.2.2.2.2.2.2.2.2.1) then
       bif (!(o1.2.2.2.2.2.2.2.2.2.2.1==0)) then
        some (true,(o1.2.1,(o1.2.2.1,(o1.2.2.2.1,(o1.2.2.2.2.1,(o1.2.2.2.2.2.1,(o1.2.2.2.2.2.2.1,(o1.2.2.2.2.2.2.2.1,(o1.2.2.2.2.2.2.2.2.1,(o1.2.2.2.2.2.2.2.2.2.1,(o1.2.2.2.2.2.2.2.2.2.2.1,(o1.2.2.2.2.2.2.2.2.2.2.2.1,(o1.2.2.2.2.2.2.2.2.2.2.2.2.1,(o1.2.2.2.2.2.2.2.2.2.2.2.2.2.1,(o1.2.2.2.2.2.2.2.2.2.2.2.2.2.2.1,(o1.2.2.2.2.2.2.2.2.2.2.2.2.2.2.2.1,(o1.2.2.2.2.2.2.2.2.2.2.2.2.2.2.2.2.1,(o1.2.2.2.2.2.2.2.2.2.2.2.2.2.2.2.2.2.1,o1.2.2.2.2.2.2.2.2.2.2.2.2.2.2.2.2.2.2))))))))))))))))))
       else
        bif (decide (o1.2.2.2.2.2.2.2.2.2.2.2.1<0)) then
         some (true,(o1.2.1,(o1.2.2.1,(o1.2.2.2.1,(o1.2.2.2.2.1,(o1.2.2.2.2.2.1,(o1.2.2.2.2.2.2.1,(o1.2.2.2.2.2.2.2.1,(o1.2.2.2.2.2.2.2.2.1,(o1.2.2.2.2.2.2.2.2.2.1,(o1.2.2.2.2.2.2.2.2.2.2.1,(o1.2.2.2.2.2.2.2.2.2.2.2.1,(o1.2.2.2.2.2.2.2.2.2.2.2.2.1,(o1.2.2.2.2.2.2.2.2.2.2.2.2.2.1,(o1.2.2.2.2.2.2.2.2.2.2.2.2.2.2.1,(o1.2.2.2.2.2.2.2.2.2.2.2.2.2.2.2.1,(o1.2.2.2.2.2.2.2.2.2.2.2.2.2.2.2.2.1,(o1.2.2.2.2.2.2.2.2.2.2.2.2.2.2.2.2.2.1,o1.2.2.2.2.2.2.2.2.2.2.2.2.2.2.2.2.2.2))))))))))))))))))
        else
         some ((decide (o1.2.2.2.2.2.2.2.2.2.2.2.1>o1.2.2.2.2.2.2.2.2.2.2.2.2.2.2.2.2.2.1)),(o1.2.1,(o1.2.2.1,(o1.2.2.2.1,(o1.2.2.2.2.1,(o1.2.2.2.2.2.1,(o1.2.2.2.2.2.2.1,(o1.2.2.2.2.2.2.2.1,(o1.2.2.2.2.2.2.2.2.1,(o1.2.2.2.2.2.2.2.2.2.1,(o1.2.2.2.2.2.2.2.2.2.2.1,(o1.2.2.2.2.2.2.2.2.2.2.2.1,(o1.2.2.2.2.2.2.2.2.2.2.2.2.1,(o1.2.2.2.2.2.2.2.2.2.2.2.2.2.1,(o1.2.2.2.2.2.2.2.2.2.2.2.2.2.2.1,(o1.2.2.2.2.2.2.2.2.2.2.2.2.2.2.2.1,(o1.2.2.2.2.2.2.2.2.2.2.2.2.2.2.2.2.1,(o1.2.2.2.2.2.2.2.2.2.2.2.2.2.2.2.2.2.1,o1.2.2.2.2.2.2.2.2.2.2.2.2.2.2.2.2.2.2))))))))))))))))))
      else
       bif (decide (o1.2.2.2.2.2.2.2.2.2.2.2.1<0)) then
        some (true,(o1.2.1,(o1.2.2.1,(o1.2.2.2.1,(o1.2.2.2.2.1,(o1.2.2.2.2.2.1,(o1.2.2.2.2.2.2.1,(o1.2.2.2.2.2.2.2.1,(o1.2.2.2.2.2.2.2.2.1,(o1.2.2.2.2.2.2.2.2.2.1,(o1.2.2.2.2.2.2.2.2.2.2.1,(o1.2.2.2.2.2.2.2.2.2.2.2.1,(o1.2.2.2.2.2.2.2.2.2.2.2.2.1,(o1.2.2.2.2.2.2.2.2.2.2.2.2.2.1,(o1.2.2.2.2.2.2.2.2.2.2.2.2.2.2.1,(o1.2.2.2.2.2.2.2.2.2.2.2.2.2.2.2.1,(o1.2.2.2.2.2.2.2.2.2.2.2.2.2.2.2.2.1,(o1.2.2.2.2.2.2.2.2.2.2.2.2.2.2.2.2.2.1,o1.2.2.2.2.2.2.2.2.2.2.2.2.2.2.2.2.2.2))))))))))))))))))
       else
        some ((decide (o1.2.2.2.2.2.2.2.2.2.2.2.1>o1.2.2.2.2.2.2.2.2.2.2.2.2.2.2.2.2.2.1)),(o1.2.1,(o1.2.2.1,(o1.2.2.2.1,(o1.2.2.2.2.1,(o1.2.2.2.2.2.1,(o1.2.2.2.2.2.2.1,(o1.2.2.2.2.2.2.2.1,(o1.2.2.2.2.2.2.2.2.1,(o1.2.2.2.2.2.2.2.2.2.1,(o1.2.2.2.2.2.2.2.2.2.2.1,(o1.2.2.2.2.2.2.2.2.2.2.2.1,(o1.2.2.2.2.2.2.2.2.2.2.2.2.1,(o1.2.2.2.2.2.2.2.2.2.2.2.2.2.1,(o1.2.2.2.2.2.2.2.2.2.2.2.2.2.2.1,(o1.2.2.2.2.2.2.2.2.2.2.2.2.2.2.2.1,(o1.2.2.2.2.2.2.2.2.2.2.2.2.2.2.2.2.1,(o1.2.2.2.2.2.2.2.2.2.2.2.2.2.2.2.2.2.1,o1.2.2.2.2.2.2.2.2.2.2.2.2.2.2.2.2.2.2))))))))))))))))))) fun o2=>
   bif o2.1 then
    some false
   else
    bif (((o2.2.2.2.2.2.2.2.2.2.2.2.2.1.length:Nat):Int)==0) then
     some true
    else
     bif o2.2.2.2.2.2.2.2.2.2.2.2.2.2.2.2.2.2.2 then
      some (decide (((o2.2.2.2.2.2.2.2.2.2.2.2.2.1.length:Nat):Int)<=4096))
     else
      some false
def cRigCal_fa:FnA:=⟨.two (.reg [(0,{ids:=[100]})]) (.two (.reg [(2,{}),(6,{ids:=[101]})]) (.two (.two (.join ⟨[1,3,22],⟨qL73,[(100,false,qB24),(101,false,(.vars qL33))]⟩⟩ false [] (.reg [(7,{fn:=1})])) (.two lf lf)) (.two lf (.two lf (.two (.two (.join ⟨[1,3,56],⟨qL73,[(100,false,qB24),(101,false,(.vars qL33))]⟩⟩ false [] (.reg [(5,{fn:=2}),(13,{fn:=2}),(22,{fn:=3}),(31,{fn:=3})])) (.two lf lf)) (.two (.two (.join ⟨[1,3,86],⟨qL73,[(100,false,qB24),(101,false,(.vars qL33))]⟩⟩ false [] lf) (.two lf lf)) lf)))))),⟨(.cons (.p qY14) .nil),[]⟩,[⟨(.cons (.p .bool) .nil),[]⟩],[0]⟩
def cRigCal_ft(fu:Nat):FnT:=⟨22,cRigCal_fa.i,cRigCal_fa.os,fun t=>cRigCal fu t⟩
theorem epZ(fu:Nat):Told Tryz.prog (cRigCal_ft fu):=tk fu cRigCal_fa (aaZ (nDZ fu) (aaZ (iwZ fu) (aaZ (hrZ fu) (aaZ (hmZ fu) abZ)))) Tryz.func22 (by kernel_rfl) fun t=>by kernel_rfl
def sbar_l0(fu:Nat)(r:(Int×List (qT2)))(x:Int)(h:Int)(h1:Int)(h2:List (qT2))(h3:List (List (UInt8))):Option ((Int×(Int×(Int×(List (qT2)×List (List (UInt8))))))⊕((Int×(Int×(List (qT2)×List (List (UInt8))))))):=
 bif (decide (x<((r.2.length:Nat):Int))) then
  (idx? x h2.length).bind fun q=>
  (h2)[q]?.bind fun r1=>
  (idx? x (List.set h2 q (r1.1,(r1.2.1,(r1.2.2.1,(r1.2.2.2.1,(r1.2.2.2.2.1,([],r1.2.2.2.2.2.2))))))).length).bind fun q1=>
  ((List.set h2 q (r1.1,(r1.2.1,(r1.2.2.1,(r1.2.2.2.1,(r1.2.2.2.2.1,([],r1.2.2.2.2.2.2))))))))[q1]?.bind fun r2=>
  (upto? r2.2.2.2.2.1 room).bind fun m=>
  (upto? r2.2.2.2.2.1 m).bind fun q2=>
  need (Nat.ble (m*1) room)<|
  need ((Nat.ble ((h3.length+1)*24) room)&&(Nat.ble (h3.length+1) room))<|
  some (.inl ((IntKind.wrap .i64 (x+1)),(h,(h1,((List.set h2 q (r1.1,(r1.2.1,(r1.2.2.1,(r1.2.2.2.1,(r1.2.2.2.2.1,([],r1.2.2.2.2.2.2))))))),(h3++[(List.replicate (α:=UInt8) q2 0)]))))))
 else
  some (.inr (h,(h1,(h2,h3))))
def sbar_l0_it(fu:Nat)(r:(Int×List (qT2)))(tt:(Int×(Int×(Int×(List (qT2)×List (List (UInt8))))))):Option ((Int×(Int×(List (qT2)×List (List (UInt8)))))):=
 iter fu (fun tt=>sbar_l0 fu r tt.1 tt.2.1 tt.2.2.1 tt.2.2.2.1 tt.2.2.2.2) tt
def sbar(fu:Nat)(t:(List (qT2)×Int)):Option ((Int×(List (qT2)×List (List (UInt8))))):=
 (scop fu t).bind fun r=>
 (sbar_l0_it fu r (0,(0,(r.1,(r.2,[]))))).bind fun o=>
 some o.2
def sbar_fa:FnA:=⟨.two (.reg [(0,{ids:=[100]}),(1,{ids:=[101]})]) (.two (.reg [(1,{ids:=[102]}),(3,{ids:=[103]})]) (.two (.two lf (.one (.pre (.ownCell 103 2 40 104) (.loop ⟨[2,3,12],⟨(.cons (.own 0 101 0 0) (.cons (.own 0 103 0 0) qL6)),[(101,false,(.vars qL66)),(103,false,(.vars (.cons (.slf 8 102) (.cons (.p (.int .i64)) (.cons (.slf 1 104) .nil))))),(102,false,(.rows 56 qY0)),(104,false,(.rows 40 (.sl .byte)))]⟩⟩ false [(0,⟨[2,3],⟨(.cons (.own 0 101 0 0) (.cons (.own 0 103 0 0) .nil)),[(101,false,(.vars qL66)),(103,false,(.vars (.cons (.slf 8 102) (.cons (.p (.int .i64)) (.cons (.slf 1 104) .nil))))),(102,false,(.rows 56 qY0)),(104,false,(.rows 40 (.sl .byte)))]⟩⟩)] (.two lf (.two lf (.two (.one (.two lf (.two lf (.reg [(9,{ids:=[105]}),(10,{ids:=[106]}),(11,{ids:=[107]})])))) lf))))))) lf)),⟨(.cons (.p qY53) .nil),[]⟩,[⟨(.cons (.agg (.cons (.slf 8 0) (.cons (.p (.int .i64)) (.cons (.slf 1 1) .nil)))) .nil),[(0,false,(.rows 56 qY0)),(1,false,(.rows 40 (.sl .byte)))]⟩],[0]⟩
def sbar_ft(fu:Nat):FnT:=⟨16,sbar_fa.i,sbar_fa.os,fun t=>sbar fu t⟩
theorem iJZ(fu:Nat):Told Tryz.prog (sbar_ft fu):=tk fu sbar_fa (aaZ (hRZ fu) abZ) Tryz.func16 (by kernel_rfl) fun t=>by kernel_rfl
def mRig_l0(fu:Nat)(o:(Bool×(List (qT2)×(Int×List (List (UInt8))))))(x:Int)(h:List (qT2))(h1:Int)(h2:List (List (UInt8))):Option ((Int×(List (qT2)×(Int×List (List (UInt8)))))⊕(Unit⊕Bool)):=
 bif (decide (x<((o.2.1.length:Nat):Int))) then
  (idx? x o.2.1.length).bind fun q=>
  (o.2.1)[q]?.bind fun r1=>
  Option.bind (α:=((Bool×(List (qT2)×(Int×List (List (UInt8))))))) (
   bif (decide (((r1.2.2.2.2.2.1.length:Nat):Int)>0)) then
    some (true,(h,(h1,h2)))
   else
    (idx? x h2.length).bind fun q1=>
    (h2)[q1]?.bind fun r2=>
    some ((!(((r2.length:Nat):Int)==r1.2.2.2.2.1)),(h,(h1,h2)))) fun o1=>
  bif o1.1 then
   some (.inr (.inr false))
  else
   some (.inl ((IntKind.wrap .i64 (x+1)),(o1.2.1,(o1.2.2.1,o1.2.2.2))))
 else
  some (.inr (.inl ()))
def mRig_l0_it(fu:Nat)(o:(Bool×(List (qT2)×(Int×List (List (UInt8))))))(tt:(Int×(List (qT2)×(Int×List (List (UInt8)))))):Option (Unit⊕Bool):=
 iter fu (fun tt=>mRig_l0 fu o tt.1 tt.2.1 tt.2.2.1 tt.2.2.2) tt
def mRig(fu:Nat)(m:((List (qT2)×Int)×List (List (UInt8)))):Option (Bool):=
 Option.bind (α:=((Bool×(List (qT2)×(Int×List (List (UInt8))))))) (
  (tRig fu (m.1.1,m.1.2)).bind fun r=>
  bif (!r) then
   some (true,(m.1.1,(m.1.2,m.2)))
  else
   some ((!(((m.2.length:Nat):Int)==((m.1.1.length:Nat):Int))),(m.1.1,(m.1.2,m.2)))) fun o=>
 bif o.1 then
  some false
 else
  (mRig_l0_it fu o (0,(o.2.1,(o.2.2.1,o.2.2.2)))).bind fun o2=>
  match o2 with
  |.inl s=>
   some true
  |.inr o3=>
   some o3
def mRig_fa:FnA:=⟨.two (.reg [(0,{ids:=[100]})]) (.two (.two (.join ⟨[1,18],⟨qL56,[(100,false,qB71)]⟩⟩ false [] (.reg [(2,{})])) (.two lf lf)) (.two (.two lf (.one (.loop ⟨[1,23],⟨(.cons (.own 0 100 0 0) qL6),[(100,false,qB71)]⟩⟩ true [(0,⟨[],⟨.nil,[]⟩⟩)] (.two lf (.two lf (.two (.one (.two (.reg [(3,{ids:=[101]})]) (.two (.join ⟨[1,42],⟨qL56,[(100,false,qB71)]⟩⟩ false [] lf) (.two lf lf)))) lf)))))) lf)),⟨(.cons (.p (.pair qY53 (.sl (.sl .byte)))) .nil),[]⟩,[⟨(.cons (.p .bool) .nil),[]⟩],[0]⟩
def mRig_ft(fu:Nat):FnT:=⟨53,mRig_fa.i,mRig_fa.os,fun t=>mRig fu t⟩
theorem m7Z(fu:Nat):Told Tryz.prog (mRig_ft fu):=tk fu mRig_fa (aaZ (eFZ fu) abZ) Tryz.func53 (by kernel_rfl) fun t=>by kernel_rfl
def inode_own(fu:Nat)(n:qT2):Option ((Int×(Int×(Bool×(Bool×(Int×(Int×(List ((Int×Int))×List ((List UInt8×Int)))))))))):=
 (sClo3 fu n.2.2.2.2.2.1).bind fun r=>
 (sClo fu n.2.2.2.2.2.2.2).bind fun r1=>
 some (n.1,(n.2.1,(n.2.2.1,(n.2.2.2.1,(n.2.2.2.2.1,(n.2.2.2.2.2.2.1,(r,r1)))))))
def inode_own_fa:FnA:=⟨.two (.reg [(0,{ids:=[100]}),(1,{ids:=[101]})]) (.two (.reg [(2,{ids:=[102]}),(5,{ids:=[103],fn:=1})]) lf),⟨(.cons (.p qY0) .nil),[]⟩,[⟨(.cons (.agg (.cons (.p (.int .i64)) (.cons (.p (.int .i64)) (.cons (.p .bool) (.cons (.p .bool) (.cons (.p (.int .i64)) (.cons (.slf 2 0) (.cons (.p (.int .i64)) (.cons (.slf 2 1) .nil))))))))) .nil),[(0,false,(.rows 58 qY5)),(1,false,qB55)]⟩],[0]⟩
def inode_own_ft(fu:Nat):FnT:=⟨128,inode_own_fa.i,inode_own_fa.os,fun t=>inode_own fu t⟩
theorem bmZ(fu:Nat):Told Tryz.prog (inode_own_ft fu):=tk fu inode_own_fa (aaZ (b3Z fu) (aaZ (brZ fu) abZ)) Tryz.func128 (by kernel_rfl) fun t=>by kernel_rfl
def inode_Get(fu:Nat)(t:(List (qT2)×Int))(h:(Int×Int)):Option ((Int×(Int×(Bool×(Bool×(Int×(List ((Int×Int))×(Int×(List ((List UInt8×Int))×Int))))))))):=
 Option.bind (α:=((Bool×(List (qT2)×(Int×(Int×(Int×(Int×(Int×(Bool×(Bool×(Int×Int)))))))))))) (
  bif (decide (h.1<1)) then
   some (true,(t.1,(t.2,(h.1,(h.2,(0,(0,(false,(false,(0,0))))))))))
  else
   some ((decide (h.1>((t.1.length:Nat):Int))),(t.1,(t.2,(h.1,(h.2,(0,(0,(false,(false,(0,0))))))))))) fun o=>
 bif o.1 then
  some (0,(0,(false,(false,(0,([],(0,([],170))))))))
 else
  (idx? (IntKind.wrap .i64 (o.2.2.2.1-1)) o.2.1.length).bind fun q=>
  (o.2.1)[q]?.bind fun r=>
  Option.bind (α:=((Bool×(Int×(Int×(Bool×(Bool×(Int×(Int×qT2))))))))) (
   bif (!r.2.2.1) then
    some (true,(o.2.2.2.2.2.1,(o.2.2.2.2.2.2.1,(o.2.2.2.2.2.2.2.1,(o.2.2.2.2.2.2.2.2.1,(o.2.2.2.2.2.2.2.2.2.1,(o.2.2.2.2.2.2.2.2.2.2,(r.1,(r.2.1,(r.2.2.1,(r.2.2.2.1,(r.2.2.2.2.1,(r.2.2.2.2.2.1,(r.2.2.2.2.2.2.1,r.2.2.2.2.2.2.2))))))))))))))
   else
    some ((!(r.2.1==o.2.2.2.2.1)),(o.2.2.2.2.2.1,(o.2.2.2.2.2.2.1,(o.2.2.2.2.2.2.2.1,(o.2.2.2.2.2.2.2.2.1,(o.2.2.2.2.2.2.2.2.2.1,(o.2.2.2.2.2.2.2.2.2.2,(r.1,(r.2.1,(r.2.2.1,(r.2.2.2.1,(r.2.2.2.2.1,(r.2.2.2.2.2.1,(r.2.2.2.2.2.2.1,r.2.2.2.2.2.2.2))))))))))))))) fun o1=>
  bif o1.1 then
   some (0,(0,(false,(false,(0,([],(0,([],170))))))))
  else
   (inode_own fu (o1.2.2.2.2.2.2.2.1,(o1.2.2.2.2.2.2.2.2.1,(o1.2.2.2.2.2.2.2.2.2.1,(o1.2.2.2.2.2.2.2.2.2.2.1,(o1.2.2.2.2.2.2.2.2.2.2.2.1,(o1.2.2.2.2.2.2.2.2.2.2.2.2.1,(o1.2.2.2.2.2.2.2.2.2.2.2.2.2.1,o1.2.2.2.2.2.2.2.2.2.2.2.2.2.2)))))))).bind fun r1=>
   some (r1.1,(r1.2.1,(r1.2.2.1,(r1.2.2.2.1,(r1.2.2.2.2.1,(r1.2.2.2.2.2.2.1,(r1.2.2.2.2.2.1,(r1.2.2.2.2.2.2.2,0))))))))
def inode_Get_fa:FnA:=⟨.two (.reg [(0,{ids:=[100]}),(1,{ids:=[101]}),(2,{ids:=[102]})]) (.two (.two (.join ⟨[2,3,4,17],⟨(.cons (.own 0 100 0 0) (.cons (.own 0 101 0 0) (.cons (.own 0 102 0 0) (.cons (.p .bool) .nil)))),[(100,false,qB48),(101,false,(.vars qL50)),(102,false,(.vars (.cons (.p (.int .i64)) (.cons (.p (.int .i64)) (.cons (.p .bool) (.cons (.p .bool) (.cons (.p (.int .i64)) qL66)))))))]⟩⟩ false [] lf) (.two lf lf)) (.two (.reg [(7,{ids:=[103]})]) (.two (.two (.join ⟨[4,6,35],⟨(.cons (.own 0 102 0 0) (.cons (.own 0 103 0 0) (.cons (.p .bool) .nil))),[(102,false,(.vars (.cons (.p (.int .i64)) (.cons (.p (.int .i64)) (.cons (.p .bool) (.cons (.p .bool) (.cons (.p (.int .i64)) qL66))))))),(103,false,(.vars qL12))]⟩⟩ false [] lf) (.two lf lf)) (.two (.reg [(1,{ids:=[104,105]})]) lf)))),⟨(.cons (.p qY53) (.cons (.p qY5) .nil)),[]⟩,[⟨(.cons (.agg qL12) qL6),[]⟩],[1,0]⟩
def inode_Get_ft(fu:Nat):FnT:=⟨92,inode_Get_fa.i,inode_Get_fa.os,fun t=>inode_Get fu t.1 t.2⟩
theorem bSZ(fu:Nat):Told Tryz.prog (inode_Get_ft fu):=tk fu inode_Get_fa (aaZ (bmZ fu) abZ) Tryz.func92 (by kernel_rfl) fun t=>by kernel_rfl
def tdir(fu:Nat)(t:(List (qT2)×Int))(h:(Int×Int)):Option ((Int×(Int×(Bool×(Bool×(Int×(List ((Int×Int))×(Int×(List ((List UInt8×Int))×Int))))))))):=
 (inode_Get fu (t.1,t.2) (h.1,h.2)).bind fun r=>
 Option.bind (α:=((Bool×(Int×(Int×(Bool×(Bool×(Int×(Int×qT2))))))))) (
  bif (r.2.2.2.2.2.2.2.2==0) then
   some ((!r.2.2.2.1),(0,(0,(false,(false,(0,(0,(r.1,(r.2.1,(r.2.2.1,(r.2.2.2.1,(r.2.2.2.2.1,(r.2.2.2.2.2.1,(r.2.2.2.2.2.2.1,r.2.2.2.2.2.2.2.1))))))))))))))
  else
   some (false,(0,(0,(false,(false,(0,(0,(r.1,(r.2.1,(r.2.2.1,(r.2.2.2.1,(r.2.2.2.2.1,(r.2.2.2.2.2.1,(r.2.2.2.2.2.2.1,r.2.2.2.2.2.2.2.1))))))))))))))) fun o=>
 bif o.1 then
  some (0,(0,(false,(false,(0,([],(0,([],173))))))))
 else
  some (o.2.2.2.2.2.2.2.1,(o.2.2.2.2.2.2.2.2.1,(o.2.2.2.2.2.2.2.2.2.1,(o.2.2.2.2.2.2.2.2.2.2.1,(o.2.2.2.2.2.2.2.2.2.2.2.1,(o.2.2.2.2.2.2.2.2.2.2.2.2.1,(o.2.2.2.2.2.2.2.2.2.2.2.2.2.1,(o.2.2.2.2.2.2.2.2.2.2.2.2.2.2,r.2.2.2.2.2.2.2.2))))))))
def tdir_fa:FnA:=⟨.two (.reg [(0,{ids:=[100]}),(1,{ids:=[101]}),(2,{ids:=[102]})]) (.two (.reg [(2,{}),(6,{ids:=[103]})]) (.two (.two (.join ⟨[4,6,20],⟨(.cons (.own 0 102 0 0) (.cons (.own 0 103 0 0) (.cons (.p .bool) .nil))),[(102,false,(.vars (.cons (.p (.int .i64)) (.cons (.p (.int .i64)) (.cons (.p .bool) (.cons (.p .bool) (.cons (.p (.int .i64)) qL66))))))),(103,false,(.vars qL12))]⟩⟩ false [] lf) (.two lf lf)) lf)),⟨(.cons (.p qY53) (.cons (.p qY5) .nil)),[]⟩,[⟨(.cons (.agg qL12) qL6),[]⟩],[0,0]⟩
def tdir_ft(fu:Nat):FnT:=⟨149,tdir_fa.i,tdir_fa.os,fun t=>tdir fu t.1 t.2⟩
theorem mzZ(fu:Nat):Told Tryz.prog (tdir_ft fu):=tk fu tdir_fa (aaZ (bSZ fu) abZ) Tryz.func149 (by kernel_rfl) fun t=>by kernel_rfl
def task_l0(fu:Nat)(l:List ((Int×Int)))(x:Int)(h:List (qT2))(h1:Int)(h2:List (qT2)):Option ((Int×(List (qT2)×(Int×List (qT2))))⊕(List (qT2)⊕(Int×List (qT2)))):=
 bif (decide (x<((l.length:Nat):Int))) then
  (idx? x l.length).bind fun q=>
  (l)[q]?.bind fun r1=>
  (tdir fu (h,h1) (r1.1,r1.2)).bind fun r2=>
  bif (!(r2.2.2.2.2.2.2.2.2==0)) then
   some (.inr (.inr (r2.2.2.2.2.2.2.2.2,[])))
  else
   need ((Nat.ble ((h2.length+1)*88) room)&&(Nat.ble (h2.length+1) room))<|
   some (.inl ((IntKind.wrap .i64 (x+1)),(h,(h1,(h2++[(r2.1,(r2.2.1,(r2.2.2.1,(r2.2.2.2.1,(r2.2.2.2.2.1,(r2.2.2.2.2.2.1,(r2.2.2.2.2.2.2.1,r2.2.2.2.2.2.2.2.1)))))))])))))
 else
  some (.inr (.inl h2))
def task_l0_it(fu:Nat)(l:List ((Int×Int)))(tt:(Int×(List (qT2)×(Int×List (qT2))))):Option (List (qT2)⊕(Int×List (qT2))):=
 iter fu (fun tt=>task_l0 fu l tt.1 tt.2.1 tt.2.2.1 tt.2.2.2) tt
def task(fu:Nat)(t:(List (qT2)×Int))(l:List ((Int×Int))):Option ((Int×List (qT2))):=
 (tRig fu (t.1,t.2)).bind fun r=>
 bif (!r) then
  some (180,[])
 else
  (task_l0_it fu l (0,(t.1,(t.2,[])))).bind fun o=>
  match o with
  |.inl s=>
   some (0,s)
  |.inr o1=>
   some o1
def task_fa:FnA:=⟨.two (.reg [(0,{ids:=[100]})]) (.two (.two (.reg [(1,{})]) (.two lf lf)) (.two lf (.two (.two lf (.one (.pre (.ownNil 6 56 101) (.loop ⟨[2,6,16],⟨(.cons (.own 0 100 0 0) (.cons (.slf 8 101) qL6)),[(100,false,qB48),(101,false,(.rows 56 qY0))]⟩⟩ true [(0,⟨[6],⟨(.cons (.slf 8 101) .nil),[(101,false,(.rows 56 qY0))]⟩⟩)] (.two lf (.two lf (.two (.one (.two (.reg [(2,{ids:=[102]})]) (.two (.reg [(2,{fn:=1}),(6,{ids:=[103]})]) (.two (.two lf (.two lf lf)) (.reg [(2,{ids:=[104]}),(3,{ids:=[105]})]))))) lf))))))) lf))),⟨(.cons (.p qY53) (.cons (.p (.sl qY5)) .nil)),[]⟩,[⟨(.cons (.slf 8 0) qL6),[(0,false,(.rows 56 qY0))]⟩],[66,0]⟩
def task_ft(fu:Nat):FnT:=⟨118,task_fa.i,task_fa.os,fun t=>task fu t.1 t.2⟩
theorem c6Z(fu:Nat):Told Tryz.prog (task_ft fu):=tk fu task_fa (aaZ (eFZ fu) (aaZ (mzZ fu) abZ)) Tryz.func118 (by kernel_rfl) fun t=>by kernel_rfl
def ibytabiru(fu:Nat)(a b:List UInt8):Option Int:=
 some (Go.Lib.compareBytes a b)
def ibytabiru_ft(fu:Nat):FnT:=⟨182,⟨(.cons (.p .str) (.cons (.p .str) .nil)),[]⟩,[⟨qL6,[]⟩],fun t=>ibytabiru fu t.1 t.2⟩
theorem gcZ(fu:Nat):Told Tryz.prog (ibytabiru_ft fu):=
 fOZ Tryz.func182 (by kernel_rfl) (by kernel_rfl) (by kernel_rfl) (by kernel_rfl)
def ibytComSt(fu:Nat)(a:List UInt8)(b:List UInt8):Option (Int):=
 (ibytabiru fu a b).bind fun r=>
 some r
def ibytComSt_fa:FnA:=⟨.two lf (.two (.reg [(2,{})]) lf),⟨(.cons (.p .str) (.cons (.p .str) .nil)),[]⟩,[⟨qL6,[]⟩],[0]⟩
def ibytComSt_ft(fu:Nat):FnT:=⟨172,ibytComSt_fa.i,ibytComSt_fa.os,fun t=>ibytComSt fu t.1 t.2⟩
theorem fNZ(fu:Nat):Told Tryz.prog (ibytComSt_ft fu):=tk fu ibytComSt_fa (aaZ (gcZ fu) abZ) Tryz.func172 (by kernel_rfl) fun t=>by kernel_rfl
def sCom(fu:Nat)(a:List UInt8)(b:List UInt8):Option (Int):=
 (ibytComSt fu a b).bind fun r=>
 some r
def sCom_fa:FnA:=⟨.two lf (.two (.reg [(2,{})]) lf),⟨(.cons (.p .str) (.cons (.p .str) .nil)),[]⟩,[⟨qL6,[]⟩],[0]⟩
def sCom_ft(fu:Nat):FnT:=⟨152,sCom_fa.i,sCom_fa.os,fun t=>sCom fu t.1 t.2⟩
theorem nvZ(fu:Nat):Told Tryz.prog (sCom_ft fu):=tk fu sCom_fa (aaZ (fNZ fu) abZ) Tryz.func152 (by kernel_rfl) fun t=>by kernel_rfl
def tent1(fu:Nat)(e:(List UInt8×Int))(name:List UInt8):Option (Int):=
 (sCom fu e.1 name).bind fun r=>
 some r
def tent1_fa:FnA:=⟨.two (.reg [(0,{ids:=[100]})]) (.two (.reg [(3,{})]) lf),⟨(.cons (.p (.pair .str (.int .i64))) (.cons (.p .str) .nil)),[]⟩,[⟨qL6,[]⟩],[0]⟩
def tent1_ft(fu:Nat):FnT:=⟨151,tent1_fa.i,tent1_fa.os,fun t=>tent1 fu t.1 t.2⟩
theorem l3Z(fu:Nat):Told Tryz.prog (tent1_ft fu):=tk fu tent1_fa (aaZ (nvZ fu) abZ) Tryz.func151 (by kernel_rfl) fun t=>by kernel_rfl
def sBinSeaFu2_l0(fu:Nat)(x:List ((List UInt8×Int)))(target:List UInt8)(i:Int)(j:Int):Option ((Int×Int)⊕(Int)):=
 bif (decide (i<j)) then
  (idx? (IntKind.wrap .i64 (Int.fdiv (IntKind.wrap .u64 (IntKind.wrap .i64 (i+j))) 2)) x.length).bind fun q=>
  (x)[q]?.bind fun r=>
  (tent1 fu r target).bind fun r1=>
  Option.bind (α:=((Int×Int))) (
   bif (decide (r1<0)) then
    some ((IntKind.wrap .i64 ((IntKind.wrap .i64 (Int.fdiv (IntKind.wrap .u64 (IntKind.wrap .i64 (i+j))) 2))+1)),j)
   else
    some (i,(IntKind.wrap .i64 (Int.fdiv (IntKind.wrap .u64 (IntKind.wrap .i64 (i+j))) 2)))) fun o=>
  some (.inl (o.1,o.2))
 else
  some (.inr i)
def sBinSeaFu2_l0_it(fu:Nat)(x:List ((List UInt8×Int)))(target:List UInt8)(tt:(Int×Int)):Option (Int):=
 iter fu (fun tt=>sBinSeaFu2_l0 fu x target tt.1 tt.2) tt
def sBinSeaFu2(fu:Nat)(x:List ((List UInt8×Int)))(target:List UInt8):Option ((Int×Bool)):=
 (sBinSeaFu2_l0_it fu x target (0,((x.length:Nat):Int))).bind fun o1=>
 bif (decide (o1<((x.length:Nat):Int))) then
  (idx? o1 x.length).bind fun q1=>
  (x)[q1]?.bind fun r2=>
  (tent1 fu r2 target).bind fun r3=>
  some (o1,(r3==0))
 else
  some (o1,false)
def sBinSeaFu2_fa:FnA:=⟨.two lf (.two lf (.two lf (.two (.one (.loop ⟨[9,10],⟨qL50,[]⟩⟩ false [(0,⟨[9],⟨qL6,[]⟩⟩)] (.two (.two lf lf) (.one (.two lf (.two (.reg [(6,{})]) (.join ⟨[9,10],⟨qL50,[]⟩⟩ false [] lf))))))) (.two (.reg [(11,{})]) lf)))),⟨(.cons (.p (.sl (.pair .str (.int .i64)))) (.cons (.p .str) (.cons (.fn 151 .nil .nil) .nil))),[]⟩,[⟨(.cons (.p (.int .i64)) (.cons (.p .bool) .nil)),[]⟩],[0,0]⟩
def sBinSeaFu2_ft(fu:Nat):FnT:=⟨150,sBinSeaFu2_fa.i,sBinSeaFu2_fa.os,fun t=>sBinSeaFu2 fu t.1 t.2⟩
theorem fKZ(fu:Nat):Told Tryz.prog (sBinSeaFu2_ft fu):=tk fu sBinSeaFu2_fa (aaZ (l3Z fu) abZ) Tryz.func150 (by kernel_rfl) fun t=>by kernel_rfl
def tent(fu:Nat)(n:qT2)(name:List UInt8):Option ((Int×Bool)):=
 (sBinSeaFu2 fu n.2.2.2.2.2.2.2 name).bind fun r=>
 some (r.1,r.2)
def tent_fa:FnA:=⟨.two (.reg [(0,{ids:=[100]})]) (.two (.reg [(3,{})]) lf),⟨(.cons (.p qY0) (.cons (.p .str) .nil)),[]⟩,[⟨(.cons (.p (.int .i64)) (.cons (.p .bool) .nil)),[]⟩],[0,0]⟩
def tent_ft(fu:Nat):FnT:=⟨119,tent_fa.i,tent_fa.os,fun t=>tent fu t.1 t.2⟩
theorem bGZ(fu:Nat):Told Tryz.prog (tent_ft fu):=tk fu tent_fa (aaZ (fKZ fu) abZ) Tryz.func119 (by kernel_rfl) fun t=>by kernel_rfl
def tLoo(fu:Nat)(t:(List (qT2)×Int))(dir:(Int×Int))(name:List UInt8):Option ((Int×(Int×Int))):=
 (task fu (t.1,t.2) [(dir.1,dir.2)]).bind fun r=>
 bif (!(r.1==0)) then
  some (0,(0,r.1))
 else
  (tNam fu name).bind fun r1=>
  bif (!r1) then
   some (0,(0,176))
  else
   (idx? 0 r.2.length).bind fun q=>
   (r.2)[q]?.bind fun r2=>
   (tent fu r2 name).bind fun r3=>
   bif (!r3.2) then
    some (0,(0,171))
   else
    (idx? 0 r.2.length).bind fun q1=>
    (r.2)[q1]?.bind fun r4=>
    (idx? r3.1 r4.2.2.2.2.2.2.2.length).bind fun q2=>
    (r4.2.2.2.2.2.2.2)[q2]?.bind fun r5=>
    (idx? (IntKind.wrap .i64 (r5.2-1)) t.1.length).bind fun q3=>
    (t.1)[q3]?.bind fun r6=>
    some (r5.2,(r6.2.1,0))
def tLoo_fa:FnA:=⟨.two (.reg [(0,{ids:=[100]}),(1,{ids:=[101]}),(2,{ids:=[102]})]) (.two (.reg [(2,{ids:=[103]}),(3,{ids:=[104],md:=[0,1]})]) (.two (.two lf (.two lf lf)) (.two (.two (.reg [(1,{fn:=1})]) (.two lf lf)) (.two (.reg [(4,{fn:=2})]) (.two (.two lf (.two lf lf)) (.two lf lf)))))),⟨(.cons (.p qY53) (.cons (.p qY5) (.cons (.p .str) .nil))),[]⟩,[⟨(.cons (.agg qL50) qL6),[]⟩],[0,0]⟩
def tLoo_ft(fu:Nat):FnT:=⟨85,tLoo_fa.i,tLoo_fa.os,u3 (tLoo fu)⟩
theorem mvZ(fu:Nat):Told Tryz.prog (tLoo_ft fu):=tk fu tLoo_fa (aaZ (c6Z fu) (aaZ (cyZ fu) (aaZ (bGZ fu) abZ))) Tryz.func85 (by kernel_rfl) fun t=>by kernel_rfl
def mdoeloo(fu:Nat)(h:List (qT2))(h1:Int)(h2:List (List (UInt8)))(h3:Int)(h4:Int)(h5:Int)(h6:Int)(h7:Int)(h8:List UInt8)(h9:Int)(h10:Int)(h11:List UInt8)(h12:Int)(h13:Int)(h14:List (UInt8))(h15:Int)(h16:Int)(h17:Int)(h18:Int)(h19:Int)(h20:Bool)(h21:Int)(h22:Bool)(h23:Int):Option ((Int×qT15)):=
 (tLoo fu (h,h1) (h6,h7) h8).bind fun r=>
 bif (r.2.2==0) then
  (idx? (IntKind.wrap .i64 (r.1-1)) h.length).bind fun q=>
  (h)[q]?.bind fun r1=>
  some (r.2.2,(h,(h1,(h2,(h3,(h4,(h5,(h6,(h7,(h8,(h9,(h10,(h11,(h12,(h13,(h14,(h15,(h16,(h17,(r.1,(r.2.1,(r1.2.2.2.1,(r1.2.2.2.2.1,(h22,h23))))))))))))))))))))))))
 else
  some (r.2.2,(h,(h1,(h2,(h3,(h4,(h5,(h6,(h7,(h8,(h9,(h10,(h11,(h12,(h13,(h14,(h15,(h16,(h17,(h18,(h19,(h20,(h21,(h22,h23))))))))))))))))))))))))
def mdoeloo_fa:FnA:=⟨.two lf (.two (.reg [(14,{}),(18,{ids:=[100]})]) (.two (.two lf (.two (.two (.reg [(10,{ids:=[101]})]) lf) lf)) lf)),⟨qL72,[(0,false,qB4)]⟩,[⟨qL6,[(0,false,qB4)]⟩],[0]⟩
def mdoeloo_ft(fu:Nat):FnT:=⟨43,mdoeloo_fa.i,mdoeloo_fa.os,u24 (mdoeloo fu)⟩
theorem iFZ(fu:Nat):Told Tryz.prog (mdoeloo_ft fu):=tk fu mdoeloo_fa (aaZ (mvZ fu) abZ) Tryz.func43 (by kernel_rfl) fun t=>by kernel_rfl
def tcop_l0(fu:Nat)(r:List (qT2))(x:Int)(h:Int)(h1:List (qT2))(h2:Int):Option ((Int×(Int×(List (qT2)×Int)))⊕((Int×(List (qT2)×Int)))):=
 bif (decide (x<((r.length:Nat):Int))) then
  (idx? x h1.length).bind fun q=>
  (h1)[q]?.bind fun r1=>
  (sClo3 fu r1.2.2.2.2.2.1).bind fun r2=>
  (h1)[q]?.bind fun r3=>
  (sClo fu r3.2.2.2.2.2.2.2).bind fun r4=>
  (h1)[q]?.bind fun r5=>
  ((List.set h1 q (r5.1,(r5.2.1,(r5.2.2.1,(r5.2.2.2.1,(r5.2.2.2.2.1,(r2,r5.2.2.2.2.2.2))))))))[q]?.bind fun r6=>
  some (.inl ((IntKind.wrap .i64 (x+1)),(h,((List.set (List.set h1 q (r5.1,(r5.2.1,(r5.2.2.1,(r5.2.2.2.1,(r5.2.2.2.2.1,(r2,r5.2.2.2.2.2.2))))))) q (r6.1,(r6.2.1,(r6.2.2.1,(r6.2.2.2.1,(r6.2.2.2.2.1,(r6.2.2.2.2.2.1,(r6.2.2.2.2.2.2.1,r4)))))))),h2))))
 else
  some (.inr (h,(h1,h2)))
def tcop_l0_it(fu:Nat)(r:List (qT2))(tt:(Int×(Int×(List (qT2)×Int)))):Option ((Int×(List (qT2)×Int))):=
 iter fu (fun tt=>tcop_l0 fu r tt.1 tt.2.1 tt.2.2.1 tt.2.2.2) tt
def tcop(fu:Nat)(t:(List (qT2)×Int)):Option ((Int×List (qT2))):=
 (sClo2 fu t.1).bind fun r=>
 (tcop_l0_it fu r (0,(t.2,(r,0)))).bind fun o=>
 some (o.1,o.2.1)
def tcop_fa:FnA:=⟨.two (.reg [(0,{ids:=[100]}),(1,{ids:=[101]})]) (.two (.reg [(2,{ids:=[102]})]) (.two (.two lf (.one (.loop ⟨[1,2,12],⟨(.cons (.own 0 100 0 0) (.cons (.own 0 101 0 0) qL6)),[(100,false,qB62),(102,false,(.rows 56 qY0)),(101,false,qB44)]⟩⟩ false [(0,⟨[1,2],⟨qL54,[(100,false,qB62),(102,false,(.rows 56 qY0)),(101,false,qB44)]⟩⟩)] (.two lf (.two lf (.two (.one (.two lf (.two lf (.reg [(6,{ids:=[103],fn:=1}),(11,{ids:=[104],fn:=2})])))) lf)))))) lf)),⟨(.cons (.p qY53) .nil),[]⟩,[⟨(.cons (.agg (.cons (.slf 8 0) qL6)) .nil),[(0,false,(.rows 56 qY0))]⟩],[0]⟩
def tcop_ft(fu:Nat):FnT:=⟨120,tcop_fa.i,tcop_fa.os,fun t=>tcop fu t⟩
theorem f2Z(fu:Nat):Told Tryz.prog (tcop_ft fu):=tk fu tcop_fa (aaZ (blZ fu) (aaZ (b3Z fu) (aaZ (brZ fu) abZ))) Tryz.func120 (by kernel_rfl) fun t=>by kernel_rfl
def icopE_l0(fu:Nat)(r:List (qT2))(x:Int)(h:Int)(h1:List qT8)(h2:Int)(h3:List qT27):Option ((Int×(Int×(List qT8×(Int×List qT27))))⊕((Int×(List qT8×(Int×List qT27))))):=
 bif (decide (x<((r.length:Nat):Int))) then
  (idx? x h1.length).bind fun q=>
  (h1)[q]?.bind fun r1=>
  (lowD (.ref 1 (.pair .str (.int .i64))) r1.2.2.2.2.2.2.2).bind fun x1=>
  (inode_own fu (r1.1,(r1.2.1,(r1.2.2.1,(r1.2.2.2.1,(r1.2.2.2.2.1,(r1.2.2.2.2.2.1,(r1.2.2.2.2.2.2.1,x1)))))))).bind fun r2=>
  (idx? x h1.length).bind fun q1=>
  (h1)[q1]?.bind fun r3=>
  some (.inl ((IntKind.wrap .i64 (x+1)),(h,((List.set h1 q1 (r2.1,(r2.2.1,(r2.2.2.1,(r2.2.2.2.1,(r2.2.2.2.2.1,(r2.2.2.2.2.2.2.1,(r2.2.2.2.2.2.1,(.inr (some (h3.length,(0,r2.2.2.2.2.2.2.2.length)))))))))))),(h2,(h3++[(1,r2.2.2.2.2.2.2.2)]))))))
 else
  some (.inr (h,(h1,(h2,h3))))
def icopE_l0_it(fu:Nat)(r:List (qT2))(tt:(Int×(Int×(List qT8×(Int×List qT27))))):Option ((Int×(List qT8×(Int×List qT27)))):=
 iter fu (fun tt=>icopE_l0 fu r tt.1 tt.2.1 tt.2.2.1 tt.2.2.2.1 tt.2.2.2.2) tt
def icopE(fu:Nat)(t:(List (qT2)×Int)):Option ((Int×(List qT8×List qT27))):=
 (sClo2 fu t.1).bind fun r=>
 (icopE_l0_it fu r (0,(t.2,((List.map (liftT qY7) r),(0,[]))))).bind fun o=>
 some (o.1,(o.2.1,o.2.2.2))
def icopE_fa:FnA:=⟨.two (.reg [(0,{ids:=[100]}),(1,{ids:=[101]})]) (.two (.reg [(2,{ids:=[102]})]) (.two (.two lf (.one (.pre (.newFam 1 108 (.pair .str (.int .i64))) (.pre (.toRef 102 qY7) (.loop ⟨[1,2,10,12],⟨(.cons (.own 0 100 0 0) (.cons (.own 0 101 0 0) (.cons (.slf 8 102) qL6))),[(100,false,qB62),(102,false,(.rows 56 qY7)),(101,false,qB44),(999985,false,qB35)]⟩⟩ false [(0,⟨[1,2],⟨qL54,[(100,false,qB62),(102,false,(.rows 56 qY7)),(101,false,qB44),(999985,false,qB35)]⟩⟩)] (.two lf (.two lf (.two (.one (.two (.reg [(3,{ids:=[103]})]) (.reg [(4,{ids:=[104,105],md:=[3],fn:=1}),(6,{sh:=[105,999985]})]))) lf)))))))) lf)),⟨(.cons (.p qY53) .nil),[]⟩,[⟨(.cons (.agg (.cons (.slf 8 0) qL6)) .nil),[(0,false,(.rows 56 qY7)),(999985,false,qB35)]⟩],[0]⟩
def icopE_ft(fu:Nat):FnT:=⟨153,icopE_fa.i,icopE_fa.os,fun t=>icopE fu t⟩
theorem l2Z(fu:Nat):Told Tryz.prog (icopE_ft fu):=tk fu icopE_fa (aaZ (blZ fu) (aaZ (bmZ fu) abZ)) Tryz.func153 (by kernel_rfl) fun t=>by kernel_rfl
def inode_is(fu:Nat)(t:(List (qT2)×Int))(id:Int)(dir:Bool):Option (Bool):=
 bif (decide (id>=1)) then
  bif (decide (id<=((t.1.length:Nat):Int))) then
   (idx? (IntKind.wrap .i64 (id-1)) t.1.length).bind fun q=>
   (t.1)[q]?.bind fun r=>
   bif r.2.2.1 then
    (idx? (IntKind.wrap .i64 (id-1)) t.1.length).bind fun q1=>
    (t.1)[q1]?.bind fun r1=>
    some (r1.2.2.2.1==dir)
   else
    some false
  else
   some false
 else
  some false
def inode_is_fa:FnA:=⟨.two (.reg [(0,{ids:=[100]})]) lf,⟨(.cons (.p qY53) (.cons (.p (.int .i64)) (.cons (.p .bool) .nil))),[]⟩,[⟨(.cons (.p .bool) .nil),[]⟩],[0]⟩
def inode_is_ft(fu:Nat):FnT:=⟨154,inode_is_fa.i,inode_is_fa.os,u3 (inode_is fu)⟩
theorem cnZ(fu:Nat):Told Tryz.prog (inode_is_ft fu):=tk fu inode_is_fa abZ Tryz.func154 (by kernel_rfl) fun t=>by kernel_rfl
def iAll1(fu:Nat)(n:qT2):Option (Bool):=
 some (!n.2.2.1)
def iAll1_fa:FnA:=⟨.two (.reg [(0,{ids:=[100]})]) lf,⟨(.cons (.p qY0) .nil),[]⟩,[⟨(.cons (.p .bool) .nil),[]⟩],[0]⟩
def iAll1_ft(fu:Nat):FnT:=⟨155,iAll1_fa.i,iAll1_fa.os,fun t=>iAll1 fu t⟩
theorem lxZ(fu:Nat):Told Tryz.prog (iAll1_ft fu):=tk fu iAll1_fa abZ Tryz.func155 (by kernel_rfl) fun t=>by kernel_rfl
def sIndFun2_l0(fu:Nat)(s:List (qT2))(x:Int):Option (Int⊕(Unit⊕Int)):=
 bif (decide (x<((s.length:Nat):Int))) then
  (idx? x s.length).bind fun q=>
  (s)[q]?.bind fun r=>
  (iAll1 fu r).bind fun r1=>
  bif r1 then
   some (.inr (.inr x))
  else
   some (.inl (IntKind.wrap .i64 (x+1)))
 else
  some (.inr (.inl ()))
def sIndFun2_l0_it(fu:Nat)(s:List (qT2))(tt:Int):Option (Unit⊕Int):=
 iter fu (fun tt=>sIndFun2_l0 fu s tt) tt
def sIndFun2(fu:Nat)(s:List (qT2)):Option (Int):=
 (sIndFun2_l0_it fu s 0).bind fun o=>
 match o with
 |.inl s1=>
  some (-1)
 |.inr o1=>
  some o1
def sIndFun2_fa:FnA:=⟨.two lf (.two (.two lf (.one (.loop ⟨[8],⟨qL6,[]⟩⟩ true [(0,⟨[],⟨.nil,[]⟩⟩)] (.two lf (.two lf (.two (.one (.two lf (.two (.reg [(5,{})]) (.two lf lf)))) lf)))))) lf),⟨(.cons (.p (.sl qY0)) (.cons (.fn 155 .nil .nil) .nil)),[]⟩,[⟨qL6,[]⟩],[0]⟩
def sIndFun2_ft(fu:Nat):FnT:=⟨156,sIndFun2_fa.i,sIndFun2_fa.os,fun t=>sIndFun2 fu t⟩
theorem hBZ(fu:Nat):Told Tryz.prog (sIndFun2_ft fu):=tk fu sIndFun2_fa (aaZ (lxZ fu) abZ) Tryz.func156 (by kernel_rfl) fun t=>by kernel_rfl
def iAllE(fu:Nat)(t:(List (qT2)×Int))(dir:Bool)(parent:Int):Option ((Int×(Int×(Int×(Int×(List qT8×List qT27)))))):=
 (icopE fu (t.1,t.2)).bind fun r=>
 (iRig fu (t.1,t.2)).bind fun r1=>
 bif (!r1) then
  some (r.1,(0,(0,(180,(r.2.1,r.2.2)))))
 else
  (inode_is fu (t.1,t.2) parent true).bind fun r2=>
  bif (!r2) then
   some (r.1,(0,(0,(2,(r.2.1,r.2.2)))))
  else
   (unrefL (unrefD [⟨1,(.pair .str (.int .i64)),(List.map frz1 r.2.2)⟩] qY7) r.2.1).bind fun l=>
   (sIndFun2 fu l).bind fun r3=>
   Option.bind (α:=((Bool×(Int×(Int×(Int×(Int×(List qT8×List qT27)))))))) (
    bif (decide (r3<0)) then
     some ((decide (((r.2.1.length:Nat):Int)>=500)),(0,(0,(0,(r.1,(r.2.1,r.2.2))))))
    else
     some (false,(0,(0,(0,(r.1,(r.2.1,r.2.2))))))) fun o=>
   bif o.1 then
    some (o.2.2.2.2.1,(0,(0,(5,(o.2.2.2.2.2.1,o.2.2.2.2.2.2)))))
   else
    Option.bind (α:=((Int×(Int×(Int×(Int×(Int×(List qT8×List qT27))))))⊕(Int×(Int×(Int×(Int×(List qT8×List qT27))))))) (
     bif (decide (r3<0)) then
      need ((Nat.ble ((o.2.2.2.2.2.1.length+1)*88) room)&&(Nat.ble (o.2.2.2.2.2.1.length+1) room))<|
      some (.inl (((o.2.2.2.2.2.1.length:Nat):Int),(o.2.1,(o.2.2.1,(o.2.2.2.1,(o.2.2.2.2.1,((o.2.2.2.2.2.1++(List.map (liftT qY7) ([((IntKind.wrap .i64 (((o.2.2.2.2.2.1.length:Nat):Int)+1)),(0,(false,(false,(0,([],(0,[])))))))]:List (qT2)))),o.2.2.2.2.2.2)))))))
     else
      (idx? r3 o.2.2.2.2.2.1.length).bind fun q=>
      (o.2.2.2.2.2.1)[q]?.bind fun r4=>
      bif (decide (r4.2.1>=1099511627776)) then
       some (.inr (o.2.2.2.2.1,(0,(0,(5,(o.2.2.2.2.2.1,o.2.2.2.2.2.2))))))
      else
       some (.inl (r3,(o.2.1,(o.2.2.1,(o.2.2.2.1,(o.2.2.2.2.1,(o.2.2.2.2.2.1,o.2.2.2.2.2.2)))))))) fun o1=>
    match o1 with
    |.inl s=>
     (idx? s.1 s.2.2.2.2.2.1.length).bind fun q1=>
     (s.2.2.2.2.2.1)[q1]?.bind fun r5=>
     (s.2.2.2.2.2.1)[q1]?.bind fun r6=>
     ((List.set s.2.2.2.2.2.1 q1 (r6.1,((IntKind.wrap .i64 (r5.2.1+1)),r6.2.2))))[q1]?.bind fun r7=>
     ((List.set (List.set s.2.2.2.2.2.1 q1 (r6.1,((IntKind.wrap .i64 (r5.2.1+1)),r6.2.2))) q1 (r7.1,(r7.2.1,(true,r7.2.2.2)))))[q1]?.bind fun r8=>
     ((List.set (List.set (List.set s.2.2.2.2.2.1 q1 (r6.1,((IntKind.wrap .i64 (r5.2.1+1)),r6.2.2))) q1 (r7.1,(r7.2.1,(true,r7.2.2.2)))) q1 (r8.1,(r8.2.1,(r8.2.2.1,(dir,r8.2.2.2.2))))))[q1]?.bind fun r9=>
     ((List.set (List.set (List.set (List.set s.2.2.2.2.2.1 q1 (r6.1,((IntKind.wrap .i64 (r5.2.1+1)),r6.2.2))) q1 (r7.1,(r7.2.1,(true,r7.2.2.2)))) q1 (r8.1,(r8.2.1,(r8.2.2.1,(dir,r8.2.2.2.2))))) q1 (r9.1,(r9.2.1,(r9.2.2.1,(r9.2.2.2.1,(r9.2.2.2.2.1,(r9.2.2.2.2.2.1,(parent,r9.2.2.2.2.2.2.2)))))))))[q1]?.bind fun r10=>
     ((List.set (List.set (List.set (List.set s.2.2.2.2.2.1 q1 (r6.1,((IntKind.wrap .i64 (r5.2.1+1)),r6.2.2))) q1 (r7.1,(r7.2.1,(true,r7.2.2.2)))) q1 (r8.1,(r8.2.1,(r8.2.2.1,(dir,r8.2.2.2.2))))) q1 (r9.1,(r9.2.1,(r9.2.2.1,(r9.2.2.2.1,(r9.2.2.2.2.1,(r9.2.2.2.2.2.1,(parent,r9.2.2.2.2.2.2.2)))))))))[q1]?.bind fun r11=>
     some (s.2.2.2.2.1,(r10.1,(r11.2.1,(0,((List.set (List.set (List.set (List.set s.2.2.2.2.2.1 q1 (r6.1,((IntKind.wrap .i64 (r5.2.1+1)),r6.2.2))) q1 (r7.1,(r7.2.1,(true,r7.2.2.2)))) q1 (r8.1,(r8.2.1,(r8.2.2.1,(dir,r8.2.2.2.2))))) q1 (r9.1,(r9.2.1,(r9.2.2.1,(r9.2.2.2.1,(r9.2.2.2.2.1,(r9.2.2.2.2.2.1,(parent,r9.2.2.2.2.2.2.2)))))))),s.2.2.2.2.2.2)))))
    |.inr o2=>
     some o2
def iAllE_fa:FnA:=⟨.two (.reg [(0,{ids:=[100]}),(1,{ids:=[101]}),(2,{ids:=[102]})]) (.two (.reg [(1,{ids:=[103,999985]}),(2,{ids:=[104]})]) (.two (.one (.two (.reg [(1,{fn:=1})]) (.two lf (.two (.reg [(2,{fn:=2})]) (.two lf lf))))) (.two lf (.two (.reg [(3,{md:=[2,0],fn:=3})]) (.two (.one (.two (.join ⟨[6,7,9,32],⟨(.cons (.own 0 101 0 0) (.cons (.own 0 102 0 0) (.cons (.own 0 104 0 0) (.cons (.p .bool) .nil)))),[(101,false,qB44),(102,false,(.vars qL50)),(104,false,(.vars (.cons (.slf 8 103) qL6))),(103,false,(.rows 56 qY7)),(999985,false,qB35)]⟩⟩ false [] lf) (.two lf (.two lf (.join ⟨[6,7,9,11],⟨(.cons (.own 0 101 0 0) (.cons (.own 0 102 0 0) (.cons (.own 0 104 0 0) qL6))),[(101,false,qB44),(102,false,(.vars qL50)),(104,false,(.vars (.cons (.slf 8 106) qL6))),(106,false,(.rows 56 qY7)),(999985,false,qB35)]⟩⟩ true [] (.two (.two lf (.reg [(5,{ids:=[105]}),(6,{ids:=[106]})])) (.two lf (.two lf lf)))))))) (.two lf (.two lf lf))))))),⟨(.cons (.p qY53) (.cons (.p .bool) qL6)),[]⟩,[⟨(.cons (.agg (.cons (.slf 8 0) qL6)) (.cons (.agg qL50) qL6)),[(0,false,(.rows 56 qY7)),(999985,false,qB35)]⟩],[0,0,0]⟩
def iAllE_ft(fu:Nat):FnT:=⟨121,iAllE_fa.i,iAllE_fa.os,u3 (iAllE fu)⟩
theorem kHZ(fu:Nat):Told Tryz.prog (iAllE_ft fu):=tk fu iAllE_fa (aaZ (l2Z fu) (aaZ (d9Z fu) (aaZ (cnZ fu) (aaZ (hBZ fu) abZ)))) Tryz.func121 (by kernel_rfl) fun t=>by kernel_rfl
def sIns(fu:Nat)(i:Int)(l v:List ((List UInt8×Int))):Option (List ((List UInt8×Int))×List ((List UInt8×Int))):=
 (upto? i l.length).bind fun q=>need (Nat.blt 0 v.length&&Nat.ble ((l.length+v.length)*24) room&&Nat.ble (l.length+v.length) room) (some (v,l.take q++v++l.drop q))
def sIns_ft(fu:Nat):FnT:=⟨157,⟨(.cons (.slf 2 0) (.cons (.p (.int .i64)) (.cons (.slf 2 1) .nil))),[(0,false,qB55),(1,false,qB55)]⟩,[⟨(.cons (.slf 2 2) .nil),[(1,false,qB55),(2,false,qB55)]⟩],u3 (sIns fu)⟩
theorem i1Z(fu:Nat):Told Tryz.prog (sIns_ft fu):=
 fJZ (u:=(.pair .str (.int .i64))) Tryz.ins157 (by decide) (by intro h;cases h) Tryz.sizeOf108 Tryz.isAgg108 (by kernel_rfl) ⟨_,_,Tryz.func157,rfl,by kernel_rfl⟩
def tput(fu:Nat)(dir:Int)(name:List UInt8)(id:Int)(h:Int)(h1:List qT8)(h2:List qT27):Option ((Int×(List qT8×List qT27))):=
 (idx? (IntKind.wrap .i64 (dir-1)) h1.length).bind fun q=>
 (h1)[q]?.bind fun r=>
 (unrefD [⟨1,(.pair .str (.int .i64)),(List.map frz1 h2)⟩] qY7 r).bind fun x=>
 (tent fu x name).bind fun r1=>
 (h1)[q]?.bind fun r2=>
 (openM h2 r2.2.2.2.2.2.2.2).bind fun m=>
 (sIns fu r1.1 m.1 [(name,id)]).bind fun r3=>
 (h1)[q]?.bind fun r4=>
 some (h,((List.set h1 q (r4.1,(r4.2.1,(r4.2.2.1,(r4.2.2.2.1,(r4.2.2.2.2.1,(r4.2.2.2.2.2.1,(r4.2.2.2.2.2.2.1,(.inr (some (m.2.length,(0,r3.2.length)))))))))))),(m.2++[(1,r3.2)])))
def tput_fa:FnA:=⟨.two lf (.two (.reg [(4,{md:=[2,0]})]) (.reg [(9,{ids:=[100]}),(10,{ids:=[101],sh:=[605118,100],md:=[505118,0,0],fn:=1}),(13,{sh:=[101,999985]})])),⟨(.cons (.own 0 0 0 0) (.cons (.p (.int .i64)) (.cons (.p .str) qL6))),[(0,false,(.vars (.cons (.slf 8 1) qL6))),(1,false,(.rows 56 qY7)),(999985,false,qB35)]⟩,[⟨.nil,[(0,false,(.vars (.cons (.slf 8 1) qL6))),(1,false,(.rows 56 qY7)),(999985,false,qB35)]⟩],[]⟩
def tput_ft(fu:Nat):FnT:=⟨122,tput_fa.i,tput_fa.os,u6 (tput fu)⟩
theorem iUZ(fu:Nat):Told Tryz.prog (tput_ft fu):=tk fu tput_fa (aaZ (bGZ fu) (aaZ (i1Z fu) abZ)) Tryz.func122 (by kernel_rfl) fun t=>by kernel_rfl
def tree_Make(fu:Nat)(t:(List (qT2)×Int))(dir:(Int×Int))(name:List UInt8)(is_:Bool):Option ((List (qT2)×(Int×(Int×(Int×Int))))):=
 (task fu (t.1,t.2) [(dir.1,dir.2)]).bind fun r=>
 bif (!(r.1==0)) then
  (tcop fu (t.1,t.2)).bind fun r1=>
  some (r1.2,(r1.1,(0,(0,r.1))))
 else
  (idx? 0 r.2.length).bind fun q=>
  (r.2)[q]?.bind fun r2=>
  (tent fu r2 name).bind fun r3=>
  (tNam fu name).bind fun r4=>
  bif (!r4) then
   (tcop fu (t.1,t.2)).bind fun r5=>
   some (r5.2,(r5.1,(0,(0,176))))
  else
   bif r3.2 then
    (tcop fu (t.1,t.2)).bind fun r6=>
    some (r6.2,(r6.1,(0,(0,172))))
   else
    (idx? 0 r.2.length).bind fun q1=>
    (r.2)[q1]?.bind fun r7=>
    bif (decide (((r7.2.2.2.2.2.2.2.length:Nat):Int)>=100)) then
     (tcop fu (t.1,t.2)).bind fun r8=>
     some (r8.2,(r8.1,(0,(0,5))))
    else
     (iAllE fu (t.1,t.2) is_ dir.1).bind fun r9=>
     bif (!(r9.2.2.2.1==0)) then
      (unrefL (unrefD [⟨1,(.pair .str (.int .i64)),(List.map frz1 r9.2.2.2.2.2)⟩] qY7) r9.2.2.2.2.1).bind fun l2=>
      some (l2,(r9.1,(0,(0,r9.2.2.2.1))))
     else
      (tput fu dir.1 name r9.2.1 r9.1 r9.2.2.2.2.1 r9.2.2.2.2.2).bind fun r10=>
      (unrefL (unrefD [⟨1,(.pair .str (.int .i64)),(List.map frz1 r10.2.2)⟩] qY7) r10.2.1).bind fun l3=>
      some (l3,(r10.1,(r9.2.1,(r9.2.2.1,0))))
def tree_Make_fa:FnA:=⟨.two (.reg [(0,{ids:=[100]}),(1,{ids:=[101]}),(2,{ids:=[102]}),(3,{ids:=[103]})]) (.two (.reg [(2,{ids:=[104]}),(3,{ids:=[105],md:=[0,1]})]) (.two (.two lf (.two (.two (.reg [(1,{ids:=[106],fn:=1})]) lf) lf)) (.two (.reg [(4,{fn:=2})]) (.two (.one (.two (.reg [(1,{fn:=3})]) (.two (.two (.reg [(1,{ids:=[107],fn:=1})]) lf) (.two lf (.two (.two (.reg [(1,{ids:=[108],fn:=1})]) lf) (.two lf (.two (.two (.reg [(1,{ids:=[109],fn:=1})]) lf) lf))))))) (.two (.reg [(4,{ids:=[110,999985],fn:=4}),(9,{ids:=[111]}),(10,{ids:=[112]})]) (.two (.two lf (.two lf lf)) (.two (.reg [(5,{sh:=[111,110,999985],fn:=5})]) lf))))))),⟨(.cons (.p qY53) (.cons (.p qY5) (.cons (.p .str) (.cons (.p .bool) .nil)))),[]⟩,[⟨(.cons (.agg (.cons (.p (.sl qY0)) qL6)) (.cons (.agg qL50) qL6)),[]⟩],[1,0,0]⟩
def tree_Make_ft(fu:Nat):FnT:=⟨86,tree_Make_fa.i,tree_Make_fa.os,u4 (tree_Make fu)⟩
theorem fXZ(fu:Nat):Told Tryz.prog (tree_Make_ft fu):=tk fu tree_Make_fa (aaZ (c6Z fu) (aaZ (f2Z fu) (aaZ (bGZ fu) (aaZ (cyZ fu) (aaZ (kHZ fu) (aaZ (iUZ fu) abZ)))))) Tryz.func86 (by kernel_rfl) fun t=>by kernel_rfl
def mdoemak(fu:Nat)(h:List (qT2))(h1:Int)(h2:List (List (UInt8)))(h3:Int)(h4:Int)(h5:Int)(h6:Int)(h7:Int)(h8:List UInt8)(h9:Int)(h10:Int)(h11:List UInt8)(h12:Int)(h13:Int)(h14:List (UInt8))(h15:Int)(h16:Int)(h17:Int)(h18:Int)(h19:Int)(h20:Bool)(h21:Int)(h22:Bool)(h23:Int):Option ((Int×qT15)):=
 (tree_Make fu (h,h1) (h6,h7) h8 (h5==3)).bind fun r=>
 bif (r.2.2.2.2==0) then
  some (r.2.2.2.2,(r.1,(r.2.1,(h2,(h3,(h4,(h5,(h6,(h7,(h8,(h9,(h10,(h11,(h12,(h13,(h14,(h15,(h16,(h17,(r.2.2.1,(r.2.2.2.1,((h5==3),(h21,(h22,h23))))))))))))))))))))))))
 else
  some (r.2.2.2.2,(h,(h1,(h2,(h3,(h4,(h5,(h6,(h7,(h8,(h9,(h10,(h11,(h12,(h13,(h14,(h15,(h16,(h17,(h18,(h19,(h20,(h21,(h22,h23))))))))))))))))))))))))
def mdoemak_fa:FnA:=⟨.two lf (.two (.reg [(20,{}),(25,{ids:=[100]}),(26,{ids:=[101]})]) (.two (.two lf lf) lf)),⟨qL72,[(0,false,qB4)]⟩,[⟨qL6,[(0,false,qB4)]⟩],[0]⟩
def mdoemak_ft(fu:Nat):FnT:=⟨44,mdoemak_fa.i,mdoemak_fa.os,u24 (mdoemak fu)⟩
theorem hYZ(fu:Nat):Told Tryz.prog (mdoemak_ft fu):=tk fu mdoemak_fa (aaZ (fXZ fu) abZ) Tryz.func44 (by kernel_rfl) fun t=>by kernel_rfl
def mdoefil(fu:Nat)(h:List (qT2))(h1:Int)(h2:List (List (UInt8)))(h3:Int)(h4:Int)(h5:Int)(h6:Int)(h7:Int)(h8:List UInt8)(h9:Int)(h10:Int)(h11:List UInt8)(h12:Int)(h13:Int)(h14:List (UInt8))(h15:Int)(h16:Int)(h17:Int)(h18:Int)(h19:Int)(h20:Bool)(h21:Int)(h22:Bool)(h23:Int):Option ((Int×(List (UInt8)×(Int×qT15)))):=
 (inode_Get fu (h,h1) (h6,h7)).bind fun r=>
 bif (!(r.2.2.2.2.2.2.2.2==0)) then
  some (0,([],(r.2.2.2.2.2.2.2.2,(h,(h1,(h2,(h3,(h4,(h5,(h6,(h7,(h8,(h9,(h10,(h11,(h12,(h13,(h14,(h15,(h16,(h17,(h18,(h19,(h20,(h21,(h22,h23))))))))))))))))))))))))))
 else
  bif r.2.2.2.1 then
   some (0,([],(174,(h,(h1,(h2,(h3,(h4,(h5,(h6,(h7,(h8,(h9,(h10,(h11,(h12,(h13,(h14,(h15,(h16,(h17,(h18,(h19,(h20,(h21,(h22,h23))))))))))))))))))))))))))
  else
   (idx? (IntKind.wrap .i64 (r.1-1)) h2.length).bind fun q=>
   (h2)[q]?.bind fun r1=>
   some (r.1,(r1,(0,(h,(h1,(h2,(h3,(h4,(h5,(h6,(h7,(h8,(h9,(h10,(h11,(h12,(h13,(h14,(h15,(h16,(h17,(h18,(h19,(h20,(h21,(h22,h23))))))))))))))))))))))))))
def mdoefil_fa:FnA:=⟨.two lf (.two (.reg [(9,{}),(13,{ids:=[100]})]) (.two (.one (.two lf (.two lf (.two lf (.two lf lf))))) lf)),⟨qL72,[(0,false,qB4)]⟩,[⟨(.cons (.p (.int .i64)) (.cons (.p (.sl .byte)) qL6)),[(0,false,qB4)]⟩],[0,0,0]⟩
def mdoefil_ft(fu:Nat):FnT:=⟨87,mdoefil_fa.i,mdoefil_fa.os,u24 (mdoefil fu)⟩
theorem c8Z(fu:Nat):Told Tryz.prog (mdoefil_ft fu):=tk fu mdoefil_fa (aaZ (bSZ fu) abZ) Tryz.func87 (by kernel_rfl) fun t=>by kernel_rfl
def mdoerea(fu:Nat)(h:List (qT2))(h1:Int)(h2:List (List (UInt8)))(h3:Int)(h4:Int)(h5:Int)(h6:Int)(h7:Int)(h8:List UInt8)(h9:Int)(h10:Int)(h11:List UInt8)(h12:Int)(h13:Int)(h14:List (UInt8))(h15:Int)(h16:Int)(h17:Int)(h18:Int)(h19:Int)(h20:Bool)(h21:Int)(h22:Bool)(h23:Int):Option ((Int×(List (qT2)×(Int×(List (List (UInt8))×(Int×(Int×(Int×(Int×(Int×(List UInt8×(Int×(Int×(List UInt8×(Int×(Int×(List (UInt8)×(Int×(Int×(Int×(Int×(Int×(Bool×(Int×(List (UInt8)×(Bool×Int)))))))))))))))))))))))))):=
 (mdoefil fu h h1 h2 h3 h4 h5 h6 h7 h8 h9 h10 h11 h12 h13 h14 h15 h16 h17 h18 h19 h20 h21 h22 h23).bind fun r=>
 bif (!(r.2.2.1==0)) then
  some (r.2.2.1,(r.2.2.2.1,(r.2.2.2.2.1,(r.2.2.2.2.2.1,(r.2.2.2.2.2.2.1,(r.2.2.2.2.2.2.2.1,(r.2.2.2.2.2.2.2.2.1,(r.2.2.2.2.2.2.2.2.2.1,(r.2.2.2.2.2.2.2.2.2.2.1,(r.2.2.2.2.2.2.2.2.2.2.2.1,(r.2.2.2.2.2.2.2.2.2.2.2.2.1,(r.2.2.2.2.2.2.2.2.2.2.2.2.2.1,(r.2.2.2.2.2.2.2.2.2.2.2.2.2.2.1,(r.2.2.2.2.2.2.2.2.2.2.2.2.2.2.2.1,(r.2.2.2.2.2.2.2.2.2.2.2.2.2.2.2.2.1,(r.2.2.2.2.2.2.2.2.2.2.2.2.2.2.2.2.2.1,(r.2.2.2.2.2.2.2.2.2.2.2.2.2.2.2.2.2.2.1,(r.2.2.2.2.2.2.2.2.2.2.2.2.2.2.2.2.2.2.2.1,(r.2.2.2.2.2.2.2.2.2.2.2.2.2.2.2.2.2.2.2.2.1,(r.2.2.2.2.2.2.2.2.2.2.2.2.2.2.2.2.2.2.2.2.2.1,(r.2.2.2.2.2.2.2.2.2.2.2.2.2.2.2.2.2.2.2.2.2.2.1,(r.2.2.2.2.2.2.2.2.2.2.2.2.2.2.2.2.2.2.2.2.2.2.2.1,(r.2.2.2.2.2.2.2.2.2.2.2.2.2.2.2.2.2.2.2.2.2.2.2.2.1,([],(r.2.2.2.2.2.2.2.2.2.2.2.2.2.2.2.2.2.2.2.2.2.2.2.2.2.1,r.2.2.2.2.2.2.2.2.2.2.2.2.2.2.2.2.2.2.2.2.2.2.2.2.2.2)))))))))))))))))))))))))
 else
  (upto? (if(if((r.2.1.length:Nat):Int)<(IntKind.wrap .i64 (r.2.2.2.2.2.2.2.2.2.2.2.2.2.2.2.1+r.2.2.2.2.2.2.2.2.2.2.2.2.2.2.2.2.1)) then((r.2.1.length:Nat):Int) else(IntKind.wrap .i64 (r.2.2.2.2.2.2.2.2.2.2.2.2.2.2.2.1+r.2.2.2.2.2.2.2.2.2.2.2.2.2.2.2.2.1)))>(if((r.2.1.length:Nat):Int)<r.2.2.2.2.2.2.2.2.2.2.2.2.2.2.2.1 then((r.2.1.length:Nat):Int) else r.2.2.2.2.2.2.2.2.2.2.2.2.2.2.2.1) then(if((r.2.1.length:Nat):Int)<(IntKind.wrap .i64 (r.2.2.2.2.2.2.2.2.2.2.2.2.2.2.2.1+r.2.2.2.2.2.2.2.2.2.2.2.2.2.2.2.2.1)) then((r.2.1.length:Nat):Int) else(IntKind.wrap .i64 (r.2.2.2.2.2.2.2.2.2.2.2.2.2.2.2.1+r.2.2.2.2.2.2.2.2.2.2.2.2.2.2.2.2.1))) else(if((r.2.1.length:Nat):Int)<r.2.2.2.2.2.2.2.2.2.2.2.2.2.2.2.1 then((r.2.1.length:Nat):Int) else r.2.2.2.2.2.2.2.2.2.2.2.2.2.2.2.1)) r.2.1.length).bind fun q=>
  (upto? (if((r.2.1.length:Nat):Int)<r.2.2.2.2.2.2.2.2.2.2.2.2.2.2.2.1 then((r.2.1.length:Nat):Int) else r.2.2.2.2.2.2.2.2.2.2.2.2.2.2.2.1) q).bind fun q1=>
  (sClo4 fu (List.drop q1 (List.take q r.2.1))).bind fun r1=>
  some (0,(r.2.2.2.1,(r.2.2.2.2.1,(r.2.2.2.2.2.1,(r.2.2.2.2.2.2.1,(r.2.2.2.2.2.2.2.1,(r.2.2.2.2.2.2.2.2.1,(r.2.2.2.2.2.2.2.2.2.1,(r.2.2.2.2.2.2.2.2.2.2.1,(r.2.2.2.2.2.2.2.2.2.2.2.1,(r.2.2.2.2.2.2.2.2.2.2.2.2.1,(r.2.2.2.2.2.2.2.2.2.2.2.2.2.1,(r.2.2.2.2.2.2.2.2.2.2.2.2.2.2.1,(r.2.2.2.2.2.2.2.2.2.2.2.2.2.2.2.1,(r.2.2.2.2.2.2.2.2.2.2.2.2.2.2.2.2.1,(r.2.2.2.2.2.2.2.2.2.2.2.2.2.2.2.2.2.1,(r.2.2.2.2.2.2.2.2.2.2.2.2.2.2.2.2.2.2.1,(r.2.2.2.2.2.2.2.2.2.2.2.2.2.2.2.2.2.2.2.1,(r.2.2.2.2.2.2.2.2.2.2.2.2.2.2.2.2.2.2.2.2.1,(r.2.2.2.2.2.2.2.2.2.2.2.2.2.2.2.2.2.2.2.2.2.1,(r.2.2.2.2.2.2.2.2.2.2.2.2.2.2.2.2.2.2.2.2.2.2.1,(r.2.2.2.2.2.2.2.2.2.2.2.2.2.2.2.2.2.2.2.2.2.2.2.1,(((r.2.1.length:Nat):Int),(r1,((decide ((IntKind.wrap .i64 (r.2.2.2.2.2.2.2.2.2.2.2.2.2.2.2.1+r.2.2.2.2.2.2.2.2.2.2.2.2.2.2.2.2.1))<((r.2.1.length:Nat):Int))),r.2.2.2.2.2.2.2.2.2.2.2.2.2.2.2.2.2.2.2.2.2.2.2.2.2.2)))))))))))))))))))))))))
def mdoerea_fa:FnA:=⟨.two lf (.two (.reg [(1,{sh:=[0]})]) (.two (.two lf (.two lf lf)) (.two lf (.two lf (.two (.reg [(9,{ids:=[100],fn:=1})]) (.two lf (.pre (.pureCell 0 22) lf))))))),⟨qL72,[(0,false,qB4)]⟩,[⟨qL6,[(0,false,(.vars (.cons (.p (.sl qY0)) (.cons (.p (.int .i64)) (.cons (.p (.sl (.sl .byte))) (.cons (.p (.int .i64)) (.cons (.p (.int .i64)) (.cons (.p (.int .u8)) (.cons (.p (.int .i64)) (.cons (.p (.int .i64)) (.cons (.p .str) (.cons (.p (.int .i64)) (.cons (.p (.int .i64)) (.cons (.p .str) (.cons (.p (.int .i64)) (.cons (.p (.int .i64)) (.cons (.p (.sl .byte)) (.cons (.p (.int .i64)) (.cons (.p (.int .i64)) (.cons (.p (.int .i64)) (.cons (.p (.int .i64)) (.cons (.p (.int .i64)) (.cons (.p .bool) (.cons (.p (.int .i64)) (.cons (.p (.sl .byte)) (.cons (.nilp (.slice none 0 0)) (.cons (.p .bool) qL6)))))))))))))))))))))))))))]⟩],[0]⟩
def mdoerea_ft(fu:Nat):FnT:=⟨45,mdoerea_fa.i,mdoerea_fa.os,u24 (mdoerea fu)⟩
theorem hPZ(fu:Nat):Told Tryz.prog (mdoerea_ft fu):=tk fu mdoerea_fa (aaZ (c8Z fu) (aaZ (cbZ fu) abZ)) Tryz.func45 (by kernel_rfl) fun t=>by kernel_rfl
def sClo8(fu:Nat)(s:List (List (UInt8))):Option (List (List (UInt8))):=
 nilQ s.length fun isNil=>
 bif isNil then
  some []
 else
  need ((Nat.ble ((0+s.length)*24) room)&&(Nat.ble (0+s.length) room))<|
  some s
def sClo8_fa:FnA:=⟨.two lf (.two (.two lf (.two lf lf)) (.two (.reg [(0,{ids:=[100]}),(2,{ids:=[101]})]) lf)),⟨(.cons (.p (.sl (.sl .byte))) .nil),[]⟩,[⟨(.cons (.slf 1 0) .nil),[(0,false,(.rows 40 (.sl .byte)))]⟩],[50]⟩
def sClo8_ft(fu:Nat):FnT:=⟨123,sClo8_fa.i,sClo8_fa.os,fun t=>sClo8 fu t⟩
theorem gCZ(fu:Nat):Told Tryz.prog (sClo8_ft fu):=tk fu sClo8_fa abZ Tryz.func123 (by kernel_rfl) fun t=>by kernel_rfl
def mcop_l0(fu:Nat)(r:List (qT2))(x:Int)(h:Int)(h1:List (qT2))(h2:Int):Option ((Int×(Int×(List (qT2)×Int)))⊕((Int×(List (qT2)×Int)))):=
 bif (decide (x<((r.length:Nat):Int))) then
  (idx? x h1.length).bind fun q=>
  (h1)[q]?.bind fun r1=>
  (sClo3 fu r1.2.2.2.2.2.1).bind fun r2=>
  (idx? x h1.length).bind fun q1=>
  (h1)[q1]?.bind fun r3=>
  (sClo fu r3.2.2.2.2.2.2.2).bind fun r4=>
  (idx? x h1.length).bind fun q2=>
  (h1)[q2]?.bind fun r5=>
  (idx? x (List.set h1 q2 (r5.1,(r5.2.1,(r5.2.2.1,(r5.2.2.2.1,(r5.2.2.2.2.1,(r2,r5.2.2.2.2.2.2))))))).length).bind fun q3=>
  ((List.set h1 q2 (r5.1,(r5.2.1,(r5.2.2.1,(r5.2.2.2.1,(r5.2.2.2.2.1,(r2,r5.2.2.2.2.2.2))))))))[q3]?.bind fun r6=>
  some (.inl ((IntKind.wrap .i64 (x+1)),(h,((List.set (List.set h1 q2 (r5.1,(r5.2.1,(r5.2.2.1,(r5.2.2.2.1,(r5.2.2.2.2.1,(r2,r5.2.2.2.2.2.2))))))) q3 (r6.1,(r6.2.1,(r6.2.2.1,(r6.2.2.2.1,(r6.2.2.2.2.1,(r6.2.2.2.2.2.1,(r6.2.2.2.2.2.2.1,r4)))))))),h2))))
 else
  some (.inr (h,(h1,h2)))
def mcop_l0_it(fu:Nat)(r:List (qT2))(tt:(Int×(Int×(List (qT2)×Int)))):Option ((Int×(List (qT2)×Int))):=
 iter fu (fun tt=>mcop_l0 fu r tt.1 tt.2.1 tt.2.2.1 tt.2.2.2) tt
def mcop(fu:Nat)(t:(List (qT2)×Int)):Option ((Int×List (qT2))):=
 (sClo2 fu t.1).bind fun r=>
 (mcop_l0_it fu r (0,(t.2,(r,0)))).bind fun o=>
 some (o.1,o.2.1)
def mcop_fa:FnA:=⟨.two (.reg [(0,{ids:=[100]}),(1,{ids:=[101]})]) (.two (.reg [(2,{ids:=[102]})]) (.two (.two lf (.one (.loop ⟨[1,2,11],⟨(.cons (.own 0 100 0 0) (.cons (.own 0 101 0 0) qL6)),[(100,false,qB62),(102,false,(.rows 56 qY0)),(101,false,qB44)]⟩⟩ false [(0,⟨[1,2],⟨qL54,[(100,false,qB62),(102,false,(.rows 56 qY0)),(101,false,qB44)]⟩⟩)] (.two lf (.two lf (.two (.one (.two lf (.reg [(12,{ids:=[103],fn:=1}),(19,{ids:=[104],fn:=2})]))) lf)))))) lf)),⟨(.cons (.p qY53) .nil),[]⟩,[⟨(.cons (.agg (.cons (.slf 8 0) qL6)) .nil),[(0,false,(.rows 56 qY0))]⟩],[0]⟩
def mcop_ft(fu:Nat):FnT:=⟨54,mcop_fa.i,mcop_fa.os,fun t=>mcop fu t⟩
theorem dGZ(fu:Nat):Told Tryz.prog (mcop_ft fu):=tk fu mcop_fa (aaZ (blZ fu) (aaZ (b3Z fu) (aaZ (brZ fu) abZ))) Tryz.func54 (by kernel_rfl) fun t=>by kernel_rfl
def mdoesizW(fu:Nat)(id:Int)(size:Int)(h:List (qT2))(h1:Int)(h2:List (List (UInt8)))(h3:Int)(h4:Int)(h5:Int)(h6:Int)(h7:Int)(h8:List UInt8)(h9:Int)(h10:Int)(h11:List UInt8)(h12:Int)(h13:Int)(h14:List (UInt8))(h15:Int)(h16:Int)(h17:Int)(h18:Int)(h19:Int)(h20:Bool)(h21:Int)(h22:Bool)(h23:Int):Option (((List (UInt8)⊕Option (Nat×(Nat×Nat)))×(Int×(Int×(Int×(Int×(Int×(Int×(List UInt8×(Int×(Int×(List UInt8×(Int×(Int×(List (UInt8)×(Int×(Int×(Int×(Int×(Int×(Bool×(Int×(Bool×(Int×(List (qT2)×(List ((List (UInt8)⊕Option (Nat×(Nat×Nat))))×List ((Nat×List (UInt8))))))))))))))))))))))))))))):=
 (upto? size room).bind fun m=>
 (upto? size m).bind fun q=>
 need (Nat.ble (m*1) room)<|
 (idx? (IntKind.wrap .i64 (id-1)) h2.length).bind fun q1=>
 (h2)[q1]?.bind fun r=>
 (sClo8 fu h2).bind fun r1=>
 (idx? (IntKind.wrap .i64 (id-1)) (List.map (liftT (.ref 3 .byte)) r1).length).bind fun q2=>
 ((List.map (liftT (.ref 3 .byte)) r1))[q2]?.bind fun r2=>
 (mcop fu (h,h1)).bind fun r3=>
 (idx? (IntKind.wrap .i64 (id-1)) r3.2.length).bind fun q3=>
 (r3.2)[q3]?.bind fun r4=>
 some ((.inr (some (0,(0,(splice (List.replicate (α:=UInt8) q 0) 0 (List.take (List.replicate (α:=UInt8) q 0).length r)).length)))),(r3.1,(h3,(h4,(h5,(h6,(h7,(h8,(h9,(h10,(h11,(h12,(h13,(h14,(h15,(h16,(h17,(h6,(h7,(h20,(size,(h22,(h23,((List.set r3.2 q3 (r4.1,(r4.2.1,(r4.2.2.1,(r4.2.2.2.1,(size,r4.2.2.2.2.2)))))),((List.set (List.map (liftT (.ref 3 .byte)) r1) q2 (.inr (some (0,(0,(splice (List.replicate (α:=UInt8) q 0) 0 (List.take (List.replicate (α:=UInt8) q 0).length r)).length))))),([]++[(1,(splice (List.replicate (α:=UInt8) q 0) 0 (List.take (List.replicate (α:=UInt8) q 0).length r)))]))))))))))))))))))))))))))
def mdoesizW_fa:FnA:=⟨.two lf (.two (.reg [(1,{ids:=[100]})]) (.two lf (.two (.reg [(5,{ids:=[101]})]) (.pre (.newFam 3 5 .byte) (.pre (.toRef 101 (.ref 3 .byte)) (.pre (.mem 7 3) (.two lf (.two (.reg [(5,{ids:=[102],fn:=1})]) (.two lf (.two lf lf)))))))))),⟨(.cons (.own 0 0 0 0) qL50),[(0,false,qB4)]⟩,[⟨(.cons (.p (.ref 3 .byte)) .nil),[(0,false,qB69),(1,false,(.rows 56 qY0)),(2,false,(.rows 40 (.ref 3 .byte))),(999987,false,(.fam 5 .byte))]⟩],[0]⟩
def mdoesizW_ft(fu:Nat):FnT:=⟨88,mdoesizW_fa.i,mdoesizW_fa.os,u26 (mdoesizW fu)⟩
theorem h5Z(fu:Nat):Told Tryz.prog (mdoesizW_ft fu):=tk fu mdoesizW_fa (aaZ (gCZ fu) (aaZ (dGZ fu) abZ)) Tryz.func88 (by kernel_rfl) fun t=>by kernel_rfl
def mdoewri(fu:Nat)(h:List (qT2))(h1:Int)(h2:List (List (UInt8)))(h3:Int)(h4:Int)(h5:Int)(h6:Int)(h7:Int)(h8:List UInt8)(h9:Int)(h10:Int)(h11:List UInt8)(h12:Int)(h13:Int)(h14:List (UInt8))(h15:Int)(h16:Int)(h17:Int)(h18:Int)(h19:Int)(h20:Bool)(h21:Int)(h22:Bool)(h23:Int):Option ((Int×qT15)):=
 (mdoefil fu h h1 h2 h3 h4 h5 h6 h7 h8 h9 h10 h11 h12 h13 h14 h15 h16 h17 h18 h19 h20 h21 h22 h23).bind fun r=>
 bif (!(r.2.2.1==0)) then
  some (r.2.2.1,(r.2.2.2.1,(r.2.2.2.2.1,(r.2.2.2.2.2.1,(r.2.2.2.2.2.2.1,(r.2.2.2.2.2.2.2.1,(r.2.2.2.2.2.2.2.2.1,(r.2.2.2.2.2.2.2.2.2.1,(r.2.2.2.2.2.2.2.2.2.2.1,(r.2.2.2.2.2.2.2.2.2.2.2.1,(r.2.2.2.2.2.2.2.2.2.2.2.2.1,(r.2.2.2.2.2.2.2.2.2.2.2.2.2.1,(r.2.2.2.2.2.2.2.2.2.2.2.2.2.2.1,(r.2.2.2.2.2.2.2.2.2.2.2.2.2.2.2.1,(r.2.2.2.2.2.2.2.2.2.2.2.2.2.2.2.2.1,(r.2.2.2.2.2.2.2.2.2.2.2.2.2.2.2.2.2.1,(r.2.2.2.2.2.2.2.2.2.2.2.2.2.2.2.2.2.2.1,(r.2.2.2.2.2.2.2.2.2.2.2.2.2.2.2.2.2.2.2.1,(r.2.2.2.2.2.2.2.2.2.2.2.2.2.2.2.2.2.2.2.2.1,(r.2.2.2.2.2.2.2.2.2.2.2.2.2.2.2.2.2.2.2.2.2.1,(r.2.2.2.2.2.2.2.2.2.2.2.2.2.2.2.2.2.2.2.2.2.2.1,(r.2.2.2.2.2.2.2.2.2.2.2.2.2.2.2.2.2.2.2.2.2.2.2.1,(r.2.2.2.2.2.2.2.2.2.2.2.2.2.2.2.2.2.2.2.2.2.2.2.2.1,(r.2.2.2.2.2.2.2.2.2.2.2.2.2.2.2.2.2.2.2.2.2.2.2.2.2.1,r.2.2.2.2.2.2.2.2.2.2.2.2.2.2.2.2.2.2.2.2.2.2.2.2.2.2))))))))))))))))))))))))
 else
  bif (decide ((IntKind.wrap .i64 (r.2.2.2.2.2.2.2.2.2.2.2.2.2.2.2.1+((r.2.2.2.2.2.2.2.2.2.2.2.2.2.2.2.2.2.1.length:Nat):Int)))>65536)) then
   some (177,(r.2.2.2.1,(r.2.2.2.2.1,(r.2.2.2.2.2.1,(r.2.2.2.2.2.2.1,(r.2.2.2.2.2.2.2.1,(r.2.2.2.2.2.2.2.2.1,(r.2.2.2.2.2.2.2.2.2.1,(r.2.2.2.2.2.2.2.2.2.2.1,(r.2.2.2.2.2.2.2.2.2.2.2.1,(r.2.2.2.2.2.2.2.2.2.2.2.2.1,(r.2.2.2.2.2.2.2.2.2.2.2.2.2.1,(r.2.2.2.2.2.2.2.2.2.2.2.2.2.2.1,(r.2.2.2.2.2.2.2.2.2.2.2.2.2.2.2.1,(r.2.2.2.2.2.2.2.2.2.2.2.2.2.2.2.2.1,(r.2.2.2.2.2.2.2.2.2.2.2.2.2.2.2.2.2.1,(r.2.2.2.2.2.2.2.2.2.2.2.2.2.2.2.2.2.2.1,(r.2.2.2.2.2.2.2.2.2.2.2.2.2.2.2.2.2.2.2.1,(r.2.2.2.2.2.2.2.2.2.2.2.2.2.2.2.2.2.2.2.2.1,(r.2.2.2.2.2.2.2.2.2.2.2.2.2.2.2.2.2.2.2.2.2.1,(r.2.2.2.2.2.2.2.2.2.2.2.2.2.2.2.2.2.2.2.2.2.2.1,(r.2.2.2.2.2.2.2.2.2.2.2.2.2.2.2.2.2.2.2.2.2.2.2.1,(r.2.2.2.2.2.2.2.2.2.2.2.2.2.2.2.2.2.2.2.2.2.2.2.2.1,(r.2.2.2.2.2.2.2.2.2.2.2.2.2.2.2.2.2.2.2.2.2.2.2.2.2.1,r.2.2.2.2.2.2.2.2.2.2.2.2.2.2.2.2.2.2.2.2.2.2.2.2.2.2))))))))))))))))))))))))
  else
   Option.bind (α:=((Int×qT15))) (
    bif (((r.2.2.2.2.2.2.2.2.2.2.2.2.2.2.2.2.2.1.length:Nat):Int)==0) then
     some (0,(r.2.2.2.1,(r.2.2.2.2.1,(r.2.2.2.2.2.1,(r.2.2.2.2.2.2.1,(r.2.2.2.2.2.2.2.1,(r.2.2.2.2.2.2.2.2.1,(r.2.2.2.2.2.2.2.2.2.1,(r.2.2.2.2.2.2.2.2.2.2.1,(r.2.2.2.2.2.2.2.2.2.2.2.1,(r.2.2.2.2.2.2.2.2.2.2.2.2.1,(r.2.2.2.2.2.2.2.2.2.2.2.2.2.1,(r.2.2.2.2.2.2.2.2.2.2.2.2.2.2.1,(r.2.2.2.2.2.2.2.2.2.2.2.2.2.2.2.1,(r.2.2.2.2.2.2.2.2.2.2.2.2.2.2.2.2.1,(r.2.2.2.2.2.2.2.2.2.2.2.2.2.2.2.2.2.1,(r.2.2.2.2.2.2.2.2.2.2.2.2.2.2.2.2.2.2.1,(r.2.2.2.2.2.2.2.2.2.2.2.2.2.2.2.2.2.2.2.1,(r.2.2.2.2.2.2.2.2.2.2.2.2.2.2.2.2.2.2.2.2.1,(r.2.2.2.2.2.2.2.2.2.2.2.2.2.2.2.2.2.2.2.2.2.1,(r.2.2.2.2.2.2.2.2.2.2.2.2.2.2.2.2.2.2.2.2.2.2.1,(r.2.2.2.2.2.2.2.2.2.2.2.2.2.2.2.2.2.2.2.2.2.2.2.1,(r.2.2.2.2.2.2.2.2.2.2.2.2.2.2.2.2.2.2.2.2.2.2.2.2.1,(r.2.2.2.2.2.2.2.2.2.2.2.2.2.2.2.2.2.2.2.2.2.2.2.2.2.1,r.2.2.2.2.2.2.2.2.2.2.2.2.2.2.2.2.2.2.2.2.2.2.2.2.2.2))))))))))))))))))))))))
    else
     some ((IntKind.wrap .i64 (r.2.2.2.2.2.2.2.2.2.2.2.2.2.2.2.1+((r.2.2.2.2.2.2.2.2.2.2.2.2.2.2.2.2.2.1.length:Nat):Int))),(r.2.2.2.1,(r.2.2.2.2.1,(r.2.2.2.2.2.1,(r.2.2.2.2.2.2.1,(r.2.2.2.2.2.2.2.1,(r.2.2.2.2.2.2.2.2.1,(r.2.2.2.2.2.2.2.2.2.1,(r.2.2.2.2.2.2.2.2.2.2.1,(r.2.2.2.2.2.2.2.2.2.2.2.1,(r.2.2.2.2.2.2.2.2.2.2.2.2.1,(r.2.2.2.2.2.2.2.2.2.2.2.2.2.1,(r.2.2.2.2.2.2.2.2.2.2.2.2.2.2.1,(r.2.2.2.2.2.2.2.2.2.2.2.2.2.2.2.1,(r.2.2.2.2.2.2.2.2.2.2.2.2.2.2.2.2.1,(r.2.2.2.2.2.2.2.2.2.2.2.2.2.2.2.2.2.1,(r.2.2.2.2.2.2.2.2.2.2.2.2.2.2.2.2.2.2.1,(r.2.2.2.2.2.2.2.2.2.2.2.2.2.2.2.2.2.2.2.1,(r.2.2.2.2.2.2.2.2.2.2.2.2.2.2.2.2.2.2.2.2.1,(r.2.2.2.2.2.2.2.2.2.2.2.2.2.2.2.2.2.2.2.2.2.1,(r.2.2.2.2.2.2.2.2.2.2.2.2.2.2.2.2.2.2.2.2.2.2.1,(r.2.2.2.2.2.2.2.2.2.2.2.2.2.2.2.2.2.2.2.2.2.2.2.1,(r.2.2.2.2.2.2.2.2.2.2.2.2.2.2.2.2.2.2.2.2.2.2.2.2.1,(r.2.2.2.2.2.2.2.2.2.2.2.2.2.2.2.2.2.2.2.2.2.2.2.2.2.1,r.2.2.2.2.2.2.2.2.2.2.2.2.2.2.2.2.2.2.2.2.2.2.2.2.2.2))))))))))))))))))))))))) fun o=>
   (mdoesizW fu r.1 (if o.1>((r.2.1.length:Nat):Int) then o.1 else((r.2.1.length:Nat):Int)) o.2.1 o.2.2.1 o.2.2.2.1 o.2.2.2.2.1 o.2.2.2.2.2.1 o.2.2.2.2.2.2.1 o.2.2.2.2.2.2.2.1 o.2.2.2.2.2.2.2.2.1 o.2.2.2.2.2.2.2.2.2.1 o.2.2.2.2.2.2.2.2.2.2.1 o.2.2.2.2.2.2.2.2.2.2.2.1 o.2.2.2.2.2.2.2.2.2.2.2.2.1 o.2.2.2.2.2.2.2.2.2.2.2.2.2.1 o.2.2.2.2.2.2.2.2.2.2.2.2.2.2.1 o.2.2.2.2.2.2.2.2.2.2.2.2.2.2.2.1 o.2.2.2.2.2.2.2.2.2.2.2.2.2.2.2.2.1 o.2.2.2.2.2.2.2.2.2.2.2.2.2.2.2.2.2.1 o.2.2.2.2.2.2.2.2.2.2.2.2.2.2.2.2.2.2.1 o.2.2.2.2.2.2.2.2.2.2.2.2.2.2.2.2.2.2.2.1 o.2.2.2.2.2.2.2.2.2.2.2.2.2.2.2.2.2.2.2.2.1 o.2.2.2.2.2.2.2.2.2.2.2.2.2.2.2.2.2.2.2.2.2.1 o.2.2.2.2.2.2.2.2.2.2.2.2.2.2.2.2.2.2.2.2.2.2.1 o.2.2.2.2.2.2.2.2.2.2.2.2.2.2.2.2.2.2.2.2.2.2.2.1 o.2.2.2.2.2.2.2.2.2.2.2.2.2.2.2.2.2.2.2.2.2.2.2.2).bind fun r1=>
   (upto? (if(((refLen (s:=.byte) r1.1):Nat):Int)<r1.2.2.2.2.2.2.2.2.2.2.2.1 then(((refLen (s:=.byte) r1.1):Nat):Int) else r1.2.2.2.2.2.2.2.2.2.2.2.1) (refLen (s:=.byte) r1.1)).bind fun q=>
   (refPut (α:=UInt8) r1.2.2.2.2.2.2.2.2.2.2.2.2.2.2.2.2.2.2.2.2.2.2.2.2.2 (refSub (α:=UInt8) r1.1 q ((refLen (s:=.byte) r1.1)-q)) r1.2.2.2.2.2.2.2.2.2.2.2.2.2.1).bind fun m=>
   (unrefL (unrefD [⟨3,.byte,(List.map frz1 m.1)⟩] (.ref 3 .byte)) r1.2.2.2.2.2.2.2.2.2.2.2.2.2.2.2.2.2.2.2.2.2.2.2.2.1).bind fun l=>
   some (0,(r1.2.2.2.2.2.2.2.2.2.2.2.2.2.2.2.2.2.2.2.2.2.2.2.1,(r1.2.1,(l,(r1.2.2.1,(r1.2.2.2.1,(r1.2.2.2.2.1,(r1.2.2.2.2.2.1,(r1.2.2.2.2.2.2.1,(r1.2.2.2.2.2.2.2.1,(r1.2.2.2.2.2.2.2.2.1,(r1.2.2.2.2.2.2.2.2.2.1,(r1.2.2.2.2.2.2.2.2.2.2.1,(r1.2.2.2.2.2.2.2.2.2.2.2.1,(r1.2.2.2.2.2.2.2.2.2.2.2.2.1,(r1.2.2.2.2.2.2.2.2.2.2.2.2.2.1,(r1.2.2.2.2.2.2.2.2.2.2.2.2.2.2.1,(r1.2.2.2.2.2.2.2.2.2.2.2.2.2.2.2.1,(r1.2.2.2.2.2.2.2.2.2.2.2.2.2.2.2.2.1,(r1.2.2.2.2.2.2.2.2.2.2.2.2.2.2.2.2.2.1,(r1.2.2.2.2.2.2.2.2.2.2.2.2.2.2.2.2.2.2.1,(r1.2.2.2.2.2.2.2.2.2.2.2.2.2.2.2.2.2.2.2.1,(r1.2.2.2.2.2.2.2.2.2.2.2.2.2.2.2.2.2.2.2.2.1,(r1.2.2.2.2.2.2.2.2.2.2.2.2.2.2.2.2.2.2.2.2.2.1,r1.2.2.2.2.2.2.2.2.2.2.2.2.2.2.2.2.2.2.2.2.2.2.1))))))))))))))))))))))))
def mdoewri_fa:FnA:=⟨.two lf (.two (.reg [(1,{sh:=[0]})]) (.two lf (.two (.one (.two lf (.two lf (.two lf (.two lf (.two lf (.join ⟨[0,6],⟨(.cons (.own 0 0 0 0) qL6),[(0,false,qB4)]⟩⟩ false [] lf))))))) (.two (.reg [(6,{ids:=[100,101,999987],sh:=[0],fn:=1})]) (.two lf (.two lf (.pre (.pureCell 0 0) (.pre (.pureCell 0 2) lf)))))))),⟨qL72,[(0,false,qB4)]⟩,[⟨qL6,[(0,false,qB4)]⟩],[0]⟩
def mdoewri_ft(fu:Nat):FnT:=⟨46,mdoewri_fa.i,mdoewri_fa.os,u24 (mdoewri fu)⟩
theorem iSZ(fu:Nat):Told Tryz.prog (mdoewri_ft fu):=tk fu mdoewri_fa (aaZ (c8Z fu) (aaZ (h5Z fu) abZ)) Tryz.func46 (by kernel_rfl) fun t=>by kernel_rfl
def mdoesiz2(fu:Nat)(id:Int)(size:Int)(h:List (qT2))(h1:Int)(h2:List (List (UInt8)))(h3:Int)(h4:Int)(h5:Int)(h6:Int)(h7:Int)(h8:List UInt8)(h9:Int)(h10:Int)(h11:List UInt8)(h12:Int)(h13:Int)(h14:List (UInt8))(h15:Int)(h16:Int)(h17:Int)(h18:Int)(h19:Int)(h20:Bool)(h21:Int)(h22:Bool)(h23:Int):Option ((List (UInt8)×(Int×(Int×(Int×(Int×(Int×(Int×(List UInt8×(Int×(Int×(List UInt8×(Int×(Int×(List (UInt8)×(Int×(Int×(Int×(Int×(Int×(Bool×(Int×(Bool×(Int×(List (qT2)×List (List (UInt8))))))))))))))))))))))))))):=
 (upto? size room).bind fun m=>
 (upto? size m).bind fun q=>
 need (Nat.ble (m*1) room)<|
 (idx? (IntKind.wrap .i64 (id-1)) h2.length).bind fun q1=>
 (h2)[q1]?.bind fun r=>
 (sClo8 fu h2).bind fun r1=>
 (idx? (IntKind.wrap .i64 (id-1)) r1.length).bind fun q2=>
 (r1)[q2]?.bind fun r2=>
 (mcop fu (h,h1)).bind fun r3=>
 (idx? (IntKind.wrap .i64 (id-1)) r3.2.length).bind fun q3=>
 (r3.2)[q3]?.bind fun r4=>
 some ((splice (List.replicate (α:=UInt8) q 0) 0 (List.take (List.replicate (α:=UInt8) q 0).length r)),(r3.1,(h3,(h4,(h5,(h6,(h7,(h8,(h9,(h10,(h11,(h12,(h13,(h14,(h15,(h16,(h17,(h6,(h7,(h20,(size,(h22,(h23,((List.set r3.2 q3 (r4.1,(r4.2.1,(r4.2.2.1,(r4.2.2.2.1,(size,r4.2.2.2.2.2)))))),(List.set r1 q2 (splice (List.replicate (α:=UInt8) q 0) 0 (List.take (List.replicate (α:=UInt8) q 0).length r)))))))))))))))))))))))))))
def mdoesiz2_fa:FnA:=⟨.two lf (.two (.reg [(1,{ids:=[100]})]) (.two lf (.two (.reg [(5,{ids:=[101]})]) (.two lf (.two (.reg [(5,{ids:=[102],fn:=1})]) (.two lf (.two lf lf))))))),⟨(.cons (.own 0 0 0 0) qL50),[(0,false,qB4)]⟩,[⟨(.cons (.p (.sl .byte)) .nil),[(0,false,qB69),(1,false,(.rows 56 qY0)),(2,false,(.rows 40 (.sl .byte)))]⟩],[1]⟩
def mdoesiz2_ft(fu:Nat):FnT:=⟨88,mdoesiz2_fa.i,mdoesiz2_fa.os,u26 (mdoesiz2 fu)⟩
theorem hIZ(fu:Nat):Told Tryz.prog (mdoesiz2_ft fu):=tk fu mdoesiz2_fa (aaZ (gCZ fu) (aaZ (dGZ fu) abZ)) Tryz.func88 (by kernel_rfl) fun t=>by kernel_rfl
def mdoesiz(fu:Nat)(h:List (qT2))(h1:Int)(h2:List (List (UInt8)))(h3:Int)(h4:Int)(h5:Int)(h6:Int)(h7:Int)(h8:List UInt8)(h9:Int)(h10:Int)(h11:List UInt8)(h12:Int)(h13:Int)(h14:List (UInt8))(h15:Int)(h16:Int)(h17:Int)(h18:Int)(h19:Int)(h20:Bool)(h21:Int)(h22:Bool)(h23:Int):Option ((Int×qT15)):=
 (mdoefil fu h h1 h2 h3 h4 h5 h6 h7 h8 h9 h10 h11 h12 h13 h14 h15 h16 h17 h18 h19 h20 h21 h22 h23).bind fun r=>
 bif (!(r.2.2.1==0)) then
  some (r.2.2.1,(r.2.2.2.1,(r.2.2.2.2.1,(r.2.2.2.2.2.1,(r.2.2.2.2.2.2.1,(r.2.2.2.2.2.2.2.1,(r.2.2.2.2.2.2.2.2.1,(r.2.2.2.2.2.2.2.2.2.1,(r.2.2.2.2.2.2.2.2.2.2.1,(r.2.2.2.2.2.2.2.2.2.2.2.1,(r.2.2.2.2.2.2.2.2.2.2.2.2.1,(r.2.2.2.2.2.2.2.2.2.2.2.2.2.1,(r.2.2.2.2.2.2.2.2.2.2.2.2.2.2.1,(r.2.2.2.2.2.2.2.2.2.2.2.2.2.2.2.1,(r.2.2.2.2.2.2.2.2.2.2.2.2.2.2.2.2.1,(r.2.2.2.2.2.2.2.2.2.2.2.2.2.2.2.2.2.1,(r.2.2.2.2.2.2.2.2.2.2.2.2.2.2.2.2.2.2.1,(r.2.2.2.2.2.2.2.2.2.2.2.2.2.2.2.2.2.2.2.1,(r.2.2.2.2.2.2.2.2.2.2.2.2.2.2.2.2.2.2.2.2.1,(r.2.2.2.2.2.2.2.2.2.2.2.2.2.2.2.2.2.2.2.2.2.1,(r.2.2.2.2.2.2.2.2.2.2.2.2.2.2.2.2.2.2.2.2.2.2.1,(r.2.2.2.2.2.2.2.2.2.2.2.2.2.2.2.2.2.2.2.2.2.2.2.1,(r.2.2.2.2.2.2.2.2.2.2.2.2.2.2.2.2.2.2.2.2.2.2.2.2.1,(r.2.2.2.2.2.2.2.2.2.2.2.2.2.2.2.2.2.2.2.2.2.2.2.2.2.1,r.2.2.2.2.2.2.2.2.2.2.2.2.2.2.2.2.2.2.2.2.2.2.2.2.2.2))))))))))))))))))))))))
 else
  bif (decide (r.2.2.2.2.2.2.2.2.2.2.2.2.2.2.2.2.1>65536)) then
   some (177,(r.2.2.2.1,(r.2.2.2.2.1,(r.2.2.2.2.2.1,(r.2.2.2.2.2.2.1,(r.2.2.2.2.2.2.2.1,(r.2.2.2.2.2.2.2.2.1,(r.2.2.2.2.2.2.2.2.2.1,(r.2.2.2.2.2.2.2.2.2.2.1,(r.2.2.2.2.2.2.2.2.2.2.2.1,(r.2.2.2.2.2.2.2.2.2.2.2.2.1,(r.2.2.2.2.2.2.2.2.2.2.2.2.2.1,(r.2.2.2.2.2.2.2.2.2.2.2.2.2.2.1,(r.2.2.2.2.2.2.2.2.2.2.2.2.2.2.2.1,(r.2.2.2.2.2.2.2.2.2.2.2.2.2.2.2.2.1,(r.2.2.2.2.2.2.2.2.2.2.2.2.2.2.2.2.2.1,(r.2.2.2.2.2.2.2.2.2.2.2.2.2.2.2.2.2.2.1,(r.2.2.2.2.2.2.2.2.2.2.2.2.2.2.2.2.2.2.2.1,(r.2.2.2.2.2.2.2.2.2.2.2.2.2.2.2.2.2.2.2.2.1,(r.2.2.2.2.2.2.2.2.2.2.2.2.2.2.2.2.2.2.2.2.2.1,(r.2.2.2.2.2.2.2.2.2.2.2.2.2.2.2.2.2.2.2.2.2.2.1,(r.2.2.2.2.2.2.2.2.2.2.2.2.2.2.2.2.2.2.2.2.2.2.2.1,(r.2.2.2.2.2.2.2.2.2.2.2.2.2.2.2.2.2.2.2.2.2.2.2.2.1,(r.2.2.2.2.2.2.2.2.2.2.2.2.2.2.2.2.2.2.2.2.2.2.2.2.2.1,r.2.2.2.2.2.2.2.2.2.2.2.2.2.2.2.2.2.2.2.2.2.2.2.2.2.2))))))))))))))))))))))))
  else
   (mdoesiz2 fu r.1 r.2.2.2.2.2.2.2.2.2.2.2.2.2.2.2.2.1 r.2.2.2.1 r.2.2.2.2.1 r.2.2.2.2.2.1 r.2.2.2.2.2.2.1 r.2.2.2.2.2.2.2.1 r.2.2.2.2.2.2.2.2.1 r.2.2.2.2.2.2.2.2.2.1 r.2.2.2.2.2.2.2.2.2.2.1 r.2.2.2.2.2.2.2.2.2.2.2.1 r.2.2.2.2.2.2.2.2.2.2.2.2.1 r.2.2.2.2.2.2.2.2.2.2.2.2.2.1 r.2.2.2.2.2.2.2.2.2.2.2.2.2.2.1 r.2.2.2.2.2.2.2.2.2.2.2.2.2.2.2.1 r.2.2.2.2.2.2.2.2.2.2.2.2.2.2.2.2.1 r.2.2.2.2.2.2.2.2.2.2.2.2.2.2.2.2.2.1 r.2.2.2.2.2.2.2.2.2.2.2.2.2.2.2.2.2.2.1 r.2.2.2.2.2.2.2.2.2.2.2.2.2.2.2.2.2.2.2.1 r.2.2.2.2.2.2.2.2.2.2.2.2.2.2.2.2.2.2.2.2.1 r.2.2.2.2.2.2.2.2.2.2.2.2.2.2.2.2.2.2.2.2.2.1 r.2.2.2.2.2.2.2.2.2.2.2.2.2.2.2.2.2.2.2.2.2.2.1 r.2.2.2.2.2.2.2.2.2.2.2.2.2.2.2.2.2.2.2.2.2.2.2.1 r.2.2.2.2.2.2.2.2.2.2.2.2.2.2.2.2.2.2.2.2.2.2.2.2.1 r.2.2.2.2.2.2.2.2.2.2.2.2.2.2.2.2.2.2.2.2.2.2.2.2.2.1 r.2.2.2.2.2.2.2.2.2.2.2.2.2.2.2.2.2.2.2.2.2.2.2.2.2.2).bind fun r1=>
   some (0,(r1.2.2.2.2.2.2.2.2.2.2.2.2.2.2.2.2.2.2.2.2.2.2.2.1,(r1.2.1,(r1.2.2.2.2.2.2.2.2.2.2.2.2.2.2.2.2.2.2.2.2.2.2.2.2,(r1.2.2.1,(r1.2.2.2.1,(r1.2.2.2.2.1,(r1.2.2.2.2.2.1,(r1.2.2.2.2.2.2.1,(r1.2.2.2.2.2.2.2.1,(r1.2.2.2.2.2.2.2.2.1,(r1.2.2.2.2.2.2.2.2.2.1,(r1.2.2.2.2.2.2.2.2.2.2.1,(r1.2.2.2.2.2.2.2.2.2.2.2.1,(r1.2.2.2.2.2.2.2.2.2.2.2.2.1,(r1.2.2.2.2.2.2.2.2.2.2.2.2.2.1,(r1.2.2.2.2.2.2.2.2.2.2.2.2.2.2.1,(r1.2.2.2.2.2.2.2.2.2.2.2.2.2.2.2.1,(r1.2.2.2.2.2.2.2.2.2.2.2.2.2.2.2.2.1,(r1.2.2.2.2.2.2.2.2.2.2.2.2.2.2.2.2.2.1,(r1.2.2.2.2.2.2.2.2.2.2.2.2.2.2.2.2.2.2.1,(r1.2.2.2.2.2.2.2.2.2.2.2.2.2.2.2.2.2.2.2.1,(r1.2.2.2.2.2.2.2.2.2.2.2.2.2.2.2.2.2.2.2.2.1,(r1.2.2.2.2.2.2.2.2.2.2.2.2.2.2.2.2.2.2.2.2.2.1,r1.2.2.2.2.2.2.2.2.2.2.2.2.2.2.2.2.2.2.2.2.2.2.1))))))))))))))))))))))))
def mdoesiz_fa:FnA:=⟨.two lf (.two (.reg [(1,{sh:=[0]})]) (.two (.one (.two lf (.two lf (.two lf (.two lf lf))))) (.two (.reg [(7,{ids:=[100,101],sh:=[0],fn:=1})]) (.two lf (.pre (.pureCell 0 0) (.pre (.pureCell 0 2) lf)))))),⟨qL72,[(0,false,qB4)]⟩,[⟨qL6,[(0,false,qB4)]⟩],[0]⟩
def mdoesiz_ft(fu:Nat):FnT:=⟨47,mdoesiz_fa.i,mdoesiz_fa.os,u24 (mdoesiz fu)⟩
theorem iEZ(fu:Nat):Told Tryz.prog (mdoesiz_ft fu):=tk fu mdoesiz_fa (aaZ (c8Z fu) (aaZ (hIZ fu) abZ)) Tryz.func47 (by kernel_rfl) fun t=>by kernel_rfl
def tmis(fu:Nat)(dir:Bool)(n:qT2):Option (Int):=
 Option.bind (α:=((Bool×qT2))) (
  bif dir then
   some ((!n.2.2.2.1),(n.1,(n.2.1,(n.2.2.1,(n.2.2.2.1,(n.2.2.2.2.1,(n.2.2.2.2.2.1,(n.2.2.2.2.2.2.1,n.2.2.2.2.2.2.2))))))))
  else
   some (false,(n.1,(n.2.1,(n.2.2.1,(n.2.2.2.1,(n.2.2.2.2.1,(n.2.2.2.2.2.1,(n.2.2.2.2.2.2.1,n.2.2.2.2.2.2.2))))))))) fun o=>
 bif o.1 then
  some 173
 else
  Option.bind (α:=((Bool×qT2))) (
   bif (!dir) then
    some (o.2.2.2.2.1,(o.2.1,(o.2.2.1,(o.2.2.2.1,(o.2.2.2.2.1,(o.2.2.2.2.2.1,(o.2.2.2.2.2.2.1,(o.2.2.2.2.2.2.2.1,o.2.2.2.2.2.2.2.2))))))))
   else
    some (false,(o.2.1,(o.2.2.1,(o.2.2.2.1,(o.2.2.2.2.1,(o.2.2.2.2.2.1,(o.2.2.2.2.2.2.1,(o.2.2.2.2.2.2.2.1,o.2.2.2.2.2.2.2.2))))))))) fun o1=>
  bif o1.1 then
   some 174
  else
   bif (decide (((o1.2.2.2.2.2.2.2.2.length:Nat):Int)>0)) then
    some 175
   else
    some 0
def tmis_fa:FnA:=⟨.two (.reg [(0,{ids:=[100]})]) (.two (.one (.two (.join ⟨[3,5],⟨qL56,[(100,false,(.vars qL12))]⟩⟩ false [] lf) (.two lf (.two (.join ⟨[3,12],⟨qL56,[(100,false,(.vars qL12))]⟩⟩ false [] lf) (.two lf (.two lf (.two lf lf))))))) lf),⟨(.cons (.p .bool) (.cons (.p qY0) .nil)),[]⟩,[⟨qL6,[]⟩],[0]⟩
def tmis_ft(fu:Nat):FnT:=⟨124,tmis_fa.i,tmis_fa.os,fun t=>tmis fu t.1 t.2⟩
theorem i9Z(fu:Nat):Told Tryz.prog (tmis_ft fu):=tk fu tmis_fa abZ Tryz.func124 (by kernel_rfl) fun t=>by kernel_rfl
def tcopE_l0(fu:Nat)(r:List (qT2))(x:Int)(h:Int)(h1:List qT8)(h2:Int)(h3:List qT27):Option ((Int×(Int×(List qT8×(Int×List qT27))))⊕((Int×(List qT8×(Int×List qT27))))):=
 bif (decide (x<((r.length:Nat):Int))) then
  (idx? x h1.length).bind fun q=>
  (h1)[q]?.bind fun r1=>
  (sClo3 fu r1.2.2.2.2.2.1).bind fun r2=>
  (h1)[q]?.bind fun r3=>
  (lowD (.ref 1 (.pair .str (.int .i64))) r3.2.2.2.2.2.2.2).bind fun x1=>
  (sClo fu x1).bind fun r4=>
  (h1)[q]?.bind fun r5=>
  ((List.set h1 q (r5.1,(r5.2.1,(r5.2.2.1,(r5.2.2.2.1,(r5.2.2.2.2.1,(r2,r5.2.2.2.2.2.2))))))))[q]?.bind fun r6=>
  some (.inl ((IntKind.wrap .i64 (x+1)),(h,((List.set (List.set h1 q (r5.1,(r5.2.1,(r5.2.2.1,(r5.2.2.2.1,(r5.2.2.2.2.1,(r2,r5.2.2.2.2.2.2))))))) q (r6.1,(r6.2.1,(r6.2.2.1,(r6.2.2.2.1,(r6.2.2.2.2.1,(r6.2.2.2.2.2.1,(r6.2.2.2.2.2.2.1,(.inr (some (h3.length,(0,r4.length)))))))))))),(h2,(h3++[(1,r4)]))))))
 else
  some (.inr (h,(h1,(h2,h3))))
def tcopE_l0_it(fu:Nat)(r:List (qT2))(tt:(Int×(Int×(List qT8×(Int×List qT27))))):Option ((Int×(List qT8×(Int×List qT27)))):=
 iter fu (u5 (tcopE_l0 fu r)) tt
def tcopE(fu:Nat)(t:(List (qT2)×Int)):Option ((Int×(List qT8×List qT27))):=
 (sClo2 fu t.1).bind fun r=>
 (tcopE_l0_it fu r (0,(t.2,((List.map (liftT qY7) r),(0,[]))))).bind fun o=>
 some (o.1,(o.2.1,o.2.2.2))
def tcopE_fa:FnA:=⟨.two (.reg [(0,{ids:=[100]}),(1,{ids:=[101]})]) (.two (.reg [(2,{ids:=[102]})]) (.two (.two lf (.one (.pre (.newFam 1 108 (.pair .str (.int .i64))) (.pre (.toRef 102 qY7) (.loop ⟨[1,2,12],⟨(.cons (.own 0 100 0 0) (.cons (.own 0 101 0 0) qL6)),[(100,false,qB62),(102,false,(.rows 56 qY7)),(101,false,qB44),(999985,false,qB35)]⟩⟩ false [(0,⟨[1,2],⟨qL54,[(100,false,qB62),(102,false,(.rows 56 qY7)),(101,false,qB44),(999985,false,qB35)]⟩⟩)] (.two lf (.two lf (.two (.one (.two lf (.two lf (.reg [(6,{ids:=[103],fn:=1}),(11,{ids:=[104],md:=[3],fn:=2}),(17,{sh:=[104,999985]})])))) lf)))))))) lf)),⟨(.cons (.p qY53) .nil),[]⟩,[⟨(.cons (.agg (.cons (.slf 8 0) qL6)) .nil),[(0,false,(.rows 56 qY7)),(999985,false,qB35)]⟩],[0]⟩
def tcopE_ft(fu:Nat):FnT:=⟨120,tcopE_fa.i,tcopE_fa.os,fun t=>tcopE fu t⟩
theorem dRZ(fu:Nat):Told Tryz.prog (tcopE_ft fu):=tk fu tcopE_fa (aaZ (blZ fu) (aaZ (b3Z fu) (aaZ (brZ fu) abZ))) Tryz.func120 (by kernel_rfl) fun t=>by kernel_rfl
def ttak1(fu:Nat)(e:(List UInt8×Int))(h:List UInt8):Option ((Bool×List UInt8)):=
 some ((e.1==h),h)
def ttak1_fa:FnA:=⟨.two (.reg [(0,{ids:=[100]})]) lf,⟨(.cons (.p (.pair .str (.int .i64))) qL72),[(0,false,qB60)]⟩,[⟨(.cons (.p .bool) .nil),[(0,false,qB60)]⟩],[0]⟩
def ttak1_ft(fu:Nat):FnT:=⟨160,ttak1_fa.i,ttak1_fa.os,fun t=>ttak1 fu t.1 t.2⟩
theorem gsZ(fu:Nat):Told Tryz.prog (ttak1_ft fu):=tk fu ttak1_fa abZ Tryz.func160 (by kernel_rfl) fun t=>by kernel_rfl
def sIndFun7_l0(fu:Nat)(h:List ((List UInt8×Int)))(x:Int)(h2:List ((List UInt8×Int)))(h3:List UInt8):Option ((Int×qT64)⊕(qT64⊕(Int×qT64))):=
 bif (decide (x<((h.length:Nat):Int))) then
  (idx? x h2.length).bind fun q=>
  (h2)[q]?.bind fun r=>
  (ttak1 fu r h3).bind fun r1=>
  bif r1.1 then
   some (.inr (.inr (x,(h2,r1.2))))
  else
   some (.inl ((IntKind.wrap .i64 (x+1)),(h2,r1.2)))
 else
  some (.inr (.inl (h2,h3)))
def sIndFun7_l0_it(fu:Nat)(h:List ((List UInt8×Int)))(tt:(Int×qT64)):Option (qT64⊕(Int×qT64)):=
 iter fu (u3 (sIndFun7_l0 fu h)) tt
def sIndFun7(fu:Nat)(h:List ((List UInt8×Int)))(h1:List UInt8):Option ((Int×qT64)):=
 (sIndFun7_l0_it fu h (0,(h,h1))).bind fun o=>
 match o with
 |.inl s=>
  some ((-1),(s.1,s.2))
 |.inr o1=>
  some o1
def sIndFun7_fa:FnA:=⟨.two lf (.two (.two lf (.one (.loop ⟨[0,1,8],⟨(.cons (.slf 2 0) (.cons (.fn 160 .nil (.cons (.own 0 1 0 0) .nil)) qL6)),[(0,false,qB55),(1,false,qB60)]⟩⟩ true [(0,⟨[0,1],⟨(.cons (.slf 2 0) (.cons (.fn 160 .nil (.cons (.own 0 1 0 0) .nil)) .nil)),[(0,false,qB55),(1,false,qB60)]⟩⟩)] (.two lf (.two lf (.two (.one (.two lf (.two (.reg [(5,{sh:=[1]})]) (.two lf lf)))) lf)))))) lf),⟨(.cons (.slf 2 0) (.cons (.fn 160 .nil (.cons (.own 0 1 0 0) .nil)) .nil)),[(0,false,qB55),(1,false,qB60)]⟩,[⟨qL6,[(0,false,qB55),(1,false,qB60)]⟩],[0]⟩
def sIndFun7_ft(fu:Nat):FnT:=⟨147,sIndFun7_fa.i,sIndFun7_fa.os,fun t=>sIndFun7 fu t.1 t.2⟩
theorem h6Z(fu:Nat):Told Tryz.prog (sIndFun7_ft fu):=tk fu sIndFun7_fa (aaZ (gsZ fu) abZ) Tryz.func147 (by kernel_rfl) fun t=>by kernel_rfl
def sDelFun_l0(fu:Nat)(i:Int)(j:Int)(h2:List ((List UInt8×Int)))(h3:List UInt8):Option ((Int×(Int×qT64))⊕((Int×qT64))):=
 bif (decide (j<((h2.length:Nat):Int))) then
  (idx? j h2.length).bind fun q=>
  (h2)[q]?.bind fun r1=>
  (ttak1 fu (r1.1,r1.2) h3).bind fun r2=>
  Option.bind (α:=((Int×qT64))) (
   bif (!r2.1) then
    (idx? i h2.length).bind fun q1=>
    (h2)[q1]?.bind fun r3=>
    some ((IntKind.wrap .i64 (i+1)),((List.set h2 q1 (r1.1,r1.2)),r2.2))
   else
    some (i,(h2,r2.2))) fun o=>
  some (.inl (o.1,((IntKind.wrap .i64 (j+1)),(o.2.1,o.2.2))))
 else
  some (.inr (i,(h2,h3)))
def sDelFun_l0_it(fu:Nat)(tt:(Int×(Int×qT64))):Option ((Int×qT64)):=
 iter fu (u4 (sDelFun_l0 fu)) tt
def sDelFun(fu:Nat)(h:List ((List UInt8×Int)))(h1:List UInt8):Option (qT64⊕(List UInt8×List ((List UInt8×Int)))):=
 (sIndFun7 fu h h1).bind fun r=>
 bif (r.1==(-1)) then
  some (.inl (r.2.1,r.2.2))
 else
  (sDelFun_l0_it fu (r.1,((IntKind.wrap .i64 (r.1+1)),(r.2.1,r.2.2)))).bind fun o1=>
  (upto? o1.1 o1.2.1.length).bind fun q2=>
  need (Nat.ble (q2+(o1.2.1.length-q2)) o1.2.1.length)<|
  (upto? o1.1 (splice o1.2.1 q2 (List.replicate (α:=(List UInt8×Int)) (o1.2.1.length-q2) ([],0))).length).bind fun q3=>
  need (Nat.ble q3 (splice o1.2.1 q2 (List.replicate (α:=(List UInt8×Int)) (o1.2.1.length-q2) ([],0))).length)<|
  some (.inr (o1.2.2,(List.take q3 (splice o1.2.1 q2 (List.replicate (α:=(List UInt8×Int)) (o1.2.1.length-q2) ([],0))))))
def sDelFun_fa:FnA:=⟨.two lf (.two (.reg [(2,{sh:=[0,1]})]) (.two (.two lf (.two lf lf)) (.two (.two lf (.one (.loop ⟨[0,1,5,6],⟨(.cons (.slf 2 0) (.cons (.fn 160 .nil (.cons (.own 0 1 0 0) .nil)) qL50)),[(0,false,qB55),(1,false,qB60)]⟩⟩ false [(0,⟨[0,1,5],⟨(.cons (.slf 2 0) (.cons (.fn 160 .nil (.cons (.own 0 1 0 0) .nil)) qL6)),[(0,false,qB55),(1,false,qB60)]⟩⟩)] (.two (.two lf lf) (.two (.one (.two (.reg [(4,{ids:=[100]})]) (.two (.reg [(2,{sh:=[1],fn:=1})]) (.join ⟨[0,1,5],⟨(.cons (.slf 2 0) (.cons (.fn 160 .nil (.cons (.own 0 1 0 0) .nil)) qL6)),[(0,false,qB55),(1,false,qB60)]⟩⟩ false [] (.two lf lf))))) lf))))) (.two lf lf)))),⟨(.cons (.slf 2 0) (.cons (.fn 160 .nil (.cons (.own 0 1 0 0) .nil)) .nil)),[(0,false,qB55),(1,false,qB60)]⟩,[⟨(.cons (.slf 2 0) .nil),[(0,false,qB55),(1,false,qB60)]⟩,⟨(.cons (.slf 2 2) .nil),[(1,false,qB60),(2,false,qB55)]⟩],[118]⟩
def sDelFun_ft(fu:Nat):FnT:=⟨159,sDelFun_fa.i,sDelFun_fa.os,fun t=>sDelFun fu t.1 t.2⟩
theorem erZ(fu:Nat):Told Tryz.prog (sDelFun_ft fu):=tk fu sDelFun_fa (aaZ (h6Z fu) (aaZ (gsZ fu) abZ)) Tryz.func159 (by kernel_rfl) fun t=>by kernel_rfl
def ttak(fu:Nat)(dir:Int)(name:List UInt8)(h:Int)(h1:List qT8)(h2:List qT27):Option ((Int×(List qT8×List qT27))):=
 (idx? (IntKind.wrap .i64 (dir-1)) h1.length).bind fun q=>
 (h1)[q]?.bind fun r=>
 (openM h2 r.2.2.2.2.2.2.2).bind fun m=>
 (sDelFun fu m.1 name).bind fun r1=>
 match r1 with
 |.inl r2=>
  (h1)[q]?.bind fun r4=>
  some (h,((List.set h1 q (r4.1,(r4.2.1,(r4.2.2.1,(r4.2.2.2.1,(r4.2.2.2.2.1,(r4.2.2.2.2.2.1,(r4.2.2.2.2.2.2.1,(.inr (some (m.2.length,(0,r2.1.length)))))))))))),(m.2++[(1,r2.1)])))
 |.inr r3=>
  (h1)[q]?.bind fun r5=>
  some (h,((List.set h1 q (r5.1,(r5.2.1,(r5.2.2.1,(r5.2.2.2.1,(r5.2.2.2.2.1,(r5.2.2.2.2.2.1,(r5.2.2.2.2.2.2.1,(.inr (some (m.2.length,(0,r3.2.length)))))))))))),(m.2++[(1,r3.2)])))
def ttak_fa:FnA:=⟨.two (.reg [(0,{ids:=[100]})]) (.two lf (.reg [(6,{ids:=[101],sh:=[605118,100],md:=[505118,0]}),(9,{sh:=[605118,999985]})])),⟨(.cons (.own 0 0 0 0) (.cons (.p (.int .i64)) (.cons (.p .str) .nil))),[(0,false,(.vars (.cons (.slf 8 1) qL6))),(1,false,(.rows 56 qY7)),(999985,false,qB35)]⟩,[⟨.nil,[(0,false,(.vars (.cons (.slf 8 1) qL6))),(1,false,(.rows 56 qY7)),(999985,false,qB35)]⟩],[]⟩
def ttak_ft(fu:Nat):FnT:=⟨127,ttak_fa.i,ttak_fa.os,u5 (ttak fu)⟩
theorem eKZ(fu:Nat):Told Tryz.prog (ttak_ft fu):=tk fu ttak_fa (aaZ (erZ fu) abZ) Tryz.func127 (by kernel_rfl) fun t=>by kernel_rfl
def iDro1(fu:Nat)(p:(Int×Int)):Option (Bool):=
 some ((p.1==0)&&(p.2==0))
def iDro1_fa:FnA:=⟨.two (.reg [(0,{ids:=[100]})]) lf,⟨(.cons (.p qY5) .nil),[]⟩,[⟨(.cons (.p .bool) .nil),[]⟩],[0]⟩
def iDro1_ft(fu:Nat):FnT:=⟨176,iDro1_fa.i,iDro1_fa.os,fun t=>iDro1 fu t⟩
theorem gtZ(fu:Nat):Told Tryz.prog (iDro1_ft fu):=tk fu iDro1_fa abZ Tryz.func176 (by kernel_rfl) fun t=>by kernel_rfl
def sIndFun9_l0(fu:Nat)(s:List ((Int×Int)))(x:Int):Option (Int⊕(Unit⊕Int)):=
 bif (decide (x<((s.length:Nat):Int))) then
  (idx? x s.length).bind fun q=>
  (s)[q]?.bind fun r=>
  (iDro1 fu r).bind fun r1=>
  bif r1 then
   some (.inr (.inr x))
  else
   some (.inl (IntKind.wrap .i64 (x+1)))
 else
  some (.inr (.inl ()))
def sIndFun9_l0_it(fu:Nat)(s:List ((Int×Int)))(tt:Int):Option (Unit⊕Int):=
 iter fu (fun tt=>sIndFun9_l0 fu s tt) tt
def sIndFun9(fu:Nat)(s:List ((Int×Int))):Option (Int):=
 (sIndFun9_l0_it fu s 0).bind fun o=>
 match o with
 |.inl s1=>
  some (-1)
 |.inr o1=>
  some o1
def sIndFun9_fa:FnA:=⟨.two lf (.two (.two lf (.one (.loop ⟨[8],⟨qL6,[]⟩⟩ true [(0,⟨[],⟨.nil,[]⟩⟩)] (.two lf (.two lf (.two (.one (.two lf (.two (.reg [(5,{})]) (.two lf lf)))) lf)))))) lf),⟨(.cons (.p (.sl qY5)) (.cons (.fn 176 .nil .nil) .nil)),[]⟩,[⟨qL6,[]⟩],[0]⟩
def sIndFun9_ft(fu:Nat):FnT:=⟨148,sIndFun9_fa.i,sIndFun9_fa.os,fun t=>sIndFun9 fu t⟩
theorem gIZ(fu:Nat):Told Tryz.prog (sIndFun9_ft fu):=tk fu sIndFun9_fa (aaZ (gtZ fu) abZ) Tryz.func148 (by kernel_rfl) fun t=>by kernel_rfl
def sDelFun2_l0(fu:Nat)(i:Int)(j:Int)(h1:List ((Int×Int))):Option ((Int×(Int×List ((Int×Int))))⊕((Int×List ((Int×Int))))):=
 bif (decide (j<((h1.length:Nat):Int))) then
  (idx? j h1.length).bind fun q=>
  (h1)[q]?.bind fun r1=>
  (iDro1 fu (r1.1,r1.2)).bind fun r2=>
  Option.bind (α:=((Int×List ((Int×Int))))) (
   bif (!r2) then
    (idx? i h1.length).bind fun q1=>
    (h1)[q1]?.bind fun r3=>
    some ((IntKind.wrap .i64 (i+1)),(List.set h1 q1 (r1.1,r1.2)))
   else
    some (i,h1)) fun o=>
  some (.inl (o.1,((IntKind.wrap .i64 (j+1)),o.2)))
 else
  some (.inr (i,h1))
def sDelFun2_l0_it(fu:Nat)(tt:(Int×(Int×List ((Int×Int))))):Option ((Int×List ((Int×Int)))):=
 iter fu (u3 (sDelFun2_l0 fu)) tt
def sDelFun2(fu:Nat)(h:List ((Int×Int))):Option (List ((Int×Int))⊕List ((Int×Int))):=
 (sIndFun9 fu h).bind fun r=>
 bif (r==(-1)) then
  some (.inl h)
 else
  (sDelFun2_l0_it fu (r,((IntKind.wrap .i64 (r+1)),h))).bind fun o1=>
  (upto? o1.1 o1.2.length).bind fun q2=>
  need (Nat.ble (q2+(o1.2.length-q2)) o1.2.length)<|
  (upto? o1.1 (splice o1.2 q2 (List.replicate (α:=(Int×Int)) (o1.2.length-q2) (0,0))).length).bind fun q3=>
  need (Nat.ble q3 (splice o1.2 q2 (List.replicate (α:=(Int×Int)) (o1.2.length-q2) (0,0))).length)<|
  some (.inr (List.take q3 (splice o1.2 q2 (List.replicate (α:=(Int×Int)) (o1.2.length-q2) (0,0)))))
def sDelFun2_fa:FnA:=⟨.two lf (.two (.reg [(2,{md:=[2,0]})]) (.two (.two lf (.two lf lf)) (.two (.two lf (.one (.loop ⟨[0,5,6],⟨(.cons (.slf 2 0) qL50),[(0,false,(.rows 58 qY5))]⟩⟩ false [(0,⟨[0,5],⟨(.cons (.slf 2 0) qL6),[(0,false,(.rows 58 qY5))]⟩⟩)] (.two (.two lf lf) (.two (.one (.two (.reg [(4,{ids:=[100]})]) (.two (.reg [(2,{fn:=1})]) (.join ⟨[0,5],⟨(.cons (.slf 2 0) qL6),[(0,false,(.rows 58 qY5))]⟩⟩ false [] (.two lf lf))))) lf))))) (.two lf lf)))),⟨(.cons (.slf 2 0) (.cons (.fn 176 .nil .nil) .nil)),[(0,false,(.rows 58 qY5))]⟩,[⟨(.cons (.slf 2 0) .nil),[(0,false,(.rows 58 qY5))]⟩,⟨(.cons (.slf 2 1) .nil),[(1,false,(.rows 58 qY5))]⟩],[68]⟩
def sDelFun2_ft(fu:Nat):FnT:=⟨175,sDelFun2_fa.i,sDelFun2_fa.os,fun t=>sDelFun2 fu t⟩
theorem dKZ(fu:Nat):Told Tryz.prog (sDelFun2_ft fu):=tk fu sDelFun2_fa (aaZ (gIZ fu) (aaZ (gtZ fu) abZ)) Tryz.func175 (by kernel_rfl) fun t=>by kernel_rfl
def icopPgo0R_l0(fu:Nat)(r:List (qT2))(t1:Int)(x:Int)(h2:List qT8)(h3:Int)(h4:List qT45)(h5:Int)(h6:List qT59)(h7:List qT27):Option ((Int×(Int×(List qT8×(Int×(List qT45×(Int×(List qT59×List qT27)))))))⊕((Int×(List qT8×(Int×(List qT45×(Int×(List qT59×List qT27)))))))):=
 bif (decide (x<((r.length:Nat):Int))) then
  (idx? x h4.length).bind fun q=>
  (h4)[q]?.bind fun r1=>
  (lowD (.ref 0 qY5) r1.2.2.2.2.2.1).bind fun x1=>
  (inode_own fu (r1.1,(r1.2.1,(r1.2.2.1,(r1.2.2.2.1,(r1.2.2.2.2.1,(x1,(r1.2.2.2.2.2.2.1,r1.2.2.2.2.2.2.2)))))))).bind fun r2=>
  (idx? x h4.length).bind fun q1=>
  (h4)[q1]?.bind fun r3=>
  some (.inl (t1,((IntKind.wrap .i64 (x+1)),(h2,(h3,((List.set h4 q1 (r2.1,(r2.2.1,(r2.2.2.1,(r2.2.2.2.1,(r2.2.2.2.2.1,((.inr (some (h6.length,(0,r2.2.2.2.2.2.2.1.length)))),(r2.2.2.2.2.2.1,r2.2.2.2.2.2.2.2)))))))),(h5,((h6++[(1,r2.2.2.2.2.2.2.1)]),h7))))))))
 else
  some (.inr (t1,(h2,(h3,(h4,(h5,(h6,h7)))))))
def icopPgo0R_l0_it(fu:Nat)(r:List (qT2))(tt:(Int×(Int×(List qT8×(Int×(List qT45×(Int×(List qT59×List qT27)))))))):Option ((Int×(List qT8×(Int×(List qT45×(Int×(List qT59×List qT27))))))):=
 iter fu (u8 (icopPgo0R_l0 fu r)) tt
def icopPgo0R(fu:Nat)(t:Int)(h:List qT8)(h1:List qT27):Option ((Int×(List qT8×(List qT45×(List qT59×List qT27))))):=
 (unrefL (unrefD [⟨1,(.pair .str (.int .i64)),(List.map frz1 h1)⟩] qY7) h).bind fun l=>
 (sClo2 fu l).bind fun r=>
 (icopPgo0R_l0_it fu r (t,(0,(h,(t,((List.map (liftT qY30) r),(0,([],(List.map frz1 h1))))))))).bind fun o=>
 some (o.2.2.1,(o.2.1,(o.2.2.2.1,(o.2.2.2.2.2.1,o.2.2.2.2.2.2))))
def icopPgo0R_fa:FnA:=⟨.two (.reg [(0,{ids:=[100]}),(1,{ids:=[101]})]) (.two (.reg [(2,{ids:=[102],md:=[1]})]) (.two (.two lf (.one (.pre (.newFam 0 58 qY5) (.pre (.toRef 102 qY30) (.loop ⟨[0,1,2,10,12],⟨(.cons (.agg (.cons (.slf 8 0) qL6)) (.cons (.own 0 100 0 0) (.cons (.own 0 101 0 0) (.cons (.slf 8 102) qL6)))),[(0,true,(.rows 56 qY7)),(100,false,qB62),(102,false,(.rows 56 qY30)),(101,false,qB44),(999984,false,(.fam 58 qY5)),(999985,false,qB35)]⟩⟩ false [(0,⟨[0,1,2],⟨(.cons (.agg (.cons (.slf 8 0) qL6)) qL54),[(0,true,(.rows 56 qY7)),(100,false,qB62),(102,false,(.rows 56 qY30)),(101,false,qB44),(999984,false,(.fam 58 qY5)),(999985,false,qB35)]⟩⟩)] (.two lf (.two lf (.two (.one (.two (.reg [(3,{ids:=[103]})]) (.reg [(4,{ids:=[104,105],md:=[3],fn:=1}),(6,{sh:=[104,999984]})]))) lf)))))))) lf)),⟨(.cons (.agg (.cons (.slf 8 0) qL6)) .nil),[(0,false,(.rows 56 qY7)),(999985,false,qB35)]⟩,[⟨(.cons (.agg (.cons (.slf 8 1) qL6)) .nil),[(0,true,(.rows 56 qY7)),(1,false,(.rows 56 qY30)),(999984,false,(.fam 58 qY5)),(999985,false,qB35)]⟩],[0]⟩
def icopPgo0R_ft(fu:Nat):FnT:=⟨153,icopPgo0R_fa.i,icopPgo0R_fa.os,u3 (icopPgo0R fu)⟩
theorem ghZ(fu:Nat):Told Tryz.prog (icopPgo0R_ft fu):=tk fu icopPgo0R_fa (aaZ (blZ fu) (aaZ (bmZ fu) abZ)) Tryz.func153 (by kernel_rfl) fun t=>by kernel_rfl
def iDrogo0R(fu:Nat)(t:Int)(id:Int)(h:List qT8)(h1:List qT27):Option ((List (qT2)×(Int×(List ((Int×Int))×(Int×(List qT8×List qT27)))))):=
 (icopPgo0R fu t h h1).bind fun r=>
 (unrefL (unrefD [⟨1,(.pair .str (.int .i64)),(List.map frz1 r.2.2.2.2)⟩,⟨0,qY5,(List.map frz1 r.2.2.2.1)⟩] qY7) r.2.1).bind fun l=>
 (iRig fu (l,t)).bind fun r1=>
 bif (!r1) then
  (unrefL (unrefD [⟨1,(.pair .str (.int .i64)),(List.map frz1 r.2.2.2.2)⟩,⟨0,qY5,(List.map frz1 r.2.2.2.1)⟩] qY30) r.2.2.1).bind fun l6=>
  some (l6,(r.1,([],(180,(r.2.1,(List.map frz1 r.2.2.2.2))))))
 else
  Option.bind (α:=((Int×(Bool×(List qT8×(Int×(Int×(List qT45×(List qT59×List qT27))))))))) (
   bif (id==1) then
    some (t,(true,(r.2.1,(0,(r.1,(r.2.2.1,(r.2.2.2.1,r.2.2.2.2)))))))
   else
    (unrefL (unrefD [⟨1,(.pair .str (.int .i64)),(List.map frz1 r.2.2.2.2)⟩,⟨0,qY5,(List.map frz1 r.2.2.2.1)⟩] qY7) r.2.1).bind fun l1=>
    (inode_is fu (l1,t) id true).bind fun r2=>
    bif (!r2) then
     (unrefL (unrefD [⟨1,(.pair .str (.int .i64)),(List.map frz1 r.2.2.2.2)⟩,⟨0,qY5,(List.map frz1 r.2.2.2.1)⟩] qY7) r.2.1).bind fun l2=>
     (inode_is fu (l2,t) id false).bind fun r3=>
     some (t,((!r3),(r.2.1,(0,(r.1,(r.2.2.1,(r.2.2.2.1,r.2.2.2.2)))))))
    else
     some (t,(false,(r.2.1,(0,(r.1,(r.2.2.1,(r.2.2.2.1,r.2.2.2.2)))))))) fun o=>
  bif o.2.1 then
   (unrefL (unrefD [⟨1,(.pair .str (.int .i64)),(List.map frz1 o.2.2.2.2.2.2.2)⟩,⟨0,qY5,(List.map frz1 o.2.2.2.2.2.2.1)⟩] qY30) o.2.2.2.2.2.1).bind fun l7=>
   some (l7,(o.2.2.2.2.1,([],(2,(o.2.2.1,(List.map frz1 o.2.2.2.2.2.2.2))))))
  else
   (idx? (IntKind.wrap .i64 (id-1)) o.2.2.2.2.2.1.length).bind fun q=>
   Option.bind (α:=((Int×(Nat×(List qT8×(Int×(Int×(List qT45×(List ((Int×Int))×(List qT59×List qT27)))))))))) (
    (o.2.2.2.2.2.1)[q]?.bind fun r4=>
    (openM o.2.2.2.2.2.2.1 r4.2.2.2.2.2.1).bind fun m=>
    (sDelFun2 fu m.1).bind fun r5=>
    match r5 with
    |.inl r6=>
     some (o.1,(q,(o.2.2.1,(o.2.2.2.1,(o.2.2.2.2.1,(o.2.2.2.2.2.1,(r6,(m.2,o.2.2.2.2.2.2.2))))))))
    |.inr r7=>
     some (o.1,(q,(o.2.2.1,(o.2.2.2.1,(o.2.2.2.2.1,(o.2.2.2.2.2.1,(r7,(m.2,o.2.2.2.2.2.2.2))))))))) fun o1=>
   (o1.2.2.2.2.2.1)[o1.2.1]?.bind fun r8=>
   (o1.2.2.2.2.2.1)[o1.2.1]?.bind fun r9=>
   (unrefL (unrefD [⟨1,(.pair .str (.int .i64)),(List.map frz1 o1.2.2.2.2.2.2.2.2)⟩,⟨0,qY5,(List.map frz1 o1.2.2.2.2.2.2.2.1)⟩] qY30) (List.set o1.2.2.2.2.2.1 o1.2.1 (id,(r8.2.1,(false,(false,(0,((.inr none),(0,[]))))))))).bind fun l8=>
   some (l8,(o1.2.2.2.2.1,(o1.2.2.2.2.2.2.1,(0,(o1.2.2.1,(List.map frz1 o1.2.2.2.2.2.2.2.2))))))
def iDrogo0R_fa:FnA:=⟨.two (.reg [(0,{ids:=[100]}),(1,{ids:=[101]})]) (.two (.reg [(1,{ids:=[102,999984],sh:=[0,999985],md:=[3]}),(2,{ids:=[103]})]) (.two (.one (.two (.reg [(1,{md:=[2],fn:=1})]) (.two lf (.two (.join ⟨[0,4,7,17],⟨(.cons (.agg (.cons (.slf 8 0) qL6)) (.cons (.own 0 101 0 0) (.cons (.own 0 103 0 0) (.cons (.p .bool) .nil)))),[(0,true,(.rows 56 qY7)),(101,false,qB44),(103,false,qB62),(102,false,(.rows 56 qY30)),(999984,false,(.fam 58 qY5)),(999985,false,qB35)]⟩⟩ false [] (.reg [(5,{md:=[2,0,0],fn:=2}),(10,{md:=[2,0,0],fn:=2})])) (.two lf lf))))) (.two lf (.two (.join ⟨[0,4,7,8,9],⟨(.cons (.agg (.cons (.slf 8 0) qL6)) (.cons (.own 0 101 0 0) (.cons (.own 0 103 0 0) (.cons (.ownx 8 102 0) (.cons (.slf 2 620068) .nil))))),[(0,true,(.rows 56 qY7)),(101,false,qB44),(103,false,qB62),(102,false,(.rows 56 qY30)),(620068,false,(.rows 58 qY5)),(999984,false,(.fam 58 qY5)),(999985,false,qB35)]⟩⟩ false [] (.reg [(4,{ids:=[104],sh:=[620068],md:=[520068,0],fn:=3})])) (.two lf lf))))),⟨(.cons (.agg (.cons (.slf 8 0) qL6)) qL6),[(0,false,(.rows 56 qY7)),(999985,false,qB35)]⟩,[⟨(.cons (.agg (.cons (.p (.sl qY0)) qL6)) (.cons (.p (.sl qY5)) qL6)),[(0,true,(.rows 56 qY7)),(999985,false,qB35)]⟩],[1,1,0]⟩
def iDrogo0R_ft(fu:Nat):FnT:=⟨158,iDrogo0R_fa.i,iDrogo0R_fa.os,u4 (iDrogo0R fu)⟩
theorem gXZ(fu:Nat):Told Tryz.prog (iDrogo0R_ft fu):=tk fu iDrogo0R_fa (aaZ (ghZ fu) (aaZ (d9Z fu) (aaZ (cnZ fu) (aaZ (dKZ fu) abZ)))) Tryz.func158 (by kernel_rfl) fun t=>by kernel_rfl
def twit(fu:Nat)(t:(List (qT2)×Int))(dir:Int)(name:List UInt8)(id:Int):Option ((List (qT2)×(Int×(List ((Int×Int))×Int)))):=
 (tcopE fu (t.1,t.2)).bind fun r=>
 (ttak fu dir name r.1 r.2.1 r.2.2).bind fun r1=>
 (iDrogo0R fu r1.1 id r1.2.1 r1.2.2).bind fun r2=>
 some (r2.1,(r2.2.1,(r2.2.2.1,r2.2.2.2.1)))
def twit_fa:FnA:=⟨.two (.reg [(0,{ids:=[100]}),(1,{ids:=[101]})]) (.two (.reg [(1,{ids:=[102,999985]}),(2,{ids:=[103]})]) (.two (.reg [(2,{sh:=[103,102,999985],fn:=1})]) (.two (.reg [(2,{sh:=[102,999985],md:=[3,0],fn:=2})]) lf))),⟨(.cons (.p qY53) (.cons (.p (.int .i64)) (.cons (.p .str) qL6))),[]⟩,[⟨(.cons (.agg (.cons (.p (.sl qY0)) qL6)) (.cons (.p (.sl qY5)) qL6)),[]⟩],[0,0,0]⟩
def twit_ft(fu:Nat):FnT:=⟨125,twit_fa.i,twit_fa.os,u4 (twit fu)⟩
theorem nrZ(fu:Nat):Told Tryz.prog (twit_ft fu):=tk fu twit_fa (aaZ (dRZ fu) (aaZ (eKZ fu) (aaZ (gXZ fu) abZ))) Tryz.func125 (by kernel_rfl) fun t=>by kernel_rfl
def tRem(fu:Nat)(t:(List (qT2)×Int))(dir:(Int×Int))(name:List UInt8)(is_:Bool):Option ((List (qT2)×(Int×(List ((Int×Int))×Int)))):=
 (task fu (t.1,t.2) [(dir.1,dir.2)]).bind fun r=>
 bif (!(r.1==0)) then
  (tcop fu (t.1,t.2)).bind fun r1=>
  some (r1.2,(r1.1,([],r.1)))
 else
  (tNam fu name).bind fun r2=>
  bif (!r2) then
   (tcop fu (t.1,t.2)).bind fun r3=>
   some (r3.2,(r3.1,([],176)))
  else
   (idx? 0 r.2.length).bind fun q=>
   (r.2)[q]?.bind fun r4=>
   (tent fu r4 name).bind fun r5=>
   bif (!r5.2) then
    (tcop fu (t.1,t.2)).bind fun r6=>
    some (r6.2,(r6.1,([],171)))
   else
    (idx? 0 r.2.length).bind fun q1=>
    (r.2)[q1]?.bind fun r7=>
    (idx? r5.1 r7.2.2.2.2.2.2.2.length).bind fun q2=>
    (r7.2.2.2.2.2.2.2)[q2]?.bind fun r8=>
    (idx? (IntKind.wrap .i64 (r8.2-1)) t.1.length).bind fun q3=>
    (t.1)[q3]?.bind fun r9=>
    (tmis fu is_ r9).bind fun r10=>
    bif (!(r10==0)) then
     (tcop fu (t.1,t.2)).bind fun r11=>
     some (r11.2,(r11.1,([],r10)))
    else
     (twit fu (t.1,t.2) dir.1 name r8.2).bind fun r12=>
     some (r12.1,(r12.2.1,(r12.2.2.1,r12.2.2.2)))
def tRem_fa:FnA:=⟨.two (.reg [(0,{ids:=[100]}),(1,{ids:=[101]}),(2,{ids:=[102]})]) (.two (.reg [(2,{ids:=[103]}),(3,{ids:=[104],md:=[0,1]})]) (.two (.two lf (.two (.two (.reg [(1,{ids:=[105],fn:=1})]) lf) lf)) (.two (.two (.reg [(1,{fn:=2})]) (.two (.two (.reg [(1,{ids:=[106],fn:=1})]) lf) lf)) (.two (.reg [(4,{fn:=3})]) (.two (.two lf (.two (.two (.reg [(1,{ids:=[107],fn:=1})]) lf) lf)) (.two lf (.two (.two (.reg [(7,{fn:=4})]) (.two lf (.two (.two (.reg [(1,{ids:=[108],fn:=1})]) lf) lf))) (.two (.reg [(5,{fn:=5})]) lf)))))))),⟨(.cons (.p qY53) (.cons (.p qY5) (.cons (.p .str) (.cons (.p .bool) .nil)))),[]⟩,[⟨(.cons (.agg (.cons (.p (.sl qY0)) qL6)) (.cons (.p (.sl qY5)) qL6)),[]⟩],[1,1,0]⟩
def tRem_ft(fu:Nat):FnT:=⟨89,tRem_fa.i,tRem_fa.os,u4 (tRem fu)⟩
theorem nmZ(fu:Nat):Told Tryz.prog (tRem_ft fu):=tk fu tRem_fa (aaZ (c6Z fu) (aaZ (f2Z fu) (aaZ (cyZ fu) (aaZ (bGZ fu) (aaZ (i9Z fu) (aaZ (nrZ fu) abZ)))))) Tryz.func89 (by kernel_rfl) fun t=>by kernel_rfl
def mdoerem(fu:Nat)(h:List (qT2))(h1:Int)(h2:List (List (UInt8)))(h3:Int)(h4:Int)(h5:Int)(h6:Int)(h7:Int)(h8:List UInt8)(h9:Int)(h10:Int)(h11:List UInt8)(h12:Int)(h13:Int)(h14:List (UInt8))(h15:Int)(h16:Int)(h17:Int)(h18:Int)(h19:Int)(h20:Bool)(h21:Int)(h22:Bool)(h23:Int):Option ((Int×qT15)):=
 (tRem fu (h,h1) (h6,h7) h8 (h5==8)).bind fun r=>
 bif (r.2.2.2==0) then
  some (r.2.2.2,(r.1,(r.2.1,(h2,(h3,(h4,(h5,(h6,(h7,(h8,(h9,(h10,(h11,(h12,(h13,(h14,(h15,(h16,(h17,(h18,(h19,(h20,(h21,(h22,h23))))))))))))))))))))))))
 else
  some (r.2.2.2,(h,(h1,(h2,(h3,(h4,(h5,(h6,(h7,(h8,(h9,(h10,(h11,(h12,(h13,(h14,(h15,(h16,(h17,(h18,(h19,(h20,(h21,(h22,h23))))))))))))))))))))))))
def mdoerem_fa:FnA:=⟨.two lf (.two (.reg [(20,{}),(25,{ids:=[100]})]) (.two (.two lf lf) lf)),⟨qL72,[(0,false,qB4)]⟩,[⟨qL6,[(0,false,qB4)]⟩],[0]⟩
def mdoerem_ft(fu:Nat):FnT:=⟨48,mdoerem_fa.i,mdoerem_fa.os,u24 (mdoerem fu)⟩
theorem irZ(fu:Nat):Told Tryz.prog (mdoerem_ft fu):=tk fu mdoerem_fa (aaZ (nmZ fu) abZ) Tryz.func48 (by kernel_rfl) fun t=>by kernel_rfl
def tbel_l0(fu:Nat)(top:Int)(id1:Int)(h:List (qT2))(h1:Int):Option ((Int×(List (qT2)×Int))⊕(Int)):=
 Option.bind (α:=((Bool×(List (qT2)×Int)))) (
  bif (!(id1==top)) then
   some ((!(id1==1)),(h,h1))
  else
   some (false,(h,h1))) fun o=>
 bif o.1 then
  (idx? (IntKind.wrap .i64 (id1-1)) o.2.1.length).bind fun q=>
  (o.2.1)[q]?.bind fun r=>
  some (.inl (r.2.2.2.2.2.2.1,(o.2.1,o.2.2)))
 else
  some (.inr id1)
def tbel_l0_it(fu:Nat)(top:Int)(tt:(Int×(List (qT2)×Int))):Option (Int):=
 iter fu (u3 (tbel_l0 fu top)) tt
def tbel(fu:Nat)(t:(List (qT2)×Int))(id:Int)(top:Int):Option (Bool):=
 (tbel_l0_it fu top (id,(t.1,t.2))).bind fun o1=>
 some (o1==top)
def tbel_fa:FnA:=⟨.two (.reg [(0,{ids:=[100]})]) (.two (.one (.loop ⟨[1,3],⟨(.cons (.p (.int .i64)) (.cons (.own 0 100 0 0) .nil)),[(100,false,qB48)]⟩⟩ false [(0,⟨[1],⟨qL6,[]⟩⟩)] (.two (.two (.join ⟨[3,13],⟨qL56,[(100,false,qB48)]⟩⟩ false [] lf) lf) lf))) lf),⟨(.cons (.p qY53) qL50),[]⟩,[⟨(.cons (.p .bool) .nil),[]⟩],[0]⟩
def tbel_ft(fu:Nat):FnT:=⟨126,tbel_fa.i,tbel_fa.os,u3 (tbel fu)⟩
theorem m1Z(fu:Nat):Told Tryz.prog (tbel_ft fu):=tk fu tbel_fa abZ Tryz.func126 (by kernel_rfl) fun t=>by kernel_rfl
def icop2go0R_l0(fu:Nat)(r:List (qT2))(t1:Int)(x:Int)(h2:List qT8)(h3:Int)(h4:List qT23)(h5:Int)(h6:List qT59)(h7:List qT27)(h8:List qT27):Option ((Int×(Int×(List qT8×(Int×(List qT23×(Int×(List qT59×(List qT27×List qT27))))))))⊕((Int×(List qT8×(Int×(List qT23×(Int×(List qT59×(List qT27×List qT27))))))))):=
 bif (decide (x<((r.length:Nat):Int))) then
  (idx? x h4.length).bind fun q=>
  (h4)[q]?.bind fun r1=>
  (lowD (.ref 0 qY5) r1.2.2.2.2.2.1).bind fun x1=>
  (lowD (.ref 2 (.pair .str (.int .i64))) r1.2.2.2.2.2.2.2).bind fun x2=>
  (inode_own fu (r1.1,(r1.2.1,(r1.2.2.1,(r1.2.2.2.1,(r1.2.2.2.2.1,(x1,(r1.2.2.2.2.2.2.1,x2)))))))).bind fun r2=>
  (idx? x h4.length).bind fun q1=>
  (h4)[q1]?.bind fun r3=>
  some (.inl (t1,((IntKind.wrap .i64 (x+1)),(h2,(h3,((List.set h4 q1 (r2.1,(r2.2.1,(r2.2.2.1,(r2.2.2.2.1,(r2.2.2.2.2.1,((.inr (some (h6.length,(0,r2.2.2.2.2.2.2.1.length)))),(r2.2.2.2.2.2.1,(.inr (some (h8.length,(0,r2.2.2.2.2.2.2.2.length)))))))))))),(h5,((h6++[(1,r2.2.2.2.2.2.2.1)]),(h7,(h8++[(1,r2.2.2.2.2.2.2.2)]))))))))))
 else
  some (.inr (t1,(h2,(h3,(h4,(h5,(h6,(h7,h8))))))))
def icop2go0R_l0_it(fu:Nat)(r:List (qT2))(tt:(Int×(Int×(List qT8×(Int×(List qT23×(Int×(List qT59×(List qT27×List qT27))))))))):Option ((Int×(List qT8×(Int×(List qT23×(Int×(List qT59×(List qT27×List qT27)))))))):=
 iter fu (u9 (icop2go0R_l0 fu r)) tt
def icop2go0R(fu:Nat)(t:Int)(h:List qT8)(h1:List qT27):Option ((Int×(List qT8×(List qT23×(List qT59×(List qT27×List qT27)))))):=
 (unrefL (unrefD [⟨1,(.pair .str (.int .i64)),(List.map frz1 h1)⟩] qY7) h).bind fun l=>
 (sClo2 fu l).bind fun r=>
 (icop2go0R_l0_it fu r (t,(0,(h,(t,((List.map (liftT qY21) r),(0,([],((List.map frz1 h1),[]))))))))).bind fun o=>
 some (o.2.2.1,(o.2.1,(o.2.2.2.1,(o.2.2.2.2.2.1,(o.2.2.2.2.2.2.1,o.2.2.2.2.2.2.2)))))
def icop2go0R_fa:FnA:=⟨.two (.reg [(0,{ids:=[100]}),(1,{ids:=[101]})]) (.two (.reg [(2,{ids:=[102],md:=[1]})]) (.two (.two lf (.one (.pre (.newFam 0 58 qY5) (.pre (.newFam 2 108 (.pair .str (.int .i64))) (.pre (.toRef 102 qY21) (.loop ⟨[0,1,2,10,12],⟨(.cons (.agg (.cons (.slf 8 0) qL6)) (.cons (.own 0 100 0 0) (.cons (.own 0 101 0 0) (.cons (.slf 8 102) qL6)))),[(0,true,(.rows 56 qY7)),(100,false,qB62),(102,false,(.rows 56 qY21)),(101,false,qB44),(999984,false,(.fam 58 qY5)),(999985,false,qB35),(999986,false,qB35)]⟩⟩ false [(0,⟨[0,1,2],⟨(.cons (.agg (.cons (.slf 8 0) qL6)) qL54),[(0,true,(.rows 56 qY7)),(100,false,qB62),(102,false,(.rows 56 qY21)),(101,false,qB44),(999984,false,(.fam 58 qY5)),(999985,false,qB35),(999986,false,qB35)]⟩⟩)] (.two lf (.two lf (.two (.one (.two (.reg [(3,{ids:=[103]})]) (.reg [(4,{ids:=[104,105],md:=[3],fn:=1}),(6,{sh:=[104,999984,105,999986]})]))) lf))))))))) lf)),⟨(.cons (.agg (.cons (.slf 8 0) qL6)) .nil),[(0,false,(.rows 56 qY7)),(999985,false,qB35)]⟩,[⟨(.cons (.agg (.cons (.slf 8 1) qL6)) .nil),[(0,true,(.rows 56 qY7)),(1,false,(.rows 56 qY21)),(999984,false,(.fam 58 qY5)),(999985,false,qB35),(999986,false,qB35)]⟩],[0]⟩
def icop2go0R_ft(fu:Nat):FnT:=⟨153,icop2go0R_fa.i,icop2go0R_fa.os,u3 (icop2go0R fu)⟩
theorem fRZ(fu:Nat):Told Tryz.prog (icop2go0R_ft fu):=tk fu icop2go0R_fa (aaZ (blZ fu) (aaZ (bmZ fu) abZ)) Tryz.func153 (by kernel_rfl) fun t=>by kernel_rfl
end
end Go.Ab.D
