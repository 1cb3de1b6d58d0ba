/- Functions of the program as plain Lean functions: each equation is checked by the kernel; what is told of a function follows from it. -/
import Derived.Test.YtblocgeildejaaaGreatSaveLifeD1
set_option linter.all false
set_option maxRecDepth 100000
set_option maxHeartbeats 4000000
namespace Go.Ab.D
open Go Go.Ab
noncomputable section
def srig(fu:Nat)(c:qT28):Option (Bool):=
 Option.bind (α:=qT33) (
  (byte? ((c.2.2.1.2.2.1.toNat:Nat):Int)).bind fun c1=>
  (save_none fu (c.2.2.1.1,(c.2.2.1.2.1,(c1,((c.2.2.1.2.2.2.1.1,c.2.2.1.2.2.2.1.2),(c.2.2.1.2.2.2.2.1,((c.2.2.1.2.2.2.2.2.1.1,c.2.2.1.2.2.2.2.2.1.2),(c.2.2.1.2.2.2.2.2.2.1,(c.2.2.1.2.2.2.2.2.2.2.1,(c.2.2.1.2.2.2.2.2.2.2.2.1,c.2.2.1.2.2.2.2.2.2.2.2.2)))))))))).bind fun r=>
  bif r then
   bif (((c.2.2.2.1.length:Nat):Int)==0) then
    some ((c.2.2.2.2.1==0),(c.1,(c.2.1,(c.2.2.1.1,(c.2.2.1.2.1,(((c.2.2.1.2.2.1.toNat:Nat):Int),(c.2.2.1.2.2.2.1.1,(c.2.2.1.2.2.2.1.2,(c.2.2.1.2.2.2.2.1,(c.2.2.1.2.2.2.2.2.1.1,(c.2.2.1.2.2.2.2.2.1.2,(c.2.2.1.2.2.2.2.2.2.1,(c.2.2.1.2.2.2.2.2.2.2.1,(c.2.2.1.2.2.2.2.2.2.2.2.1,(c.2.2.1.2.2.2.2.2.2.2.2.2,(c.2.2.2.1,(c.2.2.2.2.1,(c.2.2.2.2.2.1,c.2.2.2.2.2.2))))))))))))))))))
   else
    some (false,(c.1,(c.2.1,(c.2.2.1.1,(c.2.2.1.2.1,(((c.2.2.1.2.2.1.toNat:Nat):Int),(c.2.2.1.2.2.2.1.1,(c.2.2.1.2.2.2.1.2,(c.2.2.1.2.2.2.2.1,(c.2.2.1.2.2.2.2.2.1.1,(c.2.2.1.2.2.2.2.2.1.2,(c.2.2.1.2.2.2.2.2.2.1,(c.2.2.1.2.2.2.2.2.2.2.1,(c.2.2.1.2.2.2.2.2.2.2.2.1,(c.2.2.1.2.2.2.2.2.2.2.2.2,(c.2.2.2.1,(c.2.2.2.2.1,(c.2.2.2.2.2.1,c.2.2.2.2.2.2))))))))))))))))))
  else
   some (false,(c.1,(c.2.1,(c.2.2.1.1,(c.2.2.1.2.1,(((c.2.2.1.2.2.1.toNat:Nat):Int),(c.2.2.1.2.2.2.1.1,(c.2.2.1.2.2.2.1.2,(c.2.2.1.2.2.2.2.1,(c.2.2.1.2.2.2.2.2.1.1,(c.2.2.1.2.2.2.2.2.1.2,(c.2.2.1.2.2.2.2.2.2.1,(c.2.2.1.2.2.2.2.2.2.2.1,(c.2.2.1.2.2.2.2.2.2.2.2.1,(c.2.2.1.2.2.2.2.2.2.2.2.2,(c.2.2.2.1,(c.2.2.2.2.1,(c.2.2.2.2.2.1,c.2.2.2.2.2.2))))))))))))))))))) fun o=>
 Option.bind (α:=qT33) (
  bif (o.2.1==1) then
   some ((o.2.1==1),(o.2.1,(o.2.2.1,(o.2.2.2.1,(o.2.2.2.2.1,(o.2.2.2.2.2.1,(o.2.2.2.2.2.2.1,(o.2.2.2.2.2.2.2.1,(o.2.2.2.2.2.2.2.2.1,(o.2.2.2.2.2.2.2.2.2.1,(o.2.2.2.2.2.2.2.2.2.2.1,(o.2.2.2.2.2.2.2.2.2.2.2.1,(o.2.2.2.2.2.2.2.2.2.2.2.2.1,(o.2.2.2.2.2.2.2.2.2.2.2.2.2.1,(o.2.2.2.2.2.2.2.2.2.2.2.2.2.2.1,(o.2.2.2.2.2.2.2.2.2.2.2.2.2.2.2.1,(o.2.2.2.2.2.2.2.2.2.2.2.2.2.2.2.2.1,(o.2.2.2.2.2.2.2.2.2.2.2.2.2.2.2.2.2.1,o.2.2.2.2.2.2.2.2.2.2.2.2.2.2.2.2.2.2))))))))))))))))))
  else
   some ((o.2.1==4),(o.2.1,(o.2.2.1,(o.2.2.2.1,(o.2.2.2.2.1,(o.2.2.2.2.2.1,(o.2.2.2.2.2.2.1,(o.2.2.2.2.2.2.2.1,(o.2.2.2.2.2.2.2.2.1,(o.2.2.2.2.2.2.2.2.2.1,(o.2.2.2.2.2.2.2.2.2.2.1,(o.2.2.2.2.2.2.2.2.2.2.2.1,(o.2.2.2.2.2.2.2.2.2.2.2.2.1,(o.2.2.2.2.2.2.2.2.2.2.2.2.2.1,(o.2.2.2.2.2.2.2.2.2.2.2.2.2.2.1,(o.2.2.2.2.2.2.2.2.2.2.2.2.2.2.2.1,(o.2.2.2.2.2.2.2.2.2.2.2.2.2.2.2.2.1,(o.2.2.2.2.2.2.2.2.2.2.2.2.2.2.2.2.2.1,o.2.2.2.2.2.2.2.2.2.2.2.2.2.2.2.2.2.2))))))))))))))))))) fun o1=>
 bif o1.1 then
  bif o.1 then
   bif (o1.2.2.2.2.2.2.2.2.2.2.2.2.2.2.2.2.2.1==0) then
    bif (o1.2.2.2.2.2.2.2.2.2.2.2.2.2.2.2.2.2.2==0) then
     bif (decide (o1.2.2.1>=1)) then
      some (decide (o1.2.2.1<=1099511627776))
     else
      some false
    else
     some false
   else
    some false
  else
   some false
 else
  bif (o.2.1==3) then
   bif o.1 then
    bif (o1.2.2.1==0) then
     (srig1 fu o1.2.2.2.2.2.2.2.2.2.2.2.2.2.2.2.2.2.1).bind fun r1=>
     bif r1 then
      (srig1 fu o1.2.2.2.2.2.2.2.2.2.2.2.2.2.2.2.2.2.2).bind fun r2=>
      some r2
     else
      some false
    else
     some false
   else
    some false
  else
   bif (o.2.1==2) then
    Option.bind (α:=qT33) (
     bif (!(o1.2.2.2.2.2.2.2.2.2.2.2.2.2.2.2.2.2.1==0)) then
      some (true,(o1.2.1,(o1.2.2.1,(o1.2.2.2.1,(o1.2.2.2.2.1,(o1.2.2.2.2.2.1,(o1.2.2.2.2.2.2.1,(o1.2.2.2.2.2.2.2.1,(o1.2.2.2.2.2.2.2.2.1,(o1.2.2.2.2.2.2.2.2.2.1,(o1.2.2.2.2.2.2.2.2.2.2.1,(o1.2.2.2.2.2.2.2.2.2.2.2.1,(o1.2.2.2.2.2.2.2.2.2.2.2.2.1,(o1.2.2.2.2.2.2.2.2.2.2.2.2.2.1,(o1.2.2.2.2.2.2.2.2.2.2.2.2.2.2.1,(o1.2.2.2.2.2.2.2.2.2.2.2.2.2.2.2.1,(o1.2.2.2.2.2.2.2.2.2.2.2.2.2.2.2.2.1,(o1.2.2.2.2.2.2.2.2.2.2.2.2.2.2.2.2.2.1,o1.2.2.2.2.2.2.2.2.2.2.2.2.2.2.2.2.2.2))))))))))))))))))
     else
      bif (!(o1.2.2.2.2.2.2.2.2.2.2.2.2.2.2.2.2.2.2==0)) then
       some (true,(o1.2.1,(o1.2.2.1,(o1.2.2.2.1,(o1.2.2.2.2.1,(o1.2.2.2.2.2.1,(o1.2.2.2.2.2.2.1,(o1.2.2.2.2.2.2.2.1,(o1.2.2.2.2.2.2.2.2.1,(o1.2.2.2.2.2.2.2.2.2.1,(o1.2.2.2.2.2.2.2.2.2.2.1,(o1.2.2.2.2.2.2.2.2.2.2.2.1,(o1.2.2.2.2.2.2.2.2.2.2.2.2.1,(o1.2.2.2.2.2.2.2.2.2.2.2.2.2.1,(o1.2.2.2.2.2.2.2.2.2.2.2.2.2.2.1,(o1.2.2.2.2.2.2.2.2.2.2.2.2.2.2.2.1,(o1.2.2.2.2.2.2.2.2.2.2.2.2.2.2.2.2.1,(o1.2.2.2.2.2.2.2.2.2.2.2.2.2.2.2.2.2.1,o1.2.2.2.2.2.2.2.2.2.2.2.2.2.2.2.2.2.2))))))))))))))))))
      else
       bif (!(o1.2.2.1==0)) then
        some (true,(o1.2.1,(o1.2.2.1,(o1.2.2.2.1,(o1.2.2.2.2.1,(o1.2.2.2.2.2.1,(o1.2.2.2.2.2.2.1,(o1.2.2.2.2.2.2.2.1,(o1.2.2.2.2.2.2.2.2.1,(o1.2.2.2.2.2.2.2.2.2.1,(o1.2.2.2.2.2.2.2.2.2.2.1,(o1.2.2.2.2.2.2.2.2.2.2.2.1,(o1.2.2.2.2.2.2.2.2.2.2.2.2.1,(o1.2.2.2.2.2.2.2.2.2.2.2.2.2.1,(o1.2.2.2.2.2.2.2.2.2.2.2.2.2.2.1,(o1.2.2.2.2.2.2.2.2.2.2.2.2.2.2.2.1,(o1.2.2.2.2.2.2.2.2.2.2.2.2.2.2.2.2.1,(o1.2.2.2.2.2.2.2.2.2.2.2.2.2.2.2.2.2.1,o1.2.2.2.2.2.2.2.2.2.2.2.2.2.2.2.2.2.2))))))))))))))))))
       else
        bif (decide (o1.2.2.2.2.2.2.2.2.2.2.2.2.2.2.2.2.1<0)) then
         some (true,(o1.2.1,(o1.2.2.1,(o1.2.2.2.1,(o1.2.2.2.2.1,(o1.2.2.2.2.2.1,(o1.2.2.2.2.2.2.1,(o1.2.2.2.2.2.2.2.1,(o1.2.2.2.2.2.2.2.2.1,(o1.2.2.2.2.2.2.2.2.2.1,(o1.2.2.2.2.2.2.2.2.2.2.1,(o1.2.2.2.2.2.2.2.2.2.2.2.1,(o1.2.2.2.2.2.2.2.2.2.2.2.2.1,(o1.2.2.2.2.2.2.2.2.2.2.2.2.2.1,(o1.2.2.2.2.2.2.2.2.2.2.2.2.2.2.1,(o1.2.2.2.2.2.2.2.2.2.2.2.2.2.2.2.1,(o1.2.2.2.2.2.2.2.2.2.2.2.2.2.2.2.2.1,(o1.2.2.2.2.2.2.2.2.2.2.2.2.2.2.2.2.2.1,o1.2.2.2.2.2.2.2.2.2.2.2.2.2.2.2.2.2.2))))))))))))))))))
        else
         bif (decide (o1.2.2.2.2.2.2.2.2.2.2.2.2.2.2.2.2.1>1000)) then
          some (true,(o1.2.1,(o1.2.2.1,(o1.2.2.2.1,(o1.2.2.2.2.1,(o1.2.2.2.2.2.1,(o1.2.2.2.2.2.2.1,(o1.2.2.2.2.2.2.2.1,(o1.2.2.2.2.2.2.2.2.1,(o1.2.2.2.2.2.2.2.2.2.1,(o1.2.2.2.2.2.2.2.2.2.2.1,(o1.2.2.2.2.2.2.2.2.2.2.2.1,(o1.2.2.2.2.2.2.2.2.2.2.2.2.1,(o1.2.2.2.2.2.2.2.2.2.2.2.2.2.1,(o1.2.2.2.2.2.2.2.2.2.2.2.2.2.2.1,(o1.2.2.2.2.2.2.2.2.2.2.2.2.2.2.2.1,(o1.2.2.2.2.2.2.2.2.2.2.2.2.2.2.2.2.1,(o1.2.2.2.2.2.2.2.2.2.2.2.2.2.2.2.2.2.1,o1.2.2.2.2.2.2.2.2.2.2.2.2.2.2.2.2.2.2))))))))))))))))))
         else
          bif (!(o1.2.2.2.2.2.2.2.2.2.2.2.2.2.2.2.2.1==0)) then
           some ((decide (((o1.2.2.2.2.2.2.2.2.2.2.2.2.2.2.2.1.length:Nat):Int)>0)),(o1.2.1,(o1.2.2.1,(o1.2.2.2.1,(o1.2.2.2.2.1,(o1.2.2.2.2.2.1,(o1.2.2.2.2.2.2.1,(o1.2.2.2.2.2.2.2.1,(o1.2.2.2.2.2.2.2.2.1,(o1.2.2.2.2.2.2.2.2.2.1,(o1.2.2.2.2.2.2.2.2.2.2.1,(o1.2.2.2.2.2.2.2.2.2.2.2.1,(o1.2.2.2.2.2.2.2.2.2.2.2.2.1,(o1.2.2.2.2.2.2.2.2.2.2.2.2.2.1,(o1.2.2.2.2.2.2.2.2.2.2.2.2.2.2.1,(o1.2.2.2.2.2.2.2.2.2.2.2.2.2.2.2.1,(o1.2.2.2.2.2.2.2.2.2.2.2.2.2.2.2.2.1,(o1.2.2.2.2.2.2.2.2.2.2.2.2.2.2.2.2.2.1,o1.2.2.2.2.2.2.2.2.2.2.2.2.2.2.2.2.2.2))))))))))))))))))
          else
           some (false,(o1.2.1,(o1.2.2.1,(o1.2.2.2.1,(o1.2.2.2.2.1,(o1.2.2.2.2.2.1,(o1.2.2.2.2.2.2.1,(o1.2.2.2.2.2.2.2.1,(o1.2.2.2.2.2.2.2.2.1,(o1.2.2.2.2.2.2.2.2.2.1,(o1.2.2.2.2.2.2.2.2.2.2.1,(o1.2.2.2.2.2.2.2.2.2.2.2.1,(o1.2.2.2.2.2.2.2.2.2.2.2.2.1,(o1.2.2.2.2.2.2.2.2.2.2.2.2.2.1,(o1.2.2.2.2.2.2.2.2.2.2.2.2.2.2.1,(o1.2.2.2.2.2.2.2.2.2.2.2.2.2.2.2.1,(o1.2.2.2.2.2.2.2.2.2.2.2.2.2.2.2.2.1,(o1.2.2.2.2.2.2.2.2.2.2.2.2.2.2.2.2.2.1,o1.2.2.2.2.2.2.2.2.2.2.2.2.2.2.2.2.2.2))))))))))))))))))) fun o2=>
    bif o2.1 then
     some false
    else
     none
   else
    some false
def srig_fa:FnA:=⟨.two (.reg [(0,{ids:=[100]})]) (.two (.join ⟨[1,3],⟨qL29,[(100,false,qB19)]⟩⟩ false [] (.reg [(2,{})])) (.two (.leaf) (.two (.two (.leaf) (.one (.two (.two (.leaf) (.join ⟨[1,22],⟨qL29,[(100,false,qB19)]⟩⟩ false [] (.leaf))) (.two (.leaf) (.two (.leaf) (.two (.two (.reg [(10,{fn:=1}),(16,{fn:=1})]) (.leaf)) (.two (.leaf) (.two (.two (.leaf) (.two (.two (.join ⟨[1,101],⟨qL29,[(100,false,qB19)]⟩⟩ false [] (.leaf)) (.two (.leaf) (.leaf))) (.two (.pre (.mem 0 15) (.leaf)) (.leaf)))) (.leaf))))))))) (.leaf)))),⟨qL27,[]⟩,[⟨(.cons (.p .bool) .nil),[]⟩],[0]⟩
def srig_ft(fu:Nat):FnT:=⟨24,srig_fa.i,srig_fa.os,fun t=>srig fu t⟩
theorem lNZ(fu:Nat):∀t,evF Go.Proofs.Tryz.prog [save_none_ft fu,srig1_ft fu] fu Go.Proofs.Tryz.f24 srig_fa t=(srig_ft fu).spec t:=fun t=>by kernel_rfl
theorem fZZ(fu:Nat):Told Go.Proofs.Tryz.prog (srig_ft fu):=afZ (aaZ (ekZ fu) (aaZ (hWZ fu) adZ)) mixed Go.Proofs.Tryz.func24 (by kernel_rfl) (by kernel_rfl) (lNZ fu)
def save_Do(fu:Nat)(s:qT18)(size:Int)(c:qT28):Option ((Int×(List (qT1)×(Int×(Int×(List (qT0)×(List ((Int×List (Int)))×(List ((Int×Int))×(Int×(Int×(Int×(Int×(Int×(Bool×(Int×(Bool×(Int×Int))))))))))))))))):=
 (sMov fu (s.1,((s.2.1.1,s.2.1.2),((s.2.2.1.1,s.2.2.1.2),(s.2.2.2.1,s.2.2.2.2)))) (-1) (-1)).bind fun r=>
 (sRig fu (s.1,((s.2.1.1,s.2.1.2),((s.2.2.1.1,s.2.2.1.2),(s.2.2.2.1,s.2.2.2.2)))) size).bind fun r1=>
 bif (!r1) then
  some (r.1,(r.2.2.2.2.1,(r.2.1,(r.2.2.1,(r.2.2.2.2.2.1,(r.2.2.2.2.2.2.1,(r.2.2.2.2.2.2.2.1,(0,(0,(0,(0,(0,(false,(0,(false,(0,180))))))))))))))))
 else
  (byte? ((c.2.2.1.2.2.1.toNat:Nat):Int)).bind fun c1=>
  (srig fu (c.1,(c.2.1,((c.2.2.1.1,(c.2.2.1.2.1,(c1,((c.2.2.1.2.2.2.1.1,c.2.2.1.2.2.2.1.2),(c.2.2.1.2.2.2.2.1,((c.2.2.1.2.2.2.2.2.1.1,c.2.2.1.2.2.2.2.2.1.2),(c.2.2.1.2.2.2.2.2.2.1,(c.2.2.1.2.2.2.2.2.2.2.1,(c.2.2.1.2.2.2.2.2.2.2.2.1,c.2.2.1.2.2.2.2.2.2.2.2.2))))))))),(c.2.2.2.1,(c.2.2.2.2.1,(c.2.2.2.2.2.1,c.2.2.2.2.2.2))))))).bind fun r2=>
  bif (!r2) then
   some (r.1,(r.2.2.2.2.1,(r.2.1,(r.2.2.1,(r.2.2.2.2.2.1,(r.2.2.2.2.2.2.1,(r.2.2.2.2.2.2.2.1,(0,(0,(0,(0,(0,(false,(0,(false,(0,2))))))))))))))))
  else
   bif (c.1==2) then
    none
   else
    bif (c.1==3) then
     (sMov fu (s.1,((s.2.1.1,s.2.1.2),((s.2.2.1.1,s.2.2.1.2),(s.2.2.2.1,s.2.2.2.2)))) c.2.2.2.2.2.1 c.2.2.2.2.2.2).bind fun r3=>
     some (r3.1,(r3.2.2.2.2.1,(r3.2.1,(r3.2.2.1,(r3.2.2.2.2.2.1,(r3.2.2.2.2.2.2.1,(r3.2.2.2.2.2.2.2.1,(0,(0,(0,(0,(0,(false,(0,(false,(0,r3.2.2.2.1))))))))))))))))
    else
     bif (c.1==4) then
      none
     else
      bif (!(c.2.1==(IntKind.wrap .i64 (s.1+1)))) then
       some (r.1,(r.2.2.2.2.1,(r.2.1,(r.2.2.1,(r.2.2.2.2.2.1,(r.2.2.2.2.2.2.1,(r.2.2.2.2.2.2.2.1,(0,(0,(0,(0,(0,(false,(0,(false,(0,80))))))))))))))))
      else
       some (c.2.1,(r.2.2.2.2.1,(r.2.1,(r.2.2.1,(r.2.2.2.2.2.1,(r.2.2.2.2.2.2.1,(r.2.2.2.2.2.2.2.1,(0,(0,(0,(0,(0,(false,(0,(false,(0,0))))))))))))))))
def save_Do_fa:FnA:=⟨.two (.reg [(0,{ids:=[100]}),(1,{ids:=[101]}),(2,{ids:=[102]}),(3,{ids:=[103]})]) (.two (.reg [(1,{ids:=[104,105,106,107,108]}),(6,{ids:=[109]})]) (.two (.one (.two (.reg [(2,{fn:=1})]) (.two (.leaf) (.two (.reg [(1,{fn:=2})]) (.two (.leaf) (.leaf)))))) (.two (.two (.leaf) (.one (.two (.leaf) (.two (.two (.pre (.mem 0 15) (.leaf)) (.leaf)) (.two (.leaf) (.two (.two (.reg [(5,{ids:=[110,111,112,113,114]}),(10,{ids:=[115]})]) (.leaf)) (.two (.leaf) (.two (.two (.pre (.mem 0 15) (.leaf)) (.leaf)) (.leaf))))))))) (.two (.two (.leaf) (.two (.leaf) (.leaf))) (.two (.leaf) (.leaf)))))),⟨(.cons (.p qY15) (.cons (.p (.int .i64)) qL27)),[]⟩,[⟨(.cons (.agg qL2) (.cons (.agg (.cons (.p (.int .i64)) (.cons (.p (.int .i64)) (.cons (.p (.int .i64)) (.cons (.p (.int .i64)) (.cons (.p (.int .i64)) (.cons (.p .bool) (.cons (.p (.int .i64)) (.cons (.nilp (.slice none 0 0)) (.cons (.nilp (.slice none 0 0)) (.cons (.p .bool) qL5))))))))))) qL5)),[]⟩],[1,0,0]⟩
def save_Do_ft(fu:Nat):FnT:=⟨6,save_Do_fa.i,save_Do_fa.os,fun t=>save_Do fu t.1 t.2.1 t.2.2⟩
theorem imZ(fu:Nat):∀t,evF Go.Proofs.Tryz.prog [sMov_ft fu,sRig_ft fu,srig_ft fu] fu Go.Proofs.Tryz.f6 save_Do_fa t=(save_Do_ft fu).spec t:=fun t=>by kernel_rfl
theorem daZ(fu:Nat):Told Go.Proofs.Tryz.prog (save_Do_ft fu):=afZ (aaZ (jQZ fu) (aaZ (j8Z fu) (aaZ (fZZ fu) adZ))) mixed Go.Proofs.Tryz.func6 (by kernel_rfl) (by kernel_rfl) (imZ fu)
def bhal(fu:Nat)(s:Int):Option (Int):=
 some (bitsI .xor .u32 (Int.fdiv s 2) (IntKind.wrap .u32 (2197175160*(bitsI .and .u32 s 1))))
def bhal_fa:FnA:=⟨.two (.leaf) (.leaf),⟨(.cons (.p (.int .u32)) .nil),[]⟩,[⟨(.cons (.p (.int .u32)) .nil),[]⟩],[0]⟩
def bhal_ft(fu:Nat):FnT:=⟨35,bhal_fa.i,bhal_fa.os,fun t=>bhal fu t⟩
theorem lIZ(fu:Nat):∀t,evF Go.Proofs.Tryz.prog [] fu Go.Proofs.Tryz.f35 bhal_fa t=(bhal_ft fu).spec t:=fun t=>by kernel_rfl
theorem jcZ(fu:Nat):Told Go.Proofs.Tryz.prog (bhal_ft fu):=afZ adZ mixed Go.Proofs.Tryz.func35 (by kernel_rfl) (by kernel_rfl) (lIZ fu)
def bTab_l0(fu:Nat)(s:Int)(x:Int)(h:List (Int))(h1:List (Int)):Option ((Int×(Int×(List (Int)×List (Int))))⊕((List (Int)×List (Int)))):=
 bif (decide (x<8)) then
  need (decide (0<=x))<|
  (idx? (Int.fdiv 128 (2^(min (x).toNat 64))) 256).bind fun q=>
  (h1)[q]?.bind fun r=>
  (bhal fu s).bind fun r1=>
  some (.inl (r1,((IntKind.wrap .i64 (x+1)),(h,(List.set h1 q s)))))
 else
  some (.inr (h,h1))
def bTab_l0_it(fu:Nat)(tt:(Int×(Int×(List (Int)×List (Int))))):Option ((List (Int)×List (Int))):=
 iter fu (fun tt=>bTab_l0 fu tt.1 tt.2.1 tt.2.2.1 tt.2.2.2) tt
def bTab_l1(fu:Nat)(x1:Int)(x2:Int)(h4:List (Int))(h5:List (Int)):Option ((Int×(List (Int)×List (Int)))⊕((List (Int)×List (Int)))):=
 bif (decide (x2<(IntKind.wrap .i64 (1*(2^(min (x1).toNat 64)))))) then
  need (decide (0<=x1))<|
  need (decide (0<=x1))<|
  (idx? (IntKind.wrap .i64 (1*(2^(min (x1).toNat 64)))) 256).bind fun q1=>
  (h5)[q1]?.bind fun r2=>
  (idx? x2 256).bind fun q2=>
  (h5)[q2]?.bind fun r3=>
  (idx? (bitsI .or .i64 (IntKind.wrap .i64 (1*(2^(min (x1).toNat 64)))) x2) 256).bind fun q3=>
  (h5)[q3]?.bind fun r4=>
  some (.inl ((IntKind.wrap .i64 (x2+1)),(h4,(List.set h5 q3 (bitsI .xor .u32 r2 r3)))))
 else
  some (.inr (h4,h5))
def bTab_l1_it(fu:Nat)(x1:Int)(tt:(Int×(List (Int)×List (Int)))):Option ((List (Int)×List (Int))):=
 iter fu (fun tt=>bTab_l1 fu x1 tt.1 tt.2.1 tt.2.2) tt
def bTab_l2(fu:Nat)(x1:Int)(h2:List (Int))(h3:List (Int)):Option ((Int×(List (Int)×List (Int)))⊕((List (Int)×List (Int)))):=
 bif (decide (x1<8)) then
  need (decide (0<=x1))<|
  (bTab_l1_it fu x1 (0,(h2,h3))).bind fun o1=>
  some (.inl ((IntKind.wrap .i64 (x1+1)),(o1.1,o1.2)))
 else
  some (.inr (h2,h3))
def bTab_l2_it(fu:Nat)(tt:(Int×(List (Int)×List (Int)))):Option ((List (Int)×List (Int))):=
 iter fu (fun tt=>bTab_l2 fu tt.1 tt.2.1 tt.2.2) tt
def bTab(fu:Nat):Option (List (Int)):=
 (bTab_l0_it fu (2197175160,(0,((List.replicate (α:=Int) 256 0),(List.replicate (α:=Int) 256 0))))).bind fun o=>
 (bTab_l2_it fu (0,(o.1,o.2))).bind fun o2=>
 need (Nat.beq o2.2.length 256)<|
 need (Nat.beq o2.1.length 256)<|
 need (Nat.beq o2.2.length 256)<|
 need (Nat.beq o2.2.length 256)<|
 some o2.2
def bTab_fa:FnA:=⟨.two (.reg [(0,{ids:=[100]})]) (.two (.reg [(0,{ids:=[101]})]) (.two (.leaf) (.two (.two (.leaf) (.one (.loop ⟨[0,1,2,6],⟨(.cons (.own 1 100 0 0) (.cons (.own 1 101 0 0) (.cons (.p (.int .u32)) qL5))),[(100,false,(.rows 60 (.int .u32))),(101,false,(.rows 60 (.int .u32)))]⟩⟩ false [(0,⟨[0,1],⟨(.cons (.own 1 100 0 0) (.cons (.own 1 101 0 0) .nil)),[(100,false,(.rows 60 (.int .u32))),(101,false,(.rows 60 (.int .u32)))]⟩⟩)] (.two (.leaf) (.two (.leaf) (.two (.one (.two (.leaf) (.two (.leaf) (.reg [(1,{})])))) (.leaf))))))) (.two (.two (.leaf) (.one (.loop ⟨[0,1,16],⟨(.cons (.own 1 100 0 0) (.cons (.own 1 101 0 0) qL5)),[(100,false,(.rows 60 (.int .u32))),(101,false,(.rows 60 (.int .u32)))]⟩⟩ false [(2,⟨[0,1],⟨(.cons (.own 1 100 0 0) (.cons (.own 1 101 0 0) .nil)),[(100,false,(.rows 60 (.int .u32))),(101,false,(.rows 60 (.int .u32)))]⟩⟩)] (.two (.leaf) (.two (.leaf) (.two (.one (.two (.leaf) (.two (.leaf) (.one (.loop ⟨[0,1,21],⟨(.cons (.own 1 100 0 0) (.cons (.own 1 101 0 0) qL5)),[(100,false,(.rows 60 (.int .u32))),(101,false,(.rows 60 (.int .u32)))]⟩⟩ false [(4,⟨[0,1],⟨(.cons (.own 1 100 0 0) (.cons (.own 1 101 0 0) .nil)),[(100,false,(.rows 60 (.int .u32))),(101,false,(.rows 60 (.int .u32)))]⟩⟩)] (.two (.leaf) (.two (.leaf) (.two (.one (.leaf)) (.leaf))))))))) (.leaf))))))) (.leaf))))),⟨.nil,[]⟩,[⟨(.cons (.p (.arr 256 (.int .u32))) .nil),[]⟩],[0]⟩
def bTab_ft(fu:Nat):FnT:=⟨11,bTab_fa.i,bTab_fa.os,fun t=>bTab fu⟩
theorem kZZ(fu:Nat):∀t,evF Go.Proofs.Tryz.prog [bhal_ft fu] fu Go.Proofs.Tryz.f11 bTab_fa t=(bTab_ft fu).spec t:=fun t=>by kernel_rfl
theorem jlZ(fu:Nat):Told Go.Proofs.Tryz.prog (bTab_ft fu):=afZ (aaZ (jcZ fu) adZ) mixed Go.Proofs.Tryz.func11 (by kernel_rfl) (by kernel_rfl) (kZZ fu)
def bUino0_l0(fu:Nat)(n1:Int)(h1:List (UInt8)):Option ((Int×List (UInt8))⊕((Int×List (UInt8)))):=
 bif (decide (n1>127)) then
  (byte? (IntKind.wrap .u8 (IntKind.wrap .u64 ((Int.tmod n1 128)+128)))).bind fun c=>
  need ((Nat.ble ((h1.length+1)*1) room)&&(Nat.ble (h1.length+1) room))<|
  some (.inl ((IntKind.wrap .u64 (Int.tdiv n1 128)),(h1++[c])))
 else
  some (.inr (n1,h1))
def bUino0_l0_it(fu:Nat)(tt:(Int×List (UInt8))):Option ((Int×List (UInt8))):=
 iter fu (fun tt=>bUino0_l0 fu tt.1 tt.2) tt
def bUino0(fu:Nat)(n:Int)(h:List (UInt8)):Option (List (UInt8)):=
 (bUino0_l0_it fu (n,h)).bind fun o=>
 (byte? (IntKind.wrap .u8 o.1)).bind fun c1=>
 need ((Nat.ble ((o.2.length+1)*1) room)&&(Nat.ble (o.2.length+1) room))<|
 some (o.2++[c1])
def bUino0_fa:FnA:=⟨.two (.leaf) (.two (.one (.pre (.renum 0 100) (.loop ⟨[0,1],⟨(.cons (.slf 1 100) (.cons (.p (.int .u64)) .nil)),[(100,false,(.rows 5 .byte))]⟩⟩ false [(0,⟨[0,1],⟨(.cons (.slf 1 100) (.cons (.p (.int .u64)) .nil)),[(100,false,(.rows 5 .byte))]⟩⟩)] (.two (.two (.leaf) (.leaf)) (.one (.reg [(5,{ids:=[101]}),(6,{ids:=[102]})])))))) (.two (.reg [(3,{ids:=[103]}),(4,{ids:=[104]})]) (.leaf))),⟨(.cons (.slf 1 0) (.cons (.p (.int .u64)) .nil)),[(0,false,(.rows 5 .byte))]⟩,[⟨(.cons (.slf 1 1) .nil),[(1,false,(.rows 5 .byte))]⟩],[0]⟩
def bUino0_ft(fu:Nat):FnT:=⟨92,bUino0_fa.i,bUino0_fa.os,fun t=>bUino0 fu t.1 t.2⟩
theorem iXZ(fu:Nat):∀t,evF Go.Proofs.Tryz.prog [] fu Go.Proofs.Tryz.f92 bUino0_fa t=(bUino0_ft fu).spec t:=fun t=>by kernel_rfl
theorem dwZ(fu:Nat):Told Go.Proofs.Tryz.prog (bUino0_ft fu):=afZ adZ mixed Go.Proofs.Tryz.func92 (by kernel_rfl) (by kernel_rfl) (iXZ fu)
def swriuin2_l0(fu:Nat)(l:List (Int))(x:Int)(h2:List (Int))(h3:Bool)(h4:List (UInt8)):Option ((Int×qT30)⊕(qT30)):=
 bif (decide (x<((l.length:Nat):Int))) then
  (idx? x l.length).bind fun q=>
  (l)[q]?.bind fun r=>
  Option.bind (α:=(qT30)) (
   bif h3 then
    some (h2,(true,h4))
   else
    bif (decide (r<0)) then
     some (h2,(true,h4))
    else
     some (h2,((decide (r>4611686018427387904)),h4))) fun o=>
  (bUino0 fu (IntKind.wrap .u64 r) o.2.2).bind fun r1=>
  some (.inl ((IntKind.wrap .i64 (x+1)),(o.1,(o.2.1,r1))))
 else
  some (.inr (h2,(h3,h4)))
def swriuin2_l0_it(fu:Nat)(l:List (Int))(tt:(Int×qT30)):Option (qT30):=
 iter fu (fun tt=>swriuin2_l0 fu l tt.1 tt.2.1 tt.2.2.1 tt.2.2.2) tt
def swriuin2(fu:Nat)(l:List (Int))(h:List (Int))(h1:Bool):Option (qT30):=
 (swriuin2_l0_it fu l (0,(h,(h1,[])))).bind fun o1=>
 some (o1.1,(o1.2.1,o1.2.2))
def swriuin2_fa:FnA:=⟨.two (.leaf) (.one (.pre (.ownCell 0 1 5 100) (.loop ⟨[0,8],⟨(.cons (.own 0 0 0 0) qL5),[(0,false,(.vars (.cons (.pt (.int .u32)) (.cons (.slf 1 100) (.cons (.p .bool) .nil))))),(100,false,(.rows 5 .byte))]⟩⟩ false [(0,⟨[0],⟨(.cons (.own 0 0 0 0) .nil),[(0,false,(.vars (.cons (.pt (.int .u32)) (.cons (.slf 1 100) (.cons (.p .bool) .nil))))),(100,false,(.rows 5 .byte))]⟩⟩)] (.two (.leaf) (.two (.leaf) (.two (.one (.two (.leaf) (.two (.join ⟨[0],⟨(.cons (.own 0 0 0 0) .nil),[(0,false,(.vars (.cons (.pt (.int .u32)) (.cons (.slf 1 100) (.cons (.p .bool) .nil))))),(100,false,(.rows 5 .byte))]⟩⟩ false [] (.leaf)) (.reg [(7,{ids:=[101],sh:=[100]})])))) (.leaf))))))),⟨(.cons (.own 0 0 0 0) (.cons (.p (.sl (.int .i64))) .nil)),[(0,false,(.vars (.cons (.pt (.int .u32)) (.cons (.nilp (.slice none 0 0)) (.cons (.p .bool) .nil)))))]⟩,[⟨.nil,[(0,false,(.vars (.cons (.pt (.int .u32)) (.cons (.slf 1 1) (.cons (.p .bool) .nil))))),(1,false,(.rows 5 .byte))]⟩],[]⟩
def swriuin2_ft(fu:Nat):FnT:=⟨36,swriuin2_fa.i,swriuin2_fa.os,fun t=>swriuin2 fu t.1 t.2.1 t.2.2⟩
theorem hkZ(fu:Nat):∀t,evF Go.Proofs.Tryz.prog [bUino0_ft fu] fu Go.Proofs.Tryz.f36 swriuin2_fa t=(swriuin2_ft fu).spec t:=fun t=>by kernel_rfl
theorem f1Z(fu:Nat):Told Go.Proofs.Tryz.prog (swriuin2_ft fu):=afZ (aaZ (dwZ fu) adZ) mixed Go.Proofs.Tryz.func36 (by kernel_rfl) (by kernel_rfl) (hkZ fu)
def swriuin_l0(fu:Nat)(l:List (Int))(x:Int)(h3:List (Int))(h4:Bool)(h5:List (UInt8)):Option ((Int×qT30)⊕(qT30)):=
 bif (decide (x<((l.length:Nat):Int))) then
  (idx? x l.length).bind fun q=>
  (l)[q]?.bind fun r=>
  Option.bind (α:=(qT30)) (
   bif h4 then
    some (h3,(true,h5))
   else
    bif (decide (r<0)) then
     some (h3,(true,h5))
    else
     some (h3,((decide (r>4611686018427387904)),h5))) fun o=>
  (bUino0 fu (IntKind.wrap .u64 r) o.2.2).bind fun r1=>
  some (.inl ((IntKind.wrap .i64 (x+1)),(o.1,(o.2.1,r1))))
 else
  some (.inr (h3,(h4,h5)))
def swriuin_l0_it(fu:Nat)(l:List (Int))(tt:(Int×qT30)):Option (qT30):=
 iter fu (fun tt=>swriuin_l0 fu l tt.1 tt.2.1 tt.2.2.1 tt.2.2.2) tt
def swriuin(fu:Nat)(l:List (Int))(h:List (Int))(h1:Bool)(h2:List (UInt8)):Option (qT30):=
 (swriuin_l0_it fu l (0,(h,(h1,h2)))).bind fun o1=>
 some (o1.1,(o1.2.1,o1.2.2))
def swriuin_fa:FnA:=⟨.two (.leaf) (.one (.pre (.renum 1 100) (.loop ⟨[0,8],⟨(.cons (.own 0 0 0 0) qL5),[(0,false,(.vars (.cons (.pt (.int .u32)) (.cons (.slf 1 100) (.cons (.p .bool) .nil))))),(100,false,(.rows 5 .byte))]⟩⟩ false [(0,⟨[0],⟨(.cons (.own 0 0 0 0) .nil),[(0,false,(.vars (.cons (.pt (.int .u32)) (.cons (.slf 1 100) (.cons (.p .bool) .nil))))),(100,false,(.rows 5 .byte))]⟩⟩)] (.two (.leaf) (.two (.leaf) (.two (.one (.two (.leaf) (.two (.join ⟨[0],⟨(.cons (.own 0 0 0 0) .nil),[(0,false,(.vars (.cons (.pt (.int .u32)) (.cons (.slf 1 100) (.cons (.p .bool) .nil))))),(100,false,(.rows 5 .byte))]⟩⟩ false [] (.leaf)) (.reg [(7,{ids:=[101],sh:=[100]})])))) (.leaf))))))),⟨(.cons (.own 0 0 0 0) (.cons (.p (.sl (.int .i64))) .nil)),[(0,false,(.vars (.cons (.pt (.int .u32)) (.cons (.slf 1 1) (.cons (.p .bool) .nil))))),(1,false,(.rows 5 .byte))]⟩,[⟨.nil,[(0,false,(.vars (.cons (.pt (.int .u32)) (.cons (.slf 1 2) (.cons (.p .bool) .nil))))),(2,false,(.rows 5 .byte))]⟩],[]⟩
def swriuin_ft(fu:Nat):FnT:=⟨36,swriuin_fa.i,swriuin_fa.os,fun t=>swriuin fu t.1 t.2.1 t.2.2.1 t.2.2.2⟩
theorem hXZ(fu:Nat):∀t,evF Go.Proofs.Tryz.prog [bUino0_ft fu] fu Go.Proofs.Tryz.f36 swriuin_fa t=(swriuin_ft fu).spec t:=fun t=>by kernel_rfl
theorem gvZ(fu:Nat):Told Go.Proofs.Tryz.prog (swriuin_ft fu):=afZ (aaZ (dwZ fu) adZ) mixed Go.Proofs.Tryz.func36 (by kernel_rfl) (by kernel_rfl) (hXZ fu)
def swridon(fu:Nat)(h:List (Int))(h1:Bool)(h2:List (UInt8)):Option ((Int×qT30)⊕(List (UInt8)×(Int×qT30))):=
 bif h1 then
  some (.inl (2,(h,(h1,h2))))
 else
  some (.inr (h2,(0,(h,(h1,h2)))))
def swridon_fa:FnA:=⟨.two (.leaf) (.two (.two (.leaf) (.two (.leaf) (.leaf))) (.leaf)),⟨(.cons (.own 0 0 0 0) .nil),[(0,false,(.vars (.cons (.pt (.int .u32)) (.cons (.slf 1 1) (.cons (.p .bool) .nil))))),(1,false,(.rows 5 .byte))]⟩,[⟨(.cons (.nilp (.slice none 0 0)) qL5),[(0,false,(.vars (.cons (.pt (.int .u32)) (.cons (.slf 1 1) (.cons (.p .bool) .nil))))),(1,false,(.rows 5 .byte))]⟩,⟨(.cons (.p (.sl .byte)) qL5),[(0,false,(.vars (.cons (.pt (.int .u32)) (.cons (.slf 1 1) (.cons (.p .bool) .nil))))),(1,true,(.rows 5 .byte))]⟩],[1,0]⟩
def swridon_ft(fu:Nat):FnT:=⟨42,swridon_fa.i,swridon_fa.os,fun t=>swridon fu t.1 t.2.1 t.2.2⟩
theorem ikZ(fu:Nat):∀t,evF Go.Proofs.Tryz.prog [] fu Go.Proofs.Tryz.f42 swridon_fa t=(swridon_ft fu).spec t:=fun t=>by kernel_rfl
theorem geZ(fu:Nat):Told Go.Proofs.Tryz.prog (swridon_ft fu):=afZ adZ mixed Go.Proofs.Tryz.func42 (by kernel_rfl) (by kernel_rfl) (ikZ fu)
def sPutCha(fu:Nat)(t:List (Int))(c:qT28):Option ((List (UInt8)×Int)):=
 (byte? ((c.2.2.1.2.2.1.toNat:Nat):Int)).bind fun c1=>
 (srig fu (c.1,(c.2.1,((c.2.2.1.1,(c.2.2.1.2.1,(c1,((c.2.2.1.2.2.2.1.1,c.2.2.1.2.2.2.1.2),(c.2.2.1.2.2.2.2.1,((c.2.2.1.2.2.2.2.2.1.1,c.2.2.1.2.2.2.2.2.1.2),(c.2.2.1.2.2.2.2.2.2.1,(c.2.2.1.2.2.2.2.2.2.2.1,(c.2.2.1.2.2.2.2.2.2.2.2.1,c.2.2.1.2.2.2.2.2.2.2.2.2))))))))),(c.2.2.2.1,(c.2.2.2.2.1,(c.2.2.2.2.2.1,c.2.2.2.2.2.2))))))).bind fun r=>
 bif (!r) then
  some ([],2)
 else
  (swriuin2 fu [c.1,c.2.1,c.2.2.2.2.1,c.2.2.2.2.2.1,c.2.2.2.2.2.2,((c.2.2.2.1.length:Nat):Int)] t false).bind fun r1=>
  (swriuin fu c.2.2.2.1 r1.1 r1.2.1 r1.2.2).bind fun r2=>
  bif (c.1==2) then
   none
  else
   (swridon fu r2.1 r2.2.1 r2.2.2).bind fun r3=>
   match r3 with
   |.inl r4=>
    some ([],r4.1)
   |.inr r5=>
    some (r5.1,r5.2.1)
def sPutCha_fa:FnA:=⟨.two (.reg [(0,{ids:=[100]})]) (.two (.two (.reg [(1,{})]) (.two (.leaf) (.leaf))) (.two (.reg [(2,{ids:=[101]})]) (.two (.reg [(14,{ids:=[102]}),(15,{ids:=[103],sh:=[101],md:=[0,1],fn:=1})]) (.two (.reg [(3,{ids:=[104],sh:=[101,103],fn:=2})]) (.two (.two (.leaf) (.two (.pre (.mem 0 15) (.leaf)) (.leaf))) (.two (.reg [(1,{sh:=[101,104],fn:=3})]) (.leaf))))))),⟨(.cons (.pt (.int .u32)) qL27),[]⟩,[⟨(.cons (.p (.sl .byte)) qL5),[]⟩],[0,0]⟩
def sPutCha_ft(fu:Nat):FnT:=⟨16,sPutCha_fa.i,sPutCha_fa.os,fun t=>sPutCha fu t.1 t.2⟩
theorem i9Z(fu:Nat):∀t,evF Go.Proofs.Tryz.prog [srig_ft fu,swriuin2_ft fu,swriuin_ft fu,swridon_ft fu] fu Go.Proofs.Tryz.f16 sPutCha_fa t=(sPutCha_ft fu).spec t:=fun t=>by kernel_rfl
theorem f9Z(fu:Nat):Told Go.Proofs.Tryz.prog (sPutCha_ft fu):=afZ (aaZ (fZZ fu) (aaZ (f1Z fu) (aaZ (gvZ fu) (aaZ (geZ fu) adZ)))) mixed Go.Proofs.Tryz.func16 (by kernel_rfl) (by kernel_rfl) (i9Z fu)
def lSamByt(fu:Nat)(a:List (UInt8))(b:List (UInt8)):Option (Bool):=
 some (a==b)
def lSamByt_fa:FnA:=⟨.two (.leaf) (.leaf),⟨(.cons (.p (.sl .byte)) (.cons (.p (.sl .byte)) .nil)),[]⟩,[⟨(.cons (.p .bool) .nil),[]⟩],[0]⟩
def lSamByt_ft(fu:Nat):FnT:=⟨27,lSamByt_fa.i,lSamByt_fa.os,fun t=>lSamByt fu t.1 t.2⟩
theorem ifZ(fu:Nat):∀t,evF Go.Proofs.Tryz.prog [] fu Go.Proofs.Tryz.f27 lSamByt_fa t=(lSamByt_ft fu).spec t:=fun t=>by kernel_rfl
theorem dgZ(fu:Nat):Told Go.Proofs.Tryz.prog (lSamByt_ft fu):=afZ adZ mixed Go.Proofs.Tryz.func27 (by kernel_rfl) (by kernel_rfl) (ifZ fu)
def law26_awake(fu:Nat):Option (Bool):=
 (bTab fu).bind fun r=>
 need (Nat.beq (List.replicate (α:=Int) 256 0).length 256)<|
 need (Nat.beq r.length 256)<|
 (sPutCha fu r (1,(3,((0,(0,((UInt8.ofNat 0),((0,0),([],((0,0),([],(0,(0,[]))))))))),([],(0,(0,0))))))).bind fun r1=>
 (sPutCha fu r (3,(0,((0,(0,((UInt8.ofNat 0),((0,0),([],((0,0),([],(0,(0,[]))))))))),([],(0,(1,5))))))).bind fun r2=>
 (state_New fu 1 [(1,[0])]).bind fun r3=>
 (save_Do fu (r3.1,((r3.2.1,r3.2.2.1),((r3.2.2.2.1,r3.2.2.2.2.1),(r3.2.2.2.2.2.1,r3.2.2.2.2.2.2.1)))) 16 (1,(2,((0,(0,((UInt8.ofNat 0),((0,0),([],((0,0),([],(0,(0,[]))))))))),([],(0,(0,0))))))).bind fun r4=>
 bif (r1.2==0) then
  bif (r2.2==0) then
   bif (r3.2.2.2.2.2.2.2==0) then
    (lSamByt fu r1.1 [(UInt8.ofNat 1),(UInt8.ofNat 3),(UInt8.ofNat 0),(UInt8.ofNat 0),(UInt8.ofNat 0),(UInt8.ofNat 0)]).bind fun r5=>
    bif r5 then
     (lSamByt fu r2.1 [(UInt8.ofNat 3),(UInt8.ofNat 0),(UInt8.ofNat 0),(UInt8.ofNat 1),(UInt8.ofNat 5),(UInt8.ofNat 0)]).bind fun r6=>
     bif r6 then
      some (r4.2.2.2.2.2.2.2.2.2.2.2.2.2.2.2.2==80)
     else
      some false
    else
     some false
   else
    some false
  else
   some false
 else
  some false
def law26_awake_fa:FnA:=⟨.two (.leaf) (.two (.reg [(0,{}),(1,{ids:=[100]})]) (.two (.reg [(1,{md:=[1,0],fn:=1})]) (.two (.reg [(1,{md:=[1,0],fn:=1})]) (.two (.reg [(0,{ids:=[101]}),(2,{ids:=[102]}),(3,{md:=[0,1],fn:=2}),(7,{ids:=[103]})]) (.two (.reg [(2,{fn:=3}),(7,{ids:=[104]}),(8,{ids:=[105]})]) (.two (.reg [(12,{ids:=[106]}),(13,{md:=[0,2],fn:=4}),(17,{ids:=[107]}),(18,{md:=[0,2],fn:=4})]) (.leaf))))))),⟨.nil,[]⟩,[⟨(.cons (.p .bool) .nil),[]⟩],[0]⟩
def law26_awake_ft(fu:Nat):FnT:=⟨7,law26_awake_fa.i,law26_awake_fa.os,fun t=>law26_awake fu⟩
theorem ewZ(fu:Nat):∀t,evF Go.Proofs.Tryz.prog [bTab_ft fu,sPutCha_ft fu,state_New_ft fu,save_Do_ft fu,lSamByt_ft fu] fu Go.Proofs.Tryz.f7 law26_awake_fa t=(law26_awake_ft fu).spec t:=fun t=>by kernel_rfl
theorem dlZ(fu:Nat):Told Go.Proofs.Tryz.prog (law26_awake_ft fu):=afZ (aaZ (jlZ fu) (aaZ (f9Z fu) (aaZ (ckZ fu) (aaZ (daZ fu) (aaZ (dgZ fu) adZ))))) mixed Go.Proofs.Tryz.func7 (by kernel_rfl) (by kernel_rfl) (ewZ fu)
def kSamPar_l0(fu:Nat)(a:List ((Int×Int)))(b:List ((Int×Int)))(i:Int):Option (Int⊕(Unit⊕Bool)):=
 bif (decide (i<((a.length:Nat):Int))) then
  (idx? i a.length).bind fun q=>
  (a)[q]?.bind fun r=>
  (idx? i b.length).bind fun q1=>
  (b)[q1]?.bind fun r1=>
  bif (!((r.1==r1.1)&&(r.2==r1.2))) then
   some (.inr (.inr false))
  else
   some (.inl (IntKind.wrap .i64 (i+1)))
 else
  some (.inr (.inl ()))
def kSamPar_l0_it(fu:Nat)(a:List ((Int×Int)))(b:List ((Int×Int)))(tt:Int):Option (Unit⊕Bool):=
 iter fu (fun tt=>kSamPar_l0 fu a b tt) tt
def kSamPar(fu:Nat)(a:List ((Int×Int)))(b:List ((Int×Int))):Option (Bool):=
 bif (!(((a.length:Nat):Int)==((b.length:Nat):Int))) then
  some false
 else
  (kSamPar_l0_it fu a b 0).bind fun o=>
  match o with
  |.inl s=>
   some true
  |.inr o1=>
   some o1
def kSamPar_fa:FnA:=⟨.two (.leaf) (.two (.two (.leaf) (.two (.leaf) (.leaf))) (.two (.two (.leaf) (.one (.loop ⟨[5],⟨qL5,[]⟩⟩ true [(0,⟨[],⟨.nil,[]⟩⟩)] (.two (.two (.leaf) (.leaf)) (.two (.one (.two (.leaf) (.two (.leaf) (.leaf)))) (.leaf)))))) (.leaf))),⟨(.cons (.p (.sl qY22)) (.cons (.p (.sl qY22)) .nil)),[]⟩,[⟨(.cons (.p .bool) .nil),[]⟩],[0]⟩
def kSamPar_ft(fu:Nat):FnT:=⟨30,kSamPar_fa.i,kSamPar_fa.os,fun t=>kSamPar fu t.1 t.2⟩
theorem irZ(fu:Nat):∀t,evF Go.Proofs.Tryz.prog [] fu Go.Proofs.Tryz.f30 kSamPar_fa t=(kSamPar_ft fu).spec t:=fun t=>by kernel_rfl
theorem dhZ(fu:Nat):Told Go.Proofs.Tryz.prog (kSamPar_ft fu):=afZ adZ mixed Go.Proofs.Tryz.func30 (by kernel_rfl) (by kernel_rfl) (irZ fu)
def kSamEnt_l0(fu:Nat)(a:List ((List UInt8×Int)))(b:List ((List UInt8×Int)))(i:Int):Option (Int⊕(Unit⊕Bool)):=
 bif (decide (i<((a.length:Nat):Int))) then
  (idx? i a.length).bind fun q=>
  (a)[q]?.bind fun r=>
  (idx? i b.length).bind fun q1=>
  (b)[q1]?.bind fun r1=>
  bif (!((r.1==r1.1)&&(r.2==r1.2))) then
   some (.inr (.inr false))
  else
   some (.inl (IntKind.wrap .i64 (i+1)))
 else
  some (.inr (.inl ()))
def kSamEnt_l0_it(fu:Nat)(a:List ((List UInt8×Int)))(b:List ((List UInt8×Int)))(tt:Int):Option (Unit⊕Bool):=
 iter fu (fun tt=>kSamEnt_l0 fu a b tt) tt
def kSamEnt(fu:Nat)(a:List ((List UInt8×Int)))(b:List ((List UInt8×Int))):Option (Bool):=
 bif (!(((a.length:Nat):Int)==((b.length:Nat):Int))) then
  some false
 else
  (kSamEnt_l0_it fu a b 0).bind fun o=>
  match o with
  |.inl s=>
   some true
  |.inr o1=>
   some o1
def kSamEnt_fa:FnA:=⟨.two (.leaf) (.two (.two (.leaf) (.two (.leaf) (.leaf))) (.two (.two (.leaf) (.one (.loop ⟨[5],⟨qL5,[]⟩⟩ true [(0,⟨[],⟨.nil,[]⟩⟩)] (.two (.two (.leaf) (.leaf)) (.two (.one (.two (.leaf) (.two (.leaf) (.leaf)))) (.leaf)))))) (.leaf))),⟨(.cons (.p (.sl (.pair .str (.int .i64)))) (.cons (.p (.sl (.pair .str (.int .i64)))) .nil)),[]⟩,[⟨(.cons (.p .bool) .nil),[]⟩],[0]⟩
def kSamEnt_ft(fu:Nat):FnT:=⟨165,kSamEnt_fa.i,kSamEnt_fa.os,fun t=>kSamEnt fu t.1 t.2⟩
theorem iDZ(fu:Nat):∀t,evF Go.Proofs.Tryz.prog [] fu Go.Proofs.Tryz.f165 kSamEnt_fa t=(kSamEnt_ft fu).spec t:=fun t=>by kernel_rfl
theorem deZ(fu:Nat):Told Go.Proofs.Tryz.prog (kSamEnt_ft fu):=afZ adZ mixed Go.Proofs.Tryz.func165 (by kernel_rfl) (by kernel_rfl) (iDZ fu)
def kSamIno(fu:Nat)(a:qT1)(b:qT1):Option (Bool):=
 bif (a.1==b.1) then
  bif (a.2.1==b.2.1) then
   bif (a.2.2.1==b.2.2.1) then
    bif (a.2.2.2.1==b.2.2.2.1) then
     bif (a.2.2.2.2.1==b.2.2.2.2.1) then
      bif (a.2.2.2.2.2.2.1==b.2.2.2.2.2.2.1) then
       (kSamPar fu a.2.2.2.2.2.1 b.2.2.2.2.2.1).bind fun r=>
       bif r then
        (kSamEnt fu a.2.2.2.2.2.2.2 b.2.2.2.2.2.2.2).bind fun r1=>
        some r1
       else
        some false
      else
       some false
     else
      some false
    else
     some false
   else
    some false
  else
   some false
 else
  some false
def kSamIno_fa:FnA:=⟨.two (.reg [(0,{ids:=[100]}),(1,{ids:=[101]})]) (.two (.reg [(45,{}),(52,{fn:=1})]) (.leaf)),⟨(.cons (.p qY4) (.cons (.p qY4) .nil)),[]⟩,[⟨(.cons (.p .bool) .nil),[]⟩],[0]⟩
def kSamIno_ft(fu:Nat):FnT:=⟨90,kSamIno_fa.i,kSamIno_fa.os,fun t=>kSamIno fu t.1 t.2⟩
theorem hOZ(fu:Nat):∀t,evF Go.Proofs.Tryz.prog [kSamPar_ft fu,kSamEnt_ft fu] fu Go.Proofs.Tryz.f90 kSamIno_fa t=(kSamIno_ft fu).spec t:=fun t=>by kernel_rfl
theorem gfZ(fu:Nat):Told Go.Proofs.Tryz.prog (kSamIno_ft fu):=afZ (aaZ (dhZ fu) (aaZ (deZ fu) adZ)) mixed Go.Proofs.Tryz.func90 (by kernel_rfl) (by kernel_rfl) (hOZ fu)
def kSamTre_l0(fu:Nat)(o:(Bool×(List (qT1)×(Int×(List (qT1)×Int)))))(x:Int)(h:List (qT1))(h1:Int)(h2:List (qT1))(h3:Int):Option ((Int×(List (qT1)×(Int×(List (qT1)×Int))))⊕(Unit⊕Bool)):=
 bif (decide (x<((o.2.1.length:Nat):Int))) then
  (idx? x h.length).bind fun q=>
  (h)[q]?.bind fun r=>
  (idx? x h2.length).bind fun q1=>
  (h2)[q1]?.bind fun r1=>
  (kSamIno fu r r1).bind fun r2=>
  bif (!r2) then
   some (.inr (.inr false))
  else
   some (.inl ((IntKind.wrap .i64 (x+1)),(h,(h1,(h2,h3)))))
 else
  some (.inr (.inl ()))
def kSamTre_l0_it(fu:Nat)(o:(Bool×(List (qT1)×(Int×(List (qT1)×Int)))))(tt:(Int×(List (qT1)×(Int×(List (qT1)×Int))))):Option (Unit⊕Bool):=
 iter fu (fun tt=>kSamTre_l0 fu o tt.1 tt.2.1 tt.2.2.1 tt.2.2.2.1 tt.2.2.2.2) tt
def kSamTre(fu:Nat)(a:(List (qT1)×Int))(b:(List (qT1)×Int)):Option (Bool):=
 Option.bind (α:=((Bool×(List (qT1)×(Int×(List (qT1)×Int)))))) (
  bif (!(a.2==b.2)) then
   some (true,(a.1,(a.2,(b.1,b.2))))
  else
   some ((!(((a.1.length:Nat):Int)==((b.1.length:Nat):Int))),(a.1,(a.2,(b.1,b.2))))) fun o=>
 bif o.1 then
  some false
 else
  (kSamTre_l0_it fu o (0,(o.2.1,(o.2.2.1,(o.2.2.2.1,o.2.2.2.2))))).bind fun o1=>
  match o1 with
  |.inl s=>
   some true
  |.inr o2=>
   some o2
def kSamTre_fa:FnA:=⟨.two (.reg [(0,{ids:=[100]}),(1,{ids:=[101]})]) (.two (.two (.join ⟨[2,3,19],⟨qL34,[(100,false,qB26),(101,false,qB26)]⟩⟩ false [] (.leaf)) (.two (.leaf) (.leaf))) (.two (.two (.leaf) (.one (.loop ⟨[2,3,23],⟨(.cons (.own 0 100 0 0) (.cons (.own 0 101 0 0) qL5)),[(100,false,qB26),(101,false,qB26)]⟩⟩ true [(0,⟨[],⟨.nil,[]⟩⟩)] (.two (.leaf) (.two (.leaf) (.two (.one (.two (.leaf) (.two (.reg [(10,{})]) (.two (.leaf) (.leaf))))) (.leaf))))))) (.leaf))),⟨(.cons (.p (.pair (.sl qY4) (.int .i64))) (.cons (.p (.pair (.sl qY4) (.int .i64))) .nil)),[]⟩,[⟨(.cons (.p .bool) .nil),[]⟩],[0]⟩
def kSamTre_ft(fu:Nat):FnT:=⟨28,kSamTre_fa.i,kSamTre_fa.os,fun t=>kSamTre fu t.1 t.2⟩
theorem ixZ(fu:Nat):∀t,evF Go.Proofs.Tryz.prog [kSamIno_ft fu] fu Go.Proofs.Tryz.f28 kSamTre_fa t=(kSamTre_ft fu).spec t:=fun t=>by kernel_rfl
theorem grZ(fu:Nat):Told Go.Proofs.Tryz.prog (kSamTre_ft fu):=afZ (aaZ (gfZ fu) adZ) mixed Go.Proofs.Tryz.func28 (by kernel_rfl) (by kernel_rfl) (ixZ fu)
def law21_SameReply(fu:Nat)(a:qT8)(b:qT8):Option (Bool):=
 bif (a.1==b.1) then
  bif (a.2.1==b.2.1) then
   bif (a.2.2.1==b.2.2.1) then
    bif ((a.2.2.2.1.1==b.2.2.2.1.1)&&(a.2.2.2.1.2==b.2.2.2.1.2)) then
     bif (a.2.2.2.2.1==b.2.2.2.2.1) then
      bif (a.2.2.2.2.2.1==b.2.2.2.2.2.1) then
       (lSamByt fu a.2.2.2.2.2.2.1 b.2.2.2.2.2.2.1).bind fun r=>
       bif r then
        (kSamEnt fu a.2.2.2.2.2.2.2.1 b.2.2.2.2.2.2.2.1).bind fun r1=>
        bif r1 then
         bif (a.2.2.2.2.2.2.2.2.1==b.2.2.2.2.2.2.2.2.1) then
          some (a.2.2.2.2.2.2.2.2.2==b.2.2.2.2.2.2.2.2.2)
         else
          some false
        else
         some false
       else
        some false
      else
       some false
     else
      some false
    else
     some false
   else
    some false
  else
   some false
 else
  some false
def law21_SameReply_fa:FnA:=⟨.two (.reg [(0,{ids:=[100]}),(1,{ids:=[101]})]) (.two (.reg [(45,{}),(52,{fn:=1})]) (.leaf)),⟨(.cons (.p qY3) (.cons (.p qY3) .nil)),[]⟩,[⟨(.cons (.p .bool) .nil),[]⟩],[0]⟩
def law21_SameReply_ft(fu:Nat):FnT:=⟨91,law21_SameReply_fa.i,law21_SameReply_fa.os,fun t=>law21_SameReply fu t.1 t.2⟩
theorem c6Z(fu:Nat):∀t,evF Go.Proofs.Tryz.prog [lSamByt_ft fu,kSamEnt_ft fu] fu Go.Proofs.Tryz.f91 law21_SameReply_fa t=(law21_SameReply_ft fu).spec t:=fun t=>by kernel_rfl
theorem cjZ(fu:Nat):Told Go.Proofs.Tryz.prog (law21_SameReply_ft fu):=afZ (aaZ (dgZ fu) (aaZ (deZ fu) adZ)) mixed Go.Proofs.Tryz.func91 (by kernel_rfl) (by kernel_rfl) (c6Z fu)
def law23_Same_l0(fu:Nat)(o1:(Bool×(Int×(List (qT0)×(Int×(List (qT0)×(Int×(Int×(List (qT8)×qT0)))))))))(x1:Int)(h4:Int)(h5:List (qT0))(h6:Int)(h7:List (qT0))(h8:Int)(h9:Int)(h10:List (qT8))(h11:Int)(h12:Int)(h13:List (qT8)):Option ((Int×(Int×(List (qT0)×(Int×(List (qT0)×(Int×(Int×(List (qT8)×qT0))))))))⊕((Int×(List (qT0)×(Int×List (qT0))))⊕((Int×(Int×(List (qT0)×(Int×List (qT0)))))⊕(Unit⊕Bool)))):=
 bif (decide (x1<((o1.2.2.2.2.2.2.2.1.length:Nat):Int))) then
  (idx? x1 h10.length).bind fun q2=>
  (h10)[q2]?.bind fun r2=>
  (idx? x1 h13.length).bind fun q3=>
  (h13)[q3]?.bind fun r3=>
  (law21_SameReply fu r2 r3).bind fun r4=>
  bif (!r4) then
   some (.inr (.inr (.inr (.inr false))))
  else
   some (.inl ((IntKind.wrap .i64 (x1+1)),(h4,(h5,(h6,(h7,(h8,(h9,(h10,(h11,(h12,h13)))))))))))
 else
  some (.inr (.inl (h4,(h5,(h6,h7)))))
def law23_Same_l0_it(fu:Nat)(o1:(Bool×(Int×(List (qT0)×(Int×(List (qT0)×(Int×(Int×(List (qT8)×qT0)))))))))(tt:(Int×(Int×(List (qT0)×(Int×(List (qT0)×(Int×(Int×(List (qT8)×qT0))))))))):Option ((Int×(List (qT0)×(Int×List (qT0))))⊕((Int×(Int×(List (qT0)×(Int×List (qT0)))))⊕(Unit⊕Bool))):=
 iter fu (fun tt=>law23_Same_l0 fu o1 tt.1 tt.2.1 tt.2.2.1 tt.2.2.2.1 tt.2.2.2.2.1 tt.2.2.2.2.2.1 tt.2.2.2.2.2.2.1 tt.2.2.2.2.2.2.2.1 tt.2.2.2.2.2.2.2.2.1 tt.2.2.2.2.2.2.2.2.2.1 tt.2.2.2.2.2.2.2.2.2.2) tt
def law23_Same_l1(fu:Nat)(o:(Bool×(Int×(List (qT0)×(Int×List (qT0))))))(x:Int)(h:Int)(h1:List (qT0))(h2:Int)(h3:List (qT0)):Option ((Int×(Int×(List (qT0)×(Int×List (qT0)))))⊕(Unit⊕Bool)):=
 bif (decide (x<((o.2.2.1.length:Nat):Int))) then
  (idx? x h1.length).bind fun q=>
  (h1)[q]?.bind fun r=>
  (idx? x h3.length).bind fun q1=>
  (h3)[q1]?.bind fun r1=>
  Option.bind (α:=((Bool×(Int×(List (qT0)×(Int×(List (qT0)×(Int×(Int×(List (qT8)×qT0)))))))))) (
   bif (!(r.1==r1.1)) then
    some (true,(h,(h1,(h2,(h3,(r.1,(r.2.1,(r.2.2,(r1.1,(r1.2.1,r1.2.2))))))))))
   else
    bif (!(r.2.1==r1.2.1)) then
     some (true,(h,(h1,(h2,(h3,(r.1,(r.2.1,(r.2.2,(r1.1,(r1.2.1,r1.2.2))))))))))
    else
     some ((!(((r.2.2.length:Nat):Int)==((r1.2.2.length:Nat):Int))),(h,(h1,(h2,(h3,(r.1,(r.2.1,(r.2.2,(r1.1,(r1.2.1,r1.2.2))))))))))) fun o1=>
  bif o1.1 then
   some (.inr (.inr false))
  else
   (law23_Same_l0_it fu o1 (0,(o1.2.1,(o1.2.2.1,(o1.2.2.2.1,(o1.2.2.2.2.1,(o1.2.2.2.2.2.1,(o1.2.2.2.2.2.2.1,(o1.2.2.2.2.2.2.2.1,(o1.2.2.2.2.2.2.2.2.1,(o1.2.2.2.2.2.2.2.2.2.1,o1.2.2.2.2.2.2.2.2.2.2))))))))))).bind fun o2=>
   match o2 with
   |.inl s=>
    some (.inl ((IntKind.wrap .i64 (x+1)),(s.1,(s.2.1,(s.2.2.1,s.2.2.2)))))
   |.inr o3=>
    some o3
 else
  some (.inr (.inl ()))
def law23_Same_l1_it(fu:Nat)(o:(Bool×(Int×(List (qT0)×(Int×List (qT0))))))(tt:(Int×(Int×(List (qT0)×(Int×List (qT0)))))):Option (Unit⊕Bool):=
 iter fu (fun tt=>law23_Same_l1 fu o tt.1 tt.2.1 tt.2.2.1 tt.2.2.2.1 tt.2.2.2.2) tt
def law23_Same(fu:Nat)(a:(Int×List (qT0)))(b:(Int×List (qT0))):Option (Bool):=
 Option.bind (α:=((Bool×(Int×(List (qT0)×(Int×List (qT0))))))) (
  bif (!(a.1==b.1)) then
   some (true,(a.1,(a.2,(b.1,b.2))))
  else
   some ((!(((a.2.length:Nat):Int)==((b.2.length:Nat):Int))),(a.1,(a.2,(b.1,b.2))))) fun o=>
 bif o.1 then
  some false
 else
  (law23_Same_l1_it fu o (0,(o.2.1,(o.2.2.1,(o.2.2.2.1,o.2.2.2.2))))).bind fun o4=>
  match o4 with
  |.inl s1=>
   some true
  |.inr o5=>
   some o5
def law23_Same_fa:FnA:=⟨.two (.reg [(0,{ids:=[100]}),(1,{ids:=[101]})]) (.two (.two (.join ⟨[2,3,22],⟨qL34,[(100,false,qB24),(101,false,qB24)]⟩⟩ false [] (.leaf)) (.two (.leaf) (.leaf))) (.two (.two (.leaf) (.one (.loop ⟨[2,3,26],⟨(.cons (.own 0 100 0 0) (.cons (.own 0 101 0 0) qL5)),[(100,false,qB24),(101,false,qB24)]⟩⟩ true [(0,⟨[],⟨.nil,[]⟩⟩)] (.two (.leaf) (.two (.leaf) (.two (.one (.two (.leaf) (.two (.reg [(10,{ids:=[102]}),(11,{ids:=[103]})]) (.two (.two (.join ⟨[2,3,6,7,59],⟨(.cons (.own 0 100 0 0) (.cons (.own 0 101 0 0) (.cons (.own 0 102 0 0) (.cons (.own 0 103 0 0) (.cons (.p .bool) .nil))))),[(100,false,qB24),(101,false,qB24),(102,false,qB13),(103,false,qB13)]⟩⟩ false [] (.leaf)) (.two (.leaf) (.leaf))) (.two (.leaf) (.one (.loop ⟨[2,3,6,7,63],⟨(.cons (.own 0 100 0 0) (.cons (.own 0 101 0 0) (.cons (.own 0 102 0 0) (.cons (.own 0 103 0 0) qL5)))),[(100,false,qB24),(101,false,qB24),(102,false,qB13),(103,false,qB13)]⟩⟩ true [(2,⟨[2,3],⟨(.cons (.own 0 100 0 0) (.cons (.own 0 101 0 0) .nil)),[(100,false,qB24),(101,false,qB24)]⟩⟩)] (.two (.leaf) (.two (.leaf) (.two (.one (.two (.leaf) (.two (.reg [(10,{})]) (.two (.leaf) (.leaf))))) (.leaf))))))))))) (.leaf))))))) (.leaf))),⟨(.cons (.p (.pair (.int .i64) (.sl qY10))) (.cons (.p (.pair (.int .i64) (.sl qY10))) .nil)),[]⟩,[⟨(.cons (.p .bool) .nil),[]⟩],[0]⟩
def law23_Same_ft(fu:Nat):FnT:=⟨29,law23_Same_fa.i,law23_Same_fa.os,fun t=>law23_Same fu t.1 t.2⟩
theorem eYZ(fu:Nat):∀t,evF Go.Proofs.Tryz.prog [law21_SameReply_ft fu] fu Go.Proofs.Tryz.f29 law23_Same_fa t=(law23_Same_ft fu).spec t:=fun t=>by kernel_rfl
theorem ecZ(fu:Nat):Told Go.Proofs.Tryz.prog (law23_Same_ft fu):=afZ (aaZ (cjZ fu) adZ) mixed Go.Proofs.Tryz.func29 (by kernel_rfl) (by kernel_rfl) (eYZ fu)
def lSamInt_l0(fu:Nat)(a:List (Int))(b:List (Int))(i:Int):Option (Int⊕(Unit⊕Bool)):=
 bif (decide (i<((a.length:Nat):Int))) then
  (idx? i a.length).bind fun q=>
  (a)[q]?.bind fun r=>
  (idx? i b.length).bind fun q1=>
  (b)[q1]?.bind fun r1=>
  bif (!(r==r1)) then
   some (.inr (.inr false))
  else
   some (.inl (IntKind.wrap .i64 (i+1)))
 else
  some (.inr (.inl ()))
def lSamInt_l0_it(fu:Nat)(a:List (Int))(b:List (Int))(tt:Int):Option (Unit⊕Bool):=
 iter fu (fun tt=>lSamInt_l0 fu a b tt) tt
def lSamInt(fu:Nat)(a:List (Int))(b:List (Int)):Option (Bool):=
 bif (!(((a.length:Nat):Int)==((b.length:Nat):Int))) then
  some false
 else
  (lSamInt_l0_it fu a b 0).bind fun o=>
  match o with
  |.inl s=>
   some true
  |.inr o1=>
   some o1
def lSamInt_fa:FnA:=⟨.two (.leaf) (.two (.two (.leaf) (.two (.leaf) (.leaf))) (.two (.two (.leaf) (.one (.loop ⟨[5],⟨qL5,[]⟩⟩ true [(0,⟨[],⟨.nil,[]⟩⟩)] (.two (.two (.leaf) (.leaf)) (.two (.one (.two (.leaf) (.two (.leaf) (.leaf)))) (.leaf)))))) (.leaf))),⟨(.cons (.p (.sl (.int .i64))) (.cons (.p (.sl (.int .i64))) .nil)),[]⟩,[⟨(.cons (.p .bool) .nil),[]⟩],[0]⟩
def lSamInt_ft(fu:Nat):FnT:=⟨31,lSamInt_fa.i,lSamInt_fa.os,fun t=>lSamInt fu t.1 t.2⟩
theorem iBZ(fu:Nat):∀t,evF Go.Proofs.Tryz.prog [] fu Go.Proofs.Tryz.f31 lSamInt_fa t=(lSamInt_ft fu).spec t:=fun t=>by kernel_rfl
theorem gdZ(fu:Nat):Told Go.Proofs.Tryz.prog (lSamInt_ft fu):=afZ adZ mixed Go.Proofs.Tryz.func31 (by kernel_rfl) (by kernel_rfl) (iBZ fu)
def law25_Same_l0(fu:Nat)(o:(Bool×qT21))(x:Int)(h:Int)(h1:List (qT1))(h2:Int)(h3:Int)(h4:List (qT0))(h5:List ((Int×List (Int))))(h6:List ((Int×Int)))(h7:Int)(h8:List (qT1))(h9:Int)(h10:Int)(h11:List (qT0))(h12:List ((Int×List (Int))))(h13:List ((Int×Int))):Option ((Int×qT21)⊕(Unit⊕Bool)):=
 bif (decide (x<((o.2.2.2.2.2.2.1.length:Nat):Int))) then
  Option.bind (α:=((Bool×qT21))) (
   (idx? x h5.length).bind fun q=>
   (h5)[q]?.bind fun r3=>
   (idx? x h12.length).bind fun q1=>
   (h12)[q1]?.bind fun r4=>
   bif (!(r3.1==r4.1)) then
    some (true,(h,(h1,(h2,(h3,(h4,(h5,(h6,(h7,(h8,(h9,(h10,(h11,(h12,h13))))))))))))))
   else
    (idx? x h5.length).bind fun q2=>
    (h5)[q2]?.bind fun r5=>
    (idx? x h12.length).bind fun q3=>
    (h12)[q3]?.bind fun r6=>
    (lSamInt fu r5.2 r6.2).bind fun r7=>
    some ((!r7),(h,(h1,(h2,(h3,(h4,(h5,(h6,(h7,(h8,(h9,(h10,(h11,(h12,h13))))))))))))))) fun o1=>
  bif o1.1 then
   some (.inr (.inr false))
  else
   some (.inl ((IntKind.wrap .i64 (x+1)),(o1.2.1,(o1.2.2.1,(o1.2.2.2.1,(o1.2.2.2.2.1,(o1.2.2.2.2.2.1,(o1.2.2.2.2.2.2.1,(o1.2.2.2.2.2.2.2.1,(o1.2.2.2.2.2.2.2.2.1,(o1.2.2.2.2.2.2.2.2.2.1,(o1.2.2.2.2.2.2.2.2.2.2.1,(o1.2.2.2.2.2.2.2.2.2.2.2.1,(o1.2.2.2.2.2.2.2.2.2.2.2.2.1,(o1.2.2.2.2.2.2.2.2.2.2.2.2.2.1,o1.2.2.2.2.2.2.2.2.2.2.2.2.2.2)))))))))))))))
 else
  some (.inr (.inl ()))
def law25_Same_l0_it(fu:Nat)(o:(Bool×qT21))(tt:(Int×qT21)):Option (Unit⊕Bool):=
 iter fu (fun tt=>law25_Same_l0 fu o tt.1 tt.2.1 tt.2.2.1 tt.2.2.2.1 tt.2.2.2.2.1 tt.2.2.2.2.2.1 tt.2.2.2.2.2.2.1 tt.2.2.2.2.2.2.2.1 tt.2.2.2.2.2.2.2.2.1 tt.2.2.2.2.2.2.2.2.2.1 tt.2.2.2.2.2.2.2.2.2.2.1 tt.2.2.2.2.2.2.2.2.2.2.2.1 tt.2.2.2.2.2.2.2.2.2.2.2.2.1 tt.2.2.2.2.2.2.2.2.2.2.2.2.2.1 tt.2.2.2.2.2.2.2.2.2.2.2.2.2.2) tt
def law25_Same(fu:Nat)(a:qT18)(b:qT18):Option (Bool):=
 Option.bind (α:=((Bool×qT21))) (
  bif (!(a.1==b.1)) then
   some (true,(a.1,(a.2.1.1,(a.2.1.2,(a.2.2.1.1,(a.2.2.1.2,(a.2.2.2.1,(a.2.2.2.2,(b.1,(b.2.1.1,(b.2.1.2,(b.2.2.1.1,(b.2.2.1.2,(b.2.2.2.1,b.2.2.2.2))))))))))))))
  else
   (kSamTre fu (a.2.1.1,a.2.1.2) (b.2.1.1,b.2.1.2)).bind fun r=>
   bif (!r) then
    some (true,(a.1,(a.2.1.1,(a.2.1.2,(a.2.2.1.1,(a.2.2.1.2,(a.2.2.2.1,(a.2.2.2.2,(b.1,(b.2.1.1,(b.2.1.2,(b.2.2.1.1,(b.2.2.1.2,(b.2.2.2.1,b.2.2.2.2))))))))))))))
   else
    (law23_Same fu (a.2.2.1.1,a.2.2.1.2) (b.2.2.1.1,b.2.2.1.2)).bind fun r1=>
    bif (!r1) then
     some (true,(a.1,(a.2.1.1,(a.2.1.2,(a.2.2.1.1,(a.2.2.1.2,(a.2.2.2.1,(a.2.2.2.2,(b.1,(b.2.1.1,(b.2.1.2,(b.2.2.1.1,(b.2.2.1.2,(b.2.2.2.1,b.2.2.2.2))))))))))))))
    else
     bif (!(((a.2.2.2.1.length:Nat):Int)==((b.2.2.2.1.length:Nat):Int))) then
      some (true,(a.1,(a.2.1.1,(a.2.1.2,(a.2.2.1.1,(a.2.2.1.2,(a.2.2.2.1,(a.2.2.2.2,(b.1,(b.2.1.1,(b.2.1.2,(b.2.2.1.1,(b.2.2.1.2,(b.2.2.2.1,b.2.2.2.2))))))))))))))
     else
      (kSamPar fu a.2.2.2.2 b.2.2.2.2).bind fun r2=>
      some ((!r2),(a.1,(a.2.1.1,(a.2.1.2,(a.2.2.1.1,(a.2.2.1.2,(a.2.2.2.1,(a.2.2.2.2,(b.1,(b.2.1.1,(b.2.1.2,(b.2.2.1.1,(b.2.2.1.2,(b.2.2.2.1,b.2.2.2.2))))))))))))))) fun o=>
 bif o.1 then
  some false
 else
  (law25_Same_l0_it fu o (0,(o.2.1,(o.2.2.1,(o.2.2.2.1,(o.2.2.2.2.1,(o.2.2.2.2.2.1,(o.2.2.2.2.2.2.1,(o.2.2.2.2.2.2.2.1,(o.2.2.2.2.2.2.2.2.1,(o.2.2.2.2.2.2.2.2.2.1,(o.2.2.2.2.2.2.2.2.2.2.1,(o.2.2.2.2.2.2.2.2.2.2.2.1,(o.2.2.2.2.2.2.2.2.2.2.2.2.1,(o.2.2.2.2.2.2.2.2.2.2.2.2.2.1,o.2.2.2.2.2.2.2.2.2.2.2.2.2.2))))))))))))))).bind fun o2=>
  match o2 with
  |.inl s=>
   some true
  |.inr o3=>
   some o3
def law25_Same_fa:FnA:=⟨.two (.reg [(0,{ids:=[100]}),(1,{ids:=[101]})]) (.two (.two (.join ⟨[2,3,43],⟨qL34,[(100,false,(.vars qL2)),(101,false,(.vars qL2))]⟩⟩ false [] (.reg [(10,{}),(18,{fn:=1}),(35,{fn:=2})])) (.two (.leaf) (.leaf))) (.two (.two (.leaf) (.one (.loop ⟨[2,3,47],⟨(.cons (.own 0 100 0 0) (.cons (.own 0 101 0 0) qL5)),[(100,false,(.vars qL2)),(101,false,(.vars qL2))]⟩⟩ true [(0,⟨[],⟨.nil,[]⟩⟩)] (.two (.leaf) (.two (.leaf) (.two (.one (.two (.leaf) (.two (.join ⟨[2,3,78],⟨qL34,[(100,false,(.vars qL2)),(101,false,(.vars qL2))]⟩⟩ false [] (.reg [(26,{fn:=3})])) (.two (.leaf) (.leaf))))) (.leaf))))))) (.leaf))),⟨(.cons (.p qY15) (.cons (.p qY15) .nil)),[]⟩,[⟨(.cons (.p .bool) .nil),[]⟩],[0]⟩
def law25_Same_ft(fu:Nat):FnT:=⟨8,law25_Same_fa.i,law25_Same_fa.os,fun t=>law25_Same fu t.1 t.2⟩
theorem eOZ(fu:Nat):∀t,evF Go.Proofs.Tryz.prog [kSamTre_ft fu,law23_Same_ft fu,kSamPar_ft fu,lSamInt_ft fu] fu Go.Proofs.Tryz.f8 law25_Same_fa t=(law25_Same_ft fu).spec t:=fun t=>by kernel_rfl
theorem d7Z(fu:Nat):Told Go.Proofs.Tryz.prog (law25_Same_ft fu):=afZ (aaZ (grZ fu) (aaZ (ecZ fu) (aaZ (dhZ fu) (aaZ (gdZ fu) adZ)))) mixed Go.Proofs.Tryz.func8 (by kernel_rfl) (by kernel_rfl) (eOZ fu)
def law26_SaveLife_l0(fu:Nat)(lives:Int)(i:Int)(h:Int)(h1:List (qT1))(h2:Int)(h3:Int)(h4:List (qT0))(h5:List ((Int×List (Int))))(h6:List ((Int×Int))):Option ((Int×qT9)⊕(qT9⊕Bool)):=
 bif (decide (i<=(IntKind.wrap .i64 (Int.tmod lives 21)))) then
  (save_Do fu (h,((h1,h2),((h3,h4),(h5,h6)))) 16 (1,(i,((0,(0,((UInt8.ofNat 0),((0,0),([],((0,0),([],(0,(0,[]))))))))),([],(0,(0,0))))))).bind fun r1=>
  (save_Do fu (r1.1,((r1.2.1,r1.2.2.1),((r1.2.2.2.1,r1.2.2.2.2.1),(r1.2.2.2.2.2.1,r1.2.2.2.2.2.2.1)))) 16 (1,(i,((0,(0,((UInt8.ofNat 0),((0,0),([],((0,0),([],(0,(0,[]))))))))),([],(0,(0,0))))))).bind fun r2=>
  Option.bind (α:=((Bool×qT21))) (
   bif (!(r1.2.2.2.2.2.2.2.2.2.2.2.2.2.2.2.2==0)) then
    some (true,(h,(h1,(h2,(h3,(h4,(h5,(h6,(r1.1,(r1.2.1,(r1.2.2.1,(r1.2.2.2.1,(r1.2.2.2.2.1,(r1.2.2.2.2.2.1,r1.2.2.2.2.2.2.1))))))))))))))
   else
    bif (!(r2.2.2.2.2.2.2.2.2.2.2.2.2.2.2.2.2==80)) then
     some (true,(h,(h1,(h2,(h3,(h4,(h5,(h6,(r1.1,(r1.2.1,(r1.2.2.1,(r1.2.2.2.1,(r1.2.2.2.2.1,(r1.2.2.2.2.2.1,r1.2.2.2.2.2.2.1))))))))))))))
    else
     some ((!(r1.1==i)),(h,(h1,(h2,(h3,(h4,(h5,(h6,(r1.1,(r1.2.1,(r1.2.2.1,(r1.2.2.2.1,(r1.2.2.2.2.1,(r1.2.2.2.2.2.1,r1.2.2.2.2.2.2.1))))))))))))))) fun o=>
  bif o.1 then
   some (.inr (.inr false))
  else
   some (.inl ((IntKind.wrap .i64 (i+1)),(o.2.2.2.2.2.2.2.2.1,(o.2.2.2.2.2.2.2.2.2.1,(o.2.2.2.2.2.2.2.2.2.2.1,(o.2.2.2.2.2.2.2.2.2.2.2.1,(o.2.2.2.2.2.2.2.2.2.2.2.2.1,(o.2.2.2.2.2.2.2.2.2.2.2.2.2.1,o.2.2.2.2.2.2.2.2.2.2.2.2.2.2))))))))
 else
  some (.inr (.inl (h,(h1,(h2,(h3,(h4,(h5,h6))))))))
def law26_SaveLife_l0_it(fu:Nat)(lives:Int)(tt:(Int×qT9)):Option (qT9⊕Bool):=
 iter fu (fun tt=>law26_SaveLife_l0 fu lives tt.1 tt.2.1 tt.2.2.1 tt.2.2.2.1 tt.2.2.2.2.1 tt.2.2.2.2.2.1 tt.2.2.2.2.2.2.1 tt.2.2.2.2.2.2.2) tt
def law26_SaveLife(fu:Nat)(lives:Int)(other:Int):Option (Bool):=
 (state_New fu 1 [(1,[0])]).bind fun r=>
 bif (!(r.2.2.2.2.2.2.2==0)) then
  some false
 else
  (law26_SaveLife_l0_it fu lives (1,(r.1,(r.2.1,(r.2.2.1,(r.2.2.2.1,(r.2.2.2.2.1,(r.2.2.2.2.2.1,r.2.2.2.2.2.2.1)))))))).bind fun o1=>
  match o1 with
  |.inl s=>
   bif (other==(IntKind.wrap .i64 (s.1+1))) then
    (law26_awake fu).bind fun r3=>
    some r3
   else
    (save_Do fu (s.1,((s.2.1,s.2.2.1),((s.2.2.2.1,s.2.2.2.2.1),(s.2.2.2.2.2.1,s.2.2.2.2.2.2)))) 16 (1,(other,((0,(0,((UInt8.ofNat 0),((0,0),([],((0,0),([],(0,(0,[]))))))))),([],(0,(0,0))))))).bind fun r4=>
    bif (r4.2.2.2.2.2.2.2.2.2.2.2.2.2.2.2.2==80) then
     (law25_Same fu (r4.1,((r4.2.1,r4.2.2.1),((r4.2.2.2.1,r4.2.2.2.2.1),(r4.2.2.2.2.2.1,r4.2.2.2.2.2.2.1)))) (s.1,((s.2.1,s.2.2.1),((s.2.2.2.1,s.2.2.2.2.1),(s.2.2.2.2.2.1,s.2.2.2.2.2.2))))).bind fun r5=>
     bif r5 then
      (law26_awake fu).bind fun r6=>
      some r6
     else
      some false
    else
     bif (r4.2.2.2.2.2.2.2.2.2.2.2.2.2.2.2.2==2) then
      (law25_Same fu (r4.1,((r4.2.1,r4.2.2.1),((r4.2.2.2.1,r4.2.2.2.2.1),(r4.2.2.2.2.2.1,r4.2.2.2.2.2.2.1)))) (s.1,((s.2.1,s.2.2.1),((s.2.2.2.1,s.2.2.2.2.1),(s.2.2.2.2.2.1,s.2.2.2.2.2.2))))).bind fun r7=>
      bif r7 then
       (law26_awake fu).bind fun r8=>
       some r8
      else
       some false
     else
      some false
  |.inr o2=>
   some o2
def law26_SaveLife_fa:FnA:=⟨.two (.leaf) (.two (.reg [(0,{ids:=[100]}),(2,{ids:=[101]}),(3,{md:=[0,1]}),(7,{ids:=[102]})]) (.two (.two (.leaf) (.two (.leaf) (.leaf))) (.two (.two (.leaf) (.one (.loop ⟨[5,7],⟨(.cons (.own 0 102 0 0) qL5),[(102,false,(.vars qL2))]⟩⟩ true [(0,⟨[5],⟨(.cons (.own 0 102 0 0) .nil),[(102,false,(.vars qL2))]⟩⟩)] (.two (.two (.leaf) (.leaf)) (.two (.one (.two (.reg [(3,{fn:=1}),(8,{ids:=[103]}),(9,{ids:=[104]})]) (.two (.reg [(3,{fn:=1}),(8,{ids:=[105]}),(9,{ids:=[106]})]) (.two (.two (.join ⟨[5,8,60],⟨(.cons (.own 0 102 0 0) (.cons (.own 0 103 0 0) (.cons (.p .bool) .nil))),[(102,false,(.vars qL2)),(103,false,(.vars qL2))]⟩⟩ false [] (.leaf)) (.two (.leaf) (.leaf))) (.leaf))))) (.leaf)))))) (.two (.two (.leaf) (.two (.two (.reg [(0,{fn:=2})]) (.leaf)) (.leaf))) (.two (.reg [(3,{fn:=1}),(8,{ids:=[107]}),(9,{ids:=[108]})]) (.two (.reg [(9,{fn:=3}),(12,{fn:=2})]) (.leaf))))))),⟨(.cons (.p (.int .u8)) qL5),[]⟩,[⟨(.cons (.p .bool) .nil),[]⟩],[0]⟩
def law26_SaveLife_ft(fu:Nat):FnT:=⟨3,law26_SaveLife_fa.i,law26_SaveLife_fa.os,fun t=>law26_SaveLife fu t.1 t.2⟩
theorem cVZ(fu:Nat):∀t,evF Go.Proofs.Tryz.prog [state_New_ft fu,save_Do_ft fu,law26_awake_ft fu,law25_Same_ft fu] fu Go.Proofs.Tryz.f3 law26_SaveLife_fa t=(law26_SaveLife_ft fu).spec t:=fun t=>by kernel_rfl
theorem law26_SaveLife_told(fu:Nat):Told Go.Proofs.Tryz.prog (law26_SaveLife_ft fu):=afZ (aaZ (ckZ fu) (aaZ (daZ fu) (aaZ (dlZ fu) (aaZ (d7Z fu) adZ)))) mixed Go.Proofs.Tryz.func3 (by kernel_rfl) (by kernel_rfl) (cVZ fu)
end
end Go.Ab.D
