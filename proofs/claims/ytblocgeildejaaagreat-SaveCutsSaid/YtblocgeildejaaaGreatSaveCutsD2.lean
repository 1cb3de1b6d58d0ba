/- Functions of the program as plain Lean functions: each equation is checked by the kernel; what is told of a function follows from it. -/
import Derived.Test.YtblocgeildejaaaGreatSaveCutsD1
set_option linter.all false
set_option maxRecDepth 100000
set_option maxHeartbeats 4000000
namespace Go.Ab.D
open Go.Proofs
open Go Go.Ab
noncomputable section
def tRig1(fu:Nat)(e:(List UInt8×Int))(h:List (Int))(h1:List (qT0))(h2:Int)(h3:Int)(h4:Int)(h5:Bool)(h6:Bool)(h7:Int)(h8:List ((Int×Int)))(h9:Int)(h10:List ((List UInt8×Int))):Option ((Bool×(List (Int)×(List (qT0)×(Int×qT0))))):=
 (idx? e.2 h.length).bind fun q=>
 (h)[q]?.bind fun r=>
 (idx? e.2 h.length).bind fun q1=>
 (h)[q1]?.bind fun r1=>
 (idx? (IntKind.wrap .i64 (e.2-1)) h1.length).bind fun q2=>
 (h1)[q2]?.bind fun r2=>
 (tNam fu e.1).bind fun r3=>
 bif (!r3) then
  some (true,((List.set h q1 (IntKind.wrap .i64 (r+1))),(h1,(h2,(h3,(h4,(h5,(h6,(h7,(h8,(h9,h10)))))))))))
 else
  bif (!r2.2.2.1) then
   some (true,((List.set h q1 (IntKind.wrap .i64 (r+1))),(h1,(h2,(h3,(h4,(h5,(h6,(h7,(h8,(h9,h10)))))))))))
  else
   some ((!(r2.2.2.2.2.2.2.1==h3)),((List.set h q1 (IntKind.wrap .i64 (r+1))),(h1,(h2,(h3,(h4,(h5,(h6,(h7,(h8,(h9,h10)))))))))))
def tRig1_fa:FnA:=⟨.two (.reg [(0,{ids:=[100]})]) (.two lf (.two (.reg [(7,{ids:=[101]})]) (.two (.reg [(2,{})]) lf))),⟨(.cons (.p (.pair .str (.int .i64))) (.cons (.own 0 0 0 0) (.cons (.own 0 2 0 0) (.cons (.own 0 3 0 0) .nil)))),[(0,false,(.vars (.cons (.slf 1 1) .nil))),(1,false,(.rows 3 (.int .i64))),(2,false,qB40),(3,false,qB7)]⟩,[⟨(.cons (.p .bool) .nil),[(0,false,(.vars (.cons (.slf 1 1) .nil))),(1,false,(.rows 3 (.int .i64))),(2,false,qB40),(3,false,qB7)]⟩],[0]⟩
def tRig1_ft(fu:Nat):FnT:=⟨122,tRig1_fa.i,tRig1_fa.os,u12 (tRig1 fu)⟩
theorem lyZ(fu:Nat):Told Tryz.prog (tRig1_ft fu):=tk fu tRig1_fa (aaZ (m0Z fu) abZ) Tryz.func122 (by kernel_rfl) fun t=>by kernel_rfl
def sIndFun3_l0(fu:Nat)(s:List ((List UInt8×Int)))(x:Int)(h11:List (Int))(h12:List (qT0))(h13:Int)(h14:Int)(h15:Int)(h16:Bool)(h17:Bool)(h18:Int)(h19:List ((Int×Int)))(h20:Int)(h21:List ((List UInt8×Int))):Option ((Int×(List (Int)×(List (qT0)×(Int×qT0))))⊕((List (Int)×(List (qT0)×(Int×qT0)))⊕(Int×(List (Int)×(List (qT0)×(Int×qT0)))))):=
 bif (decide (x<((s.length:Nat):Int))) then
  (idx? x s.length).bind fun q=>
  (s)[q]?.bind fun r=>
  (tRig1 fu r h11 h12 h13 h14 h15 h16 h17 h18 h19 h20 h21).bind fun r1=>
  bif r1.1 then
   some (.inr (.inr (x,(r1.2.1,(r1.2.2.1,(r1.2.2.2.1,(r1.2.2.2.2.1,(r1.2.2.2.2.2.1,(r1.2.2.2.2.2.2.1,(r1.2.2.2.2.2.2.2.1,(r1.2.2.2.2.2.2.2.2.1,(r1.2.2.2.2.2.2.2.2.2.1,(r1.2.2.2.2.2.2.2.2.2.2.1,r1.2.2.2.2.2.2.2.2.2.2.2)))))))))))))
  else
   some (.inl ((IntKind.wrap .i64 (x+1)),(r1.2.1,(r1.2.2.1,(r1.2.2.2.1,(r1.2.2.2.2.1,(r1.2.2.2.2.2.1,(r1.2.2.2.2.2.2.1,(r1.2.2.2.2.2.2.2.1,(r1.2.2.2.2.2.2.2.2.1,(r1.2.2.2.2.2.2.2.2.2.1,(r1.2.2.2.2.2.2.2.2.2.2.1,r1.2.2.2.2.2.2.2.2.2.2.2))))))))))))
 else
  some (.inr (.inl (h11,(h12,(h13,(h14,(h15,(h16,(h17,(h18,(h19,(h20,h21))))))))))))
def sIndFun3_l0_it(fu:Nat)(s:List ((List UInt8×Int)))(tt:(Int×(List (Int)×(List (qT0)×(Int×qT0))))):Option ((List (Int)×(List (qT0)×(Int×qT0)))⊕(Int×(List (Int)×(List (qT0)×(Int×qT0))))):=
 iter fu (u12 (sIndFun3_l0 fu s)) tt
def sIndFun3(fu:Nat)(s:List ((List UInt8×Int)))(h:List (Int))(h1:List (qT0))(h2:Int)(h3:Int)(h4:Int)(h5:Bool)(h6:Bool)(h7:Int)(h8:List ((Int×Int)))(h9:Int)(h10:List ((List UInt8×Int))):Option ((Int×(List (Int)×(List (qT0)×(Int×qT0))))):=
 (sIndFun3_l0_it fu s (0,(h,(h1,(h2,(h3,(h4,(h5,(h6,(h7,(h8,(h9,h10)))))))))))).bind fun o=>
 match o with
 |.inl s1=>
  some ((-1),(s1.1,(s1.2.1,(s1.2.2.1,(s1.2.2.2.1,(s1.2.2.2.2.1,(s1.2.2.2.2.2.1,(s1.2.2.2.2.2.2.1,(s1.2.2.2.2.2.2.2.1,(s1.2.2.2.2.2.2.2.2.1,(s1.2.2.2.2.2.2.2.2.2.1,s1.2.2.2.2.2.2.2.2.2.2)))))))))))
 |.inr o1=>
  some o1
def sIndFun3_fa:FnA:=⟨.two lf (.two (.two lf (.one (.loop ⟨[1,8],⟨(.cons (.fn 122 .nil (.cons (.own 0 0 0 0) (.cons (.own 0 2 0 0) (.cons (.own 0 3 0 0) .nil)))) qL5),[(0,false,(.vars (.cons (.slf 1 1) .nil))),(1,false,(.rows 3 (.int .i64))),(2,false,qB40),(3,false,qB7)]⟩⟩ true [(0,⟨[1],⟨(.cons (.fn 122 .nil (.cons (.own 0 0 0 0) (.cons (.own 0 2 0 0) (.cons (.own 0 3 0 0) .nil)))) .nil),[(0,false,(.vars (.cons (.slf 1 1) .nil))),(1,false,(.rows 3 (.int .i64))),(2,false,qB40),(3,false,qB7)]⟩⟩)] (.two lf (.two lf (.two (.one (.two lf (.two (.reg [(5,{sh:=[0,1,2,3]})]) (.two lf lf)))) lf)))))) lf),⟨(.cons (.p (.sl (.pair .str (.int .i64)))) (.cons (.fn 122 .nil (.cons (.own 0 0 0 0) (.cons (.own 0 2 0 0) (.cons (.own 0 3 0 0) .nil)))) .nil)),[(0,false,(.vars (.cons (.slf 1 1) .nil))),(1,false,(.rows 3 (.int .i64))),(2,false,qB40),(3,false,qB7)]⟩,[⟨qL5,[(0,false,(.vars (.cons (.slf 1 1) .nil))),(1,false,(.rows 3 (.int .i64))),(2,false,qB40),(3,false,qB7)]⟩],[0]⟩
def sIndFun3_ft(fu:Nat):FnT:=⟨175,sIndFun3_fa.i,sIndFun3_fa.os,u12 (sIndFun3 fu)⟩
theorem g1Z(fu:Nat):Told Tryz.prog (sIndFun3_ft fu):=tk fu sIndFun3_fa (aaZ (lyZ fu) abZ) Tryz.func175 (by kernel_rfl) fun t=>by kernel_rfl
def sConFun4(fu:Nat)(s:List ((List UInt8×Int)))(h:List (Int))(h1:List (qT0))(h2:Int)(h3:Int)(h4:Int)(h5:Bool)(h6:Bool)(h7:Int)(h8:List ((Int×Int)))(h9:Int)(h10:List ((List UInt8×Int))):Option ((Bool×(List (Int)×(List (qT0)×(Int×qT0))))):=
 (sIndFun3 fu s h h1 h2 h3 h4 h5 h6 h7 h8 h9 h10).bind fun r=>
 some ((decide (r.1>=0)),(r.2.1,(r.2.2.1,(r.2.2.2.1,(r.2.2.2.2.1,(r.2.2.2.2.2.1,(r.2.2.2.2.2.2.1,(r.2.2.2.2.2.2.2.1,(r.2.2.2.2.2.2.2.2.1,(r.2.2.2.2.2.2.2.2.2.1,(r.2.2.2.2.2.2.2.2.2.2.1,r.2.2.2.2.2.2.2.2.2.2.2)))))))))))
def sConFun4_fa:FnA:=⟨.two lf (.two (.reg [(2,{sh:=[0,1,2,3]})]) lf),⟨(.cons (.p (.sl (.pair .str (.int .i64)))) (.cons (.fn 122 .nil (.cons (.own 0 0 0 0) (.cons (.own 0 2 0 0) (.cons (.own 0 3 0 0) .nil)))) .nil)),[(0,false,(.vars (.cons (.slf 1 1) .nil))),(1,false,(.rows 3 (.int .i64))),(2,false,qB40),(3,false,qB7)]⟩,[⟨(.cons (.p .bool) .nil),[(0,false,(.vars (.cons (.slf 1 1) .nil))),(1,false,(.rows 3 (.int .i64))),(2,false,qB40),(3,false,qB7)]⟩],[0]⟩
def sConFun4_ft(fu:Nat):FnT:=⟨124,sConFun4_fa.i,sConFun4_fa.os,u12 (sConFun4 fu)⟩
theorem gLZ(fu:Nat):Told Tryz.prog (sConFun4_ft fu):=tk fu sConFun4_fa (aaZ (g1Z fu) abZ) Tryz.func124 (by kernel_rfl) fun t=>by kernel_rfl
def trea_l0(fu:Nat)(t:(List (qT0)×Int))(id1:Int)(x:Int)(h:List (qT0))(h1:Int):Option ((Int×(Int×(List (qT0)×Int)))⊕(Int⊕Bool)):=
 bif (decide (x<((t.1.length:Nat):Int))) then
  bif (id1==1) then
   some (.inr (.inr true))
  else
   (idx? (IntKind.wrap .i64 (id1-1)) h.length).bind fun q=>
   (h)[q]?.bind fun r=>
   bif (!r.2.2.1) then
    some (.inr (.inr false))
   else
    (idx? (IntKind.wrap .i64 (id1-1)) h.length).bind fun q1=>
    (h)[q1]?.bind fun r1=>
    some (.inl (r1.2.2.2.2.2.2.1,((IntKind.wrap .i64 (x+1)),(h,h1))))
 else
  some (.inr (.inl id1))
def trea_l0_it(fu:Nat)(t:(List (qT0)×Int))(tt:(Int×(Int×(List (qT0)×Int)))):Option (Int⊕Bool):=
 iter fu (u4 (trea_l0 fu t)) tt
def trea(fu:Nat)(t:(List (qT0)×Int))(id:Int):Option (Bool):=
 (trea_l0_it fu t (id,(0,(t.1,t.2)))).bind fun o=>
 match o with
 |.inl s=>
  some (s==1)
 |.inr o1=>
  some o1
def trea_fa:FnA:=⟨.two (.reg [(0,{ids:=[100]})]) (.two (.two lf (.one (.loop ⟨[1,2,8],⟨(.cons (.p (.int .i64)) (.cons (.own 0 100 0 0) qL5)),[(100,false,qB40)]⟩⟩ true [(0,⟨[1],⟨qL5,[]⟩⟩)] (.two lf (.two lf (.two (.one (.two (.two lf (.two lf lf)) (.two (.two lf (.two lf lf)) lf))) lf)))))) lf),⟨(.cons (.p (.pair (.sl qY3) (.int .i64))) qL5),[]⟩,[⟨(.cons (.p .bool) .nil),[]⟩],[0]⟩
def trea_ft(fu:Nat):FnT:=⟨125,trea_fa.i,trea_fa.os,fun t=>trea fu t.1 t.2⟩
theorem njZ(fu:Nat):Told Tryz.prog (trea_ft fu):=tk fu trea_fa abZ Tryz.func125 (by kernel_rfl) fun t=>by kernel_rfl
def tRig_l0(fu:Nat)(t:(List (qT0)×Int))(x:Int)(h:List (qT0))(h1:Int)(h2:List (Int)):Option ((Int×(List (qT0)×(Int×List (Int))))⊕((List (qT0)×(Int×List (Int)))⊕Bool)):=
 bif (decide (x<((t.1.length:Nat):Int))) then
  (idx? x t.1.length).bind fun q1=>
  (t.1)[q1]?.bind fun r1=>
  Option.bind (α:=((Bool×(List (qT0)×(Int×List (Int)))))) (
   (sConFun4 fu r1.2.2.2.2.2.2.2 h2 h h1 r1.1 r1.2.1 r1.2.2.1 r1.2.2.2.1 r1.2.2.2.2.1 r1.2.2.2.2.2.1 r1.2.2.2.2.2.2.1 r1.2.2.2.2.2.2.2).bind fun r2=>
   bif r2.1 then
    some (true,(r2.2.2.1,(r2.2.2.2.1,r2.2.1)))
   else
    bif r2.2.2.2.2.2.2.1 then
     (trea fu (r2.2.2.1,r2.2.2.2.1) r2.2.2.2.2.1).bind fun r3=>
     some ((!r3),(r2.2.2.1,(r2.2.2.2.1,r2.2.1)))
    else
     some (false,(r2.2.2.1,(r2.2.2.2.1,r2.2.1)))) fun o=>
  bif o.1 then
   some (.inr (.inr false))
  else
   some (.inl ((IntKind.wrap .i64 (x+1)),(o.2.1,(o.2.2.1,o.2.2.2))))
 else
  some (.inr (.inl (h,(h1,h2))))
def tRig_l0_it(fu:Nat)(t:(List (qT0)×Int))(tt:(Int×(List (qT0)×(Int×List (Int))))):Option ((List (qT0)×(Int×List (Int)))⊕Bool):=
 iter fu (u4 (tRig_l0 fu t)) tt
def tRig_l1(fu:Nat)(s:(List (qT0)×(Int×List (Int))))(x1:Int)(h3:List (Int)):Option ((Int×List (Int))⊕(Unit⊕Bool)):=
 bif (decide (x1<((s.1.length:Nat):Int))) then
  (idx? x1 s.1.length).bind fun q2=>
  (s.1)[q2]?.bind fun r4=>
  Option.bind (α:=((Bool×(List (Int)×qT0)))) (
   bif (r4.1==1) then
    some (true,(h3,(r4.1,(r4.2.1,(r4.2.2.1,(r4.2.2.2.1,(r4.2.2.2.2.1,(r4.2.2.2.2.2.1,(r4.2.2.2.2.2.2.1,r4.2.2.2.2.2.2.2)))))))))
   else
    some ((!r4.2.2.1),(h3,(r4.1,(r4.2.1,(r4.2.2.1,(r4.2.2.2.1,(r4.2.2.2.2.1,(r4.2.2.2.2.2.1,(r4.2.2.2.2.2.2.1,r4.2.2.2.2.2.2.2)))))))))) fun o3=>
  Option.bind (α:=((Int×(List (Int)×qT0)))) (
   bif o3.1 then
    some (0,(o3.2.1,(o3.2.2.1,(o3.2.2.2.1,(o3.2.2.2.2.1,(o3.2.2.2.2.2.1,(o3.2.2.2.2.2.2.1,(o3.2.2.2.2.2.2.2.1,(o3.2.2.2.2.2.2.2.2.1,o3.2.2.2.2.2.2.2.2.2)))))))))
   else
    some (1,(o3.2.1,(o3.2.2.1,(o3.2.2.2.1,(o3.2.2.2.2.1,(o3.2.2.2.2.2.1,(o3.2.2.2.2.2.2.1,(o3.2.2.2.2.2.2.2.1,(o3.2.2.2.2.2.2.2.2.1,o3.2.2.2.2.2.2.2.2.2)))))))))) fun o4=>
  (idx? o4.2.2.1 o4.2.1.length).bind fun q3=>
  (o4.2.1)[q3]?.bind fun r5=>
  bif (!(r5==o4.1)) then
   some (.inr (.inr false))
  else
   some (.inl ((IntKind.wrap .i64 (x1+1)),o4.2.1))
 else
  some (.inr (.inl ()))
def tRig_l1_it(fu:Nat)(s:(List (qT0)×(Int×List (Int))))(tt:(Int×List (Int))):Option (Unit⊕Bool):=
 iter fu (fun tt=>tRig_l1 fu s tt.1 tt.2) tt
def tRig(fu:Nat)(t:(List (qT0)×Int)):Option (Bool):=
 (iRig fu (t.1,t.2)).bind fun r=>
 bif (!r) then
  some false
 else
  (upto? (IntKind.wrap .i64 (((t.1.length:Nat):Int)+1)) room).bind fun m=>
  (upto? (IntKind.wrap .i64 (((t.1.length:Nat):Int)+1)) m).bind fun q=>
  need (Nat.ble (m*8) room)<|
  (tRig_l0_it fu t (0,(t.1,(t.2,(List.replicate (α:=Int) q 0))))).bind fun o1=>
  match o1 with
  |.inl s=>
   (tRig_l1_it fu s (0,s.2.2)).bind fun o5=>
   match o5 with
   |.inl s1=>
    some true
   |.inr o6=>
    some o6
  |.inr o2=>
   some o2
def tRig_fa:FnA:=⟨.two (.reg [(0,{ids:=[100]})]) (.two (.two (.reg [(1,{})]) (.two lf lf)) (.two (.reg [(4,{ids:=[101]}),(5,{ids:=[102]})]) (.two (.two lf (.one (.loop ⟨[1,3,21],⟨(.cons (.own 0 100 0 0) (.cons (.own 0 102 0 0) qL5)),[(100,false,qB40),(102,false,(.vars (.cons (.slf 1 101) .nil))),(101,false,(.rows 3 (.int .i64)))]⟩⟩ true [(0,⟨[1,3],⟨(.cons (.own 0 100 0 0) (.cons (.own 0 102 0 0) .nil)),[(100,false,qB40),(102,false,(.vars (.cons (.slf 1 101) .nil))),(101,false,(.rows 3 (.int .i64)))]⟩⟩)] (.two lf (.two lf (.two (.one (.two (.reg [(2,{ids:=[103]})]) (.two lf (.two (.join ⟨[1,3,40],⟨(.cons (.own 0 100 0 0) (.cons (.own 0 102 0 0) (.cons (.p .bool) .nil))),[(100,false,qB40),(102,false,(.vars (.cons (.slf 1 101) .nil))),(101,false,(.rows 3 (.int .i64)))]⟩⟩ false [] (.reg [(3,{sh:=[102,101,100,103],fn:=1}),(11,{fn:=2})])) (.two lf lf))))) lf)))))) (.two (.two lf (.one (.loop ⟨[3,45],⟨(.cons (.own 0 102 0 0) qL5),[(102,false,(.vars (.cons (.slf 1 101) .nil))),(101,false,(.rows 3 (.int .i64)))]⟩⟩ true [(2,⟨[],⟨.nil,[]⟩⟩)] (.two lf (.two lf (.two (.one (.two (.reg [(2,{ids:=[104]})]) (.two lf (.two (.two (.join ⟨[3,8,56],⟨(.cons (.own 0 102 0 0) (.cons (.own 0 104 0 0) (.cons (.p .bool) .nil))),[(102,false,(.vars (.cons (.slf 1 101) .nil))),(101,false,(.rows 3 (.int .i64))),(104,false,qB7)]⟩⟩ false [] lf) (.join ⟨[3,8,9],⟨(.cons (.own 0 102 0 0) (.cons (.own 0 104 0 0) qL5)),[(102,false,(.vars (.cons (.slf 1 101) .nil))),(101,false,(.rows 3 (.int .i64))),(104,false,qB7)]⟩⟩ false [] lf)) (.two lf (.two lf lf)))))) lf)))))) lf)))),⟨(.cons (.p (.pair (.sl qY3) (.int .i64))) .nil),[]⟩,[⟨(.cons (.p .bool) .nil),[]⟩],[0]⟩
def tRig_ft(fu:Nat):FnT:=⟨71,tRig_fa.i,tRig_fa.os,fun t=>tRig fu t⟩
theorem mNZ(fu:Nat):Told Tryz.prog (tRig_ft fu):=tk fu tRig_fa (aaZ (lOZ fu) (aaZ (gLZ fu) (aaZ (njZ fu) abZ))) Tryz.func71 (by kernel_rfl) fun t=>by kernel_rfl
def cRigRep_l0(fu:Nat)(o2:(Bool×qT42))(x:Int)(h:Int)(h1:Int)(h2:Int)(h3:Int)(h4:Int)(h5:Bool)(h6:Int)(h7:List (UInt8))(h8:List ((List UInt8×Int)))(h9:Bool)(h10:Int):Option ((Int×qT42)⊕(qT42⊕Bool)):=
 bif (decide (x<((o2.2.2.2.2.2.2.2.2.2.1.length:Nat):Int))) then
  (idx? x o2.2.2.2.2.2.2.2.2.2.1.length).bind fun q=>
  (o2.2.2.2.2.2.2.2.2.2.1)[q]?.bind fun r3=>
  Option.bind (α:=((Bool×qT42))) (
   bif (decide (((r3.1.length:Nat):Int)<1)) then
    some (true,(h,(h1,(h2,(h3,(h4,(h5,(h6,(h7,(h8,(h9,h10)))))))))))
   else
    bif (decide (((r3.1.length:Nat):Int)>100)) then
     some (true,(h,(h1,(h2,(h3,(h4,(h5,(h6,(h7,(h8,(h9,h10)))))))))))
    else
     bif (decide (r3.2<1)) then
      some (true,(h,(h1,(h2,(h3,(h4,(h5,(h6,(h7,(h8,(h9,h10)))))))))))
     else
      some ((decide (r3.2>500)),(h,(h1,(h2,(h3,(h4,(h5,(h6,(h7,(h8,(h9,h10)))))))))))) fun o3=>
  bif o3.1 then
   some (.inr (.inr false))
  else
   some (.inl ((IntKind.wrap .i64 (x+1)),(o3.2.1,(o3.2.2.1,(o3.2.2.2.1,(o3.2.2.2.2.1,(o3.2.2.2.2.2.1,(o3.2.2.2.2.2.2.1,(o3.2.2.2.2.2.2.2.1,(o3.2.2.2.2.2.2.2.2.1,(o3.2.2.2.2.2.2.2.2.2.1,(o3.2.2.2.2.2.2.2.2.2.2.1,o3.2.2.2.2.2.2.2.2.2.2.2))))))))))))
 else
  some (.inr (.inl (h,(h1,(h2,(h3,(h4,(h5,(h6,(h7,(h8,(h9,h10))))))))))))
def cRigRep_l0_it(fu:Nat)(o2:(Bool×qT42))(tt:(Int×qT42)):Option (qT42⊕Bool):=
 iter fu (fun tt=>cRigRep_l0 fu o2 tt.1 tt.2.1 tt.2.2.1 tt.2.2.2.1 tt.2.2.2.2.1 tt.2.2.2.2.2.1 tt.2.2.2.2.2.2.1 tt.2.2.2.2.2.2.2.1 tt.2.2.2.2.2.2.2.2.1 tt.2.2.2.2.2.2.2.2.2.1 tt.2.2.2.2.2.2.2.2.2.2.1 tt.2.2.2.2.2.2.2.2.2.2.2) tt
def cRigRep(fu:Nat)(r:qT32):Option (Bool):=
 Option.bind (α:=((Bool×qT42))) (
  (cwho fu r.1 r.2.1).bind fun r1=>
  bif (!r1) then
   some (true,(r.1,(r.2.1,(r.2.2.1,(r.2.2.2.1.1,(r.2.2.2.1.2,(r.2.2.2.2.1,(r.2.2.2.2.2.1,(r.2.2.2.2.2.2.1,(r.2.2.2.2.2.2.2.1,(r.2.2.2.2.2.2.2.2.1,r.2.2.2.2.2.2.2.2.2)))))))))))
  else
   bif (decide (r.2.2.1<0)) then
    some (true,(r.1,(r.2.1,(r.2.2.1,(r.2.2.2.1.1,(r.2.2.2.1.2,(r.2.2.2.2.1,(r.2.2.2.2.2.1,(r.2.2.2.2.2.2.1,(r.2.2.2.2.2.2.2.1,(r.2.2.2.2.2.2.2.2.1,r.2.2.2.2.2.2.2.2.2)))))))))))
   else
    some ((decide (r.2.2.1>1000)),(r.1,(r.2.1,(r.2.2.1,(r.2.2.2.1.1,(r.2.2.2.1.2,(r.2.2.2.2.1,(r.2.2.2.2.2.1,(r.2.2.2.2.2.2.1,(r.2.2.2.2.2.2.2.1,(r.2.2.2.2.2.2.2.2.1,r.2.2.2.2.2.2.2.2.2)))))))))))) fun o=>
 bif o.1 then
  some false
 else
  bif (!(o.2.2.2.1==0)) then
   Option.bind (α:=(Bool)) (
    bif ((r.2.2.2.1.1==0)&&(r.2.2.2.1.2==0)) then
     bif (!o.2.2.2.2.2.2.1) then
      bif (!o.2.2.2.2.2.2.2.2.2.2.1) then
       bif (o.2.2.2.2.2.2.2.1==0) then
        bif (o.2.2.2.2.2.2.2.2.2.2.2==0) then
         some ((IntKind.wrap .i64 (((o.2.2.2.2.2.2.2.2.1.length:Nat):Int)+((o.2.2.2.2.2.2.2.2.2.1.length:Nat):Int)))==0)
        else
         some false
       else
        some false
      else
       some false
     else
      some false
    else
     some false) fun o1=>
   some o1
  else
   Option.bind (α:=((Bool×qT42))) (
    bif (!((r.2.2.2.1.1==0)&&(r.2.2.2.1.2==0))) then
     (hRig fu (o.2.2.2.2.1,o.2.2.2.2.2.1)).bind fun r2=>
     bif (!r2) then
      some (true,(o.2.1,(o.2.2.1,(o.2.2.2.1,(o.2.2.2.2.1,(o.2.2.2.2.2.1,(o.2.2.2.2.2.2.1,(o.2.2.2.2.2.2.2.1,(o.2.2.2.2.2.2.2.2.1,(o.2.2.2.2.2.2.2.2.2.1,(o.2.2.2.2.2.2.2.2.2.2.1,o.2.2.2.2.2.2.2.2.2.2.2)))))))))))
     else
      bif (decide (o.2.2.2.2.2.2.2.1<0)) then
       some (true,(o.2.1,(o.2.2.1,(o.2.2.2.1,(o.2.2.2.2.1,(o.2.2.2.2.2.1,(o.2.2.2.2.2.2.1,(o.2.2.2.2.2.2.2.1,(o.2.2.2.2.2.2.2.2.1,(o.2.2.2.2.2.2.2.2.2.1,(o.2.2.2.2.2.2.2.2.2.2.1,o.2.2.2.2.2.2.2.2.2.2.2)))))))))))
      else
       bif (decide (o.2.2.2.2.2.2.2.1>65536)) then
        some (true,(o.2.1,(o.2.2.1,(o.2.2.2.1,(o.2.2.2.2.1,(o.2.2.2.2.2.1,(o.2.2.2.2.2.2.1,(o.2.2.2.2.2.2.2.1,(o.2.2.2.2.2.2.2.2.1,(o.2.2.2.2.2.2.2.2.2.1,(o.2.2.2.2.2.2.2.2.2.2.1,o.2.2.2.2.2.2.2.2.2.2.2)))))))))))
       else
        bif (decide (o.2.2.2.2.2.2.2.2.2.2.2<0)) then
         some (true,(o.2.1,(o.2.2.1,(o.2.2.2.1,(o.2.2.2.2.1,(o.2.2.2.2.2.1,(o.2.2.2.2.2.2.1,(o.2.2.2.2.2.2.2.1,(o.2.2.2.2.2.2.2.2.1,(o.2.2.2.2.2.2.2.2.2.1,(o.2.2.2.2.2.2.2.2.2.2.1,o.2.2.2.2.2.2.2.2.2.2.2)))))))))))
        else
         some ((decide (o.2.2.2.2.2.2.2.2.2.2.2>1099511627776)),(o.2.1,(o.2.2.1,(o.2.2.2.1,(o.2.2.2.2.1,(o.2.2.2.2.2.1,(o.2.2.2.2.2.2.1,(o.2.2.2.2.2.2.2.1,(o.2.2.2.2.2.2.2.2.1,(o.2.2.2.2.2.2.2.2.2.1,(o.2.2.2.2.2.2.2.2.2.2.1,o.2.2.2.2.2.2.2.2.2.2.2)))))))))))
    else
     bif (decide (o.2.2.2.2.2.2.2.1<0)) then
      some (true,(o.2.1,(o.2.2.1,(o.2.2.2.1,(o.2.2.2.2.1,(o.2.2.2.2.2.1,(o.2.2.2.2.2.2.1,(o.2.2.2.2.2.2.2.1,(o.2.2.2.2.2.2.2.2.1,(o.2.2.2.2.2.2.2.2.2.1,(o.2.2.2.2.2.2.2.2.2.2.1,o.2.2.2.2.2.2.2.2.2.2.2)))))))))))
     else
      bif (decide (o.2.2.2.2.2.2.2.1>65536)) then
       some (true,(o.2.1,(o.2.2.1,(o.2.2.2.1,(o.2.2.2.2.1,(o.2.2.2.2.2.1,(o.2.2.2.2.2.2.1,(o.2.2.2.2.2.2.2.1,(o.2.2.2.2.2.2.2.2.1,(o.2.2.2.2.2.2.2.2.2.1,(o.2.2.2.2.2.2.2.2.2.2.1,o.2.2.2.2.2.2.2.2.2.2.2)))))))))))
      else
       bif (decide (o.2.2.2.2.2.2.2.2.2.2.2<0)) then
        some (true,(o.2.1,(o.2.2.1,(o.2.2.2.1,(o.2.2.2.2.1,(o.2.2.2.2.2.1,(o.2.2.2.2.2.2.1,(o.2.2.2.2.2.2.2.1,(o.2.2.2.2.2.2.2.2.1,(o.2.2.2.2.2.2.2.2.2.1,(o.2.2.2.2.2.2.2.2.2.2.1,o.2.2.2.2.2.2.2.2.2.2.2)))))))))))
       else
        some ((decide (o.2.2.2.2.2.2.2.2.2.2.2>1099511627776)),(o.2.1,(o.2.2.1,(o.2.2.2.1,(o.2.2.2.2.1,(o.2.2.2.2.2.1,(o.2.2.2.2.2.2.1,(o.2.2.2.2.2.2.2.1,(o.2.2.2.2.2.2.2.2.1,(o.2.2.2.2.2.2.2.2.2.1,(o.2.2.2.2.2.2.2.2.2.2.1,o.2.2.2.2.2.2.2.2.2.2.2)))))))))))) fun o2=>
   bif o2.1 then
    some false
   else
    (cRigRep_l0_it fu o2 (0,(o2.2.1,(o2.2.2.1,(o2.2.2.2.1,(o2.2.2.2.2.1,(o2.2.2.2.2.2.1,(o2.2.2.2.2.2.2.1,(o2.2.2.2.2.2.2.2.1,(o2.2.2.2.2.2.2.2.2.1,(o2.2.2.2.2.2.2.2.2.2.1,(o2.2.2.2.2.2.2.2.2.2.2.1,o2.2.2.2.2.2.2.2.2.2.2.2)))))))))))).bind fun o4=>
    match o4 with
    |.inl s=>
     bif (decide (((s.2.2.2.2.2.2.2.1.length:Nat):Int)<=4096)) then
      some (decide (((s.2.2.2.2.2.2.2.2.1.length:Nat):Int)<=100))
     else
      some false
    |.inr o5=>
     some o5
def cRigRep_fa:FnA:=⟨.two (.reg [(0,{ids:=[100]})]) (.two lf (.two (.one (.two (.join ⟨[1,10],⟨qL41,[(100,false,(.vars qL12))]⟩⟩ false [] (.reg [(4,{})])) (.two lf (.two lf (.two (.two (.join ⟨[2],⟨(.cons (.p .bool) .nil),[]⟩⟩ false [] lf) lf) (.two (.join ⟨[1,62],⟨qL41,[(100,false,(.vars qL12))]⟩⟩ false [] (.reg [(5,{fn:=1})])) (.two lf lf))))))) (.two (.two lf (.one (.loop ⟨[1,94],⟨(.cons (.own 0 100 0 0) qL5),[(100,false,(.vars qL12))]⟩⟩ true [(1,⟨[1],⟨(.cons (.own 0 100 0 0) .nil),[(100,false,(.vars qL12))]⟩⟩)] (.two lf (.two lf (.two (.one (.two (.reg [(2,{ids:=[101]})]) (.two (.join ⟨[1,117],⟨qL41,[(100,false,(.vars qL12))]⟩⟩ false [] lf) (.two lf lf)))) lf)))))) lf))),⟨(.cons (.p qY4) .nil),[]⟩,[⟨(.cons (.p .bool) .nil),[]⟩],[0]⟩
def cRigRep_ft(fu:Nat):FnT:=⟨94,cRigRep_fa.i,cRigRep_fa.os,fun t=>cRigRep fu t⟩
theorem c0Z(fu:Nat):Told Tryz.prog (cRigRep_ft fu):=tk fu cRigRep_fa (aaZ (iiZ fu) (aaZ (ilZ fu) abZ)) Tryz.func94 (by kernel_rfl) fun t=>by kernel_rfl
def rkep1(fu:Nat)(r:qT32)(h:Int)(h1:Int)(h2:Int)(h3:List (qT32)):Option ((Bool×(Int×qT1))):=
 bif (!(r.1==h1)) then
  some (true,(r.2.1,(h1,(h2,h3))))
 else
  bif (decide (r.2.1<=h)) then
   some (true,(r.2.1,(h1,(h2,h3))))
  else
   (cRigRep fu (r.1,(r.2.1,(r.2.2.1,((r.2.2.2.1.1,r.2.2.2.1.2),(r.2.2.2.2.1,(r.2.2.2.2.2.1,(r.2.2.2.2.2.2.1,(r.2.2.2.2.2.2.2.1,(r.2.2.2.2.2.2.2.2.1,r.2.2.2.2.2.2.2.2.2)))))))))).bind fun r1=>
   some ((!r1),(r.2.1,(h1,(h2,h3))))
def rkep1_fa:FnA:=⟨.two (.reg [(0,{ids:=[100]})]) (.two lf (.two lf (.two (.reg [(13,{})]) lf))),⟨(.cons (.p qY4) qL35),[(0,false,(.vars qL5)),(1,false,qB39)]⟩,[⟨(.cons (.p .bool) .nil),[(0,false,(.vars qL5)),(1,false,qB39)]⟩],[0]⟩
def rkep1_ft(fu:Nat):FnT:=⟨176,rkep1_fa.i,rkep1_fa.os,u5 (rkep1 fu)⟩
theorem ldZ(fu:Nat):Told Tryz.prog (rkep1_ft fu):=tk fu rkep1_fa (aaZ (c0Z fu) abZ) Tryz.func176 (by kernel_rfl) fun t=>by kernel_rfl
def sIndFun8_l0(fu:Nat)(s:List (qT32))(x:Int)(h4:Int)(h5:Int)(h6:Int)(h7:List (qT32)):Option ((Int×(Int×qT1))⊕((Int×qT1)⊕(Int×(Int×qT1)))):=
 bif (decide (x<((s.length:Nat):Int))) then
  (idx? x s.length).bind fun q=>
  (s)[q]?.bind fun r=>
  (rkep1 fu r h4 h5 h6 h7).bind fun r1=>
  bif r1.1 then
   some (.inr (.inr (x,(r1.2.1,(r1.2.2.1,(r1.2.2.2.1,r1.2.2.2.2))))))
  else
   some (.inl ((IntKind.wrap .i64 (x+1)),(r1.2.1,(r1.2.2.1,(r1.2.2.2.1,r1.2.2.2.2)))))
 else
  some (.inr (.inl (h4,(h5,(h6,h7)))))
def sIndFun8_l0_it(fu:Nat)(s:List (qT32))(tt:(Int×(Int×qT1))):Option ((Int×qT1)⊕(Int×(Int×qT1))):=
 iter fu (u5 (sIndFun8_l0 fu s)) tt
def sIndFun8(fu:Nat)(s:List (qT32))(h:Int)(h1:Int)(h2:Int)(h3:List (qT32)):Option ((Int×(Int×qT1))):=
 (sIndFun8_l0_it fu s (0,(h,(h1,(h2,h3))))).bind fun o=>
 match o with
 |.inl s1=>
  some ((-1),(s1.1,(s1.2.1,(s1.2.2.1,s1.2.2.2))))
 |.inr o1=>
  some o1
def sIndFun8_fa:FnA:=⟨.two lf (.two (.two lf (.one (.loop ⟨[1,8],⟨(.cons (.fn 176 .nil qL35) qL5),[(0,false,(.vars qL5)),(1,false,qB39)]⟩⟩ true [(0,⟨[1],⟨(.cons (.fn 176 .nil qL35) .nil),[(0,false,(.vars qL5)),(1,false,qB39)]⟩⟩)] (.two lf (.two lf (.two (.one (.two lf (.two (.reg [(5,{sh:=[0,1]})]) (.two lf lf)))) lf)))))) lf),⟨(.cons (.p (.sl qY4)) (.cons (.fn 176 .nil qL35) .nil)),[(0,false,(.vars qL5)),(1,false,qB39)]⟩,[⟨qL5,[(0,false,(.vars qL5)),(1,false,qB39)]⟩],[0]⟩
def sIndFun8_ft(fu:Nat):FnT:=⟨211,sIndFun8_fa.i,sIndFun8_fa.os,u5 (sIndFun8 fu)⟩
theorem gDZ(fu:Nat):Told Tryz.prog (sIndFun8_ft fu):=tk fu sIndFun8_fa (aaZ (ldZ fu) abZ) Tryz.func211 (by kernel_rfl) fun t=>by kernel_rfl
def sConFun7(fu:Nat)(s:List (qT32))(h:Int)(h1:Int)(h2:Int)(h3:List (qT32)):Option ((Bool×(Int×qT1))):=
 (sIndFun8 fu s h h1 h2 h3).bind fun r=>
 some ((decide (r.1>=0)),(r.2.1,(r.2.2.1,(r.2.2.2.1,r.2.2.2.2))))
def sConFun7_fa:FnA:=⟨.two lf (.two (.reg [(2,{sh:=[0,1]})]) lf),⟨(.cons (.p (.sl qY4)) (.cons (.fn 176 .nil qL35) .nil)),[(0,false,(.vars qL5)),(1,false,qB39)]⟩,[⟨(.cons (.p .bool) .nil),[(0,false,(.vars qL5)),(1,false,qB39)]⟩],[0]⟩
def sConFun7_ft(fu:Nat):FnT:=⟨177,sConFun7_fa.i,sConFun7_fa.os,u5 (sConFun7 fu)⟩
theorem h3Z(fu:Nat):Told Tryz.prog (sConFun7_ft fu):=tk fu sConFun7_fa (aaZ (gDZ fu) abZ) Tryz.func177 (by kernel_rfl) fun t=>by kernel_rfl
def rkep(fu:Nat)(k:qT1)(window:Int):Option (Bool):=
 bif (decide (k.2.1>=0)) then
  bif (decide (k.2.1<=1099511627776)) then
   bif (decide (((k.2.2.length:Nat):Int)<=window)) then
    (sConFun7 fu k.2.2 k.2.1 k.1 k.2.1 k.2.2).bind fun r=>
    some (!r.1)
   else
    some false
  else
   some false
 else
  some false
def rkep_fa:FnA:=⟨.two (.reg [(0,{ids:=[100]})]) (.two (.reg [(2,{ids:=[101]})]) (.two lf (.two (.reg [(19,{sh:=[101,100]})]) lf))),⟨(.cons (.p qY25) qL5),[]⟩,[⟨(.cons (.p .bool) .nil),[]⟩],[0]⟩
def rkep_ft(fu:Nat):FnT:=⟨126,rkep_fa.i,rkep_fa.os,fun t=>rkep fu t.1 t.2⟩
theorem mvZ(fu:Nat):Told Tryz.prog (rkep_ft fu):=tk fu rkep_fa (aaZ (h3Z fu) abZ) Tryz.func126 (by kernel_rfl) fun t=>by kernel_rfl
def rRig_l0(fu:Nat)(c:(Int×List (qT1)))(last:Int)(x:Int)(h:Int)(h1:List (qT1)):Option ((Int×(Int×(Int×List (qT1))))⊕((Int×List (qT1))⊕Bool)):=
 bif (decide (x<((c.2.length:Nat):Int))) then
  (idx? x c.2.length).bind fun q=>
  (c.2)[q]?.bind fun r=>
  Option.bind (α:=((Bool×(Int×(List (qT1)×qT1))))) (
   bif (decide (r.1<=last)) then
    some (true,(h,(h1,(r.1,(r.2.1,r.2.2)))))
   else
    bif (decide (r.1>=16)) then
     some (true,(h,(h1,(r.1,(r.2.1,r.2.2)))))
    else
     (rkep fu (r.1,(r.2.1,r.2.2)) h).bind fun r1=>
     some ((!r1),(h,(h1,(r.1,(r.2.1,r.2.2)))))) fun o=>
  bif o.1 then
   some (.inr (.inr false))
  else
   some (.inl (o.2.2.2.1,((IntKind.wrap .i64 (x+1)),(o.2.1,o.2.2.1))))
 else
  some (.inr (.inl (h,h1)))
def rRig_l0_it(fu:Nat)(c:(Int×List (qT1)))(tt:(Int×(Int×(Int×List (qT1))))):Option ((Int×List (qT1))⊕Bool):=
 iter fu (u4 (rRig_l0 fu c)) tt
def rRig(fu:Nat)(c:(Int×List (qT1))):Option (Bool):=
 (rRig_l0_it fu c ((-1),(0,(c.1,c.2)))).bind fun o1=>
 match o1 with
 |.inl s=>
  bif (decide (s.1>=1)) then
   some (decide (s.1<=100))
  else
   some false
 |.inr o2=>
  some o2
def rRig_fa:FnA:=⟨.two (.reg [(0,{ids:=[100]})]) (.two lf (.two (.two lf (.one (.loop ⟨[1,3,9],⟨(.cons (.own 0 100 0 0) (.cons (.p (.int .i64)) qL5)),[(100,false,(.vars (.cons (.p (.int .i64)) (.cons (.p (.sl qY25)) .nil))))]⟩⟩ true [(0,⟨[1],⟨(.cons (.own 0 100 0 0) .nil),[(100,false,(.vars (.cons (.p (.int .i64)) (.cons (.p (.sl qY25)) .nil))))]⟩⟩)] (.two lf (.two lf (.two (.one (.two (.reg [(2,{ids:=[101]})]) (.two (.two (.join ⟨[1,5,28],⟨(.cons (.own 0 100 0 0) (.cons (.own 0 101 0 0) (.cons (.p .bool) .nil))),[(100,false,(.vars (.cons (.p (.int .i64)) (.cons (.p (.sl qY25)) .nil)))),(101,false,qB39)]⟩⟩ false [] (.reg [(13,{})])) (.two lf lf)) lf))) lf)))))) lf)),⟨(.cons (.p (.pair (.int .i64) (.sl qY25))) .nil),[]⟩,[⟨(.cons (.p .bool) .nil),[]⟩],[0]⟩
def rRig_ft(fu:Nat):FnT:=⟨72,rRig_fa.i,rRig_fa.os,fun t=>rRig fu t⟩
theorem mQZ(fu:Nat):Told Tryz.prog (rRig_ft fu):=tk fu rRig_fa (aaZ (mvZ fu) abZ) Tryz.func72 (by kernel_rfl) fun t=>by kernel_rfl
def spie(fu:Nat)(n:Int)(size:Int):Option (Int):=
 need (!(decide (size=0)))<|
 some (IntKind.wrap .i64 (Int.tdiv (IntKind.wrap .i64 ((IntKind.wrap .i64 (n+size))-1)) size))
def spie_fa:FnA:=⟨.two lf lf,⟨(.cons (.p (.int .i64)) qL5),[]⟩,[⟨qL5,[]⟩],[0]⟩
def spie_ft(fu:Nat):FnT:=⟨73,spie_fa.i,spie_fa.os,fun t=>spie fu t.1 t.2⟩
theorem ndZ(fu:Nat):Told Tryz.prog (spie_ft fu):=tk fu spie_fa abZ Tryz.func73 (by kernel_rfl) fun t=>by kernel_rfl
def sdro1(fu:Nat)(d:(Int×Int))(h:Int)(h1:Int)(h2:List (qT0))(h3:Int)(h4:Int)(h5:List (qT1))(h6:List ((Int×List (Int))))(h7:List ((Int×Int)))(h8:qT27):Option ((Bool×(Int×qT11))):=
 bif (decide (d.1<=h)) then
  some (true,(d.1,(h1,(h2,(h3,(h4,(h5,(h6,(h7,h8)))))))))
 else
  bif (decide (d.1>h3)) then
   some (true,(d.1,(h1,(h2,(h3,(h4,(h5,(h6,(h7,h8)))))))))
  else
   bif ((Option.getD (mget (k:=(.int .i64)) (v:=(.int .i64)) h8 d.1) 0)==1) then
    some (true,(d.1,(h1,(h2,(h3,(h4,(h5,(h6,(h7,h8)))))))))
   else
    bif (decide (d.2<1)) then
     some (true,(d.1,(h1,(h2,(h3,(h4,(h5,(h6,(h7,h8)))))))))
    else
     some ((decide (d.2>1099511627776)),(d.1,(h1,(h2,(h3,(h4,(h5,(h6,(h7,h8)))))))))
def sdro1_fa:FnA:=⟨.two (.reg [(0,{ids:=[100]})]) (.two lf (.two lf lf)),⟨(.cons (.p qY34) (.cons (.own 0 0 0 0) qL23)),[(0,false,(.vars qL5)),(1,false,(.vars qL2)),(2,false,(.vars (.cons (.mp 3) .nil))),(3,false,qB37)]⟩,[⟨(.cons (.p .bool) .nil),[(0,false,(.vars qL5)),(1,false,(.vars qL2)),(2,false,(.vars (.cons (.mp 3) .nil))),(3,false,qB37)]⟩],[0]⟩
def sdro1_ft(fu:Nat):FnT:=⟨127,sdro1_fa.i,sdro1_fa.os,u10 (sdro1 fu)⟩
theorem l2Z(fu:Nat):Told Tryz.prog (sdro1_ft fu):=tk fu sdro1_fa abZ Tryz.func127 (by kernel_rfl) fun t=>by kernel_rfl
def sIndFun2_l0(fu:Nat)(s:List ((Int×Int)))(x:Int)(h9:Int)(h10:Int)(h11:List (qT0))(h12:Int)(h13:Int)(h14:List (qT1))(h15:List ((Int×List (Int))))(h16:List ((Int×Int)))(h17:qT27):Option ((Int×(Int×qT11))⊕((Int×qT11)⊕(Int×(Int×qT11)))):=
 bif (decide (x<((s.length:Nat):Int))) then
  (idx? x s.length).bind fun q=>
  (s)[q]?.bind fun r=>
  (sdro1 fu r h9 h10 h11 h12 h13 h14 h15 h16 h17).bind fun r1=>
  bif r1.1 then
   some (.inr (.inr (x,(r1.2.1,(r1.2.2.1,(r1.2.2.2.1,(r1.2.2.2.2.1,(r1.2.2.2.2.2.1,(r1.2.2.2.2.2.2.1,(r1.2.2.2.2.2.2.2.1,(r1.2.2.2.2.2.2.2.2.1,r1.2.2.2.2.2.2.2.2.2)))))))))))
  else
   some (.inl ((IntKind.wrap .i64 (x+1)),(r1.2.1,(r1.2.2.1,(r1.2.2.2.1,(r1.2.2.2.2.1,(r1.2.2.2.2.2.1,(r1.2.2.2.2.2.2.1,(r1.2.2.2.2.2.2.2.1,(r1.2.2.2.2.2.2.2.2.1,r1.2.2.2.2.2.2.2.2.2))))))))))
 else
  some (.inr (.inl (h9,(h10,(h11,(h12,(h13,(h14,(h15,(h16,h17))))))))))
def sIndFun2_l0_it(fu:Nat)(s:List ((Int×Int)))(tt:(Int×(Int×qT11))):Option ((Int×qT11)⊕(Int×(Int×qT11))):=
 iter fu (u10 (sIndFun2_l0 fu s)) tt
def sIndFun2(fu:Nat)(s:List ((Int×Int)))(h:Int)(h1:Int)(h2:List (qT0))(h3:Int)(h4:Int)(h5:List (qT1))(h6:List ((Int×List (Int))))(h7:List ((Int×Int)))(h8:qT27):Option ((Int×(Int×qT11))):=
 (sIndFun2_l0_it fu s (0,(h,(h1,(h2,(h3,(h4,(h5,(h6,(h7,h8)))))))))).bind fun o=>
 match o with
 |.inl s1=>
  some ((-1),(s1.1,(s1.2.1,(s1.2.2.1,(s1.2.2.2.1,(s1.2.2.2.2.1,(s1.2.2.2.2.2.1,(s1.2.2.2.2.2.2.1,(s1.2.2.2.2.2.2.2.1,s1.2.2.2.2.2.2.2.2)))))))))
 |.inr o1=>
  some o1
def sIndFun2_fa:FnA:=⟨.two lf (.two (.two lf (.one (.loop ⟨[1,8],⟨(.cons (.fn 127 .nil (.cons (.own 0 0 0 0) qL23)) qL5),[(0,false,(.vars qL5)),(1,false,(.vars qL2)),(2,false,(.vars (.cons (.mp 3) .nil))),(3,false,qB37)]⟩⟩ true [(0,⟨[1],⟨(.cons (.fn 127 .nil (.cons (.own 0 0 0 0) qL23)) .nil),[(0,false,(.vars qL5)),(1,false,(.vars qL2)),(2,false,(.vars (.cons (.mp 3) .nil))),(3,false,qB37)]⟩⟩)] (.two lf (.two lf (.two (.one (.two lf (.two (.reg [(5,{sh:=[0,1,2,3]})]) (.two lf lf)))) lf)))))) lf),⟨(.cons (.p (.sl qY34)) (.cons (.fn 127 .nil (.cons (.own 0 0 0 0) qL23)) .nil)),[(0,false,(.vars qL5)),(1,false,(.vars qL2)),(2,false,(.vars (.cons (.mp 3) .nil))),(3,false,qB37)]⟩,[⟨qL5,[(0,false,(.vars qL5)),(1,false,(.vars qL2)),(2,false,(.vars (.cons (.mp 3) .nil))),(3,false,qB37)]⟩],[0]⟩
def sIndFun2_ft(fu:Nat):FnT:=⟨164,sIndFun2_fa.i,sIndFun2_fa.os,u10 (sIndFun2 fu)⟩
theorem hfZ(fu:Nat):Told Tryz.prog (sIndFun2_ft fu):=tk fu sIndFun2_fa (aaZ (l2Z fu) abZ) Tryz.func164 (by kernel_rfl) fun t=>by kernel_rfl
def sConFun2(fu:Nat)(s:List ((Int×Int)))(h:Int)(h1:Int)(h2:List (qT0))(h3:Int)(h4:Int)(h5:List (qT1))(h6:List ((Int×List (Int))))(h7:List ((Int×Int)))(h8:qT27):Option ((Bool×(Int×qT11))):=
 (sIndFun2 fu s h h1 h2 h3 h4 h5 h6 h7 h8).bind fun r=>
 some ((decide (r.1>=0)),(r.2.1,(r.2.2.1,(r.2.2.2.1,(r.2.2.2.2.1,(r.2.2.2.2.2.1,(r.2.2.2.2.2.2.1,(r.2.2.2.2.2.2.2.1,(r.2.2.2.2.2.2.2.2.1,r.2.2.2.2.2.2.2.2.2)))))))))
def sConFun2_fa:FnA:=⟨.two lf (.two (.reg [(2,{sh:=[0,1,2,3]})]) lf),⟨(.cons (.p (.sl qY34)) (.cons (.fn 127 .nil (.cons (.own 0 0 0 0) qL23)) .nil)),[(0,false,(.vars qL5)),(1,false,(.vars qL2)),(2,false,(.vars (.cons (.mp 3) .nil))),(3,false,qB37)]⟩,[⟨(.cons (.p .bool) .nil),[(0,false,(.vars qL5)),(1,false,(.vars qL2)),(2,false,(.vars (.cons (.mp 3) .nil))),(3,false,qB37)]⟩],[0]⟩
def sConFun2_ft(fu:Nat):FnT:=⟨128,sConFun2_fa.i,sConFun2_fa.os,u10 (sConFun2 fu)⟩
theorem gPZ(fu:Nat):Told Tryz.prog (sConFun2_ft fu):=tk fu sConFun2_fa (aaZ (hfZ fu) abZ) Tryz.func128 (by kernel_rfl) fun t=>by kernel_rfl
def sdrom1(fu:Nat)(s:qT21)(h:qT27):Option ((Bool×qT27)):=
 bif (decide (((s.2.2.2.2.length:Nat):Int)<=65536)) then
  (sConFun2 fu s.2.2.2.2 0 s.1 s.2.1.1 s.2.1.2 s.2.2.1.1 s.2.2.1.2 s.2.2.2.1 s.2.2.2.2 h).bind fun r=>
  some ((!r.1),r.2.2.2.2.2.2.2.2.2)
 else
  some (false,h)
def sdrom1_fa:FnA:=⟨.two (.reg [(0,{ids:=[100]}),(1,{ids:=[101]})]) (.two (.reg [(0,{ids:=[102]})]) (.two lf (.two (.reg [(8,{sh:=[102,100,101,0]})]) lf))),⟨(.cons (.p qY14) (.cons (.mp 0) .nil)),[(0,false,qB37)]⟩,[⟨(.cons (.p .bool) .nil),[(0,false,qB37)]⟩],[0]⟩
def sdrom1_ft(fu:Nat):FnT:=⟨74,sdrom1_fa.i,sdrom1_fa.os,fun t=>sdrom1 fu t.1 t.2⟩
theorem iUZ(fu:Nat):Told Tryz.prog (sdrom1_ft fu):=tk fu sdrom1_fa (aaZ (gPZ fu) abZ) Tryz.func74 (by kernel_rfl) fun t=>by kernel_rfl
def sRig_l0(fu:Nat)(o1:(Bool×(Int×(List (qT0)×(Int×(Int×(List (qT1)×(List ((Int×List (Int)))×(List ((Int×Int))×(qT27×qT0))))))))))(x1:Int)(h8:Int)(h9:List (qT0))(h10:Int)(h11:Int)(h12:List (qT1))(h13:List ((Int×List (Int))))(h14:List ((Int×Int)))(h15:qT27):Option ((Int×qT11)⊕(qT11)):=
 bif (decide (x1<((o1.2.2.2.2.2.2.2.2.2.2.2.2.2.2.1.length:Nat):Int))) then
  (idx? x1 o1.2.2.2.2.2.2.2.2.2.2.2.2.2.2.1.length).bind fun q1=>
  (o1.2.2.2.2.2.2.2.2.2.2.2.2.2.2.1)[q1]?.bind fun r6=>
  some (.inl ((IntKind.wrap .i64 (x1+1)),(h8,(h9,(h10,(h11,(h12,(h13,(h14,(mput (k:=(.int .i64)) (v:=(.int .i64)) h15 r6.1 1))))))))))
 else
  some (.inr (h8,(h9,(h10,(h11,(h12,(h13,(h14,h15))))))))
def sRig_l0_it(fu:Nat)(o1:(Bool×(Int×(List (qT0)×(Int×(Int×(List (qT1)×(List ((Int×List (Int)))×(List ((Int×Int))×(qT27×qT0))))))))))(tt:(Int×qT11)):Option (qT11):=
 iter fu (u9 (sRig_l0 fu o1)) tt
def sRig_l1(fu:Nat)(o:(Bool×qT19))(size:Int)(x:Int)(h:Int)(h1:List (qT0))(h2:Int)(h3:Int)(h4:List (qT1))(h5:List ((Int×List (Int))))(h6:List ((Int×Int)))(h7:qT27):Option ((Int×qT11)⊕(qT11⊕Bool)):=
 bif (decide (x<((o.2.2.1.length:Nat):Int))) then
  (idx? x o.2.2.1.length).bind fun q=>
  (o.2.2.1)[q]?.bind fun r4=>
  Option.bind (α:=((Bool×(Int×(List (qT0)×(Int×(Int×(List (qT1)×(List ((Int×List (Int)))×(List ((Int×Int))×(qT27×qT0))))))))))) (
   bif r4.2.2.1 then
    bif (!r4.2.2.2.1) then
     (spie fu r4.2.2.2.2.1 size).bind fun r5=>
     some ((!(((r4.2.2.2.2.2.1.length:Nat):Int)==r5)),(h,(h1,(h2,(h3,(h4,(h5,(h6,(h7,r4)))))))))
    else
     some (false,(h,(h1,(h2,(h3,(h4,(h5,(h6,(h7,r4)))))))))
   else
    some (false,(h,(h1,(h2,(h3,(h4,(h5,(h6,(h7,r4)))))))))) fun o1=>
  bif o1.1 then
   some (.inr (.inr false))
  else
   (sRig_l0_it fu o1 (0,(o1.2.1,(o1.2.2.1,(o1.2.2.2.1,(o1.2.2.2.2.1,(o1.2.2.2.2.2.1,(o1.2.2.2.2.2.2.1,(o1.2.2.2.2.2.2.2.1,o1.2.2.2.2.2.2.2.2.1))))))))).bind fun o2=>
   some (.inl ((IntKind.wrap .i64 (x+1)),o2))
 else
  some (.inr (.inl (h,(h1,(h2,(h3,(h4,(h5,(h6,h7)))))))))
def sRig_l1_it(fu:Nat)(o:(Bool×qT19))(size:Int)(tt:(Int×qT11)):Option (qT11⊕Bool):=
 iter fu (u9 (sRig_l1 fu o size)) tt
def sRig(fu:Nat)(s:qT21)(size:Int):Option (Bool):=
 Option.bind (α:=((Bool×qT19))) (
  (ssiz fu size).bind fun r=>
  bif (!r) then
   some (true,(s.1,(s.2.1.1,(s.2.1.2,(s.2.2.1.1,(s.2.2.1.2,s.2.2.2))))))
  else
   bif (decide (s.1<0)) then
    some (true,(s.1,(s.2.1.1,(s.2.1.2,(s.2.2.1.1,(s.2.2.1.2,s.2.2.2))))))
   else
    bif (decide (s.1>1099511627776)) then
     some (true,(s.1,(s.2.1.1,(s.2.1.2,(s.2.2.1.1,(s.2.2.1.2,s.2.2.2))))))
    else
     (tRig fu s.2.1).bind fun r1=>
     bif (!r1) then
      some (true,(s.1,(s.2.1.1,(s.2.1.2,(s.2.2.1.1,(s.2.2.1.2,s.2.2.2))))))
     else
      (rRig fu s.2.2.1).bind fun r2=>
      bif (!r2) then
       some (true,(s.1,(s.2.1.1,(s.2.1.2,(s.2.2.1.1,(s.2.2.1.2,s.2.2.2))))))
      else
       (spla fu s.2.2.2.1).bind fun r3=>
       some ((!r3),(s.1,(s.2.1.1,(s.2.1.2,(s.2.2.1.1,(s.2.2.1.2,s.2.2.2))))))) fun o=>
 bif o.1 then
  some false
 else
  (sRig_l1_it fu o size (0,(o.2.1,(o.2.2.1,(o.2.2.2.1,(o.2.2.2.2.1,(o.2.2.2.2.2.1,(o.2.2.2.2.2.2.1,(o.2.2.2.2.2.2.2,([],0)))))))))).bind fun o3=>
  match o3 with
  |.inl s1=>
   (sdrom1 fu (s1.1,((s1.2.1,s1.2.2.1),((s1.2.2.2.1,s1.2.2.2.2.1),(s1.2.2.2.2.2.1,s1.2.2.2.2.2.2.1)))) s1.2.2.2.2.2.2.2).bind fun r7=>
   some r7.1
  |.inr o4=>
   some o4
def sRig_fa:FnA:=⟨.two (.reg [(0,{ids:=[100]})]) (.two (.two (.join ⟨[2,40],⟨qL41,[(100,false,(.vars qL2))]⟩⟩ false [] (.reg [(1,{}),(16,{fn:=1}),(22,{fn:=2}),(28,{fn:=3})])) (.two lf lf)) (.two (.reg [(0,{ids:=[101]})]) (.two (.two lf (.one (.loop ⟨[2,5,46],⟨(.cons (.own 0 100 0 0) (.cons (.mp 101) qL5)),[(100,false,(.vars qL2)),(101,false,qB37)]⟩⟩ true [(0,⟨[2,5],⟨(.cons (.own 0 100 0 0) (.cons (.mp 101) .nil)),[(100,false,(.vars qL2)),(101,false,qB37)]⟩⟩)] (.two lf (.two lf (.two (.one (.two (.reg [(2,{ids:=[102]})]) (.two (.two (.join ⟨[2,5,7,66],⟨(.cons (.own 0 100 0 0) (.cons (.mp 101) (.cons (.own 0 102 0 0) (.cons (.p .bool) .nil)))),[(100,false,(.vars qL2)),(101,false,qB37),(102,false,qB7)]⟩⟩ false [] (.reg [(14,{fn:=4})])) (.two lf lf)) (.two lf (.one (.loop ⟨[2,5,70],⟨(.cons (.own 0 100 0 0) (.cons (.mp 101) qL5)),[(100,false,(.vars qL2)),(101,false,qB37)]⟩⟩ false [(2,⟨[2,5],⟨(.cons (.own 0 100 0 0) (.cons (.mp 101) .nil)),[(100,false,(.vars qL2)),(101,false,qB37)]⟩⟩)] (.two lf (.two lf (.two (.one (.two (.reg [(2,{ids:=[103]})]) lf)) lf))))))))) lf)))))) (.two (.reg [(2,{sh:=[101],fn:=5})]) lf)))),⟨(.cons (.p qY14) qL5),[]⟩,[⟨(.cons (.p .bool) .nil),[]⟩],[0]⟩
def sRig_ft(fu:Nat):FnT:=⟨23,sRig_fa.i,sRig_fa.os,fun t=>sRig fu t.1 t.2⟩
theorem lVZ(fu:Nat):Told Tryz.prog (sRig_ft fu):=tk fu sRig_fa (aaZ (mEZ fu) (aaZ (mNZ fu) (aaZ (mQZ fu) (aaZ (iaZ fu) (aaZ (ndZ fu) (aaZ (iUZ fu) abZ)))))) Tryz.func23 (by kernel_rfl) fun t=>by kernel_rfl
def save_Do(fu:Nat)(s:qT21)(size:Int)(c:(Int×(Int×(qT20×(List (Int)×(Int×(Int×Int))))))):Option ((Int×(List (qT0)×(Int×(Int×(List (qT1)×(List ((Int×List (Int)))×(List ((Int×Int))×(Int×(Int×(Int×(Int×(Int×(Bool×(Int×(Bool×(Int×Int))))))))))))))))):=
 (sMov fu s (-1) (-1)).bind fun r=>
 (sRig fu s size).bind fun r1=>
 bif (!r1) then
  some (r.1,(r.2.2.2.2.1,(r.2.1,(r.2.2.1,(r.2.2.2.2.2.1,(r.2.2.2.2.2.2.1,(r.2.2.2.2.2.2.2.1,(0,(0,(0,(0,(0,(false,(0,(false,(0,180))))))))))))))))
 else
  (byte? ((c.2.2.1.2.2.1.toNat:Nat):Int)).bind fun c1=>
  (srig fu (c.1,(c.2.1,((c.2.2.1.1,(c.2.2.1.2.1,(c1,c.2.2.1.2.2.2))),c.2.2.2)))).bind fun r2=>
  bif (!r2) then
   some (r.1,(r.2.2.2.2.1,(r.2.1,(r.2.2.1,(r.2.2.2.2.2.1,(r.2.2.2.2.2.2.1,(r.2.2.2.2.2.2.2.1,(0,(0,(0,(0,(0,(false,(0,(false,(0,2))))))))))))))))
  else
   bif (c.1==2) then
    none
   else
    bif (c.1==3) then
     (sMov fu s c.2.2.2.2.2.1 c.2.2.2.2.2.2).bind fun r3=>
     some (r3.1,(r3.2.2.2.2.1,(r3.2.1,(r3.2.2.1,(r3.2.2.2.2.2.1,(r3.2.2.2.2.2.2.1,(r3.2.2.2.2.2.2.2.1,(0,(0,(0,(0,(0,(false,(0,(false,(0,r3.2.2.2.1))))))))))))))))
    else
     bif (c.1==4) then
      none
     else
      bif (!(c.2.1==(IntKind.wrap .i64 (s.1+1)))) then
       some (r.1,(r.2.2.2.2.1,(r.2.1,(r.2.2.1,(r.2.2.2.2.2.1,(r.2.2.2.2.2.2.1,(r.2.2.2.2.2.2.2.1,(0,(0,(0,(0,(0,(false,(0,(false,(0,80))))))))))))))))
      else
       some (c.2.1,(r.2.2.2.2.1,(r.2.1,(r.2.2.1,(r.2.2.2.2.2.1,(r.2.2.2.2.2.2.1,(r.2.2.2.2.2.2.2.1,(0,(0,(0,(0,(0,(false,(0,(false,(0,0))))))))))))))))
def save_Do_fa:FnA:=⟨.two (.reg [(0,{ids:=[100]}),(1,{ids:=[101]}),(2,{ids:=[102]}),(3,{ids:=[103]})]) (.two (.reg [(1,{ids:=[104,105,106,107,108]}),(6,{ids:=[109]})]) (.two (.one (.two (.reg [(2,{fn:=1})]) (.two lf (.two (.reg [(1,{fn:=2})]) (.two lf lf))))) (.two (.two lf (.one (.two lf (.two (.two (.pre (.mem 0 15) lf) lf) (.two lf (.two (.two (.reg [(5,{ids:=[110,111,112,113,114]}),(10,{ids:=[115]})]) lf) (.two lf (.two (.two (.pre (.mem 0 15) lf) lf) lf)))))))) (.two (.two lf (.two lf lf)) (.two lf lf))))),⟨(.cons (.p qY14) (.cons (.p (.int .i64)) (.cons (.p qY43) .nil))),[]⟩,[⟨(.cons (.agg qL2) (.cons (.agg qL8) qL5)),[]⟩],[1,0,0]⟩
def save_Do_ft(fu:Nat):FnT:=⟨6,save_Do_fa.i,save_Do_fa.os,u3 (save_Do fu)⟩
theorem i4Z(fu:Nat):Told Tryz.prog (save_Do_ft fu):=tk fu save_Do_fa (aaZ (lPZ fu) (aaZ (lVZ fu) (aaZ (ePZ fu) abZ))) Tryz.func6 (by kernel_rfl) fun t=>by kernel_rfl
def lSamByt(fu:Nat)(a:List (UInt8))(b:List (UInt8)):Option (Bool):=
 some (a==b)
def lSamByt_fa:FnA:=⟨.two lf lf,⟨(.cons (.p (.sl .byte)) qL47),[]⟩,[⟨(.cons (.p .bool) .nil),[]⟩],[0]⟩
def lSamByt_ft(fu:Nat):FnT:=⟨27,lSamByt_fa.i,lSamByt_fa.os,fun t=>lSamByt fu t.1 t.2⟩
theorem iAZ(fu:Nat):Told Tryz.prog (lSamByt_ft fu):=tk fu lSamByt_fa abZ Tryz.func27 (by kernel_rfl) fun t=>by kernel_rfl
def law26_awake(fu:Nat):Option (Bool):=
 (bTab fu).bind fun r=>
 need (Nat.beq (List.replicate (α:=Int) 256 0).length 256)<|
 need (Nat.beq r.length 256)<|
 (sPutCha fu r (1,(3,((0,(0,((UInt8.ofNat 0),((0,0),([],((0,0),([],(0,(0,[]))))))))),([],(0,(0,0))))))).bind fun r1=>
 (sPutCha fu r (3,(0,((0,(0,((UInt8.ofNat 0),((0,0),([],((0,0),([],(0,(0,[]))))))))),([],(0,(1,5))))))).bind fun r2=>
 (state_New fu 1 [(1,[0])]).bind fun r3=>
 (save_Do fu (r3.1,((r3.2.1,r3.2.2.1),((r3.2.2.2.1,r3.2.2.2.2.1),(r3.2.2.2.2.2.1,r3.2.2.2.2.2.2.1)))) 16 (1,(2,((0,(0,((UInt8.ofNat 0),((0,0),([],((0,0),([],(0,(0,[]))))))))),([],(0,(0,0))))))).bind fun r4=>
 bif (r1.2==0) then
  bif (r2.2==0) then
   bif (r3.2.2.2.2.2.2.2==0) then
    (lSamByt fu r1.1 [(UInt8.ofNat 1),(UInt8.ofNat 3),(UInt8.ofNat 0),(UInt8.ofNat 0),(UInt8.ofNat 0),(UInt8.ofNat 0)]).bind fun r5=>
    bif r5 then
     (lSamByt fu r2.1 [(UInt8.ofNat 3),(UInt8.ofNat 0),(UInt8.ofNat 0),(UInt8.ofNat 1),(UInt8.ofNat 5),(UInt8.ofNat 0)]).bind fun r6=>
     bif r6 then
      some (r4.2.2.2.2.2.2.2.2.2.2.2.2.2.2.2.2==80)
     else
      some false
    else
     some false
   else
    some false
  else
   some false
 else
  some false
def law26_awake_fa:FnA:=⟨.two lf (.two (.reg [(0,{}),(1,{ids:=[100]})]) (.two (.reg [(1,{md:=[1,0],fn:=1})]) (.two (.reg [(1,{md:=[1,0],fn:=1})]) (.two (.reg [(0,{ids:=[101]}),(2,{ids:=[102]}),(3,{md:=[0,1],fn:=2}),(7,{ids:=[103]})]) (.two (.reg [(2,{fn:=3}),(7,{ids:=[104]}),(8,{ids:=[105]})]) (.two (.reg [(12,{ids:=[106]}),(13,{md:=[0,2],fn:=4}),(17,{ids:=[107]}),(18,{md:=[0,2],fn:=4})]) lf)))))),⟨.nil,[]⟩,[⟨(.cons (.p .bool) .nil),[]⟩],[0]⟩
def law26_awake_ft(fu:Nat):FnT:=⟨7,law26_awake_fa.i,law26_awake_fa.os,fun t=>law26_awake fu⟩
theorem ecZ(fu:Nat):Told Tryz.prog (law26_awake_ft fu):=tk fu law26_awake_fa (aaZ (ipZ fu) (aaZ (dQZ fu) (aaZ (fOZ fu) (aaZ (i4Z fu) (aaZ (iAZ fu) abZ))))) Tryz.func7 (by kernel_rfl) fun t=>by kernel_rfl
def swripar_l0(fu:Nat)(l:List ((Int×Int)))(x:Int)(h3:List (Int))(h4:Bool)(h5:List (UInt8)):Option ((Int×qT33)⊕(qT33)):=
 bif (decide (x<((l.length:Nat):Int))) then
  (idx? x l.length).bind fun q=>
  (l)[q]?.bind fun r1=>
  (swriuin fu [r1.1,r1.2] h3 h4 h5).bind fun r2=>
  some (.inl ((IntKind.wrap .i64 (x+1)),r2))
 else
  some (.inr (h3,(h4,h5)))
def swripar_l0_it(fu:Nat)(l:List ((Int×Int)))(tt:(Int×qT33)):Option (qT33):=
 iter fu (u4 (swripar_l0 fu l)) tt
def swripar(fu:Nat)(l:List ((Int×Int)))(h:List (Int))(h1:Bool)(h2:List (UInt8)):Option (qT33):=
 (swriuin fu [((l.length:Nat):Int)] h h1 h2).bind fun r=>
 (swripar_l0_it fu l (0,r)).bind fun o=>
 some o
def swripar_fa:FnA:=⟨.two (.reg [(3,{ids:=[100]}),(4,{ids:=[101],sh:=[0,1],md:=[0,1]})]) (.two lf (.one (.loop ⟨[0,13],⟨(.cons (.own 0 0 0 0) qL5),[(0,false,(.vars (.cons (.pt (.int .u32)) (.cons (.slf 1 101) (.cons (.p .bool) .nil))))),(101,false,(.rows 5 .byte))]⟩⟩ false [(0,⟨[0],⟨qL24,[(0,false,(.vars (.cons (.pt (.int .u32)) (.cons (.slf 1 101) (.cons (.p .bool) .nil))))),(101,false,(.rows 5 .byte))]⟩⟩)] (.two lf (.two lf (.two (.one (.two (.reg [(2,{ids:=[102]})]) (.reg [(5,{ids:=[103]}),(6,{ids:=[104],sh:=[0,101],md:=[0,1]})]))) lf)))))),⟨(.cons (.own 0 0 0 0) (.cons (.p (.sl qY34)) .nil)),[(0,false,(.vars (.cons (.pt (.int .u32)) qL49))),(1,false,(.rows 5 .byte))]⟩,[⟨.nil,[(0,false,(.vars (.cons (.pt (.int .u32)) (.cons (.slf 1 2) (.cons (.p .bool) .nil))))),(2,false,(.rows 5 .byte))]⟩],[]⟩
def swripar_ft(fu:Nat):FnT:=⟨41,swripar_fa.i,swripar_fa.os,u4 (swripar fu)⟩
theorem dIZ(fu:Nat):Told Tryz.prog (swripar_ft fu):=tk fu swripar_fa (aaZ (bHZ fu) abZ) Tryz.func41 (by kernel_rfl) fun t=>by kernel_rfl
def swriino_l0(fu:Nat)(o2:(List (Int)×(Bool×(List (UInt8)×qT0))))(x:Int)(h3:List (Int))(h4:Bool)(h5:List (UInt8)):Option ((Int×qT33)⊕(qT33)):=
 bif (decide (x<((o2.2.2.2.2.2.2.2.2.2.2.length:Nat):Int))) then
  (idx? x o2.2.2.2.2.2.2.2.2.2.2.length).bind fun q=>
  (o2.2.2.2.2.2.2.2.2.2.2)[q]?.bind fun r3=>
  Option.bind (α:=((List (Int)×(Bool×(List (UInt8)×(List UInt8×Int)))))) (
   bif h4 then
    some (h3,(true,(h5,r3)))
   else
    some (h3,((decide (((r3.1.length:Nat):Int)>100)),(h5,r3)))) fun o3=>
  need (Nat.ble o3.2.2.2.1.length room)<|
  (swriblo fu o3.2.2.2.1 0 o3.1 o3.2.1 o3.2.2.1).bind fun r4=>
  (swriuin fu [o3.2.2.2.2] r4.1 r4.2.1 r4.2.2).bind fun r5=>
  some (.inl ((IntKind.wrap .i64 (x+1)),r5))
 else
  some (.inr (h3,(h4,h5)))
def swriino_l0_it(fu:Nat)(o2:(List (Int)×(Bool×(List (UInt8)×qT0))))(tt:(Int×qT33)):Option (qT33):=
 iter fu (fun tt=>swriino_l0 fu o2 tt.1 tt.2.1 tt.2.2.1 tt.2.2.2) tt
def swriino(fu:Nat)(i:Int)(n:qT0)(h:List (Int))(h1:Bool)(h2:List (UInt8)):Option (qT33):=
 Option.bind (α:=((Int×(List (Int)×(Bool×(List (UInt8)×qT0)))))) (
  bif n.2.2.2.1 then
   some (2,(h,(h1,(h2,n))))
  else
   Option.bind (α:=((Int×(List (Int)×(Bool×(List (UInt8)×qT0)))))) (
    bif n.2.2.1 then
     some (1,(h,(h1,(h2,n))))
    else
     some (0,(h,(h1,(h2,n))))) fun o=>
   some o) fun o1=>
 Option.bind (α:=((List (Int)×(Bool×(List (UInt8)×qT0))))) (
  bif o1.2.2.1 then
   some (o1.2.1,(true,o1.2.2.2))
  else
   bif (!(o1.2.2.2.2.1==(IntKind.wrap .i64 (i+1)))) then
    some (o1.2.1,(true,o1.2.2.2))
   else
    bif o1.2.2.2.2.2.2.2.1 then
     some (o1.2.1,((!o1.2.2.2.2.2.2.1),o1.2.2.2))
    else
     some (o1.2.1,(false,o1.2.2.2))) fun o2=>
 (swriuin fu [o2.2.2.2.2.1,o1.1,o2.2.2.2.2.2.2.2.1,o2.2.2.2.2.2.2.2.2.2.1] o2.1 o2.2.1 o2.2.2.1).bind fun r=>
 (swripar fu o2.2.2.2.2.2.2.2.2.1 r.1 r.2.1 r.2.2).bind fun r1=>
 (swriuin fu [((o2.2.2.2.2.2.2.2.2.2.2.length:Nat):Int)] r1.1 r1.2.1 r1.2.2).bind fun r2=>
 (swriino_l0_it fu o2 (0,r2)).bind fun o4=>
 some o4
def swriino_fa:FnA:=⟨.two (.reg [(0,{ids:=[100]})]) (.two lf (.two (.one (.two lf (.join ⟨[0,5,6],⟨(.cons (.own 0 0 0 0) (.cons (.own 0 100 0 0) qL5)),[(0,false,(.vars (.cons (.pt (.int .u32)) qL49))),(1,false,(.rows 5 .byte)),(100,false,qB7)]⟩⟩ false [] (.two lf (.two lf (.join ⟨[0,5,6],⟨(.cons (.own 0 0 0 0) (.cons (.own 0 100 0 0) qL5)),[(0,false,(.vars (.cons (.pt (.int .u32)) qL49))),(1,false,(.rows 5 .byte)),(100,false,qB7)]⟩⟩ false [] lf)))))) (.two (.join ⟨[0,5],⟨(.cons (.own 0 0 0 0) (.cons (.own 0 100 0 0) .nil)),[(0,false,(.vars (.cons (.pt (.int .u32)) qL49))),(1,false,(.rows 5 .byte)),(100,false,qB7)]⟩⟩ false [] lf) (.two (.reg [(8,{ids:=[101]}),(9,{ids:=[102],sh:=[0,1],md:=[0,1]})]) (.two (.reg [(3,{ids:=[103],sh:=[0,102],fn:=1})]) (.two (.reg [(4,{ids:=[104]}),(5,{ids:=[105],sh:=[0,103],md:=[0,1]})]) (.two lf (.one (.loop ⟨[0,61],⟨(.cons (.own 0 0 0 0) qL5),[(0,false,(.vars (.cons (.pt (.int .u32)) (.cons (.slf 1 105) (.cons (.p .bool) .nil))))),(105,false,(.rows 5 .byte))]⟩⟩ false [(1,⟨[0],⟨qL24,[(0,false,(.vars (.cons (.pt (.int .u32)) (.cons (.slf 1 105) (.cons (.p .bool) .nil))))),(105,false,(.rows 5 .byte))]⟩⟩)] (.two lf (.two lf (.two (.one (.two (.reg [(2,{ids:=[106]})]) (.two (.join ⟨[0,8],⟨(.cons (.own 0 0 0 0) (.cons (.own 0 106 0 0) .nil)),[(0,false,(.vars (.cons (.pt (.int .u32)) (.cons (.slf 1 105) (.cons (.p .bool) .nil))))),(105,false,(.rows 5 .byte)),(106,false,(.vars (.cons (.p .str) qL5)))]⟩⟩ false [] lf) (.two (.reg [(3,{ids:=[107]}),(4,{ids:=[108],sh:=[0,105],md:=[0,1,0],fn:=2})]) (.reg [(3,{ids:=[109]}),(4,{ids:=[110],sh:=[0,108],md:=[0,1]})]))))) lf)))))))))))),⟨(.cons (.own 0 0 0 0) (.cons (.p (.int .i64)) (.cons (.p qY3) .nil))),[(0,false,(.vars (.cons (.pt (.int .u32)) qL49))),(1,false,(.rows 5 .byte))]⟩,[⟨.nil,[(0,false,(.vars (.cons (.pt (.int .u32)) (.cons (.slf 1 2) (.cons (.p .bool) .nil))))),(2,false,(.rows 5 .byte))]⟩],[]⟩
def swriino_ft(fu:Nat):FnT:=⟨37,swriino_fa.i,swriino_fa.os,u5 (swriino fu)⟩
theorem ihZ(fu:Nat):Told Tryz.prog (swriino_ft fu):=tk fu swriino_fa (aaZ (bHZ fu) (aaZ (dIZ fu) (aaZ (czZ fu) abZ))) Tryz.func37 (by kernel_rfl) fun t=>by kernel_rfl
def call_flag(fu:Nat)(b:Bool):Option (Int):=
 bif b then
  some 1
 else
  some 0
def call_flag_fa:FnA:=⟨.two lf (.two (.two lf (.two lf lf)) lf),⟨(.cons (.p .bool) .nil),[]⟩,[⟨qL5,[]⟩],[0]⟩
def call_flag_ft(fu:Nat):FnT:=⟨96,call_flag_fa.i,call_flag_fa.os,fun t=>call_flag fu t⟩
theorem fSZ(fu:Nat):Told Tryz.prog (call_flag_ft fu):=tk fu call_flag_fa abZ Tryz.func96 (by kernel_rfl) fun t=>by kernel_rfl
def cPutRep_l0(fu:Nat)(r:qT32)(x:Int)(h:List (UInt8)):Option ((Int×List (UInt8))⊕(List (UInt8))):=
 bif (decide (x<((r.2.2.2.2.2.2.2.1.length:Nat):Int))) then
  (idx? x r.2.2.2.2.2.2.2.1.length).bind fun q=>
  (r.2.2.2.2.2.2.2.1)[q]?.bind fun r7=>
  need (Nat.ble r7.1.length room)<|
  (bBloo0 fu r7.1 h).bind fun r8=>
  (cuino0 fu [r7.2] r8).bind fun r9=>
  some (.inl ((IntKind.wrap .i64 (x+1)),r9))
 else
  some (.inr h)
def cPutRep_l0_it(fu:Nat)(r:qT32)(tt:(Int×List (UInt8))):Option (List (UInt8)):=
 iter fu (fun tt=>cPutRep_l0 fu r tt.1 tt.2) tt
def cPutRep(fu:Nat)(t:List (Int))(r:qT32):Option ((Int×List (UInt8))):=
 (cRigRep fu (r.1,(r.2.1,(r.2.2.1,((r.2.2.2.1.1,r.2.2.2.1.2),(r.2.2.2.2.1,(r.2.2.2.2.2.1,(r.2.2.2.2.2.2.1,(r.2.2.2.2.2.2.2.1,(r.2.2.2.2.2.2.2.2.1,r.2.2.2.2.2.2.2.2.2)))))))))).bind fun r1=>
 bif (!r1) then
  some (179,[])
 else
  (call_flag fu r.2.2.2.2.1).bind fun r2=>
  (call_flag fu r.2.2.2.2.2.2.2.2.1).bind fun r3=>
  (cuino0 fu [r.1,r.2.1,r.2.2.1,r.2.2.2.1.1,r.2.2.2.1.2,r2,r.2.2.2.2.2.1,r3,r.2.2.2.2.2.2.2.2.2] [(UInt8.ofNat 4)]).bind fun r4=>
  (bBloo0 fu r.2.2.2.2.2.2.1 r4).bind fun r5=>
  (cuino0 fu [((r.2.2.2.2.2.2.2.1.length:Nat):Int)] r5).bind fun r6=>
  (cPutRep_l0_it fu r (0,r6)).bind fun o=>
  (bSea fu t o).bind fun r10=>
  some (0,r10)
def cPutRep_fa:FnA:=⟨.two (.reg [(0,{ids:=[100]})]) (.two (.two (.reg [(1,{})]) (.two lf lf)) (.two (.reg [(0,{ids:=[101]}),(15,{fn:=1}),(20,{fn:=1}),(23,{ids:=[102]}),(24,{ids:=[103],sh:=[101],md:=[0,1],fn:=2})]) (.two (.reg [(3,{ids:=[104],sh:=[103],fn:=3}),(7,{ids:=[105]}),(8,{ids:=[106],sh:=[104],md:=[0,1],fn:=2})]) (.two (.two lf (.one (.loop ⟨[6,49],⟨(.cons (.slf 1 106) qL5),[(106,false,(.rows 5 .byte))]⟩⟩ false [(0,⟨[6],⟨(.cons (.slf 1 106) .nil),[(106,false,(.rows 5 .byte))]⟩⟩)] (.two lf (.two lf (.two (.one (.two (.reg [(2,{ids:=[107]})]) (.reg [(3,{ids:=[108]}),(4,{ids:=[109],sh:=[106],md:=[0,1],fn:=3}),(7,{ids:=[110]}),(8,{ids:=[111],sh:=[109],md:=[0,1],fn:=2})]))) lf)))))) (.two (.reg [(2,{ids:=[112],md:=[0,1],fn:=4})]) lf))))),⟨(.cons (.pt (.int .u32)) (.cons (.p qY4) .nil)),[]⟩,[⟨(.cons (.slf 1 0) qL5),[(0,false,(.rows 5 .byte))]⟩],[15,0]⟩
def cPutRep_ft(fu:Nat):FnT:=⟨39,cPutRep_fa.i,cPutRep_fa.os,fun t=>cPutRep fu t.1 t.2⟩
theorem hQZ(fu:Nat):Told Tryz.prog (cPutRep_ft fu):=tk fu cPutRep_fa (aaZ (c0Z fu) (aaZ (fSZ fu) (aaZ (e0Z fu) (aaZ (cMZ fu) (aaZ (eTZ fu) abZ))))) Tryz.func39 (by kernel_rfl) fun t=>by kernel_rfl
def pByt_l0(fu:Nat)(r2:(Int×List (Int)))(x1:Int)(h1:List (UInt8)):Option ((Int×List (UInt8))⊕(List (UInt8))):=
 bif (decide (x1<((r2.2.length:Nat):Int))) then
  (idx? x1 r2.2.length).bind fun q1=>
  (r2.2)[q1]?.bind fun r5=>
  (bUino0 fu (IntKind.wrap .u64 r5) h1).bind fun r6=>
  some (.inl ((IntKind.wrap .i64 (x1+1)),r6))
 else
  some (.inr h1)
def pByt_l0_it(fu:Nat)(r2:(Int×List (Int)))(tt:(Int×List (UInt8))):Option (List (UInt8)):=
 iter fu (fun tt=>pByt_l0 fu r2 tt.1 tt.2) tt
def pByt_l1(fu:Nat)(l:List ((Int×List (Int))))(x:Int)(h:List (UInt8)):Option ((Int×List (UInt8))⊕(List (UInt8))):=
 bif (decide (x<((l.length:Nat):Int))) then
  (idx? x l.length).bind fun q=>
  (l)[q]?.bind fun r2=>
  (bUino0 fu (IntKind.wrap .u64 r2.1) h).bind fun r3=>
  (bUino0 fu (IntKind.wrap .u64 ((r2.2.length:Nat):Int)) r3).bind fun r4=>
  (pByt_l0_it fu r2 (0,r4)).bind fun o=>
  some (.inl ((IntKind.wrap .i64 (x+1)),o))
 else
  some (.inr h)
def pByt_l1_it(fu:Nat)(l:List ((Int×List (Int))))(tt:(Int×List (UInt8))):Option (List (UInt8)):=
 iter fu (fun tt=>pByt_l1 fu l tt.1 tt.2) tt
def pByt(fu:Nat)(l:List ((Int×List (Int)))):Option ((Int×List (UInt8))):=
 (place_all fu l).bind fun r=>
 bif (!r) then
  some (100,[])
 else
  (bUinn0 fu (IntKind.wrap .u64 ((l.length:Nat):Int))).bind fun r1=>
  (pByt_l1_it fu l (0,r1)).bind fun o1=>
  some (0,o1)
def pByt_fa:FnA:=⟨.two lf (.two (.two (.reg [(1,{})]) (.two lf lf)) (.two (.reg [(3,{ids:=[100],fn:=1})]) (.two (.two lf (.one (.loop ⟨[4,18],⟨(.cons (.slf 1 100) qL5),[(100,false,(.rows 5 .byte))]⟩⟩ false [(0,⟨[4],⟨(.cons (.slf 1 100) .nil),[(100,false,(.rows 5 .byte))]⟩⟩)] (.two lf (.two lf (.two (.one (.two (.reg [(2,{ids:=[101]})]) (.two (.reg [(4,{ids:=[102],sh:=[100],fn:=2}),(9,{ids:=[103],sh:=[102],fn:=2})]) (.two lf (.one (.loop ⟨[4,35],⟨(.cons (.slf 1 103) qL5),[(103,false,(.rows 5 .byte))]⟩⟩ false [(2,⟨[4],⟨(.cons (.slf 1 103) .nil),[(103,false,(.rows 5 .byte))]⟩⟩)] (.two lf (.two lf (.two (.one (.two lf (.reg [(3,{ids:=[104],sh:=[103],fn:=2})]))) lf))))))))) lf)))))) lf))),⟨(.cons (.p (.sl qY22)) .nil),[]⟩,[⟨(.cons (.slf 1 0) qL5),[(0,false,(.rows 5 .byte))]⟩],[15,0]⟩
def pByt_ft(fu:Nat):FnT:=⟨40,pByt_fa.i,pByt_fa.os,fun t=>pByt fu t⟩
theorem mYZ(fu:Nat):Told Tryz.prog (pByt_ft fu):=tk fu pByt_fa (aaZ (bTZ fu) (aaZ (jqZ fu) (aaZ (b0Z fu) abZ))) Tryz.func40 (by kernel_rfl) fun t=>by kernel_rfl
def sPutGat_l0(fu:Nat)(s:qT21)(x:Int)(h:Int)(h1:List (qT0))(h2:Int)(h3:Int)(h4:List (qT1))(h5:List ((Int×List (Int))))(h6:List ((Int×Int)))(h7:List (Int))(h8:Bool)(h9:List (UInt8)):Option ((Int×qT15)⊕(qT15)):=
 bif (decide (x<((s.2.1.1.length:Nat):Int))) then
  (idx? x s.2.1.1.length).bind fun q=>
  (s.2.1.1)[q]?.bind fun r1=>
  (swriino fu x r1 h7 h8 h9).bind fun r2=>
  some (.inl ((IntKind.wrap .i64 (x+1)),(h,(h1,(h2,(h3,(h4,(h5,(h6,r2)))))))))
 else
  some (.inr (h,(h1,(h2,(h3,(h4,(h5,(h6,(h7,(h8,h9))))))))))
def sPutGat_l0_it(fu:Nat)(s:qT21)(tt:(Int×qT15)):Option (qT15):=
 iter fu (fun tt=>sPutGat_l0 fu s tt.1 tt.2.1 tt.2.2.1 tt.2.2.2.1 tt.2.2.2.2.1 tt.2.2.2.2.2.1 tt.2.2.2.2.2.2.1 tt.2.2.2.2.2.2.2.1 tt.2.2.2.2.2.2.2.2.1 tt.2.2.2.2.2.2.2.2.2.1 tt.2.2.2.2.2.2.2.2.2.2) tt
def sPutGat_l1(fu:Nat)(r4:qT1)(t:List (Int))(x2:Int)(h20:Int)(h21:List (qT0))(h22:Int)(h23:Int)(h24:List (qT1))(h25:List ((Int×List (Int))))(h26:List ((Int×Int)))(h27:List (Int))(h28:Bool)(h29:List (UInt8)):Option ((Int×qT15)⊕(qT15)):=
 bif (decide (x2<((r4.2.2.length:Nat):Int))) then
  (idx? x2 r4.2.2.length).bind fun q2=>
  (r4.2.2)[q2]?.bind fun r6=>
  (cPutRep fu t r6).bind fun r7=>
  (swriblo fu r7.2 r7.1 h27 h28 h29).bind fun r8=>
  some (.inl ((IntKind.wrap .i64 (x2+1)),(h20,(h21,(h22,(h23,(h24,(h25,(h26,r8)))))))))
 else
  some (.inr (h20,(h21,(h22,(h23,(h24,(h25,(h26,(h27,(h28,h29))))))))))
def sPutGat_l1_it(fu:Nat)(r4:qT1)(t:List (Int))(tt:(Int×qT15)):Option (qT15):=
 iter fu (fun tt=>sPutGat_l1 fu r4 t tt.1 tt.2.1 tt.2.2.1 tt.2.2.2.1 tt.2.2.2.2.1 tt.2.2.2.2.2.1 tt.2.2.2.2.2.2.1 tt.2.2.2.2.2.2.2.1 tt.2.2.2.2.2.2.2.2.1 tt.2.2.2.2.2.2.2.2.2.1 tt.2.2.2.2.2.2.2.2.2.2) tt
def sPutGat_l2(fu:Nat)(o:qT15)(t:List (Int))(x1:Int)(h10:Int)(h11:List (qT0))(h12:Int)(h13:Int)(h14:List (qT1))(h15:List ((Int×List (Int))))(h16:List ((Int×Int)))(h17:List (Int))(h18:Bool)(h19:List (UInt8)):Option ((Int×qT15)⊕(qT15)):=
 bif (decide (x1<((o.2.2.2.2.1.length:Nat):Int))) then
  (idx? x1 o.2.2.2.2.1.length).bind fun q1=>
  (o.2.2.2.2.1)[q1]?.bind fun r4=>
  (swriuin fu [r4.1,r4.2.1,((r4.2.2.length:Nat):Int)] h17 h18 h19).bind fun r5=>
  (sPutGat_l1_it fu r4 t (0,(h10,(h11,(h12,(h13,(h14,(h15,(h16,r5))))))))).bind fun o1=>
  some (.inl ((IntKind.wrap .i64 (x1+1)),o1))
 else
  some (.inr (h10,(h11,(h12,(h13,(h14,(h15,(h16,(h17,(h18,h19))))))))))
def sPutGat_l2_it(fu:Nat)(o:qT15)(t:List (Int))(tt:(Int×qT15)):Option (qT15):=
 iter fu (fun tt=>sPutGat_l2 fu o t tt.1 tt.2.1 tt.2.2.1 tt.2.2.2.1 tt.2.2.2.2.1 tt.2.2.2.2.2.1 tt.2.2.2.2.2.2.1 tt.2.2.2.2.2.2.2.1 tt.2.2.2.2.2.2.2.2.1 tt.2.2.2.2.2.2.2.2.2.1 tt.2.2.2.2.2.2.2.2.2.2) tt
def sPutGat(fu:Nat)(t:List (Int))(s:qT21):Option ((List (UInt8)×Int)):=
 (swriuin2 fu [s.1,s.2.1.2,((s.2.1.1.length:Nat):Int)] t false).bind fun r=>
 (sPutGat_l0_it fu s (0,(s.1,(s.2.1.1,(s.2.1.2,(s.2.2.1.1,(s.2.2.1.2,(s.2.2.2.1,(s.2.2.2.2,r))))))))).bind fun o=>
 (swriuin fu [o.2.2.2.1,((o.2.2.2.2.1.length:Nat):Int)] o.2.2.2.2.2.2.2.1 o.2.2.2.2.2.2.2.2.1 o.2.2.2.2.2.2.2.2.2).bind fun r3=>
 (sPutGat_l2_it fu o t (0,(o.1,(o.2.1,(o.2.2.1,(o.2.2.2.1,(o.2.2.2.2.1,(o.2.2.2.2.2.1,(o.2.2.2.2.2.2.1,r3))))))))).bind fun o2=>
 (pByt fu o2.2.2.2.2.2.1).bind fun r9=>
 (swriblo fu r9.2 r9.1 o2.2.2.2.2.2.2.2.1 o2.2.2.2.2.2.2.2.2.1 o2.2.2.2.2.2.2.2.2.2).bind fun r10=>
 (swripar fu o2.2.2.2.2.2.2.1 r10.1 r10.2.1 r10.2.2).bind fun r11=>
 (swridon fu r11.1 r11.2.1 r11.2.2).bind fun r12=>
 match r12 with
 |.inl r13=>
  some ([],r13.1)
 |.inr r14=>
  some (r14.1,r14.2.1)
def sPutGat_fa:FnA:=⟨.two (.reg [(0,{ids:=[100]})]) (.two (.reg [(2,{ids:=[101]})]) (.two (.reg [(10,{ids:=[102]}),(11,{ids:=[103],sh:=[101],md:=[0,1]})]) (.two (.two lf (.one (.loop ⟨[3,6,32],⟨(.cons (.own 0 100 0 0) (.cons (.own 0 101 0 0) qL5)),[(100,false,(.vars qL2)),(101,false,(.vars (.cons (.pt (.int .u32)) (.cons (.slf 1 103) (.cons (.p .bool) .nil))))),(103,false,(.rows 5 .byte))]⟩⟩ false [(0,⟨[3,6],⟨(.cons (.own 0 100 0 0) (.cons (.own 0 101 0 0) .nil)),[(100,false,(.vars qL2)),(101,false,(.vars (.cons (.pt (.int .u32)) (.cons (.slf 1 103) (.cons (.p .bool) .nil))))),(103,false,(.rows 5 .byte))]⟩⟩)] (.two lf (.two lf (.two (.one (.two (.reg [(3,{ids:=[104]})]) (.reg [(3,{ids:=[105],sh:=[101,103],fn:=1})]))) lf)))))) (.two (.reg [(8,{ids:=[106]}),(9,{ids:=[107],sh:=[101,103],md:=[0,1],fn:=2})]) (.two (.two lf (.one (.loop ⟨[3,6,56],⟨(.cons (.own 0 100 0 0) (.cons (.own 0 101 0 0) qL5)),[(100,false,(.vars qL2)),(101,false,(.vars (.cons (.pt (.int .u32)) (.cons (.slf 1 107) (.cons (.p .bool) .nil))))),(107,false,(.rows 5 .byte))]⟩⟩ false [(2,⟨[3,6],⟨(.cons (.own 0 100 0 0) (.cons (.own 0 101 0 0) .nil)),[(100,false,(.vars qL2)),(101,false,(.vars (.cons (.pt (.int .u32)) (.cons (.slf 1 107) (.cons (.p .bool) .nil))))),(107,false,(.rows 5 .byte))]⟩⟩)] (.two lf (.two lf (.two (.one (.two (.reg [(2,{ids:=[108]})]) (.two (.reg [(8,{ids:=[109]}),(9,{ids:=[110],sh:=[101,107],md:=[0,1],fn:=2})]) (.two lf (.one (.loop ⟨[3,6,73],⟨(.cons (.own 0 100 0 0) (.cons (.own 0 101 0 0) qL5)),[(100,false,(.vars qL2)),(101,false,(.vars (.cons (.pt (.int .u32)) (.cons (.slf 1 110) (.cons (.p .bool) .nil))))),(110,false,(.rows 5 .byte))]⟩⟩ false [(4,⟨[3,6],⟨(.cons (.own 0 100 0 0) (.cons (.own 0 101 0 0) .nil)),[(100,false,(.vars qL2)),(101,false,(.vars (.cons (.pt (.int .u32)) (.cons (.slf 1 110) (.cons (.p .bool) .nil))))),(110,false,(.rows 5 .byte))]⟩⟩)] (.two lf (.two lf (.two (.one (.two (.reg [(2,{ids:=[111]})]) (.reg [(3,{ids:=[112],fn:=3}),(6,{ids:=[113],sh:=[101,110],md:=[0,1,0],fn:=4})]))) lf))))))))) lf)))))) (.two (.reg [(3,{ids:=[114],fn:=5}),(6,{ids:=[115],sh:=[101,107],md:=[0,1,0],fn:=4})]) (.two (.reg [(3,{ids:=[116],sh:=[101,115],fn:=6})]) (.two (.reg [(1,{sh:=[101,116],fn:=7})]) lf)))))))),⟨(.cons (.pt (.int .u32)) (.cons (.p qY14) .nil)),[]⟩,[⟨(.cons (.p (.sl .byte)) qL5),[]⟩],[0,0]⟩
def sPutGat_ft(fu:Nat):FnT:=⟨12,sPutGat_fa.i,sPutGat_fa.os,fun t=>sPutGat fu t.1 t.2⟩
theorem hVZ(fu:Nat):Told Tryz.prog (sPutGat_ft fu):=tk fu sPutGat_fa (aaZ (daZ fu) (aaZ (ihZ fu) (aaZ (bHZ fu) (aaZ (hQZ fu) (aaZ (czZ fu) (aaZ (mYZ fu) (aaZ (dIZ fu) (aaZ (dPZ fu) abZ)))))))) Tryz.func12 (by kernel_rfl) fun t=>by kernel_rfl
def kit_Pick(fu:Nat)(x:Int)(n:Int):Option (Int):=
 bif (decide (n<1)) then
  some 0
 else
  need (!(decide (n=0)))<|
  bif (decide ((Int.tmod x n)<0)) then
   some (IntKind.wrap .i64 ((Int.tmod x n)+n))
  else
   some (Int.tmod x n)
def kit_Pick_fa:FnA:=⟨.two lf (.two (.two lf (.two lf lf)) (.two lf (.two (.two lf lf) lf))),⟨(.cons (.p (.int .i64)) qL5),[]⟩,[⟨qL5,[]⟩],[0]⟩
def kit_Pick_ft(fu:Nat):FnT:=⟨14,kit_Pick_fa.i,kit_Pick_fa.os,fun t=>kit_Pick fu t.1 t.2⟩
theorem huZ(fu:Nat):Told Tryz.prog (kit_Pick_ft fu):=tk fu kit_Pick_fa abZ Tryz.func14 (by kernel_rfl) fun t=>by kernel_rfl
def bGetUin_l0(fu:Nat)(b:List (UInt8))(at_:Int)(n:Int)(to_:Int):Option ((Int×Int)⊕(Unit⊕(Int×(Int×Int)))):=
 bif (decide (to_<((b.length:Nat):Int))) then
  (idx? to_ b.length).bind fun q=>
  (b)[q]?.bind fun r=>
  Option.bind (α:=(Bool)) (
   bif (decide ((IntKind.wrap .i64 (to_-at_))>0)) then
    bif (((r.toNat:Nat):Int)==0) then
     some true
    else
     bif (decide ((IntKind.wrap .i64 (to_-at_))>8)) then
      some (decide (((r.toNat:Nat):Int)>1))
     else
      some false
   else
    bif (decide ((IntKind.wrap .i64 (to_-at_))>8)) then
     some (decide (((r.toNat:Nat):Int)>1))
    else
     some false) fun o1=>
  bif o1 then
   some (.inr (.inr (0,(0,10))))
  else
   need (decide (0<=(IntKind.wrap .i64 (7*(IntKind.wrap .i64 (to_-at_))))))<|
   bif (decide (((r.toNat:Nat):Int)<128)) then
    some (.inr (.inr ((IntKind.wrap .u64 (n+(IntKind.wrap .u64 ((IntKind.wrap .u64 (Int.tmod ((r.toNat:Nat):Int) 128))*(2^(min ((IntKind.wrap .i64 (7*(IntKind.wrap .i64 (to_-at_))))).toNat 64)))))),((IntKind.wrap .i64 (to_+1)),0))))
   else
    some (.inl ((IntKind.wrap .u64 (n+(IntKind.wrap .u64 ((IntKind.wrap .u64 (Int.tmod ((r.toNat:Nat):Int) 128))*(2^(min ((IntKind.wrap .i64 (7*(IntKind.wrap .i64 (to_-at_))))).toNat 64)))))),(IntKind.wrap .i64 (to_+1))))
 else
  some (.inr (.inl ()))
def bGetUin_l0_it(fu:Nat)(b:List (UInt8))(at_:Int)(tt:(Int×Int)):Option (Unit⊕(Int×(Int×Int))):=
 iter fu (fun tt=>bGetUin_l0 fu b at_ tt.1 tt.2) tt
def bGetUin(fu:Nat)(b:List (UInt8))(at_:Int):Option ((Int×(Int×Int))):=
 Option.bind (α:=(Bool)) (
  bif (decide (at_<0)) then
   some true
  else
   some (decide (at_>((b.length:Nat):Int)))) fun o=>
 bif o then
  some (0,(0,2))
 else
  (bGetUin_l0_it fu b at_ (0,at_)).bind fun o2=>
  match o2 with
  |.inl s=>
   some (0,(0,11))
  |.inr o3=>
   some o3
def bGetUin_fa:FnA:=⟨.two lf (.two (.two (.join ⟨[18],⟨(.cons (.p .bool) .nil),[]⟩⟩ false [] lf) (.two lf lf)) (.two lf (.two (.two lf (.one (.loop ⟨[7,8],⟨(.cons (.p (.int .u64)) qL5),[]⟩⟩ true [(0,⟨[],⟨.nil,[]⟩⟩)] (.two (.two lf lf) (.two (.one (.two lf (.two (.two (.join ⟨[46],⟨(.cons (.p .bool) .nil),[]⟩⟩ false [] lf) (.two lf lf)) (.two lf (.two lf (.two lf lf)))))) lf))))) lf))),⟨(.cons (.p (.sl .byte)) qL5),[]⟩,[⟨(.cons (.p (.int .u64)) (.cons (.p (.int .i64)) qL5)),[]⟩],[0,0,0]⟩
def bGetUin_ft(fu:Nat):FnT:=⟨111,bGetUin_fa.i,bGetUin_fa.os,fun t=>bGetUin fu t.1 t.2⟩
theorem bLZ(fu:Nat):Told Tryz.prog (bGetUin_ft fu):=tk fu bGetUin_fa abZ Tryz.func111 (by kernel_rfl) fun t=>by kernel_rfl
def sreanum(fu:Nat)(h:List (Int))(h1:List (UInt8))(h2:Int)(h3:Bool):Option ((Int×(List (Int)×qT44))):=
 bif h3 then
  some (0,(h,(h1,(h2,h3))))
 else
  (bGetUin fu h1 h2).bind fun r=>
  Option.bind (α:=((Bool×(List (Int)×qT44)))) (
   bif (!(r.2.2==0)) then
    some (true,(h,(h1,(h2,h3))))
   else
    some ((decide (r.1>4611686018427387904)),(h,(h1,(h2,h3))))) fun o=>
  bif o.1 then
   some (0,(o.2.1,(o.2.2.1,(o.2.2.2.1,true))))
  else
   some ((IntKind.wrap .i64 r.1),(o.2.1,(o.2.2.1,(r.2.1,o.2.2.2.2))))
def sreanum_fa:FnA:=⟨.two lf (.two (.two lf (.two lf lf)) (.two (.reg [(8,{})]) (.two (.two (.join ⟨[0,28],⟨(.cons (.own 0 0 0 0) (.cons (.p .bool) .nil)),[(0,false,(.vars (.cons (.pt (.int .u32)) qL6)))]⟩⟩ false [] lf) (.two (.two lf lf) lf)) (.two lf lf)))),⟨qL24,[(0,false,(.vars (.cons (.pt (.int .u32)) qL6)))]⟩,[⟨qL5,[(0,false,(.vars (.cons (.pt (.int .u32)) qL6)))]⟩],[0]⟩
def sreanum_ft(fu:Nat):FnT:=⟨99,sreanum_fa.i,sreanum_fa.os,u4 (sreanum fu)⟩
theorem avZ(fu:Nat):Told Tryz.prog (sreanum_ft fu):=tk fu sreanum_fa (aaZ (bLZ fu) abZ) Tryz.func99 (by kernel_rfl) fun t=>by kernel_rfl
def sreanumo12(fu:Nat)(h:List (Int))(h1:List (UInt8))(h2:Int)(h3:Bool)(h4:Int)(h5:Int)(h6:Int):Option ((List (Int)×(List (UInt8)×(Int×(Bool×(Int×(Int×Int))))))):=
 (sreanum fu h h1 h2 h3).bind fun r=>
 (sreanum fu r.2.1 r.2.2.1 r.2.2.2.1 r.2.2.2.2).bind fun r1=>
 some (r1.2.1,(r1.2.2.1,(r1.2.2.2.1,(r1.2.2.2.2,(r.1,(r1.1,h6))))))
def sreanumo12_fa:FnA:=⟨.two lf (.one (.round (.two lf (.two lf (.two (.one (.two lf (.reg [(2,{sh:=[0]})]))) lf))) (.round (.two lf (.two lf (.two (.one (.two lf (.reg [(2,{sh:=[0]})]))) lf))) (.round (.two lf (.two lf lf)) lf)))),⟨qL45,[(0,false,(.vars (.cons (.pt (.int .u32)) qL6))),(1,false,(.vars (.cons (.own 0 2 0 0) (.cons (.own 0 2 0 2) .nil)))),(2,false,qB16)]⟩,[⟨.nil,[(0,false,(.vars (.cons (.pt (.int .u32)) qL6))),(1,false,(.vars (.cons (.own 0 2 0 0) (.cons (.own 0 2 0 2) .nil)))),(2,false,qB16)]⟩],[]⟩
def sreanumo12_ft(fu:Nat):FnT:=⟨43,sreanumo12_fa.i,sreanumo12_fa.os,u7 (sreanumo12 fu)⟩
theorem fqZ(fu:Nat):Told Tryz.prog (sreanumo12_ft fu):=tk fu sreanumo12_fa (aaZ (avZ fu) abZ) Tryz.func43 (by kernel_rfl) fun t=>by kernel_rfl
def sreanumo14(fu:Nat)(h:List (Int))(h1:List (UInt8))(h2:Int)(h3:Bool)(h4:Int)(h5:Int)(h6:Bool)(h7:Bool)(h8:Int)(h9:Int)(h10:Int):Option ((List (Int)×(List (UInt8)×(Int×(Bool×(Int×(Int×(Bool×(Bool×(Int×(Int×Int))))))))))):=
 (sreanum fu h h1 h2 h3).bind fun r=>
 (sreanum fu r.2.1 r.2.2.1 r.2.2.2.1 r.2.2.2.2).bind fun r1=>
 (sreanum fu r1.2.1 r1.2.2.1 r1.2.2.2.1 r1.2.2.2.2).bind fun r2=>
 (sreanum fu r2.2.1 r2.2.2.1 r2.2.2.2.1 r2.2.2.2.2).bind fun r3=>
 some (r3.2.1,(r3.2.2.1,(r3.2.2.2.1,(r3.2.2.2.2,(h4,(r.1,(h6,(h7,(r2.1,(r3.1,r1.1))))))))))
def sreanumo14_fa:FnA:=⟨.two lf (.one (.round (.two lf (.two lf (.two (.one (.two lf (.reg [(2,{sh:=[0]})]))) lf))) (.round (.two lf (.two lf (.two (.one (.two lf (.reg [(2,{sh:=[0]})]))) lf))) (.round (.two lf (.two lf (.two (.one (.two lf (.reg [(2,{sh:=[0]})]))) lf))) (.round (.two lf (.two lf (.two (.one (.two lf (.reg [(2,{sh:=[0]})]))) lf))) (.round (.two lf (.two lf lf)) lf)))))),⟨qL45,[(0,false,(.vars (.cons (.pt (.int .u32)) qL6))),(1,false,(.vars (.cons (.own 0 2 0 1) (.cons (.own 0 3 0 0) (.cons (.own 0 2 0 4) (.cons (.own 0 2 0 6) .nil)))))),(2,false,qB38),(3,false,(.vars qL5))]⟩,[⟨.nil,[(0,false,(.vars (.cons (.pt (.int .u32)) qL6))),(1,false,(.vars (.cons (.own 0 2 0 1) (.cons (.own 0 3 0 0) (.cons (.own 0 2 0 4) (.cons (.own 0 2 0 6) .nil)))))),(2,false,qB38),(3,false,(.vars qL5))]⟩],[]⟩
def sreanumo14_ft(fu:Nat):FnT:=⟨43,sreanumo14_fa.i,sreanumo14_fa.os,u11 (sreanumo14 fu)⟩
theorem fdZ(fu:Nat):Told Tryz.prog (sreanumo14_ft fu):=tk fu sreanumo14_fa (aaZ (avZ fu) abZ) Tryz.func43 (by kernel_rfl) fun t=>by kernel_rfl
def sreanumo18(fu:Nat)(h:List (Int))(h1:List (UInt8))(h2:Int)(h3:Bool)(h4:Int)(h5:Int):Option ((List (Int)×(List (UInt8)×(Int×(Bool×(Int×Int)))))):=
 (sreanum fu h h1 h2 h3).bind fun r=>
 (sreanum fu r.2.1 r.2.2.1 r.2.2.2.1 r.2.2.2.2).bind fun r1=>
 some (r1.2.1,(r1.2.2.1,(r1.2.2.2.1,(r1.2.2.2.2,(r.1,r1.1)))))
def sreanumo18_fa:FnA:=⟨.two lf (.one (.round (.two lf (.two lf (.two (.one (.two lf (.reg [(2,{sh:=[0]})]))) lf))) (.round (.two lf (.two lf (.two (.one (.two lf (.reg [(2,{sh:=[0]})]))) lf))) (.round (.two lf (.two lf lf)) lf)))),⟨qL45,[(0,false,(.vars (.cons (.pt (.int .u32)) qL6))),(1,false,(.vars (.cons (.own 0 2 0 0) (.cons (.own 0 2 0 1) .nil)))),(2,false,(.vars (.cons (.p (.int .i64)) qL5)))]⟩,[⟨.nil,[(0,false,(.vars (.cons (.pt (.int .u32)) qL6))),(1,false,(.vars (.cons (.own 0 2 0 0) (.cons (.own 0 2 0 1) .nil)))),(2,false,(.vars (.cons (.p (.int .i64)) qL5)))]⟩],[]⟩
def sreanumo18_ft(fu:Nat):FnT:=⟨43,sreanumo18_fa.i,sreanumo18_fa.os,u6 (sreanumo18 fu)⟩
theorem fkZ(fu:Nat):Told Tryz.prog (sreanumo18_ft fu):=tk fu sreanumo18_fa (aaZ (avZ fu) abZ) Tryz.func43 (by kernel_rfl) fun t=>by kernel_rfl
def sreapar1(fu:Nat)(h:Int)(h1:Int)(h2:List (Int))(h3:List (UInt8))(h4:Int)(h5:Bool):Option ((Int×(Int×(List (Int)×qT44)))):=
 (sreanumo18 fu h2 h3 h4 h5 h h1).bind fun r=>
 some (r.2.2.2.2.1,(r.2.2.2.2.2,(r.1,(r.2.1,(r.2.2.1,r.2.2.2.1)))))
def sreapar1_fa:FnA:=⟨.reg [(7,{ids:=[100],md:=[1]}),(8,{sh:=[2,100,0]})],⟨qL35,[(0,false,(.vars (.cons (.p (.int .i64)) qL5))),(1,false,(.vars (.cons (.own 0 2 0 0) .nil))),(2,false,(.vars (.cons (.pt (.int .u32)) qL6)))]⟩,[⟨.nil,[(0,false,(.vars (.cons (.p (.int .i64)) qL5))),(1,false,(.vars (.cons (.own 0 2 0 0) .nil))),(2,false,(.vars (.cons (.pt (.int .u32)) qL6)))]⟩],[]⟩
def sreapar1_ft(fu:Nat):FnT:=⟨113,sreapar1_fa.i,sreapar1_fa.os,u6 (sreapar1 fu)⟩
theorem g8Z(fu:Nat):Told Tryz.prog (sreapar1_ft fu):=tk fu sreapar1_fa (aaZ (fkZ fu) abZ) Tryz.func113 (by kernel_rfl) fun t=>by kernel_rfl
def slisapiPa_l0(fu:Nat)(n:Int)(h4:List (Int))(h5:List (UInt8))(h6:Int)(h7:Bool)(h8:List ((Int×Int))):Option ((Int×qT51)⊕(qT51)):=
 Option.bind (α:=((Bool×qT51))) (
  bif (decide (n>0)) then
   some ((!h7),(h4,(h5,(h6,(h7,h8)))))
  else
   some (false,(h4,(h5,(h6,(h7,h8)))))) fun o1=>
 bif o1.1 then
  (sreapar1 fu 0 0 o1.2.1 o1.2.2.1 o1.2.2.2.1 o1.2.2.2.2.1).bind fun r1=>
  need ((Nat.ble ((o1.2.2.2.2.2.length+1)*16) room)&&(Nat.ble (o1.2.2.2.2.2.length+1) room))<|
  some (.inl ((IntKind.wrap .i64 (n-1)),(r1.2.2.1,(r1.2.2.2.1,(r1.2.2.2.2.1,(r1.2.2.2.2.2,(o1.2.2.2.2.2++[(r1.1,r1.2.1)])))))))
 else
  some (.inr o1.2)
def slisapiPa_l0_it(fu:Nat)(tt:(Int×qT51)):Option (qT51):=
 iter fu (fun tt=>slisapiPa_l0 fu tt.1 tt.2.1 tt.2.2.1 tt.2.2.2.1 tt.2.2.2.2.1 tt.2.2.2.2.2) tt
def slisapiPa(fu:Nat)(h:List (Int))(h1:List (UInt8))(h2:Int)(h3:Bool):Option (qT51):=
 (sreanum fu h h1 h2 h3).bind fun r=>
 Option.bind (α:=((List (Int)×qT44))) (
  bif (decide (r.1>((r.2.2.1.length:Nat):Int))) then
   some (r.2.1,(r.2.2.1,(r.2.2.2.1,true)))
  else
   some r.2) fun o=>
 (slisapiPa_l0_it fu (r.1,(o.1,(o.2.1,(o.2.2.1,(o.2.2.2,[])))))).bind fun o2=>
 some o2
def slisapiPa_fa:FnA:=⟨.two lf (.two (.reg [(1,{sh:=[0]})]) (.two (.two lf (.join ⟨[0,1],⟨(.cons (.own 0 0 0 0) (.cons (.fn 113 .nil (.cons (.own 0 1 0 0) .nil)) .nil)),[(0,false,(.vars (.cons (.pt (.int .u32)) qL6))),(1,false,(.vars qL24))]⟩⟩ false [] lf)) (.two lf (.two (.one (.pre (.ownNil 6 145 100) (.loop ⟨[0,1,5,6],⟨(.cons (.own 0 0 0 0) (.cons (.fn 113 .nil (.cons (.own 0 1 0 0) .nil)) (.cons (.p (.int .i64)) (.cons (.slf 2 100) .nil)))),[(0,false,(.vars (.cons (.pt (.int .u32)) qL6))),(1,false,(.vars qL24)),(100,false,(.rows 145 qY34))]⟩⟩ false [(0,⟨[0,1,6],⟨(.cons (.own 0 0 0 0) (.cons (.fn 113 .nil (.cons (.own 0 1 0 0) .nil)) (.cons (.slf 2 100) .nil))),[(0,false,(.vars (.cons (.pt (.int .u32)) qL6))),(1,false,(.vars qL24)),(100,false,(.rows 145 qY34))]⟩⟩)] (.two (.two (.join ⟨[0,1,6,28],⟨(.cons (.own 0 0 0 0) (.cons (.fn 113 .nil (.cons (.own 0 1 0 0) .nil)) (.cons (.slf 2 100) (.cons (.p .bool) .nil)))),[(0,false,(.vars (.cons (.pt (.int .u32)) qL6))),(1,false,(.vars qL24)),(100,false,(.rows 145 qY34))]⟩⟩ false [] lf) lf) (.two (.one (.two (.reg [(0,{ids:=[101]})]) (.two (.reg [(1,{sh:=[101,1,0],fn:=1})]) (.reg [(2,{ids:=[102]}),(3,{ids:=[103]})])))) lf))))) lf)))),⟨(.cons (.own 0 0 0 0) (.cons (.fn 113 .nil (.cons (.own 0 1 0 0) .nil)) .nil)),[(0,false,(.vars (.cons (.pt (.int .u32)) qL6))),(1,false,(.vars qL24))]⟩,[⟨(.cons (.slf 2 2) .nil),[(0,false,(.vars (.cons (.pt (.int .u32)) qL6))),(1,false,(.vars qL24)),(2,false,(.rows 145 qY34))]⟩],[0]⟩
def slisapiPa_ft(fu:Nat):FnT:=⟨112,slisapiPa_fa.i,slisapiPa_fa.os,u4 (slisapiPa fu)⟩
theorem fVZ(fu:Nat):Told Tryz.prog (slisapiPa_ft fu):=tk fu slisapiPa_fa (aaZ (avZ fu) (aaZ (g8Z fu) abZ)) Tryz.func112 (by kernel_rfl) fun t=>by kernel_rfl
def sreapar(fu:Nat)(h:List (Int))(h1:List (UInt8))(h2:Int)(h3:Bool):Option (qT51):=
 (slisapiPa fu h h1 h2 h3).bind fun r=>
 some r
def sreapar_fa:FnA:=⟨.two (.reg [(0,{ids:=[100]})]) (.two (.reg [(2,{ids:=[101],sh:=[0,100]})]) lf),⟨qL24,[(0,false,(.vars (.cons (.pt (.int .u32)) qL6)))]⟩,[⟨(.cons (.slf 2 1) .nil),[(0,false,(.vars (.cons (.pt (.int .u32)) qL6))),(1,false,(.rows 145 qY34))]⟩],[0]⟩
def sreapar_ft(fu:Nat):FnT:=⟨52,sreapar_fa.i,sreapar_fa.os,u4 (sreapar fu)⟩
theorem dNZ(fu:Nat):Told Tryz.prog (sreapar_ft fu):=tk fu sreapar_fa (aaZ (fVZ fu) abZ) Tryz.func52 (by kernel_rfl) fun t=>by kernel_rfl
def sClo7(fu:Nat)(s:List (UInt8)):Option (List (UInt8)):=
 nilQ s.length fun isNil=>
 bif isNil then
  some []
 else
  need ((Nat.ble ((0+s.length)*1) room)&&(Nat.ble (0+s.length) room))<|
  some s
def sClo7_fa:FnA:=⟨.two lf (.two (.two lf (.two lf lf)) (.two (.reg [(0,{ids:=[100]}),(2,{ids:=[101]})]) lf)),⟨qL47,[]⟩,[⟨(.cons (.slf 1 0) .nil),[(0,false,(.rows 5 .byte))]⟩],[15]⟩
def sClo7_ft(fu:Nat):FnT:=⟨65,sClo7_fa.i,sClo7_fa.os,fun t=>sClo7 fu t⟩
theorem gnZ(fu:Nat):Told Tryz.prog (sClo7_ft fu):=tk fu sClo7_fa abZ Tryz.func65 (by kernel_rfl) fun t=>by kernel_rfl
def bGetBlo(fu:Nat)(b:List (UInt8))(at_:Int)(most:Int):Option ((Int×(Int×List (UInt8)))):=
 (bGetUin fu b at_).bind fun r=>
 bif (!(r.2.2==0)) then
  some (0,(r.2.2,[]))
 else
  Option.bind (α:=(Bool)) (
   bif (decide (most<0)) then
    some (decide (most<0))
   else
    some (decide (r.1>(IntKind.wrap .u64 most)))) fun o=>
  bif o then
   some (0,(3,[]))
  else
   bif (decide (r.1>(IntKind.wrap .u64 (IntKind.wrap .i64 (((b.length:Nat):Int)-r.2.1))))) then
    some (0,(11,[]))
   else
    (upto? r.2.1 b.length).bind fun q=>
    (upto? r.1 (List.drop q b).length).bind fun q1=>
    (sClo7 fu (List.take q1 (List.drop q b))).bind fun r1=>
    some ((IntKind.wrap .i64 (r.2.1+(((List.take q1 (List.drop q b)).length:Nat):Int))),(0,r1))
def bGetBlo_fa:FnA:=⟨.two lf (.two (.reg [(2,{})]) (.two lf (.two (.one (.two lf (.two lf (.two (.two lf (.join ⟨[30],⟨(.cons (.p .bool) .nil),[]⟩⟩ false [] lf)) (.two lf (.two lf (.two lf lf))))))) (.two lf (.two (.reg [(1,{ids:=[100],fn:=1})]) lf))))),⟨(.cons (.p (.sl .byte)) (.cons (.p (.int .i64)) qL5)),[]⟩,[⟨(.cons (.slf 1 0) (.cons (.p (.int .i64)) qL5)),[(0,false,(.rows 5 .byte))]⟩],[15,0,0]⟩
def bGetBlo_ft(fu:Nat):FnT:=⟨109,bGetBlo_fa.i,bGetBlo_fa.os,u3 (bGetBlo fu)⟩
theorem dMZ(fu:Nat):Told Tryz.prog (bGetBlo_ft fu):=tk fu bGetBlo_fa (aaZ (bLZ fu) (aaZ (gnZ fu) abZ)) Tryz.func109 (by kernel_rfl) fun t=>by kernel_rfl
def sreablo(fu:Nat)(longest:Int)(h:List (Int))(h1:List (UInt8))(h2:Int)(h3:Bool):Option ((List (Int)×(List (UInt8)×(Int×(Bool×List (UInt8)))))):=
 bif h3 then
  some (h,(h1,(h2,(h3,[]))))
 else
  (bGetBlo fu h1 h2 longest).bind fun r=>
  bif (!(r.2.1==0)) then
   some (h,(h1,(h2,(true,[]))))
  else
   some (h,(h1,(r.1,(h3,r.2.2))))
def sreablo_fa:FnA:=⟨.two lf (.two (.two lf (.two lf lf)) (.two (.reg [(9,{ids:=[100]})]) (.two (.two lf (.two (.two lf lf) lf)) (.two lf lf)))),⟨(.cons (.own 0 0 0 0) qL5),[(0,false,(.vars (.cons (.pt (.int .u32)) qL6)))]⟩,[⟨(.cons (.slf 1 1) .nil),[(0,false,(.vars (.cons (.pt (.int .u32)) qL6))),(1,false,(.rows 5 .byte))]⟩],[15]⟩
def sreablo_ft(fu:Nat):FnT:=⟨50,sreablo_fa.i,sreablo_fa.os,u5 (sreablo fu)⟩
theorem bCZ(fu:Nat):Told Tryz.prog (sreablo_ft fu):=tk fu sreablo_fa (aaZ (dMZ fu) abZ) Tryz.func50 (by kernel_rfl) fun t=>by kernel_rfl
def sreanumo16(fu:Nat)(h:List (Int))(h1:List (UInt8))(h2:Int)(h3:Bool)(h4:List UInt8)(h5:Int):Option ((List (Int)×(List (UInt8)×(Int×(Bool×(List UInt8×Int)))))):=
 (sreanum fu h h1 h2 h3).bind fun r=>
 some (r.2.1,(r.2.2.1,(r.2.2.2.1,(r.2.2.2.2,(h4,r.1)))))
def sreanumo16_fa:FnA:=⟨.two lf (.one (.round (.two lf (.two lf (.two (.one (.two lf (.reg [(2,{sh:=[0]})]))) lf))) (.round (.two lf (.two lf lf)) lf))),⟨qL45,[(0,false,(.vars (.cons (.pt (.int .u32)) qL6))),(1,false,(.vars (.cons (.own 0 2 0 1) .nil))),(2,false,(.vars (.cons (.p .str) qL5)))]⟩,[⟨.nil,[(0,false,(.vars (.cons (.pt (.int .u32)) qL6))),(1,false,(.vars (.cons (.own 0 2 0 1) .nil))),(2,false,(.vars (.cons (.p .str) qL5)))]⟩],[]⟩
def sreanumo16_ft(fu:Nat):FnT:=⟨43,sreanumo16_fa.i,sreanumo16_fa.os,u6 (sreanumo16 fu)⟩
theorem eDZ(fu:Nat):Told Tryz.prog (sreanumo16_ft fu):=tk fu sreanumo16_fa (aaZ (avZ fu) abZ) Tryz.func43 (by kernel_rfl) fun t=>by kernel_rfl
def sreaino11(fu:Nat)(h:List UInt8)(h1:Int)(h2:List (Int))(h3:List (UInt8))(h4:Int)(h5:Bool):Option ((List UInt8×(Int×(List (Int)×qT44)))):=
 (sreablo fu 100 h2 h3 h4 h5).bind fun r=>
 (sreanumo16 fu r.1 r.2.1 r.2.2.1 r.2.2.2.1 r.2.2.2.2 h1).bind fun r1=>
 some (r1.2.2.2.2.1,(r1.2.2.2.2.2,(r1.1,(r1.2.1,(r1.2.2.1,r1.2.2.2.1)))))
def sreaino11_fa:FnA:=⟨.two (.reg [(2,{ids:=[100],sh:=[2]})]) (.reg [(4,{ids:=[101],md:=[1]}),(5,{sh:=[2,101,0],fn:=1})]),⟨qL35,[(0,false,(.vars (.cons (.p .str) qL5))),(1,false,(.vars (.cons (.own 0 2 0 0) .nil))),(2,false,(.vars (.cons (.pt (.int .u32)) qL6)))]⟩,[⟨.nil,[(0,false,(.vars (.cons (.p .str) qL5))),(1,false,(.vars (.cons (.own 0 2 0 0) .nil))),(2,false,(.vars (.cons (.pt (.int .u32)) qL6)))]⟩],[]⟩
def sreaino11_ft(fu:Nat):FnT:=⟨103,sreaino11_fa.i,sreaino11_fa.os,u6 (sreaino11 fu)⟩
theorem fMZ(fu:Nat):Told Tryz.prog (sreaino11_ft fu):=tk fu sreaino11_fa (aaZ (bCZ fu) (aaZ (eDZ fu) abZ)) Tryz.func103 (by kernel_rfl) fun t=>by kernel_rfl
def slisapiEn_l0(fu:Nat)(n:Int)(h4:List (Int))(h5:List (UInt8))(h6:Int)(h7:Bool)(h8:List ((List UInt8×Int))):Option ((Int×qT56)⊕(qT56)):=
 Option.bind (α:=((Bool×qT56))) (
  bif (decide (n>0)) then
   some ((!h7),(h4,(h5,(h6,(h7,h8)))))
  else
   some (false,(h4,(h5,(h6,(h7,h8)))))) fun o1=>
 bif o1.1 then
  (sreaino11 fu [] 0 o1.2.1 o1.2.2.1 o1.2.2.2.1 o1.2.2.2.2.1).bind fun r1=>
  need ((Nat.ble ((o1.2.2.2.2.2.length+1)*24) room)&&(Nat.ble (o1.2.2.2.2.2.length+1) room))<|
  some (.inl ((IntKind.wrap .i64 (n-1)),(r1.2.2.1,(r1.2.2.2.1,(r1.2.2.2.2.1,(r1.2.2.2.2.2,(o1.2.2.2.2.2++[(r1.1,r1.2.1)])))))))
 else
  some (.inr o1.2)
def slisapiEn_l0_it(fu:Nat)(tt:(Int×qT56)):Option (qT56):=
 iter fu (fun tt=>slisapiEn_l0 fu tt.1 tt.2.1 tt.2.2.1 tt.2.2.2.1 tt.2.2.2.2.1 tt.2.2.2.2.2) tt
def slisapiEn(fu:Nat)(h:List (Int))(h1:List (UInt8))(h2:Int)(h3:Bool):Option (qT56):=
 (sreanum fu h h1 h2 h3).bind fun r=>
 Option.bind (α:=((List (Int)×qT44))) (
  bif (decide (r.1>((r.2.2.1.length:Nat):Int))) then
   some (r.2.1,(r.2.2.1,(r.2.2.2.1,true)))
  else
   some r.2) fun o=>
 (slisapiEn_l0_it fu (r.1,(o.1,(o.2.1,(o.2.2.1,(o.2.2.2,[])))))).bind fun o2=>
 some o2
def slisapiEn_fa:FnA:=⟨.two lf (.two (.reg [(1,{sh:=[0]})]) (.two (.two lf (.join ⟨[0,1],⟨(.cons (.own 0 0 0 0) (.cons (.fn 103 .nil (.cons (.own 0 1 0 0) .nil)) .nil)),[(0,false,(.vars (.cons (.pt (.int .u32)) qL6))),(1,false,(.vars qL24))]⟩⟩ false [] lf)) (.two lf (.two (.one (.pre (.ownNil 6 142 100) (.loop ⟨[0,1,5,6],⟨(.cons (.own 0 0 0 0) (.cons (.fn 103 .nil (.cons (.own 0 1 0 0) .nil)) (.cons (.p (.int .i64)) (.cons (.slf 2 100) .nil)))),[(0,false,(.vars (.cons (.pt (.int .u32)) qL6))),(1,false,(.vars qL24)),(100,false,(.rows 142 (.pair .str (.int .i64))))]⟩⟩ false [(0,⟨[0,1,6],⟨(.cons (.own 0 0 0 0) (.cons (.fn 103 .nil (.cons (.own 0 1 0 0) .nil)) (.cons (.slf 2 100) .nil))),[(0,false,(.vars (.cons (.pt (.int .u32)) qL6))),(1,false,(.vars qL24)),(100,false,(.rows 142 (.pair .str (.int .i64))))]⟩⟩)] (.two (.two (.join ⟨[0,1,6,28],⟨(.cons (.own 0 0 0 0) (.cons (.fn 103 .nil (.cons (.own 0 1 0 0) .nil)) (.cons (.slf 2 100) (.cons (.p .bool) .nil)))),[(0,false,(.vars (.cons (.pt (.int .u32)) qL6))),(1,false,(.vars qL24)),(100,false,(.rows 142 (.pair .str (.int .i64))))]⟩⟩ false [] lf) lf) (.two (.one (.two (.reg [(0,{ids:=[101]})]) (.two (.reg [(1,{sh:=[101,1,0],fn:=1})]) (.reg [(2,{ids:=[102]}),(3,{ids:=[103]})])))) lf))))) lf)))),⟨(.cons (.own 0 0 0 0) (.cons (.fn 103 .nil (.cons (.own 0 1 0 0) .nil)) .nil)),[(0,false,(.vars (.cons (.pt (.int .u32)) qL6))),(1,false,(.vars qL24))]⟩,[⟨(.cons (.slf 2 2) .nil),[(0,false,(.vars (.cons (.pt (.int .u32)) qL6))),(1,false,(.vars qL24)),(2,false,(.rows 142 (.pair .str (.int .i64))))]⟩],[0]⟩
def slisapiEn_ft(fu:Nat):FnT:=⟨102,slisapiEn_fa.i,slisapiEn_fa.os,u4 (slisapiEn fu)⟩
theorem f5Z(fu:Nat):Told Tryz.prog (slisapiEn_ft fu):=tk fu slisapiEn_fa (aaZ (avZ fu) (aaZ (fMZ fu) abZ)) Tryz.func102 (by kernel_rfl) fun t=>by kernel_rfl
def sreaino1(fu:Nat)(h:Int)(h1:Int)(h2:Bool)(h3:Bool)(h4:Int)(h5:Int)(h6:Int)(h7:List (Int))(h8:List (UInt8))(h9:Int)(h10:Bool):Option ((Int×(Int×(Bool×(Bool×(Int×(Int×(Int×(List (Int)×(List (UInt8)×(Int×(Bool×(List ((Int×Int))×List ((List UInt8×Int))))))))))))))):=
 (sreanumo14 fu h7 h8 h9 h10 (IntKind.wrap .i64 (h6+1)) h1 h2 h3 h4 h5 0).bind fun r=>
 Option.bind (α:=((Int×(Int×(Bool×(Bool×(Int×(Int×(Int×(List (Int)×qT44)))))))))) (
  bif r.2.2.2.1 then
   some (r.2.2.2.2.1,(r.2.2.2.2.2.1,((decide (r.2.2.2.2.2.2.2.2.2.2>0)),((r.2.2.2.2.2.2.2.2.2.2==2),(r.2.2.2.2.2.2.2.2.1,(r.2.2.2.2.2.2.2.2.2.1,((IntKind.wrap .i64 (h6+1)),(r.1,(r.2.1,(r.2.2.1,true))))))))))
  else
   some (r.2.2.2.2.1,(r.2.2.2.2.2.1,((decide (r.2.2.2.2.2.2.2.2.2.2>0)),((r.2.2.2.2.2.2.2.2.2.2==2),(r.2.2.2.2.2.2.2.2.1,(r.2.2.2.2.2.2.2.2.2.1,((IntKind.wrap .i64 (h6+1)),(r.1,(r.2.1,(r.2.2.1,(decide (r.2.2.2.2.2.2.2.2.2.2>2))))))))))))) fun o=>
 (sreapar fu o.2.2.2.2.2.2.2.1 o.2.2.2.2.2.2.2.2.1 o.2.2.2.2.2.2.2.2.2.1 o.2.2.2.2.2.2.2.2.2.2).bind fun r1=>
 (slisapiEn fu r1.1 r1.2.1 r1.2.2.1 r1.2.2.2.1).bind fun r2=>
 some (o.1,(o.2.1,(o.2.2.1,(o.2.2.2.1,(o.2.2.2.2.1,(o.2.2.2.2.2.1,(o.2.2.2.2.2.2.1,(r2.1,(r2.2.1,(r2.2.2.1,(r2.2.2.2.1,(r1.2.2.2.2,r2.2.2.2.2))))))))))))
def sreaino1_fa:FnA:=⟨.two lf (.two lf (.two (.reg [(0,{ids:=[100]})]) (.two (.reg [(10,{ids:=[101],md:=[1]}),(11,{sh:=[3,101,0,100]})]) (.two lf (.two (.join ⟨[0,1,2],⟨(.cons (.own 0 0 0 0) qL23),[(0,false,qB38),(1,false,(.vars qL5)),(2,false,(.vars (.cons (.own 0 3 0 0) .nil))),(3,false,(.vars (.cons (.pt (.int .u32)) qL6)))]⟩⟩ false [] lf) (.two (.reg [(2,{ids:=[102],sh:=[3],fn:=1})]) (.reg [(3,{ids:=[103],sh:=[3,2],fn:=2})]))))))),⟨(.cons (.own 0 0 0 0) qL23),[(0,false,qB38),(1,false,(.vars qL5)),(2,false,(.vars (.cons (.own 0 3 0 0) .nil))),(3,false,(.vars (.cons (.pt (.int .u32)) qL6)))]⟩,[⟨.nil,[(0,false,(.vars (.cons (.p (.int .i64)) (.cons (.p (.int .i64)) (.cons (.p .bool) (.cons (.p .bool) (.cons (.p (.int .i64)) (.cons (.slf 2 4) (.cons (.p (.int .i64)) (.cons (.slf 2 5) .nil)))))))))),(1,false,(.vars qL5)),(2,false,(.vars (.cons (.own 0 3 0 0) .nil))),(3,false,(.vars (.cons (.pt (.int .u32)) qL6))),(4,false,(.rows 145 qY34)),(5,false,(.rows 142 (.pair .str (.int .i64))))]⟩],[]⟩
def sreaino1_ft(fu:Nat):FnT:=⟨101,sreaino1_fa.i,sreaino1_fa.os,u11 (sreaino1 fu)⟩
theorem h1Z(fu:Nat):Told Tryz.prog (sreaino1_ft fu):=tk fu sreaino1_fa (aaZ (fdZ fu) (aaZ (dNZ fu) (aaZ (f5Z fu) abZ))) Tryz.func101 (by kernel_rfl) fun t=>by kernel_rfl
def slisapiIn_l0(fu:Nat)(n:Int)(h5:List (Int))(h6:List (UInt8))(h7:Int)(h8:Bool)(h9:Int)(h10:List (qT0)):Option ((Int×(List (Int)×(List (UInt8)×(Int×(Bool×(Int×List (qT0)))))))⊕((List (Int)×(List (UInt8)×(Int×(Bool×(Int×List (qT0)))))))):=
 Option.bind (α:=((Bool×(List (Int)×(List (UInt8)×(Int×(Bool×(Int×List (qT0))))))))) (
  bif (decide (n>0)) then
   some ((!h8),(h5,(h6,(h7,(h8,(h9,h10))))))
  else
   some (false,(h5,(h6,(h7,(h8,(h9,h10))))))) fun o1=>
 bif o1.1 then
  (sreaino1 fu 0 0 false false 0 0 o1.2.2.2.2.2.1 o1.2.1 o1.2.2.1 o1.2.2.2.1 o1.2.2.2.2.1).bind fun r1=>
  need ((Nat.ble ((o1.2.2.2.2.2.2.length+1)*88) room)&&(Nat.ble (o1.2.2.2.2.2.2.length+1) room))<|
  some (.inl ((IntKind.wrap .i64 (n-1)),(r1.2.2.2.2.2.2.2.1,(r1.2.2.2.2.2.2.2.2.1,(r1.2.2.2.2.2.2.2.2.2.1,(r1.2.2.2.2.2.2.2.2.2.2.1,(r1.2.2.2.2.2.2.1,(o1.2.2.2.2.2.2++[(r1.1,(r1.2.1,(r1.2.2.1,(r1.2.2.2.1,(r1.2.2.2.2.1,(r1.2.2.2.2.2.2.2.2.2.2.2.1,(r1.2.2.2.2.2.1,r1.2.2.2.2.2.2.2.2.2.2.2.2)))))))]))))))))
 else
  some (.inr o1.2)
def slisapiIn_l0_it(fu:Nat)(tt:(Int×(List (Int)×(List (UInt8)×(Int×(Bool×(Int×List (qT0)))))))):Option ((List (Int)×(List (UInt8)×(Int×(Bool×(Int×List (qT0))))))):=
 iter fu (fun tt=>slisapiIn_l0 fu tt.1 tt.2.1 tt.2.2.1 tt.2.2.2.1 tt.2.2.2.2.1 tt.2.2.2.2.2.1 tt.2.2.2.2.2.2) tt
def slisapiIn(fu:Nat)(h:List (Int))(h1:List (UInt8))(h2:Int)(h3:Bool)(h4:Int):Option ((List (Int)×(List (UInt8)×(Int×(Bool×(Int×List (qT0))))))):=
 (sreanum fu h h1 h2 h3).bind fun r=>
 Option.bind (α:=((List (Int)×(List (UInt8)×(Int×(Bool×Int)))))) (
  bif (decide (r.1>((r.2.2.1.length:Nat):Int))) then
   some (r.2.1,(r.2.2.1,(r.2.2.2.1,(true,h4))))
  else
   some (r.2.1,(r.2.2.1,(r.2.2.2.1,(r.2.2.2.2,h4))))) fun o=>
 (slisapiIn_l0_it fu (r.1,(o.1,(o.2.1,(o.2.2.1,(o.2.2.2.1,(o.2.2.2.2,[]))))))).bind fun o2=>
 some o2
def slisapiIn_fa:FnA:=⟨.two lf (.two (.reg [(1,{sh:=[0]})]) (.two (.two lf (.join ⟨[0,1],⟨(.cons (.own 0 0 0 0) (.cons (.fn 101 .nil qL23) .nil)),[(0,false,(.vars (.cons (.pt (.int .u32)) qL6))),(1,false,(.vars qL5)),(2,false,(.vars qL24))]⟩⟩ false [] lf)) (.two lf (.two (.one (.pre (.ownNil 6 93 100) (.loop ⟨[0,1,5,6],⟨(.cons (.own 0 0 0 0) (.cons (.fn 101 .nil qL23) (.cons (.p (.int .i64)) (.cons (.slf 8 100) .nil)))),[(0,false,(.vars (.cons (.pt (.int .u32)) qL6))),(1,false,(.vars qL5)),(2,false,(.vars qL24)),(100,false,(.rows 93 qY3))]⟩⟩ false [(0,⟨[0,1,6],⟨(.cons (.own 0 0 0 0) (.cons (.fn 101 .nil qL23) (.cons (.slf 8 100) .nil))),[(0,false,(.vars (.cons (.pt (.int .u32)) qL6))),(1,false,(.vars qL5)),(2,false,(.vars qL24)),(100,false,(.rows 93 qY3))]⟩⟩)] (.two (.two (.join ⟨[0,1,6,28],⟨(.cons (.own 0 0 0 0) (.cons (.fn 101 .nil qL23) (.cons (.slf 8 100) (.cons (.p .bool) .nil)))),[(0,false,(.vars (.cons (.pt (.int .u32)) qL6))),(1,false,(.vars qL5)),(2,false,(.vars qL24)),(100,false,(.rows 93 qY3))]⟩⟩ false [] lf) lf) (.two (.one (.two (.reg [(0,{ids:=[101]})]) (.two (.reg [(1,{ids:=[102,103],sh:=[101,1,2,0],fn:=1})]) (.reg [(2,{ids:=[104]}),(3,{ids:=[105]})])))) lf))))) lf)))),⟨(.cons (.own 0 0 0 0) (.cons (.fn 101 .nil qL23) .nil)),[(0,false,(.vars (.cons (.pt (.int .u32)) qL6))),(1,false,(.vars qL5)),(2,false,(.vars qL24))]⟩,[⟨(.cons (.slf 8 3) .nil),[(0,false,(.vars (.cons (.pt (.int .u32)) qL6))),(1,false,(.vars qL5)),(2,false,(.vars qL24)),(3,false,(.rows 93 qY3))]⟩],[0]⟩
def slisapiIn_ft(fu:Nat):FnT:=⟨100,slisapiIn_fa.i,slisapiIn_fa.os,u5 (slisapiIn fu)⟩
theorem fDZ(fu:Nat):Told Tryz.prog (slisapiIn_ft fu):=tk fu slisapiIn_fa (aaZ (avZ fu) (aaZ (h1Z fu) abZ)) Tryz.func100 (by kernel_rfl) fun t=>by kernel_rfl
def sreaino(fu:Nat)(h:List (Int))(h1:List (UInt8))(h2:Int)(h3:Bool):Option ((List (Int)×(List (UInt8)×(Int×(Bool×List (qT0)))))):=
 (slisapiIn fu h h1 h2 h3 0).bind fun r=>
 some (r.1,(r.2.1,(r.2.2.1,(r.2.2.2.1,r.2.2.2.2.2))))
def sreaino_fa:FnA:=⟨.two (.reg [(0,{ids:=[100]})]) (.two (.reg [(0,{ids:=[101]})]) (.two (.reg [(2,{ids:=[102],sh:=[0,101,100]})]) lf)),⟨qL24,[(0,false,(.vars (.cons (.pt (.int .u32)) qL6)))]⟩,[⟨(.cons (.slf 8 1) .nil),[(0,false,(.vars (.cons (.pt (.int .u32)) qL6))),(1,false,(.rows 93 qY3))]⟩],[0]⟩
def sreaino_ft(fu:Nat):FnT:=⟨44,sreaino_fa.i,sreaino_fa.os,u4 (sreaino fu)⟩
theorem i7Z(fu:Nat):Told Tryz.prog (sreaino_ft fu):=tk fu sreaino_fa (aaZ (fDZ fu) abZ) Tryz.func44 (by kernel_rfl) fun t=>by kernel_rfl
def sreanumo13(fu:Nat)(h:List (Int))(h1:List (UInt8))(h2:Int)(h3:Bool)(h4:Int)(h5:Int)(h6:Int)(h7:List (qT0)):Option ((List (Int)×(List (UInt8)×(Int×(Bool×(Int×(Int×(Int×List (qT0))))))))):=
 (sreanum fu h h1 h2 h3).bind fun r=>
 some (r.2.1,(r.2.2.1,(r.2.2.2.1,(r.2.2.2.2,(h4,(h5,(r.1,h7)))))))
def sreanumo13_fa:FnA:=⟨.two lf (.one (.round (.two lf (.two lf (.two (.one (.two lf (.reg [(2,{sh:=[0]})]))) lf))) (.round (.two lf (.two lf lf)) lf))),⟨qL45,[(0,false,(.vars (.cons (.pt (.int .u32)) qL6))),(1,false,(.vars (.cons (.own 0 2 0 3) .nil))),(2,false,(.vars (.cons (.p (.int .i64)) (.cons (.slf 8 3) (.cons (.p (.int .i64)) (.cons (.p (.int .i64)) (.cons (.nilp (.slice none 0 0)) (.cons (.nilp (.slice none 0 0)) (.cons (.nilp (.slice none 0 0)) .nil))))))))),(3,false,(.rows 93 qY3))]⟩,[⟨.nil,[(0,false,(.vars (.cons (.pt (.int .u32)) qL6))),(1,false,(.vars (.cons (.own 0 2 0 3) .nil))),(2,false,(.vars (.cons (.p (.int .i64)) (.cons (.slf 8 3) (.cons (.p (.int .i64)) (.cons (.p (.int .i64)) (.cons (.nilp (.slice none 0 0)) (.cons (.nilp (.slice none 0 0)) (.cons (.nilp (.slice none 0 0)) .nil))))))))),(3,false,(.rows 93 qY3))]⟩],[]⟩
def sreanumo13_ft(fu:Nat):FnT:=⟨43,sreanumo13_fa.i,sreanumo13_fa.os,u8 (sreanumo13 fu)⟩
theorem e4Z(fu:Nat):Told Tryz.prog (sreanumo13_ft fu):=tk fu sreanumo13_fa (aaZ (avZ fu) abZ) Tryz.func43 (by kernel_rfl) fun t=>by kernel_rfl
def sreanumo15(fu:Nat)(h:List (Int))(h1:List (UInt8))(h2:Int)(h3:Bool)(h4:Int)(h5:Int):Option ((List (Int)×(List (UInt8)×(Int×(Bool×(Int×Int)))))):=
 (sreanum fu h h1 h2 h3).bind fun r=>
 (sreanum fu r.2.1 r.2.2.1 r.2.2.2.1 r.2.2.2.2).bind fun r1=>
 some (r1.2.1,(r1.2.2.1,(r1.2.2.2.1,(r1.2.2.2.2,(r.1,r1.1)))))
def sreanumo15_fa:FnA:=⟨.two lf (.one (.round (.two lf (.two lf (.two (.one (.two lf (.reg [(2,{sh:=[0]})]))) lf))) (.round (.two lf (.two lf (.two (.one (.two lf (.reg [(2,{sh:=[0]})]))) lf))) (.round (.two lf (.two lf lf)) lf)))),⟨qL45,[(0,false,(.vars (.cons (.pt (.int .u32)) qL6))),(1,false,(.vars (.cons (.own 0 2 0 0) (.cons (.own 0 2 0 1) .nil)))),(2,false,(.vars (.cons (.p (.int .i64)) (.cons (.p (.int .i64)) (.cons (.nilp (.slice none 0 0)) .nil)))))]⟩,[⟨.nil,[(0,false,(.vars (.cons (.pt (.int .u32)) qL6))),(1,false,(.vars (.cons (.own 0 2 0 0) (.cons (.own 0 2 0 1) .nil)))),(2,false,(.vars (.cons (.p (.int .i64)) (.cons (.p (.int .i64)) (.cons (.nilp (.slice none 0 0)) .nil)))))]⟩],[]⟩
def sreanumo15_ft(fu:Nat):FnT:=⟨43,sreanumo15_fa.i,sreanumo15_fa.os,u6 (sreanumo15 fu)⟩
theorem fbZ(fu:Nat):Told Tryz.prog (sreanumo15_ft fu):=tk fu sreanumo15_fa (aaZ (avZ fu) abZ) Tryz.func43 (by kernel_rfl) fun t=>by kernel_rfl
def bUns(fu:Nat)(t:List (Int))(b:List (UInt8)):Option ((List (UInt8)×Int)):=
 bif (decide (((b.length:Nat):Int)<4)) then
  some ([],11)
 else
  (upto? (IntKind.wrap .i64 (((b.length:Nat):Int)-4)) b.length).bind fun q=>
  (sClo7 fu (List.take q b)).bind fun r=>
  (bSea fu t r).bind fun r1=>
  bif (!(r1==b)) then
   some ([],12)
  else
   some (r,0)
def bUns_fa:FnA:=⟨.two lf (.two (.two lf (.two lf lf)) (.two (.reg [(5,{ids:=[100]})]) (.two (.two (.reg [(2,{ids:=[101],md:=[0,1],fn:=1})]) (.two lf lf)) lf))),⟨(.cons (.pt (.int .u32)) qL47),[]⟩,[⟨(.cons (.p (.sl .byte)) qL5),[]⟩],[1,0]⟩
def bUns_ft(fu:Nat):FnT:=⟨169,bUns_fa.i,bUns_fa.os,fun t=>bUns fu t.1 t.2⟩
theorem nfZ(fu:Nat):Told Tryz.prog (bUns_ft fu):=tk fu bUns_fa (aaZ (gnZ fu) (aaZ (eTZ fu) abZ)) Tryz.func169 (by kernel_rfl) fun t=>by kernel_rfl
def cbeg(fu:Nat)(t:List (Int))(b:List (UInt8))(kind:Int):Option (Int⊕(Int×qT44)):=
 (bUns fu t b).bind fun r=>
 bif (!(r.2==0)) then
  some (.inl r.2)
 else
  Option.bind (α:=(Bool)) (
   bif (((r.1.length:Nat):Int)==0) then
    some true
   else
    (idx? 0 r.1.length).bind fun q=>
    (r.1)[q]?.bind fun r1=>
    some (!(((r1.toNat:Nat):Int)==kind))) fun o=>
  bif o then
   some (.inl 179)
  else
   some (.inr (0,(r.1,(1,false))))
def cbeg_fa:FnA:=⟨.two lf (.two (.reg [(2,{})]) (.two (.two lf (.two lf lf)) (.two (.two (.join ⟨[28],⟨(.cons (.p .bool) .nil),[]⟩⟩ false [] lf) (.two lf lf)) (.two (.reg [(2,{ids:=[100]})]) lf)))),⟨(.cons (.pt (.int .u32)) (.cons (.p (.sl .byte)) (.cons (.p (.int .u8)) .nil))),[]⟩,[⟨(.cons (.nilp (.pointer none)) qL5),[]⟩,⟨(.cons (.own 0 0 0 0) qL5),[(0,false,(.vars qL6))]⟩],[0,0]⟩
def cbeg_ft(fu:Nat):FnT:=⟨104,cbeg_fa.i,cbeg_fa.os,u3 (cbeg fu)⟩
theorem igZ(fu:Nat):Told Tryz.prog (cbeg_ft fu):=tk fu cbeg_fa (aaZ (nfZ fu) abZ) Tryz.func104 (by kernel_rfl) fun t=>by kernel_rfl
def creanumn03(fu:Nat):Option (Empty):=
 none
def creanumn03_fa:FnA:=⟨.two lf (.two lf lf),⟨(.cons (.nilp (.pointer none)) .nil),[]⟩,[],[0]⟩
def creanumn03_ft(fu:Nat):FnT:=⟨108,creanumn03_fa.i,creanumn03_fa.os,fun t=>creanumn03 fu⟩
theorem cvZ(fu:Nat):Told Tryz.prog (creanumn03_ft fu):=tk fu creanumn03_fa abZ Tryz.func108 (by kernel_rfl) fun t=>by kernel_rfl
def creanumn0(fu:Nat)(h:Int)(h1:Int)(h2:Int)(h3:Int)(h4:Int)(h5:Bool)(h6:Int)(h7:Bool)(h8:Int)(h9:Int):Option (Empty):=
 (creanumn03 fu).bind fun r=>
 Empty.elim r
def creanumn0_fa:FnA:=⟨.two lf (.one (.round (.two lf (.two lf (.two (.one (.two lf (.reg [(2,{})]))) lf))) lf)),⟨(.cons (.nilp (.pointer none)) (.cons (.slf 1 0) .nil)),[(0,false,(.vars (.cons (.own 0 1 0 0) (.cons (.own 0 1 0 1) (.cons (.own 0 2 0 0) (.cons (.own 0 1 0 3) (.cons (.own 0 1 0 4) .nil))))))),(1,false,(.vars qL8)),(2,false,(.vars qL5))]⟩,[],[]⟩
def creanumn0_ft(fu:Nat):FnT:=⟨105,creanumn0_fa.i,creanumn0_fa.os,u10 (creanumn0 fu)⟩
theorem fUZ(fu:Nat):Told Tryz.prog (creanumn0_ft fu):=tk fu creanumn0_fa (aaZ (cvZ fu) abZ) Tryz.func105 (by kernel_rfl) fun t=>by kernel_rfl
def creanum(fu:Nat)(h:List (UInt8))(h1:Int)(h2:Bool):Option ((Int×qT44)):=
 bif h2 then
  some (0,(h,(h1,h2)))
 else
  (bGetUin fu h h1).bind fun r=>
  Option.bind (α:=((Bool×qT44))) (
   bif (!(r.2.2==0)) then
    some (true,(h,(h1,h2)))
   else
    some ((decide (r.1>4611686018427387904)),(h,(h1,h2)))) fun o=>
  bif o.1 then
   some (0,(o.2.1,(o.2.2.1,true)))
  else
   some ((IntKind.wrap .i64 r.1),(o.2.1,(r.2.1,o.2.2.2)))
def creanum_fa:FnA:=⟨.two lf (.two (.two lf (.two lf lf)) (.two (.reg [(8,{})]) (.two (.two (.join ⟨[0,28],⟨(.cons (.own 0 0 0 0) (.cons (.p .bool) .nil)),[(0,false,(.vars qL6))]⟩⟩ false [] lf) (.two (.two lf lf) lf)) (.two lf lf)))),⟨qL24,[(0,false,(.vars qL6))]⟩,[⟨qL5,[(0,false,(.vars qL6))]⟩],[0]⟩
def creanum_ft(fu:Nat):FnT:=⟨108,creanum_fa.i,creanum_fa.os,u3 (creanum fu)⟩
theorem baZ(fu:Nat):Told Tryz.prog (creanum_ft fu):=tk fu creanum_fa (aaZ (bLZ fu) abZ) Tryz.func108 (by kernel_rfl) fun t=>by kernel_rfl
end
end Go.Ab.D
