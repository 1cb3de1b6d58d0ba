/- Functions of the program as plain Lean functions: each equation is checked by the kernel; what is told of a function follows from it. -/
import Derived.Test.YtcfchfhdaggmpaaGreatDoorStateHolesD3
set_option linter.all false
set_option maxRecDepth 100000
set_option maxHeartbeats 4000000
namespace Go.Ab.D
open Go.Proofs
open Go Go.Ab
noncomputable section
def sPla(fu:Nat)(s:qT11)(size:Int)(c:qT13):Option ((qT47×Int)):=
 (sRig fu s size).bind fun r=>
 bif (!r) then
  some ((0,((0,(0,(0,((0,0),(false,(0,([],([],(false,0))))))))),([],[]))),180)
 else
  (cRigCal fu c).bind fun r1=>
  bif (!r1) then
   some ((0,((0,(0,(0,((0,0),(false,(0,([],([],(false,0))))))))),([],[]))),179)
  else
   (sbar fu s.2.1).bind fun r2=>
   (model_Do fu ((r2.2.1,r2.1),r2.2.2) c).bind fun r3=>
   (sask fu ((c.2.2.1.toNat:Nat):Int)).bind fun r4=>
   bif r4 then
    Option.bind (α:=((Bool×(List (qT11)×(List (qT13)×(List (qT47)×List (qT47))))))) (
     bif (((c.2.2.1.toNat:Nat):Int)==4) then
      some ((r3.2.2.2.1==0),([s],([c],([(0,((0,(0,(0,((0,0),(false,(0,([],([],(false,0))))))))),([],[])))],[(1,((r3.2.1,(r3.2.2.1,(r3.2.2.2.1,((r3.2.2.2.2.1,r3.2.2.2.2.2.1),(r3.2.2.2.2.2.2.1,(r3.2.2.2.2.2.2.2.1,(r3.2.2.2.2.2.2.2.2.1,(r3.2.2.2.2.2.2.2.2.2.1,(r3.2.2.2.2.2.2.2.2.2.2.1,r3.2.2.2.2.2.2.2.2.2.2.2.1))))))))),([],[])))]))))
     else
      some (false,([s],([c],([(0,((0,(0,(0,((0,0),(false,(0,([],([],(false,0))))))))),([],[])))],[(1,((r3.2.1,(r3.2.2.1,(r3.2.2.2.1,((r3.2.2.2.2.1,r3.2.2.2.2.2.1),(r3.2.2.2.2.2.2.1,(r3.2.2.2.2.2.2.2.1,(r3.2.2.2.2.2.2.2.2.1,(r3.2.2.2.2.2.2.2.2.2.1,(r3.2.2.2.2.2.2.2.2.2.2.1,r3.2.2.2.2.2.2.2.2.2.2.2.1))))))))),([],[])))]))))) fun o=>
    Option.bind (α:=((List (qT47)×List (qT47)))) (
     bif o.1 then
      (o.2.2.2.2)[0]?.bind fun r5=>
      (o.2.1)[0]?.bind fun r6=>
      (o.2.2.1)[0]?.bind fun r7=>
      (idx? (IntKind.wrap .i64 (r7.2.2.2.1.1-1)) r6.2.1.1.length).bind fun q=>
      (r6.2.1.1)[q]?.bind fun r8=>
      (o.2.2.1)[0]?.bind fun r9=>
      (srea fu r8 size r9).bind fun r10=>
      ((List.set o.2.2.2.2 0 (r5.1,((r5.2.1.1,(r5.2.1.2.1,(r5.2.1.2.2.1,(r5.2.1.2.2.2.1,(r5.2.1.2.2.2.2.1,(r5.2.1.2.2.2.2.2.1,([],r5.2.1.2.2.2.2.2.2.2))))))),r5.2.2))))[0]?.bind fun r11=>
      some (o.2.2.2.1,(List.set (List.set o.2.2.2.2 0 (r5.1,((r5.2.1.1,(r5.2.1.2.1,(r5.2.1.2.2.1,(r5.2.1.2.2.2.1,(r5.2.1.2.2.2.2.1,(r5.2.1.2.2.2.2.2.1,([],r5.2.1.2.2.2.2.2.2.2))))))),r5.2.2))) 0 (r11.1,(r11.2.1,(r10,r11.2.2.2)))))
     else
      some o.2.2.2) fun o1=>
    (o1.2)[0]?.bind fun r12=>
    (o1.1)[0]?.bind fun r13=>
    ((List.set o1.1 0 r12))[0]?.bind fun r36=>
    some (r36,0)
   else
    (rLoo fu s.2.2.1 c.1 c.2.1).bind fun r14=>
    bif (r14.2.2.2.2.2.2.2.2.2.2.2==1) then
     some ((3,((r14.1,(r14.2.1,(r14.2.2.1,((r14.2.2.2.1,r14.2.2.2.2.1),(r14.2.2.2.2.2.1,(r14.2.2.2.2.2.2.1,(r14.2.2.2.2.2.2.2.1,(r14.2.2.2.2.2.2.2.2.1,(r14.2.2.2.2.2.2.2.2.2.1,r14.2.2.2.2.2.2.2.2.2.2.1))))))))),([],[]))),0)
    else
     bif (r14.2.2.2.2.2.2.2.2.2.2.2==2) then
      some ((4,((0,(0,(0,((0,0),(false,(0,([],([],(false,0))))))))),([],[]))),0)
     else
      Option.bind (α:=((Bool×(List (qT11)×(List (qT13)×(List (qT47)×List (qT47))))))) (
       bif (r3.2.2.2.1==0) then
        bif (((c.2.2.1.toNat:Nat):Int)==5) then
         some (true,([s],([c],([(0,((0,(0,(0,((0,0),(false,(0,([],([],(false,0))))))))),([],[])))],[(2,((0,(0,(0,((0,0),(false,(0,([],([],(false,0))))))))),([],[])))]))))
        else
         some ((((c.2.2.1.toNat:Nat):Int)==6),([s],([c],([(0,((0,(0,(0,((0,0),(false,(0,([],([],(false,0))))))))),([],[])))],[(2,((0,(0,(0,((0,0),(false,(0,([],([],(false,0))))))))),([],[])))]))))
       else
        some (false,([s],([c],([(0,((0,(0,(0,((0,0),(false,(0,([],([],(false,0))))))))),([],[])))],[(2,((0,(0,(0,((0,0),(false,(0,([],([],(false,0))))))))),([],[])))]))))) fun o2=>
      bif o2.1 then
       (o2.2.1)[0]?.bind fun r15=>
       (o2.2.2.1)[0]?.bind fun r16=>
       (idx? (IntKind.wrap .i64 (r16.2.2.2.1.1-1)) r15.2.1.1.length).bind fun q1=>
       (r15.2.1.1)[q1]?.bind fun r17=>
       (o2.2.1)[0]?.bind fun r18=>
       (o2.2.2.1)[0]?.bind fun r19=>
       (swri fu r17 r18.2.1.2 size r19).bind fun r20=>
       (o2.2.2.2.2)[0]?.bind fun r21=>
       ((List.set o2.2.2.2.2 0 (r21.1,(r21.2.1,(r21.2.2.1,r20.1)))))[0]?.bind fun r22=>
       ((List.set (List.set o2.2.2.2.2 0 (r21.1,(r21.2.1,(r21.2.2.1,r20.1)))) 0 (r22.1,(r22.2.1,(r20.2,r22.2.2.2)))))[0]?.bind fun r23=>
       (o2.2.2.2.1)[0]?.bind fun r24=>
       ((List.set o2.2.2.2.1 0 r23))[0]?.bind fun r37=>
       some (r37,0)
      else
       (o2.2.2.2.2)[0]?.bind fun r25=>
       (o2.2.2.2.1)[0]?.bind fun r26=>
       ((List.set o2.2.2.2.1 0 r25))[0]?.bind fun r38=>
       some (r38,0)
def sPla_fa:FnA:=⟨.two (.reg [(0,{ids:=[100],md:=[1]}),(1,{ids:=[101],md:=[1]}),(2,{ids:=[102],md:=[1]})]) (.two (.one (.two (.reg [(2,{})]) (.two lf (.two (.reg [(1,{fn:=1})]) (.two lf lf))))) (.two (.reg [(2,{ids:=[103,104],fn:=2}),(4,{ids:=[105,106],md:=[1,0],fn:=3}),(8,{ids:=[107]}),(9,{ids:=[108],md:=[1]})]) (.two (.two (.reg [(2,{fn:=4})]) (.two (.two (.reg [(2,{ids:=[109],md:=[1]})]) (.two (.two (.join ⟨[3,5,6,10,45],⟨(.cons (.own 7 100 0 0) (.cons (.own 12 101 0 0) (.cons (.own 14 102 0 0) (.cons (.own 14 109 0 0) (.cons (.p .bool) .nil))))),[(100,false,(.rows 33 qY10)),(101,false,(.rows 48 qY14)),(102,false,qB46),(109,false,qB46)]⟩⟩ false [] lf) (.join ⟨[6,10],⟨(.cons (.own 14 102 0 0) (.cons (.own 14 109 0 0) .nil)),[(102,false,qB46),(109,false,qB46)]⟩⟩ false [] (.two (.two lf (.reg [(11,{ids:=[110],fn:=5})])) lf))) lf)) lf)) (.two (.reg [(6,{fn:=6}),(10,{ids:=[111],md:=[1]})]) (.two (.two lf (.one (.two lf (.two lf (.two lf (.two lf lf)))))) (.two (.reg [(1,{ids:=[112],md:=[1]})]) (.two (.two (.join ⟨[3,5,6,13,93],⟨(.cons (.own 7 100 0 0) (.cons (.own 12 101 0 0) (.cons (.own 14 102 0 0) (.cons (.own 14 112 0 0) (.cons (.p .bool) .nil))))),[(100,false,(.rows 33 qY10)),(101,false,(.rows 48 qY14)),(102,false,qB46),(112,false,qB46)]⟩⟩ false [] lf) (.two (.reg [(14,{ids:=[113,114],fn:=7})]) lf)) lf))))))),⟨(.cons (.p qY10) (.cons (.p (.int .i64)) (.cons (.p qY14) .nil))),[]⟩,[⟨(.cons (.p (.pair (.int .i64) (.pair qY1 (.pair (.sl qY16) (.sl qY16))))) qL6),[]⟩],[0,0]⟩
def sPla_ft(fu:Nat):FnT:=⟨8,sPla_fa.i,sPla_fa.os,u3 (sPla fu)⟩
theorem fjZ(fu:Nat):Told Tryz.prog (sPla_ft fu):=tk fu sPla_fa (aaZ (nBZ fu) (aaZ (epZ fu) (aaZ (iJZ fu) (aaZ (dJZ fu) (aaZ (m6Z fu) (aaZ (m9Z fu) (aaZ (iYZ fu) (aaZ (nEZ fu) abZ)))))))) Tryz.func8 (by kernel_rfl) fun t=>by kernel_rfl
def sfit1(fu:Nat)(n:(Int×((Int×Int)×Int)))(v:Int):Option (Bool):=
 bif (decide (v>n.2.1.2)) then
  bif (decide (v>=1)) then
   some (decide (v<=1099511627776))
  else
   some false
 else
  some false
def sfit1_fa:FnA:=⟨.two (.reg [(0,{ids:=[100]})]) lf,⟨(.cons (.p qY16) qL6),[]⟩,[⟨(.cons (.p .bool) .nil),[]⟩],[0]⟩
def sfit1_ft(fu:Nat):FnT:=⟨42,sfit1_fa.i,sfit1_fa.os,fun t=>sfit1 fu t.1 t.2⟩
theorem lfZ(fu:Nat):Told Tryz.prog (sfit1_ft fu):=tk fu sfit1_fa abZ Tryz.func42 (by kernel_rfl) fun t=>by kernel_rfl
def sEquFun_l0(fu:Nat)(s1:List qT19)(s2:List (Int))(x:Int):Option (Int⊕(Unit⊕Bool)):=
 bif (decide (x<((s1.length:Nat):Int))) then
  (idx? x s1.length).bind fun q=>
  (s1)[q]?.bind fun r=>
  (idx? x s2.length).bind fun q1=>
  (s2)[q1]?.bind fun r1=>
  (sfit1 fu (r.1,((r.2.1.1,r.2.1.2),r.2.2)) r1).bind fun r2=>
  bif (!r2) then
   some (.inr (.inr false))
  else
   some (.inl (IntKind.wrap .i64 (x+1)))
 else
  some (.inr (.inl ()))
def sEquFun_l0_it(fu:Nat)(s1:List qT19)(s2:List (Int))(tt:Int):Option (Unit⊕Bool):=
 iter fu (fun tt=>sEquFun_l0 fu s1 s2 tt) tt
def sEquFun(fu:Nat)(s1:List qT19)(s2:List (Int)):Option (Bool):=
 bif (!(((s1.length:Nat):Int)==((s2.length:Nat):Int))) then
  some false
 else
  (sEquFun_l0_it fu s1 s2 0).bind fun o=>
  match o with
  |.inl s=>
   some true
  |.inr o1=>
   some o1
def sEquFun_fa:FnA:=⟨.two lf (.two (.two lf (.two lf lf)) (.two (.two lf (.one (.loop ⟨[17],⟨qL6,[]⟩⟩ true [(0,⟨[],⟨.nil,[]⟩⟩)] (.two lf (.two lf (.two (.one (.two (.reg [(3,{ids:=[100]})]) (.two lf (.two (.reg [(3,{})]) (.two lf lf))))) lf)))))) lf)),⟨(.cons (.p (.sl qY16)) (.cons (.p (.sl (.int .i64))) (.cons (.fn 42 .nil .nil) .nil))),[]⟩,[⟨(.cons (.p .bool) .nil),[]⟩],[0]⟩
def sEquFun_ft(fu:Nat):FnT:=⟨41,sEquFun_fa.i,sEquFun_fa.os,fun t=>sEquFun fu t.1 t.2⟩
theorem hTZ(fu:Nat):Told Tryz.prog (sEquFun_ft fu):=tk fu sEquFun_fa (aaZ (lfZ fu) abZ) Tryz.func41 (by kernel_rfl) fun t=>by kernel_rfl
def sfit(fu:Nat)(p:qT47)(versions:List (Int))(e:Int):Option (Bool):=
 Option.bind (α:=((Bool×(Int×(Int×(Int×(Int×(Int×(Int×(Bool×(Int×(List (UInt8)×(List ((List UInt8×Int))×(Bool×(Int×(List qT19×List qT19)))))))))))))))) (
  bif (!(p.1==2)) then
   some (true,(p.1,(p.2.1.1,(p.2.1.2.1,(p.2.1.2.2.1,(p.2.1.2.2.2.1.1,(p.2.1.2.2.2.1.2,(p.2.1.2.2.2.2.1,(p.2.1.2.2.2.2.2.1,(p.2.1.2.2.2.2.2.2.1,(p.2.1.2.2.2.2.2.2.2.1,(p.2.1.2.2.2.2.2.2.2.2.1,(p.2.1.2.2.2.2.2.2.2.2.2,p.2.2)))))))))))))
  else
   bif (decide (e<0)) then
    some (true,(p.1,(p.2.1.1,(p.2.1.2.1,(p.2.1.2.2.1,(p.2.1.2.2.2.1.1,(p.2.1.2.2.2.1.2,(p.2.1.2.2.2.2.1,(p.2.1.2.2.2.2.2.1,(p.2.1.2.2.2.2.2.2.1,(p.2.1.2.2.2.2.2.2.2.1,(p.2.1.2.2.2.2.2.2.2.2.1,(p.2.1.2.2.2.2.2.2.2.2.2,p.2.2)))))))))))))
   else
    bif (decide (e>1000)) then
     some (true,(p.1,(p.2.1.1,(p.2.1.2.1,(p.2.1.2.2.1,(p.2.1.2.2.2.1.1,(p.2.1.2.2.2.1.2,(p.2.1.2.2.2.2.1,(p.2.1.2.2.2.2.2.1,(p.2.1.2.2.2.2.2.2.1,(p.2.1.2.2.2.2.2.2.2.1,(p.2.1.2.2.2.2.2.2.2.2.1,(p.2.1.2.2.2.2.2.2.2.2.2,p.2.2)))))))))))))
    else
     bif (!(e==0)) then
      some ((decide (((versions.length:Nat):Int)>0)),(p.1,(p.2.1.1,(p.2.1.2.1,(p.2.1.2.2.1,(p.2.1.2.2.2.1.1,(p.2.1.2.2.2.1.2,(p.2.1.2.2.2.2.1,(p.2.1.2.2.2.2.2.1,(p.2.1.2.2.2.2.2.2.1,(p.2.1.2.2.2.2.2.2.2.1,(p.2.1.2.2.2.2.2.2.2.2.1,(p.2.1.2.2.2.2.2.2.2.2.2,p.2.2)))))))))))))
     else
      some (false,(p.1,(p.2.1.1,(p.2.1.2.1,(p.2.1.2.2.1,(p.2.1.2.2.2.1.1,(p.2.1.2.2.2.1.2,(p.2.1.2.2.2.2.1,(p.2.1.2.2.2.2.2.1,(p.2.1.2.2.2.2.2.2.1,(p.2.1.2.2.2.2.2.2.2.1,(p.2.1.2.2.2.2.2.2.2.2.1,(p.2.1.2.2.2.2.2.2.2.2.2,p.2.2)))))))))))))) fun o=>
 bif o.1 then
  some false
 else
  bif (!(e==0)) then
   some true
  else
   (sEquFun fu o.2.2.2.2.2.2.2.2.2.2.2.2.2.2 versions).bind fun r=>
   some r
def sfit_fa:FnA:=⟨.two (.reg [(0,{ids:=[100]})]) (.two (.two (.join ⟨[3,26],⟨qL56,[(100,false,(.vars (.cons (.p (.int .i64)) (.cons (.p (.int .i64)) (.cons (.p (.int .i64)) (.cons (.p (.int .i64)) (.cons (.p (.int .i64)) (.cons (.p (.int .i64)) (.cons (.p .bool) (.cons (.p (.int .i64)) (.cons (.p (.sl .byte)) (.cons (.p (.sl (.pair .str (.int .i64)))) (.cons (.p .bool) (.cons (.p (.int .i64)) (.cons (.p (.sl qY16)) (.cons (.p (.sl qY16)) .nil))))))))))))))))]⟩⟩ false [] lf) (.two lf lf)) (.two (.reg [(6,{})]) lf)),⟨(.cons (.p (.pair (.int .i64) (.pair qY1 (.pair (.sl qY16) (.sl qY16))))) (.cons (.p (.sl (.int .i64))) qL6)),[]⟩,[⟨(.cons (.p .bool) .nil),[]⟩],[0]⟩
def sfit_ft(fu:Nat):FnT:=⟨14,sfit_fa.i,sfit_fa.os,u3 (sfit fu)⟩
theorem m0Z(fu:Nat):Told Tryz.prog (sfit_ft fu):=tk fu sfit_fa (aaZ (hTZ fu) abZ) Tryz.func14 (by kernel_rfl) fun t=>by kernel_rfl
def rcop_l0(fu:Nat)(r4:qT29)(k:Nat)(x2:Int)(h4:Int)(h5:List (qT29))(h6:Int)(h7:List ((Nat×List (qT3)))):Option ((Nat×(Int×qT68))⊕(qT68)):=
 bif (decide (x2<(((refLen (s:=qY1) r4.2.2):Nat):Int))) then
  (h5)[k]?.bind fun r5=>
  (h5)[k]?.bind fun r6=>
  (refO r6.2.2).bind fun m=>
  (idx? x2 m.2.2).bind fun q1=>
  (h7)[m.1]?.bind fun m1=>
  need ((Nat.blt 0 m1.1)&&true)<|
  (m1.2)[(m.2.1+q1)]?.bind fun r7=>
  (rown fu r7).bind fun r8=>
  (refO r5.2.2).bind fun m2=>
  (idx? x2 m2.2.2).bind fun q2=>
  (h7)[m2.1]?.bind fun m3=>
  need (((Nat.beq m3.1 1)&&true)&&true)<|
  (m3.2)[(m2.2.1+q2)]?.bind fun r9=>
  some (.inl (k,((IntKind.wrap .i64 (x2+1)),(h4,(h5,(h6,(List.set h7 m2.1 (1,(List.set m3.2 (m2.2.1+q2) (r8.1,(r8.2.1,(r8.2.2.1,((r8.2.2.2.1,r8.2.2.2.2.1),(r8.2.2.2.2.2.1,(r8.2.2.2.2.2.2.1,(r8.2.2.2.2.2.2.2.2.2.1,(r8.2.2.2.2.2.2.2.2.2.2,(r8.2.2.2.2.2.2.2.1,r8.2.2.2.2.2.2.2.2.1))))))))))))))))))
 else
  some (.inr (h4,(h5,(h6,h7))))
def rcop_l0_it(fu:Nat)(r4:qT29)(tt:(Nat×(Int×qT68))):Option (qT68):=
 iter fu (fun tt=>rcop_l0 fu r4 tt.1 tt.2.1 tt.2.2.1 tt.2.2.2.1 tt.2.2.2.2.1 tt.2.2.2.2.2) tt
def rcop_l1(fu:Nat)(r:List (qT25))(x:Int)(h:Int)(h1:List (qT29))(h2:Int)(h3:List ((Nat×List (qT3)))):Option ((Int×qT68)⊕(qT68)):=
 bif (decide (x<((r.length:Nat):Int))) then
  (idx? x h1.length).bind fun q=>
  (h1)[q]?.bind fun r1=>
  (lowD (.ref 1 qY1) r1.2.2).bind fun x1=>
  (sClo5 fu x1).bind fun r2=>
  (h1)[q]?.bind fun r3=>
  ((List.set h1 q (r3.1,(r3.2.1,(.inr (some (h3.length,(0,r2.length))))))))[q]?.bind fun r4=>
  (rcop_l0_it fu r4 (q,(0,(h,((List.set h1 q (r3.1,(r3.2.1,(.inr (some (h3.length,(0,r2.length))))))),(h2,(h3++[(1,r2)]))))))).bind fun o=>
  some (.inl ((IntKind.wrap .i64 (x+1)),o))
 else
  some (.inr (h,(h1,(h2,h3))))
def rcop_l1_it(fu:Nat)(r:List (qT25))(tt:(Int×qT68)):Option (qT68):=
 iter fu (fun tt=>rcop_l1 fu r tt.1 tt.2.1 tt.2.2.1 tt.2.2.2.1 tt.2.2.2.2) tt
def rcop(fu:Nat)(c:(Int×List (qT25))):Option ((Int×(List (qT29)×List ((Nat×List (qT3)))))):=
 (sClo6 fu c.2).bind fun r=>
 (rcop_l1_it fu r (0,(c.1,((List.map (liftT qY36) r),(0,[]))))).bind fun o1=>
 some (o1.1,(o1.2.1,o1.2.2.2))
def rcop_fa:FnA:=⟨.two (.reg [(0,{ids:=[100]}),(1,{ids:=[101]})]) (.two (.reg [(2,{ids:=[102]})]) (.two (.two lf (.one (.pre (.newFam 1 43 qY1) (.pre (.toRef 102 qY36) (.loop ⟨[1,2,13],⟨(.cons (.own 0 100 0 0) (.cons (.own 0 101 0 0) qL6)),[(100,false,(.vars (.cons (.p (.int .i64)) (.cons (.slf 3 102) .nil)))),(102,false,(.rows 102 qY36)),(101,false,(.vars qL34)),(999985,false,(.fam 43 qY1))]⟩⟩ false [(0,⟨[1,2],⟨qL54,[(100,false,(.vars (.cons (.p (.int .i64)) (.cons (.slf 3 102) .nil)))),(102,false,(.rows 102 qY36)),(101,false,(.vars qL34)),(999985,false,(.fam 43 qY1))]⟩⟩)] (.two lf (.two lf (.two (.one (.two lf (.two lf (.two (.reg [(5,{ids:=[103],md:=[3],fn:=1}),(8,{sh:=[103,999985]})]) (.two lf (.one (.loop ⟨[1,2,4,33],⟨(.cons (.own 0 100 0 0) (.cons (.own 0 101 0 0) (.cons (.ownx 3 102 0) qL6))),[(100,false,(.vars (.cons (.p (.int .i64)) (.cons (.slf 3 102) .nil)))),(102,false,(.rows 102 qY36)),(101,false,(.vars qL34)),(999985,false,(.fam 43 qY1))]⟩⟩ false [(2,⟨[1,2],⟨qL54,[(100,false,(.vars (.cons (.p (.int .i64)) (.cons (.slf 3 102) .nil)))),(102,false,(.rows 102 qY36)),(101,false,(.vars qL34)),(999985,false,(.fam 43 qY1))]⟩⟩)] (.two lf (.two lf (.two (.one (.two lf (.reg [(11,{sh:=[999985]}),(12,{ids:=[104,105],fn:=2}),(14,{sh:=[999985]})]))) lf)))))))))) lf)))))))) lf)),⟨(.cons (.p (.pair (.int .i64) qY22)) .nil),[]⟩,[⟨(.cons (.agg (.cons (.p (.int .i64)) (.cons (.slf 3 0) .nil))) .nil),[(0,false,(.rows 102 qY36)),(999985,false,(.fam 43 qY1))]⟩],[0]⟩
def rcop_ft(fu:Nat):FnT:=⟨56,rcop_fa.i,rcop_fa.os,fun t=>rcop fu t⟩
theorem ofZ(fu:Nat):Told Tryz.prog (rcop_ft fu):=tk fu rcop_fa (aaZ (grZ fu) (aaZ (gjZ fu) (aaZ (fnZ fu) abZ))) Tryz.func56 (by kernel_rfl) fun t=>by kernel_rfl
def sIns2(fu:Nat)(i:Int)(l v:List (qT29))(ms:List (Nat×List (qT3))):Option (List (qT29)×(List (qT29)×List (Nat×List (qT3)))):=
 (upto? i l.length).bind fun q=>need (Nat.blt 0 v.length&&Nat.ble ((l.length+v.length)*40) room&&Nat.ble (l.length+v.length) room) (some (v,(l.take q++v++l.drop q,ms)))
def sIns2_ft(fu:Nat):FnT:=⟨60,⟨(.cons (.slf 3 0) (.cons (.p (.int .i64)) (.cons (.slf 3 1) .nil))),[(0,false,(.rows 102 qY36)),(1,false,(.rows 102 qY36)),(999985,false,(.fam 43 qY1))]⟩,[⟨(.cons (.slf 3 2) .nil),[(1,false,(.rows 102 qY36)),(2,false,(.rows 102 qY36)),(999985,false,(.fam 43 qY1))]⟩],u4 (sIns2 fu)⟩
theorem l7Z(fu:Nat):Told Tryz.prog (sIns2_ft fu):=
 fxZ (u:=qY36) (f:=1) Tryz.ins60 (by decide) (by intro h;cases h) Tryz.sizeOf102 Tryz.isAgg102 (by kernel_rfl) ⟨_,_,Tryz.func60,rfl,by kernel_rfl⟩
def sIns3(fu:Nat)(i:Int)(l v:List (qT3)):Option (List (qT3)×List (qT3)):=
 (upto? i l.length).bind fun q=>need (Nat.blt 0 v.length&&Nat.ble ((l.length+v.length)*120) room&&Nat.ble (l.length+v.length) room) (some (v,l.take q++v++l.drop q))
def sIns3_ft(fu:Nat):FnT:=⟨63,⟨(.cons (.slf 11 0) (.cons (.p (.int .i64)) (.cons (.slf 11 1) .nil))),[(0,false,(.rows 43 qY1)),(1,false,(.rows 43 qY1))]⟩,[⟨(.cons (.slf 11 2) .nil),[(1,false,(.rows 43 qY1)),(2,false,(.rows 43 qY1))]⟩],u3 (sIns3 fu)⟩
theorem kQZ(fu:Nat):Told Tryz.prog (sIns3_ft fu):=
 fJZ (u:=qY1) Tryz.ins63 (by decide) (by intro h;cases h) Tryz.sizeOf43 Tryz.isAgg43 (by kernel_rfl) ⟨_,_,Tryz.func63,rfl,by kernel_rfl⟩
def sDel(fu:Nat)(i j:Int)(l:List (qT3)):Option (List (qT3)):=
 (upto? j l.length).bind fun jq=>(upto? i jq).bind fun iq=>need (Nat.blt iq jq) (some (l.take iq++l.drop jq))
def sDel_ft(fu:Nat):FnT:=⟨65,⟨(.cons (.slf 11 0) qL50),[(0,false,(.rows 43 qY1))]⟩,[⟨(.cons (.slf 11 1) .nil),[(1,false,(.rows 43 qY1))]⟩],u3 (sDel fu)⟩
theorem oaZ(fu:Nat):Told Tryz.prog (sDel_ft fu):=
 jPZ (u:=qY1) Tryz.del65 (by decide) Tryz.sizeOf43 Tryz.isAgg43 Tryz.zeroValue43 (by kernel_rfl) (by decide) (by kernel_rfl) ⟨_,_,Tryz.func65,rfl,by kernel_rfl⟩
def rPut(fu:Nat)(c:(Int×List (qT25)))(r:qT3):Option ((Int×(List (qT25)×Int))):=
 (rcop fu c).bind fun r1=>
 Option.bind (α:=((Bool×(Int×(List (qT25)×(Int×(Int×(Int×(Int×(Int×(Bool×(Int×(List (UInt8)×(List ((List UInt8×Int))×(Bool×(Int×(Int×(Int×(List (qT29)×List ((Nat×List (qT3)))))))))))))))))))))) (
  (rRig fu c).bind fun r2=>
  bif (!r2) then
   some (true,(c.1,(c.2,(r.1,(r.2.1,(r.2.2.1,(r.2.2.2.1.1,(r.2.2.2.1.2,(r.2.2.2.2.1,(r.2.2.2.2.2.1,(r.2.2.2.2.2.2.1,(r.2.2.2.2.2.2.2.1,(r.2.2.2.2.2.2.2.2.1,(r.2.2.2.2.2.2.2.2.2,(0,r1)))))))))))))))
  else
   (cRigRep fu r).bind fun r3=>
   some ((!r3),(c.1,(c.2,(r.1,(r.2.1,(r.2.2.1,(r.2.2.2.1.1,(r.2.2.2.1.2,(r.2.2.2.2.1,(r.2.2.2.2.2.1,(r.2.2.2.2.2.2.1,(r.2.2.2.2.2.2.2.1,(r.2.2.2.2.2.2.2.2.1,(r.2.2.2.2.2.2.2.2.2,(0,r1)))))))))))))))) fun o=>
 bif o.1 then
  (unrefL (unrefD [⟨1,qY1,(List.map frz1 o.2.2.2.2.2.2.2.2.2.2.2.2.2.2.2.2.2)⟩] qY36) o.2.2.2.2.2.2.2.2.2.2.2.2.2.2.2.2.1).bind fun l5=>
  some (o.2.2.2.2.2.2.2.2.2.2.2.2.2.2.2.1,(l5,2))
 else
  (rLoo fu (o.2.1,o.2.2.1) o.2.2.2.1 o.2.2.2.2.1).bind fun r4=>
  bif (!(r4.2.2.2.2.2.2.2.2.2.2.2==0)) then
   (unrefL (unrefD [⟨1,qY1,(List.map frz1 o.2.2.2.2.2.2.2.2.2.2.2.2.2.2.2.2.2)⟩] qY36) o.2.2.2.2.2.2.2.2.2.2.2.2.2.2.2.2.1).bind fun l6=>
   some (o.2.2.2.2.2.2.2.2.2.2.2.2.2.2.2.1,(l6,2))
  else
   (unrefL (unrefD [⟨1,qY1,(List.map frz1 o.2.2.2.2.2.2.2.2.2.2.2.2.2.2.2.2.2)⟩] qY36) o.2.2.2.2.2.2.2.2.2.2.2.2.2.2.2.2.1).bind fun l=>
   (rof fu (o.2.2.2.2.2.2.2.2.2.2.2.2.2.2.2.1,l) o.2.2.2.1).bind fun r5=>
   Option.bind (α:=((Int×(List (qT25)×(Int×(Int×(Int×(Int×(Int×(Bool×(Int×(List (UInt8)×(List ((List UInt8×Int))×(Bool×(Int×(Int×(Int×(List (qT29)×List ((Nat×List (qT3))))))))))))))))))))) (
    bif (!r5.2) then
     (sIns2 fu r5.1 o.2.2.2.2.2.2.2.2.2.2.2.2.2.2.2.2.1 [(o.2.2.2.1,(0,(.inr none)))] o.2.2.2.2.2.2.2.2.2.2.2.2.2.2.2.2.2).bind fun r6=>
     some (o.2.1,(o.2.2.1,(o.2.2.2.1,(o.2.2.2.2.1,(o.2.2.2.2.2.1,(o.2.2.2.2.2.2.1,(o.2.2.2.2.2.2.2.1,(o.2.2.2.2.2.2.2.2.1,(o.2.2.2.2.2.2.2.2.2.1,(o.2.2.2.2.2.2.2.2.2.2.1,(o.2.2.2.2.2.2.2.2.2.2.2.1,(o.2.2.2.2.2.2.2.2.2.2.2.2.1,(o.2.2.2.2.2.2.2.2.2.2.2.2.2.1,(o.2.2.2.2.2.2.2.2.2.2.2.2.2.2.1,(o.2.2.2.2.2.2.2.2.2.2.2.2.2.2.2.1,r6.2)))))))))))))))
    else
     some o.2) fun o1=>
   (idx? r5.1 o1.2.2.2.2.2.2.2.2.2.2.2.2.2.2.2.1.length).bind fun q=>
   (o1.2.2.2.2.2.2.2.2.2.2.2.2.2.2.2.1)[q]?.bind fun r7=>
   (unrefD [⟨1,qY1,(List.map frz1 o1.2.2.2.2.2.2.2.2.2.2.2.2.2.2.2.2)⟩] (.ref 1 qY1) r7.2.2).bind fun x=>
   (sBinSeaFu fu x o1.2.2.2.1).bind fun r8=>
   (o1.2.2.2.2.2.2.2.2.2.2.2.2.2.2.2.1)[q]?.bind fun r9=>
   (rown fu (o1.2.2.1,(o1.2.2.2.1,(o1.2.2.2.2.1,((o1.2.2.2.2.2.1,o1.2.2.2.2.2.2.1),(o1.2.2.2.2.2.2.2.1,(o1.2.2.2.2.2.2.2.2.1,(o1.2.2.2.2.2.2.2.2.2.1,(o1.2.2.2.2.2.2.2.2.2.2.1,(o1.2.2.2.2.2.2.2.2.2.2.2.1,o1.2.2.2.2.2.2.2.2.2.2.2.2.1)))))))))).bind fun r10=>
   (openM o1.2.2.2.2.2.2.2.2.2.2.2.2.2.2.2.2 r9.2.2).bind fun m=>
   (sIns3 fu r8.1 m.1 [(r10.1,(r10.2.1,(r10.2.2.1,((r10.2.2.2.1,r10.2.2.2.2.1),(r10.2.2.2.2.2.1,(r10.2.2.2.2.2.2.1,(r10.2.2.2.2.2.2.2.2.2.1,(r10.2.2.2.2.2.2.2.2.2.2,(r10.2.2.2.2.2.2.2.1,r10.2.2.2.2.2.2.2.2.1)))))))))]).bind fun r11=>
   (o1.2.2.2.2.2.2.2.2.2.2.2.2.2.2.2.1)[q]?.bind fun r12=>
   ((List.set o1.2.2.2.2.2.2.2.2.2.2.2.2.2.2.2.1 q (r12.1,(r12.2.1,(.inr (some (m.2.length,(0,r11.2.length))))))))[q]?.bind fun r13=>
   bif (decide ((((refLen (s:=qY1) r13.2.2):Nat):Int)>o1.1)) then
    ((List.set o1.2.2.2.2.2.2.2.2.2.2.2.2.2.2.2.1 q (r12.1,(r12.2.1,(.inr (some (m.2.length,(0,r11.2.length))))))))[q]?.bind fun r14=>
    (refO r14.2.2).bind fun m1=>
    (idx? 0 m1.2.2).bind fun q1=>
    ((m.2++[(1,r11.2)]))[m1.1]?.bind fun m2=>
    need ((Nat.blt 0 m2.1)&&true)<|
    (m2.2)[(m1.2.1+q1)]?.bind fun r15=>
    ((List.set o1.2.2.2.2.2.2.2.2.2.2.2.2.2.2.2.1 q (r12.1,(r12.2.1,(.inr (some (m.2.length,(0,r11.2.length))))))))[q]?.bind fun r16=>
    ((List.set (List.set o1.2.2.2.2.2.2.2.2.2.2.2.2.2.2.2.1 q (r12.1,(r12.2.1,(.inr (some (m.2.length,(0,r11.2.length))))))) q (r16.1,(r15.2.1,r16.2.2))))[q]?.bind fun r17=>
    (openM (m.2++[(1,r11.2)]) r17.2.2).bind fun m3=>
    (sDel fu 0 1 m3.1).bind fun r18=>
    ((List.set (List.set o1.2.2.2.2.2.2.2.2.2.2.2.2.2.2.2.1 q (r12.1,(r12.2.1,(.inr (some (m.2.length,(0,r11.2.length))))))) q (r16.1,(r15.2.1,r16.2.2))))[q]?.bind fun r19=>
    (unrefL (unrefD [⟨1,qY1,(List.map frz1 (m3.2++[(1,r18)]))⟩] qY36) (List.set (List.set (List.set o1.2.2.2.2.2.2.2.2.2.2.2.2.2.2.2.1 q (r12.1,(r12.2.1,(.inr (some (m.2.length,(0,r11.2.length))))))) q (r16.1,(r15.2.1,r16.2.2))) q (r19.1,(r19.2.1,(.inr (some (m3.2.length,(0,r18.length)))))))).bind fun l7=>
    some (o1.2.2.2.2.2.2.2.2.2.2.2.2.2.2.1,(l7,0))
   else
    (unrefL (unrefD [⟨1,qY1,(List.map frz1 (m.2++[(1,r11.2)]))⟩] qY36) (List.set o1.2.2.2.2.2.2.2.2.2.2.2.2.2.2.2.1 q (r12.1,(r12.2.1,(.inr (some (m.2.length,(0,r11.2.length)))))))).bind fun l8=>
    some (o1.2.2.2.2.2.2.2.2.2.2.2.2.2.2.1,(l8,0))
def rPut_fa:FnA:=⟨.two (.reg [(0,{ids:=[100]}),(1,{ids:=[101]}),(2,{ids:=[102]})]) (.two (.reg [(1,{ids:=[103,999985]}),(2,{ids:=[104]})]) (.two (.two (.join ⟨[2,3,4,6,23],⟨(.cons (.own 0 100 0 0) (.cons (.own 0 101 0 0) (.cons (.own 0 102 0 0) (.cons (.own 0 104 0 0) (.cons (.p .bool) .nil))))),[(100,false,qB70),(101,false,(.vars qL9)),(102,false,(.vars qL34)),(104,false,(.vars (.cons (.p (.int .i64)) (.cons (.slf 3 103) .nil)))),(103,false,(.rows 102 qY36)),(999985,false,(.fam 43 qY1))]⟩⟩ false [] (.reg [(1,{fn:=1}),(5,{fn:=2})])) (.two lf lf)) (.two (.two (.reg [(5,{fn:=3}),(9,{ids:=[105]})]) (.two lf (.two lf lf))) (.two (.reg [(3,{md:=[2,0],fn:=4})]) (.two (.two lf (.join ⟨[2,3,4,6],⟨(.cons (.own 0 100 0 0) (.cons (.own 0 101 0 0) (.cons (.own 0 102 0 0) (.cons (.own 0 104 0 0) .nil)))),[(100,false,qB70),(101,false,(.vars qL9)),(102,false,(.vars qL34)),(104,false,(.vars (.cons (.p (.int .i64)) (.cons (.slf 3 107) .nil)))),(107,false,(.rows 102 qY36)),(999985,false,(.fam 43 qY1))]⟩⟩ false [] (.two (.reg [(6,{ids:=[106],sh:=[103]}),(7,{ids:=[107],sh:=[103,106,999985],fn:=5})]) lf))) (.two lf (.two (.reg [(6,{md:=[2,0,0],fn:=6})]) (.two (.reg [(7,{ids:=[108,109],fn:=7}),(8,{ids:=[110]}),(9,{ids:=[111],sh:=[655053,110],md:=[555053,0,0],fn:=8}),(12,{sh:=[111,999985]})]) (.two (.two lf (.two (.two (.reg [(7,{sh:=[999985]})]) (.reg [(5,{ids:=[112],sh:=[660053],md:=[560053,0,0],fn:=9}),(8,{sh:=[112,999985]})])) lf)) lf))))))))),⟨(.cons (.p (.pair (.int .i64) qY22)) (.cons (.p qY1) .nil)),[]⟩,[⟨(.cons (.agg (.cons (.p (.int .i64)) (.cons (.p qY22) .nil))) qL6),[]⟩],[1,0]⟩
def rPut_ft(fu:Nat):FnT:=⟨17,rPut_fa.i,rPut_fa.os,fun t=>rPut fu t.1 t.2⟩
theorem nPZ(fu:Nat):Told Tryz.prog (rPut_ft fu):=tk fu rPut_fa (aaZ (ofZ fu) (aaZ (fvZ fu) (aaZ (enZ fu) (aaZ (iYZ fu) (aaZ (kiZ fu) (aaZ (l7Z fu) (aaZ (cWZ fu) (aaZ (fnZ fu) (aaZ (kQZ fu) (aaZ (oaZ fu) abZ)))))))))) Tryz.func17 (by kernel_rfl) fun t=>by kernel_rfl
def sapptakgo_l0(fu:Nat)(h5:List (qT2))(t1:Int)(x:Int)(h9:Int)(h10:Int)(h11:Int)(h12:List (qT25))(h13:Int)(h14:List (qT2))(h15:List ((Int×List (Int))))(h16:List ((Int×Int)))(h17:List ((Int×Int)))(h18:List (qT2))(h19:Int):Option ((Int×qT51)⊕(qT51)):=
 bif (decide (x<((h5.length:Nat):Int))) then
  (idx? x h14.length).bind fun q=>
  (h14)[q]?.bind fun r=>
  Option.bind (α:=((Int×(Bool×(Int×(Int×(Int×(List (qT25)×(Int×(List (qT2)×(List ((Int×List (Int)))×(List ((Int×Int))×(List ((Int×Int))×(List (qT2)×(Int×qT2))))))))))))))) (
   (idx? x h18.length).bind fun q1=>
   (h18)[q1]?.bind fun r1=>
   bif r1.2.2.1 then
    (idx? x h18.length).bind fun q2=>
    (h18)[q2]?.bind fun r2=>
    some (t1,((r2.2.1==r.2.1),(h9,(h10,(h11,(h12,(h13,(h14,(h15,(h16,(h17,(h18,(h19,r)))))))))))))
   else
    some (t1,(false,(h9,(h10,(h11,(h12,(h13,(h14,(h15,(h16,(h17,(h18,(h19,r)))))))))))))) fun o=>
  Option.bind (α:=(qT51)) (
   bif o.2.1 then
    (idx? x o.2.2.2.2.2.2.2.2.2.2.2.1.length).bind fun q3=>
    (o.2.2.2.2.2.2.2.2.2.2.2.1)[q3]?.bind fun r3=>
    some (o.1,(o.2.2.1,(o.2.2.2.1,(o.2.2.2.2.1,(o.2.2.2.2.2.1,(o.2.2.2.2.2.2.1,(o.2.2.2.2.2.2.2.1,(o.2.2.2.2.2.2.2.2.1,(o.2.2.2.2.2.2.2.2.2.1,(o.2.2.2.2.2.2.2.2.2.2.1,((List.set o.2.2.2.2.2.2.2.2.2.2.2.1 q3 (r3.1,(r3.2.1,(r3.2.2.1,(r3.2.2.2.1,(r3.2.2.2.2.1,(o.2.2.2.2.2.2.2.2.2.2.2.2.2.2.2.2.2.2.1,r3.2.2.2.2.2.2))))))),o.2.2.2.2.2.2.2.2.2.2.2.2.1)))))))))))
   else
    need ((Nat.ble ((o.2.2.2.2.2.2.2.2.2.2.1.length+o.2.2.2.2.2.2.2.2.2.2.2.2.2.2.2.2.2.2.1.length)*16) room)&&(Nat.ble (o.2.2.2.2.2.2.2.2.2.2.1.length+o.2.2.2.2.2.2.2.2.2.2.2.2.2.2.2.2.2.2.1.length) room))<|
    some (o.1,(o.2.2.1,(o.2.2.2.1,(o.2.2.2.2.1,(o.2.2.2.2.2.1,(o.2.2.2.2.2.2.1,(o.2.2.2.2.2.2.2.1,(o.2.2.2.2.2.2.2.2.1,(o.2.2.2.2.2.2.2.2.2.1,((o.2.2.2.2.2.2.2.2.2.2.1++o.2.2.2.2.2.2.2.2.2.2.2.2.2.2.2.2.2.2.1),(o.2.2.2.2.2.2.2.2.2.2.2.1,o.2.2.2.2.2.2.2.2.2.2.2.2.1)))))))))))) fun o1=>
  some (.inl (o1.1,((IntKind.wrap .i64 (x+1)),o1.2)))
 else
  some (.inr (t1,(h9,(h10,(h11,(h12,(h13,(h14,(h15,(h16,(h17,(h18,h19))))))))))))
def sapptakgo_l0_it(fu:Nat)(h5:List (qT2))(tt:(Int×qT51)):Option (qT51):=
 iter fu (u13 (sapptakgo_l0 fu h5)) tt
def sapptakgo(fu:Nat)(t:Int)(h:Int)(h1:Int)(h2:Int)(h3:List (qT25))(h4:Int)(h5:List (qT2))(h6:List ((Int×List (Int))))(h7:List ((Int×Int)))(h8:List (qT2)):Option ((Int×(Int×(Int×(List (qT25)×(Int×(List (qT2)×(List ((Int×List (Int)))×(List ((Int×Int))×(List (qT2)×List ((Int×Int)))))))))))):=
 (sapptakgo_l0_it fu h5 (t,(0,(h,(h1,(h2,(h3,(h4,(h5,(h6,(h7,([],(h8,t))))))))))))).bind fun o2=>
 some (o2.2.1,(o2.2.2.2.2.2.2.2.2.2.2.2,(o2.2.2.2.1,(o2.2.2.2.2.1,(o2.2.2.2.2.2.1,(o2.2.2.2.2.2.2.2.2.2.2.1,(o2.2.2.2.2.2.2.2.1,(o2.2.2.2.2.2.2.2.2.1,(o2.2.2.2.2.2.2.1,o2.2.2.2.2.2.2.2.2.2.1)))))))))
def sapptakgo_fa:FnA:=⟨.two (.reg [(0,{ids:=[100]})]) (.two (.two lf (.one (.pre (.ownCell 0 8 58 101) (.loop ⟨[0,1,3,11,13],⟨(.cons (.own 0 0 0 0) (.cons (.agg (.cons (.slf 8 4) qL6)) (.cons (.own 0 100 0 0) (.cons (.slf 8 1) qL6)))),[(0,false,qB42),(1,false,(.rows 56 qY0)),(2,false,qB40),(3,false,(.rows 58 qY5)),(101,false,(.rows 58 qY5)),(4,false,(.rows 56 qY0)),(100,false,(.vars (.cons (.slf 8 4) qL6)))]⟩⟩ false [(0,⟨[0,1,3],⟨(.cons (.own 0 0 0 0) (.cons (.agg (.cons (.slf 8 4) qL6)) (.cons (.own 0 100 0 0) .nil))),[(0,false,qB42),(1,false,(.rows 56 qY0)),(2,false,qB40),(3,false,(.rows 58 qY5)),(101,false,(.rows 58 qY5)),(4,false,(.rows 56 qY0)),(100,false,(.vars (.cons (.slf 8 4) qL6)))]⟩⟩)] (.two lf (.two lf (.two (.one (.two (.reg [(3,{ids:=[102]})]) (.two (.join ⟨[0,1,3,5,11,34],⟨(.cons (.own 0 0 0 0) (.cons (.agg (.cons (.slf 8 4) qL6)) (.cons (.own 0 100 0 0) (.cons (.own 0 102 0 0) (.cons (.slf 8 1) (.cons (.p .bool) .nil)))))),[(0,false,qB42),(1,false,(.rows 56 qY0)),(2,false,qB40),(3,false,(.rows 58 qY5)),(101,false,(.rows 58 qY5)),(4,false,(.rows 56 qY0)),(100,false,(.vars (.cons (.slf 8 4) qL6))),(102,false,(.vars qL12))]⟩⟩ false [] lf) (.join ⟨[0,1,3,11],⟨(.cons (.own 0 0 0 0) (.cons (.agg (.cons (.slf 8 4) qL6)) (.cons (.own 0 100 0 0) (.cons (.slf 8 1) .nil)))),[(0,false,qB42),(1,false,(.rows 56 qY0)),(2,false,qB40),(3,false,(.rows 58 qY5)),(101,false,(.rows 58 qY5)),(4,false,(.rows 56 qY0)),(100,false,(.vars (.cons (.slf 8 4) qL6)))]⟩⟩ false [] (.two lf (.reg [(7,{ids:=[103]})])))))) lf))))))) lf),⟨(.cons (.own 0 0 0 0) (.cons (.agg (.cons (.slf 8 4) qL6)) .nil)),[(0,false,(.vars (.cons (.p (.int .i64)) (.cons (.slf 8 1) (.cons (.p (.int .i64)) (.cons (.p (.int .i64)) (.cons (.p qY22) (.cons (.slf 2 2) (.cons (.slf 2 3) qL34))))))))),(1,false,(.rows 56 qY0)),(2,false,qB40),(3,false,(.rows 58 qY5)),(4,false,(.rows 56 qY0))]⟩,[⟨.nil,[(0,false,(.vars (.cons (.p (.int .i64)) (.cons (.slf 8 4) (.cons (.p (.int .i64)) (.cons (.p (.int .i64)) (.cons (.p qY22) (.cons (.slf 2 2) (.cons (.slf 2 3) (.cons (.p (.int .i64)) (.cons (.slf 2 5) .nil))))))))))),(4,false,(.rows 56 qY0)),(2,false,qB40),(3,false,(.rows 58 qY5)),(1,false,(.rows 56 qY0)),(5,false,(.rows 58 qY5))]⟩],[]⟩
def sapptakgo_ft(fu:Nat):FnT:=⟨18,sapptakgo_fa.i,sapptakgo_fa.os,u10 (sapptakgo fu)⟩
theorem fQZ(fu:Nat):Told Tryz.prog (sapptakgo_ft fu):=tk fu sapptakgo_fa abZ Tryz.func18 (by kernel_rfl) fun t=>by kernel_rfl
def sappwri_l0(fu:Nat)(l:List qT19)(versions:List (Int))(n:Nat)(x:Int)(h9:Int)(h10:Int)(h11:Int)(h12:List (qT25))(h13:Int)(h14:List (qT2))(h15:List ((Int×List (Int))))(h16:List ((Int×Int)))(h17:List ((Int×Int)))(h18:List ((Int×Int))):Option ((Nat×(Int×qT61))⊕((Nat×qT61))):=
 bif (decide (x<((l.length:Nat):Int))) then
  (idx? x l.length).bind fun q3=>
  (l)[q3]?.bind fun r5=>
  (idx? x versions.length).bind fun q4=>
  (versions)[q4]?.bind fun r6=>
  (idx? r5.1 h18.length).bind fun q5=>
  (h18)[q5]?.bind fun r7=>
  some (.inl (n,((IntKind.wrap .i64 (x+1)),(h9,((if r5.2.2>h10 then r5.2.2 else h10),(h11,(h12,(h13,(h14,(h15,(h16,(h17,(List.set h18 q5 (r5.2.2,r6))))))))))))))
 else
  some (.inr (n,(h9,(h10,(h11,(h12,(h13,(h14,(h15,(h16,(h17,h18)))))))))))
def sappwri_l0_it(fu:Nat)(l:List qT19)(versions:List (Int))(tt:(Nat×(Int×qT61))):Option ((Nat×qT61)):=
 iter fu (fun tt=>sappwri_l0 fu l versions tt.1 tt.2.1 tt.2.2.1 tt.2.2.2.1 tt.2.2.2.2.1 tt.2.2.2.2.2.1 tt.2.2.2.2.2.2.1 tt.2.2.2.2.2.2.2.1 tt.2.2.2.2.2.2.2.2.1 tt.2.2.2.2.2.2.2.2.2.1 tt.2.2.2.2.2.2.2.2.2.2.1 tt.2.2.2.2.2.2.2.2.2.2.2) tt
def sappwri(fu:Nat)(id:Int)(l:List qT19)(versions:List (Int))(h:Int)(h1:Int)(h2:Int)(h3:List (qT25))(h4:Int)(h5:List (qT2))(h6:List ((Int×List (Int))))(h7:List ((Int×Int)))(h8:List ((Int×Int))):Option (qT41):=
 (idx? (IntKind.wrap .i64 (id-1)) h5.length).bind fun q=>
 (h5)[q]?.bind fun r=>
 (spie fu r.2.2.2.2.1 h4).bind fun r1=>
 (upto? r1 room).bind fun m=>
 (upto? r1 m).bind fun q1=>
 need (Nat.ble (m*16) room)<|
 (h5)[q]?.bind fun r2=>
 (h5)[q]?.bind fun r3=>
 (h5)[q]?.bind fun r4=>
 (upto? (if((r4.2.2.2.2.2.1.length:Nat):Int)<r1 then((r4.2.2.2.2.2.1.length:Nat):Int) else r1) r3.2.2.2.2.2.1.length).bind fun q2=>
 need ((Nat.ble ((h8.length+(List.drop q2 r3.2.2.2.2.2.1).length)*16) room)&&(Nat.ble (h8.length+(List.drop q2 r3.2.2.2.2.2.1).length) room))<|
 (sappwri_l0_it fu l versions (q,(0,(h,(h1,(h2,(h3,(h4,(h5,(h6,(h7,((h8++(List.drop q2 r3.2.2.2.2.2.1)),(splice (List.replicate (α:=(Int×Int)) q1 (0,0)) 0 (List.take (List.replicate (α:=(Int×Int)) q1 (0,0)).length r2.2.2.2.2.2.1)))))))))))))).bind fun o=>
 (o.2.2.2.2.2.2.1)[o.1]?.bind fun r8=>
 some (o.2.1,(o.2.2.1,(o.2.2.2.1,(o.2.2.2.2.1,(o.2.2.2.2.2.1,((List.set o.2.2.2.2.2.2.1 o.1 (r8.1,(r8.2.1,(r8.2.2.1,(r8.2.2.2.1,(r8.2.2.2.2.1,(o.2.2.2.2.2.2.2.2.2.2,r8.2.2.2.2.2.2))))))),(o.2.2.2.2.2.2.2.1,(o.2.2.2.2.2.2.2.2.1,o.2.2.2.2.2.2.2.2.2.1))))))))
def sappwri_fa:FnA:=⟨.two lf (.two (.reg [(8,{})]) (.two (.reg [(1,{ids:=[100]})]) (.two lf (.two (.reg [(17,{ids:=[101]})]) (.two (.two lf (.one (.loop ⟨[0,8,10,61],⟨(.cons (.own 0 0 0 0) (.cons (.ownx 8 1 0) (.cons (.slf 2 100) qL6))),[(0,false,qB42),(1,false,(.rows 56 qY0)),(2,false,qB40),(3,false,(.rows 58 qY5)),(101,false,(.rows 58 qY5)),(100,false,(.rows 58 qY5))]⟩⟩ false [(0,⟨[0,8,10],⟨(.cons (.own 0 0 0 0) (.cons (.ownx 8 1 0) (.cons (.slf 2 100) .nil))),[(0,false,qB42),(1,false,(.rows 56 qY0)),(2,false,qB40),(3,false,(.rows 58 qY5)),(101,false,(.rows 58 qY5)),(100,false,(.rows 58 qY5))]⟩⟩)] (.two lf (.two lf (.two (.one (.two (.reg [(3,{ids:=[102]})]) lf)) lf)))))) lf))))),⟨(.cons (.own 0 0 0 0) (.cons (.p (.int .i64)) (.cons (.p (.sl qY16)) (.cons (.p (.sl (.int .i64))) .nil)))),[(0,false,(.vars (.cons (.p (.int .i64)) (.cons (.slf 8 1) (.cons (.p (.int .i64)) (.cons (.p (.int .i64)) (.cons (.p qY22) (.cons (.slf 2 2) (.cons (.slf 2 3) (.cons (.p (.int .i64)) (.cons (.slf 2 4) .nil))))))))))),(1,false,(.rows 56 qY0)),(2,false,qB40),(3,false,(.rows 58 qY5)),(4,false,(.rows 58 qY5))]⟩,[⟨.nil,[(0,false,(.vars (.cons (.p (.int .i64)) (.cons (.slf 8 1) (.cons (.p (.int .i64)) (.cons (.p (.int .i64)) (.cons (.p qY22) (.cons (.slf 2 2) (.cons (.slf 2 3) (.cons (.p (.int .i64)) (.cons (.slf 2 5) .nil))))))))))),(1,false,(.rows 56 qY0)),(2,false,qB40),(3,false,(.rows 58 qY5)),(5,false,(.rows 58 qY5))]⟩],[]⟩
def sappwri_ft(fu:Nat):FnT:=⟨19,sappwri_fa.i,sappwri_fa.os,u12 (sappwri fu)⟩
theorem i6Z(fu:Nat):Told Tryz.prog (sappwri_ft fu):=tk fu sappwri_fa (aaZ (iaZ fu) abZ) Tryz.func19 (by kernel_rfl) fun t=>by kernel_rfl
def sappbur1(fu:Nat)(a:(Int×Int))(b:(Int×Int)):Option (Int):=
 some (IntKind.wrap .i64 (a.1-b.1))
def sappbur1_fa:FnA:=⟨.two (.reg [(0,{ids:=[100]}),(1,{ids:=[101]})]) lf,⟨(.cons (.p qY5) (.cons (.p qY5) .nil)),[]⟩,[⟨qL6,[]⟩],[0]⟩
def sappbur1_ft(fu:Nat):FnT:=⟨68,sappbur1_fa.i,sappbur1_fa.os,fun t=>sappbur1 fu t.1 t.2⟩
theorem gUZ(fu:Nat):Told Tryz.prog (sappbur1_ft fu):=tk fu sappbur1_fa abZ Tryz.func68 (by kernel_rfl) fun t=>by kernel_rfl
def sSorFun(fu:Nat)(l:List (Int×Int)):Option (List (Int×Int)):=
 need (Nat.blt l.length 4611686018427387904) (sortP l)
def sSorFun_ft(fu:Nat):FnT:=⟨67,⟨(.cons (.slf 2 0) (.cons (.fn 68 .nil .nil) .nil)),[(0,false,(.rows 58 qY5))]⟩,[⟨.nil,[(0,false,(.rows 58 qY5))]⟩],fun t=>sSorFun fu t⟩
theorem qTZ(fu:Nat)(x y:PartV):sappbur1 fu x.1 y.1=some (cfP x y):=by
 have hx:=x.2;have hy:=y.2;simp only[okP,ZAd] at hx hy;unfold sappbur1 cfP;congr 1;simp only[IntKind.wrap,IntKind.bits,IntKind.signed];simp;omega
theorem hWZ(fu:Nat):Told Tryz.prog (sSorFun_ft fu):=
 lCZ (fun x:PartV=>x.1) o0Z (e:=58) Tryz.sort67 Tryz.isAgg58 Tryz.sizeOf58 swoP ⟨_,_,Tryz.func68,rfl,by kernel_rfl⟩ (gUZ fu) (cf:=cfP) (fun x y=>qTZ fu x y)
  ⟨_,_,Tryz.func67,rfl,by kernel_rfl⟩ (Go.Proofs.enters_of Tryz.func68 (by kernel_rfl) rfl)
def sappbur_l0(fu:Nat)(h8:List ((Int×Int)))(x:Int)(h9:Int)(h10:Int)(h11:Int)(h12:List (qT25))(h13:Int)(h14:List (qT2))(h15:List ((Int×List (Int))))(h16:List ((Int×Int)))(h17:List ((Int×Int))):Option ((Int×qT41)⊕(qT41)):=
 bif (decide (x<((h8.length:Nat):Int))) then
  (idx? x h17.length).bind fun q=>
  (h17)[q]?.bind fun r=>
  Option.bind (α:=(qT41)) (
   bif (!((r.1==0)&&(r.2==0))) then
    need ((Nat.ble ((h16.length+1)*16) room)&&(Nat.ble (h16.length+1) room))<|
    some (h9,(h10,(h11,(h12,(h13,(h14,(h15,((h16++[r]),h17))))))))
   else
    some (h9,(h10,(h11,(h12,(h13,(h14,(h15,(h16,h17))))))))) fun o=>
  some (.inl ((IntKind.wrap .i64 (x+1)),o))
 else
  some (.inr (h9,(h10,(h11,(h12,(h13,(h14,(h15,(h16,h17)))))))))
def sappbur_l0_it(fu:Nat)(h8:List ((Int×Int)))(tt:(Int×qT41)):Option (qT41):=
 iter fu (fun tt=>sappbur_l0 fu h8 tt.1 tt.2.1 tt.2.2.1 tt.2.2.2.1 tt.2.2.2.2.1 tt.2.2.2.2.2.1 tt.2.2.2.2.2.2.1 tt.2.2.2.2.2.2.2.1 tt.2.2.2.2.2.2.2.2.1 tt.2.2.2.2.2.2.2.2.2) tt
def sappbur(fu:Nat)(h:Int)(h1:Int)(h2:Int)(h3:List (qT25))(h4:Int)(h5:List (qT2))(h6:List ((Int×List (Int))))(h7:List ((Int×Int)))(h8:List ((Int×Int))):Option ((Bool×qT41)):=
 (sappbur_l0_it fu h8 (0,(h,(h1,(h2,(h3,(h4,(h5,(h6,(h7,h8)))))))))).bind fun o1=>
 (sSorFun fu o1.2.2.2.2.2.2.2.1).bind fun r1=>
 bif (decide (((r1.length:Nat):Int)<=65536)) then
  some ((decide (o1.2.1<=1099511627776)),(o1.1,(o1.2.1,(o1.2.2.1,(o1.2.2.2.1,(o1.2.2.2.2.1,(o1.2.2.2.2.2.1,(o1.2.2.2.2.2.2.1,(o1.2.2.2.2.2.2.2.2,r1)))))))))
 else
  some (false,(o1.1,(o1.2.1,(o1.2.2.1,(o1.2.2.2.1,(o1.2.2.2.2.1,(o1.2.2.2.2.2.1,(o1.2.2.2.2.2.2.1,(o1.2.2.2.2.2.2.2.2,r1)))))))))
def sappbur_fa:FnA:=⟨.two lf (.two (.two lf (.one (.pre (.renum 3 100) (.loop ⟨[0,8,10],⟨(.cons (.own 0 0 0 0) (.cons (.slf 2 4) qL6)),[(0,false,(.vars (.cons (.p (.int .i64)) (.cons (.slf 8 1) (.cons (.p (.int .i64)) (.cons (.p (.int .i64)) (.cons (.p qY22) (.cons (.slf 2 2) (.cons (.slf 2 100) (.cons (.p (.int .i64)) (.cons (.slf 2 4) .nil))))))))))),(1,false,(.rows 56 qY0)),(2,false,qB40),(100,false,(.rows 58 qY5)),(4,false,(.rows 58 qY5))]⟩⟩ false [(0,⟨[0],⟨qL72,[(0,false,(.vars (.cons (.p (.int .i64)) (.cons (.slf 8 1) (.cons (.p (.int .i64)) (.cons (.p (.int .i64)) (.cons (.p qY22) (.cons (.slf 2 2) (.cons (.slf 2 100) (.cons (.p (.int .i64)) (.cons (.slf 2 4) .nil))))))))))),(1,false,(.rows 56 qY0)),(2,false,qB40),(100,false,(.rows 58 qY5)),(4,false,(.rows 58 qY5))]⟩⟩)] (.two lf (.two lf (.two (.one (.two (.reg [(2,{ids:=[101]})]) (.two lf (.join ⟨[0,8],⟨(.cons (.own 0 0 0 0) (.cons (.slf 2 4) .nil)),[(0,false,(.vars (.cons (.p (.int .i64)) (.cons (.slf 8 1) (.cons (.p (.int .i64)) (.cons (.p (.int .i64)) (.cons (.p qY22) (.cons (.slf 2 2) (.cons (.slf 2 103) (.cons (.p (.int .i64)) (.cons (.slf 2 4) .nil))))))))))),(1,false,(.rows 56 qY0)),(2,false,qB40),(103,false,(.rows 58 qY5)),(4,false,(.rows 58 qY5))]⟩⟩ false [] (.two (.reg [(7,{ids:=[102]}),(8,{ids:=[103]})]) lf))))) lf))))))) (.two (.reg [(5,{sh:=[100]})]) lf)),⟨qL72,[(0,false,(.vars (.cons (.p (.int .i64)) (.cons (.slf 8 1) (.cons (.p (.int .i64)) (.cons (.p (.int .i64)) (.cons (.p qY22) (.cons (.slf 2 2) (.cons (.slf 2 3) (.cons (.p (.int .i64)) (.cons (.slf 2 4) .nil))))))))))),(1,false,(.rows 56 qY0)),(2,false,qB40),(3,false,(.rows 58 qY5)),(4,false,(.rows 58 qY5))]⟩,[⟨(.cons (.p .bool) .nil),[(0,false,(.vars (.cons (.p (.int .i64)) (.cons (.slf 8 1) (.cons (.p (.int .i64)) (.cons (.p (.int .i64)) (.cons (.p qY22) (.cons (.slf 2 2) (.cons (.slf 2 5) (.cons (.p (.int .i64)) (.cons (.slf 2 4) .nil))))))))))),(1,false,(.rows 56 qY0)),(2,false,qB40),(4,false,(.rows 58 qY5)),(5,false,(.rows 58 qY5))]⟩],[0]⟩
def sappbur_ft(fu:Nat):FnT:=⟨20,sappbur_fa.i,sappbur_fa.os,u9 (sappbur fu)⟩
theorem ivZ(fu:Nat):Told Tryz.prog (sappbur_ft fu):=tk fu sappbur_fa (aaZ (hWZ fu) abZ) Tryz.func20 (by kernel_rfl) fun t=>by kernel_rfl
def sApp(fu:Nat)(s:qT11)(size:Int)(c:qT13)(versions:List (Int))(e:Int):Option ((qT11×(Int×(Int×(Int×(Int×(Int×(Bool×(Int×(List (UInt8)×(List ((List UInt8×Int))×(Bool×(Int×Int))))))))))))):=
 (sPla fu s size c).bind fun r=>
 bif (!(r.2==0)) then
  (state_own fu s).bind fun r1=>
  some ((r1.1,((r1.2.2.2.2.1,r1.2.1),((r1.2.2.1,r1.2.2.2.1),r1.2.2.2.2.2))),(0,(0,(0,(0,(0,(false,(0,([],([],(false,(0,r.2))))))))))))
 else
  (sfit fu r.1 versions e).bind fun r2=>
  bif (!r2) then
   (state_own fu s).bind fun r3=>
   some ((r3.1,((r3.2.2.2.2.1,r3.2.1),((r3.2.2.1,r3.2.2.2.1),r3.2.2.2.2.2))),(0,(0,(0,(0,(0,(false,(0,([],([],(false,(0,2))))))))))))
  else
   (sbar fu s.2.1).bind fun r4=>
   (model_Do fu ((r4.2.1,r4.1),r4.2.2) c).bind fun r5=>
   Option.bind (α:=((List (qT11)×(List (qT13)×(List (qT11)×(Int×(Int×(Int×(Int×(Int×(Bool×(Int×(Bool×(Int×(List (qT47)×(Int×(List (qT2)×(List (List (UInt8))×qT37)))))))))))))))))) (
    bif (!(e==0)) then
     some ([s],([c],([(0,(([],0),((0,[]),([],[]))))],(0,(0,(0,(0,(0,(false,(0,(false,(0,([r.1],(r5.1,(r5.2.2.2.2.2.2.2.2.2.2.2.2.1,(r5.2.2.2.2.2.2.2.2.2.2.2.2.2,(c.1,(c.2.1,(e,(0,(0,(false,(0,([],([],(false,0))))))))))))))))))))))))))
    else
     some ([s],([c],([(0,(([],0),((0,[]),([],[]))))],(0,(0,(0,(0,(0,(false,(0,(false,(0,([r.1],(r5.1,(r5.2.2.2.2.2.2.2.2.2.2.2.2.1,(r5.2.2.2.2.2.2.2.2.2.2.2.2.2,(r5.2.1,(r5.2.2.1,(r5.2.2.2.1,(r5.2.2.2.2.1,(r5.2.2.2.2.2.1,(r5.2.2.2.2.2.2.1,(r5.2.2.2.2.2.2.2.1,(r5.2.2.2.2.2.2.2.2.1,(r5.2.2.2.2.2.2.2.2.2.1,(r5.2.2.2.2.2.2.2.2.2.2.1,r5.2.2.2.2.2.2.2.2.2.2.2.1))))))))))))))))))))))))))) fun o=>
   (o.1)[0]?.bind fun r6=>
   (state_own fu r6).bind fun r7=>
   (o.1)[0]?.bind fun r8=>
   (rPut fu r8.2.2.1 (o.2.2.2.2.2.2.2.2.2.2.2.2.2.2.2.2.1,(o.2.2.2.2.2.2.2.2.2.2.2.2.2.2.2.2.2.1,(o.2.2.2.2.2.2.2.2.2.2.2.2.2.2.2.2.2.2.1,((o.2.2.2.2.2.2.2.2.2.2.2.2.2.2.2.2.2.2.2.1,o.2.2.2.2.2.2.2.2.2.2.2.2.2.2.2.2.2.2.2.2.1),o.2.2.2.2.2.2.2.2.2.2.2.2.2.2.2.2.2.2.2.2.2))))).bind fun r9=>
   bif (!(r9.2.2==0)) then
    (o.1)[0]?.bind fun r10=>
    (state_own fu r10).bind fun r11=>
    (o.2.2.1)[0]?.bind fun r12=>
    ((List.set o.2.2.1 0 (r11.1,((r11.2.2.2.2.1,r11.2.1),((r11.2.2.1,r11.2.2.2.1),r11.2.2.2.2.2)))))[0]?.bind fun r37=>
    some (r37,(0,(0,(0,(0,(0,(false,(0,([],([],(false,(0,r9.2.2))))))))))))
   else
    bif (!(o.2.2.2.2.2.2.2.2.2.2.2.2.2.2.2.2.2.2.1==0)) then
     (o.2.2.1)[0]?.bind fun r13=>
     ((List.set o.2.2.1 0 (r7.1,((r7.2.2.2.2.1,r7.2.1),((r9.1,r9.2.1),r7.2.2.2.2.2)))))[0]?.bind fun r38=>
     some (r38,(o.2.2.2.2.2.2.2.2.2.2.2.2.2.2.2.2.1,(o.2.2.2.2.2.2.2.2.2.2.2.2.2.2.2.2.2.1,(o.2.2.2.2.2.2.2.2.2.2.2.2.2.2.2.2.2.2.1,(o.2.2.2.2.2.2.2.2.2.2.2.2.2.2.2.2.2.2.2.1,(o.2.2.2.2.2.2.2.2.2.2.2.2.2.2.2.2.2.2.2.2.1,(o.2.2.2.2.2.2.2.2.2.2.2.2.2.2.2.2.2.2.2.2.2.1,(o.2.2.2.2.2.2.2.2.2.2.2.2.2.2.2.2.2.2.2.2.2.2.1,(o.2.2.2.2.2.2.2.2.2.2.2.2.2.2.2.2.2.2.2.2.2.2.2.1,(o.2.2.2.2.2.2.2.2.2.2.2.2.2.2.2.2.2.2.2.2.2.2.2.2.1,(o.2.2.2.2.2.2.2.2.2.2.2.2.2.2.2.2.2.2.2.2.2.2.2.2.2.1,(o.2.2.2.2.2.2.2.2.2.2.2.2.2.2.2.2.2.2.2.2.2.2.2.2.2.2,0))))))))))))
    else
     (sapptakgo fu o.2.2.2.2.2.2.2.2.2.2.2.2.2.1 r7.1 r7.2.1 r9.1 r9.2.1 size r7.2.2.2.2.1 r7.2.2.2.2.2.1 r7.2.2.2.2.2.2 o.2.2.2.2.2.2.2.2.2.2.2.2.2.2.1).bind fun r14=>
     Option.bind (α:=((Bool×(List (qT11)×(List (qT13)×(List (qT11)×(Int×(Int×(Int×(Int×(Int×(Bool×(Int×(Bool×(Int×(List (qT47)×(Int×(Int×(Int×(Int×(Int×(Bool×(Int×(List (UInt8)×(List ((List UInt8×Int))×(Bool×(Int×qT41))))))))))))))))))))))))))) (
      (o.2.1)[0]?.bind fun r15=>
      bif (((r15.2.2.1.toNat:Nat):Int)==5) then
       some (true,(o.1,(o.2.1,(o.2.2.1,(o.2.2.2.1,(o.2.2.2.2.1,(o.2.2.2.2.2.1,(o.2.2.2.2.2.2.1,(o.2.2.2.2.2.2.2.1,(o.2.2.2.2.2.2.2.2.1,(o.2.2.2.2.2.2.2.2.2.1,(o.2.2.2.2.2.2.2.2.2.2.1,(o.2.2.2.2.2.2.2.2.2.2.2.1,(o.2.2.2.2.2.2.2.2.2.2.2.2.1,(o.2.2.2.2.2.2.2.2.2.2.2.2.2.2.2.2.1,(o.2.2.2.2.2.2.2.2.2.2.2.2.2.2.2.2.2.1,(o.2.2.2.2.2.2.2.2.2.2.2.2.2.2.2.2.2.2.1,(o.2.2.2.2.2.2.2.2.2.2.2.2.2.2.2.2.2.2.2.1,(o.2.2.2.2.2.2.2.2.2.2.2.2.2.2.2.2.2.2.2.2.1,(o.2.2.2.2.2.2.2.2.2.2.2.2.2.2.2.2.2.2.2.2.2.1,(o.2.2.2.2.2.2.2.2.2.2.2.2.2.2.2.2.2.2.2.2.2.2.1,(o.2.2.2.2.2.2.2.2.2.2.2.2.2.2.2.2.2.2.2.2.2.2.2.1,(o.2.2.2.2.2.2.2.2.2.2.2.2.2.2.2.2.2.2.2.2.2.2.2.2.1,(o.2.2.2.2.2.2.2.2.2.2.2.2.2.2.2.2.2.2.2.2.2.2.2.2.2.1,(o.2.2.2.2.2.2.2.2.2.2.2.2.2.2.2.2.2.2.2.2.2.2.2.2.2.2,(r14.1,(r14.2.1,(r14.2.2.1,(r14.2.2.2.1,(r14.2.2.2.2.1,(r14.2.2.2.2.2.1,(r14.2.2.2.2.2.2.1,(r14.2.2.2.2.2.2.2.1,r14.2.2.2.2.2.2.2.2.2)))))))))))))))))))))))))))))))))
      else
       (o.2.1)[0]?.bind fun r16=>
       some ((((r16.2.2.1.toNat:Nat):Int)==6),(o.1,(o.2.1,(o.2.2.1,(o.2.2.2.1,(o.2.2.2.2.1,(o.2.2.2.2.2.1,(o.2.2.2.2.2.2.1,(o.2.2.2.2.2.2.2.1,(o.2.2.2.2.2.2.2.2.1,(o.2.2.2.2.2.2.2.2.2.1,(o.2.2.2.2.2.2.2.2.2.2.1,(o.2.2.2.2.2.2.2.2.2.2.2.1,(o.2.2.2.2.2.2.2.2.2.2.2.2.1,(o.2.2.2.2.2.2.2.2.2.2.2.2.2.2.2.2.1,(o.2.2.2.2.2.2.2.2.2.2.2.2.2.2.2.2.2.1,(o.2.2.2.2.2.2.2.2.2.2.2.2.2.2.2.2.2.2.1,(o.2.2.2.2.2.2.2.2.2.2.2.2.2.2.2.2.2.2.2.1,(o.2.2.2.2.2.2.2.2.2.2.2.2.2.2.2.2.2.2.2.2.1,(o.2.2.2.2.2.2.2.2.2.2.2.2.2.2.2.2.2.2.2.2.2.1,(o.2.2.2.2.2.2.2.2.2.2.2.2.2.2.2.2.2.2.2.2.2.2.1,(o.2.2.2.2.2.2.2.2.2.2.2.2.2.2.2.2.2.2.2.2.2.2.2.1,(o.2.2.2.2.2.2.2.2.2.2.2.2.2.2.2.2.2.2.2.2.2.2.2.2.1,(o.2.2.2.2.2.2.2.2.2.2.2.2.2.2.2.2.2.2.2.2.2.2.2.2.2.1,(o.2.2.2.2.2.2.2.2.2.2.2.2.2.2.2.2.2.2.2.2.2.2.2.2.2.2,(r14.1,(r14.2.1,(r14.2.2.1,(r14.2.2.2.1,(r14.2.2.2.2.1,(r14.2.2.2.2.2.1,(r14.2.2.2.2.2.2.1,(r14.2.2.2.2.2.2.2.1,r14.2.2.2.2.2.2.2.2.2)))))))))))))))))))))))))))))))))) fun o1=>
     Option.bind (α:=((List (qT11)×(List (qT11)×(Int×(Int×(Int×(Int×(Int×(Bool×(Int×(Bool×(Int×(Int×(Int×(Int×(Int×(Int×(Bool×(Int×(List (UInt8)×(List ((List UInt8×Int))×(Bool×(Int×qT41)))))))))))))))))))))))) (
      bif o1.1 then
       (o1.2.2.1)[0]?.bind fun r17=>
       (o1.2.2.2.2.2.2.2.2.2.2.2.2.2.1)[0]?.bind fun r18=>
       (sappwri fu r17.2.2.2.1.1 r18.2.2.2 versions o1.2.2.2.2.2.2.2.2.2.2.2.2.2.2.2.2.2.2.2.2.2.2.2.2.2.1 o1.2.2.2.2.2.2.2.2.2.2.2.2.2.2.2.2.2.2.2.2.2.2.2.2.2.2.1 o1.2.2.2.2.2.2.2.2.2.2.2.2.2.2.2.2.2.2.2.2.2.2.2.2.2.2.2.1 o1.2.2.2.2.2.2.2.2.2.2.2.2.2.2.2.2.2.2.2.2.2.2.2.2.2.2.2.2.1 o1.2.2.2.2.2.2.2.2.2.2.2.2.2.2.2.2.2.2.2.2.2.2.2.2.2.2.2.2.2.1 o1.2.2.2.2.2.2.2.2.2.2.2.2.2.2.2.2.2.2.2.2.2.2.2.2.2.2.2.2.2.2.1 o1.2.2.2.2.2.2.2.2.2.2.2.2.2.2.2.2.2.2.2.2.2.2.2.2.2.2.2.2.2.2.2.1 o1.2.2.2.2.2.2.2.2.2.2.2.2.2.2.2.2.2.2.2.2.2.2.2.2.2.2.2.2.2.2.2.2.1 o1.2.2.2.2.2.2.2.2.2.2.2.2.2.2.2.2.2.2.2.2.2.2.2.2.2.2.2.2.2.2.2.2.2).bind fun r19=>
       some (o1.2.1,(o1.2.2.2.1,(o1.2.2.2.2.1,(o1.2.2.2.2.2.1,(o1.2.2.2.2.2.2.1,(o1.2.2.2.2.2.2.2.1,(o1.2.2.2.2.2.2.2.2.1,(o1.2.2.2.2.2.2.2.2.2.1,(o1.2.2.2.2.2.2.2.2.2.2.1,(o1.2.2.2.2.2.2.2.2.2.2.2.1,(o1.2.2.2.2.2.2.2.2.2.2.2.2.1,(o1.2.2.2.2.2.2.2.2.2.2.2.2.2.2.1,(o1.2.2.2.2.2.2.2.2.2.2.2.2.2.2.2.1,(o1.2.2.2.2.2.2.2.2.2.2.2.2.2.2.2.2.1,(o1.2.2.2.2.2.2.2.2.2.2.2.2.2.2.2.2.2.1,(o1.2.2.2.2.2.2.2.2.2.2.2.2.2.2.2.2.2.2.1,(o1.2.2.2.2.2.2.2.2.2.2.2.2.2.2.2.2.2.2.2.1,(o1.2.2.2.2.2.2.2.2.2.2.2.2.2.2.2.2.2.2.2.2.1,(o1.2.2.2.2.2.2.2.2.2.2.2.2.2.2.2.2.2.2.2.2.2.1,(o1.2.2.2.2.2.2.2.2.2.2.2.2.2.2.2.2.2.2.2.2.2.2.1,(o1.2.2.2.2.2.2.2.2.2.2.2.2.2.2.2.2.2.2.2.2.2.2.2.1,(o1.2.2.2.2.2.2.2.2.2.2.2.2.2.2.2.2.2.2.2.2.2.2.2.2.1,r19))))))))))))))))))))))
      else
       some (o1.2.1,(o1.2.2.2.1,(o1.2.2.2.2.1,(o1.2.2.2.2.2.1,(o1.2.2.2.2.2.2.1,(o1.2.2.2.2.2.2.2.1,(o1.2.2.2.2.2.2.2.2.1,(o1.2.2.2.2.2.2.2.2.2.1,(o1.2.2.2.2.2.2.2.2.2.2.1,(o1.2.2.2.2.2.2.2.2.2.2.2.1,(o1.2.2.2.2.2.2.2.2.2.2.2.2.1,o1.2.2.2.2.2.2.2.2.2.2.2.2.2.2)))))))))))) fun o2=>
     (sappbur fu o2.2.2.2.2.2.2.2.2.2.2.2.2.2.2.2.2.2.2.2.2.2.2.1 o2.2.2.2.2.2.2.2.2.2.2.2.2.2.2.2.2.2.2.2.2.2.2.2.1 o2.2.2.2.2.2.2.2.2.2.2.2.2.2.2.2.2.2.2.2.2.2.2.2.2.1 o2.2.2.2.2.2.2.2.2.2.2.2.2.2.2.2.2.2.2.2.2.2.2.2.2.2.1 o2.2.2.2.2.2.2.2.2.2.2.2.2.2.2.2.2.2.2.2.2.2.2.2.2.2.2.1 o2.2.2.2.2.2.2.2.2.2.2.2.2.2.2.2.2.2.2.2.2.2.2.2.2.2.2.2.1 o2.2.2.2.2.2.2.2.2.2.2.2.2.2.2.2.2.2.2.2.2.2.2.2.2.2.2.2.2.1 o2.2.2.2.2.2.2.2.2.2.2.2.2.2.2.2.2.2.2.2.2.2.2.2.2.2.2.2.2.2.1 o2.2.2.2.2.2.2.2.2.2.2.2.2.2.2.2.2.2.2.2.2.2.2.2.2.2.2.2.2.2.2).bind fun r20=>
     bif (!r20.1) then
      (o2.1)[0]?.bind fun r21=>
      (state_own fu r21).bind fun r22=>
      (o2.2.1)[0]?.bind fun r23=>
      ((List.set o2.2.1 0 (r22.1,((r22.2.2.2.2.1,r22.2.1),((r22.2.2.1,r22.2.2.2.1),r22.2.2.2.2.2)))))[0]?.bind fun r39=>
      some (r39,(0,(0,(0,(0,(0,(false,(0,([],([],(false,(0,5))))))))))))
     else
      (o2.2.1)[0]?.bind fun r24=>
      ((List.set o2.2.1 0 (r20.2.1,((r20.2.2.2.2.2.2.1,r20.2.2.1),((r20.2.2.2.1,r20.2.2.2.2.1),(r20.2.2.2.2.2.2.2.1,r20.2.2.2.2.2.2.2.2.2))))))[0]?.bind fun r40=>
      some (r40,(o2.2.2.2.2.2.2.2.2.2.2.2.1,(o2.2.2.2.2.2.2.2.2.2.2.2.2.1,(o2.2.2.2.2.2.2.2.2.2.2.2.2.2.1,(o2.2.2.2.2.2.2.2.2.2.2.2.2.2.2.1,(o2.2.2.2.2.2.2.2.2.2.2.2.2.2.2.2.1,(o2.2.2.2.2.2.2.2.2.2.2.2.2.2.2.2.2.1,(o2.2.2.2.2.2.2.2.2.2.2.2.2.2.2.2.2.2.1,(o2.2.2.2.2.2.2.2.2.2.2.2.2.2.2.2.2.2.2.1,(o2.2.2.2.2.2.2.2.2.2.2.2.2.2.2.2.2.2.2.2.1,(o2.2.2.2.2.2.2.2.2.2.2.2.2.2.2.2.2.2.2.2.2.1,(o2.2.2.2.2.2.2.2.2.2.2.2.2.2.2.2.2.2.2.2.2.2.1,0))))))))))))
def sApp_fa:FnA:=⟨.two (.reg [(0,{ids:=[100],md:=[1]}),(1,{ids:=[101],md:=[1]}),(2,{ids:=[102],md:=[1]}),(3,{ids:=[103]})]) (.two (.reg [(3,{}),(7,{ids:=[104],md:=[1]})]) (.two (.two lf (.two (.two (.reg [(1,{ids:=[105,106,107],fn:=1})]) lf) lf)) (.two (.two (.reg [(3,{fn:=2})]) (.two (.two (.reg [(1,{ids:=[108,109,110],fn:=1})]) lf) lf)) (.two (.reg [(2,{ids:=[111,112],fn:=3}),(4,{ids:=[113,114],md:=[1,0],fn:=4}),(8,{ids:=[115]}),(9,{ids:=[116]})]) (.two (.two lf (.join ⟨[5,7,10,11,13,15,16],⟨(.cons (.own 7 100 0 0) (.cons (.own 12 101 0 0) (.cons (.own 7 102 0 0) (.cons (.own 0 103 0 0) (.cons (.own 14 104 0 0) (.cons (.own 0 115 0 0) (.cons (.own 0 116 0 0) .nil))))))),[(100,false,(.rows 33 qY10)),(101,false,(.rows 48 qY14)),(102,false,(.rows 33 qY10)),(103,false,(.vars qL17)),(104,false,qB46),(115,false,(.vars (.cons (.slf 8 113) (.cons (.p (.int .i64)) (.cons (.slf 1 114) .nil))))),(113,false,(.rows 56 qY0)),(114,false,(.rows 40 (.sl .byte))),(116,false,(.vars qL9))]⟩⟩ false [] lf)) (.two (.reg [(1,{ids:=[117,118,119],fn:=1}),(4,{ids:=[120]})]) (.two (.two (.reg [(4,{fn:=5})]) (.two lf (.two (.two (.reg [(1,{ids:=[121,122,123],fn:=1})]) lf) lf))) (.two (.two lf (.two lf lf)) (.two (.reg [(3,{ids:=[124],sh:=[120,117,118,119,113],fn:=6})]) (.two (.two (.join ⟨[5,7,10,11,13,16,17,96],⟨(.cons (.own 7 100 0 0) (.cons (.own 12 101 0 0) (.cons (.own 7 102 0 0) (.cons (.own 0 103 0 0) (.cons (.own 14 104 0 0) (.cons (.own 0 116 0 0) (.cons (.own 0 120 0 0) (.cons (.p .bool) .nil)))))))),[(100,false,(.rows 33 qY10)),(101,false,(.rows 48 qY14)),(102,false,(.rows 33 qY10)),(103,false,(.vars qL17)),(104,false,qB46),(116,false,(.vars qL9)),(120,false,(.vars (.cons (.p (.int .i64)) (.cons (.slf 8 113) (.cons (.p (.int .i64)) (.cons (.p (.int .i64)) (.cons (.p qY22) (.cons (.slf 2 118) (.cons (.slf 2 119) (.cons (.p (.int .i64)) (.cons (.slf 2 124) .nil))))))))))),(113,false,(.rows 56 qY0)),(118,false,qB40),(119,false,(.rows 58 qY5)),(124,false,(.rows 58 qY5))]⟩⟩ false [] lf) (.join ⟨[5,10,11,16,17],⟨(.cons (.own 7 100 0 0) (.cons (.own 7 102 0 0) (.cons (.own 0 103 0 0) (.cons (.own 0 116 0 0) (.cons (.own 0 120 0 0) .nil))))),[(100,false,(.rows 33 qY10)),(102,false,(.rows 33 qY10)),(103,false,(.vars qL17)),(116,false,(.vars qL9)),(120,false,(.vars (.cons (.p (.int .i64)) (.cons (.slf 8 113) (.cons (.p (.int .i64)) (.cons (.p (.int .i64)) (.cons (.p qY22) (.cons (.slf 2 118) (.cons (.slf 2 119) (.cons (.p (.int .i64)) (.cons (.slf 2 125) .nil))))))))))),(113,false,(.rows 56 qY0)),(118,false,qB40),(119,false,(.rows 58 qY5)),(125,false,(.rows 58 qY5))]⟩⟩ false [] (.two (.reg [(7,{ids:=[125],sh:=[120,113,118,119,124],fn:=7})]) lf))) (.two (.two (.reg [(1,{ids:=[126],sh:=[120,113,118,119,125],fn:=8})]) (.two (.two (.reg [(1,{ids:=[127,128,129],fn:=1})]) lf) lf)) lf))))))))))),⟨(.cons (.p qY10) (.cons (.p (.int .i64)) (.cons (.p qY14) (.cons (.p (.sl (.int .i64))) qL6)))),[]⟩,[⟨(.cons (.p qY10) (.cons (.agg qL9) qL6)),[]⟩],[0,0,0]⟩
def sApp_ft(fu:Nat):FnT:=⟨7,sApp_fa.i,sApp_fa.os,u5 (sApp fu)⟩
theorem iCZ(fu:Nat):Told Tryz.prog (sApp_ft fu):=tk fu sApp_fa (aaZ (fjZ fu) (aaZ (cXZ fu) (aaZ (m0Z fu) (aaZ (iJZ fu) (aaZ (dJZ fu) (aaZ (nPZ fu) (aaZ (fQZ fu) (aaZ (i6Z fu) (aaZ (ivZ fu) abZ))))))))) Tryz.func7 (by kernel_rfl) fun t=>by kernel_rfl
def law25_indexes_l0(fu:Nat)(l:List qT19)(x:Int)(h:List (Int)):Option ((Int×List (Int))⊕(List (Int))):=
 bif (decide (x<((l.length:Nat):Int))) then
  (idx? x l.length).bind fun q=>
  (l)[q]?.bind fun r=>
  need ((Nat.ble ((h.length+1)*8) room)&&(Nat.ble (h.length+1) room))<|
  some (.inl ((IntKind.wrap .i64 (x+1)),(h++[r.1])))
 else
  some (.inr h)
def law25_indexes_l0_it(fu:Nat)(l:List qT19)(tt:(Int×List (Int))):Option (List (Int)):=
 iter fu (fun tt=>law25_indexes_l0 fu l tt.1 tt.2) tt
def law25_indexes(fu:Nat)(l:List qT19):Option (List (Int)):=
 (law25_indexes_l0_it fu l (0,[])).bind fun o=>
 some o
def law25_indexes_fa:FnA:=⟨.two lf (.two lf (.two (.two lf (.one (.pre (.ownNil 3 3 100) (.loop ⟨[3,8],⟨(.cons (.slf 1 100) qL6),[(100,false,(.rows 3 (.int .i64)))]⟩⟩ false [(0,⟨[3],⟨(.cons (.slf 1 100) .nil),[(100,false,(.rows 3 (.int .i64)))]⟩⟩)] (.two lf (.two lf (.two (.one (.two (.reg [(2,{ids:=[101]})]) (.reg [(3,{ids:=[102]}),(4,{ids:=[103]})]))) lf))))))) lf)),⟨(.cons (.p (.sl qY16)) .nil),[]⟩,[⟨(.cons (.slf 1 0) .nil),[(0,false,(.rows 3 (.int .i64)))]⟩],[0]⟩
def law25_indexes_ft(fu:Nat):FnT:=⟨28,law25_indexes_fa.i,law25_indexes_fa.os,fun t=>law25_indexes fu t⟩
theorem dsZ(fu:Nat):Told Tryz.prog (law25_indexes_ft fu):=tk fu law25_indexes_fa abZ Tryz.func28 (by kernel_rfl) fun t=>by kernel_rfl
def lSamInt_l0(fu:Nat)(a:List (Int))(b:List (Int))(i:Int):Option (Int⊕(Unit⊕Bool)):=
 bif (decide (i<((a.length:Nat):Int))) then
  (idx? i a.length).bind fun q=>
  (a)[q]?.bind fun r=>
  (idx? i b.length).bind fun q1=>
  (b)[q1]?.bind fun r1=>
  bif (!(r==r1)) then
   some (.inr (.inr false))
  else
   some (.inl (IntKind.wrap .i64 (i+1)))
 else
  some (.inr (.inl ()))
def lSamInt_l0_it(fu:Nat)(a:List (Int))(b:List (Int))(tt:Int):Option (Unit⊕Bool):=
 iter fu (fun tt=>lSamInt_l0 fu a b tt) tt
def lSamInt(fu:Nat)(a:List (Int))(b:List (Int)):Option (Bool):=
 bif (!(((a.length:Nat):Int)==((b.length:Nat):Int))) then
  some false
 else
  (lSamInt_l0_it fu a b 0).bind fun o=>
  match o with
  |.inl s=>
   some true
  |.inr o1=>
   some o1
def lSamInt_fa:FnA:=⟨.two lf (.two (.two lf (.two lf lf)) (.two (.two lf (.one (.loop ⟨[5],⟨qL6,[]⟩⟩ true [(0,⟨[],⟨.nil,[]⟩⟩)] (.two (.two lf lf) (.two (.one (.two lf (.two lf lf))) lf))))) lf)),⟨(.cons (.p (.sl (.int .i64))) (.cons (.p (.sl (.int .i64))) .nil)),[]⟩,[⟨(.cons (.p .bool) .nil),[]⟩],[0]⟩
def lSamInt_ft(fu:Nat):FnT:=⟨27,lSamInt_fa.i,lSamInt_fa.os,fun t=>lSamInt fu t.1 t.2⟩
theorem iKZ(fu:Nat):Told Tryz.prog (lSamInt_ft fu):=tk fu lSamInt_fa abZ Tryz.func27 (by kernel_rfl) fun t=>by kernel_rfl
def law25_awake(fu:Nat):Option (Bool):=
 (law25_three fu).bind fun r=>
 (state_New fu 3 r).bind fun r1=>
 (sApp fu (r1.1,((r1.2.1,r1.2.2.1),((r1.2.2.2.1,r1.2.2.2.2.1),(r1.2.2.2.2.2.1,r1.2.2.2.2.2.2.1)))) 16 (0,(1,((UInt8.ofNat 2),((1,1),([102],((0,0),([],(0,(0,[]))))))))) [] 0).bind fun r2=>
 (sApp fu r2.1 16 (0,(2,((UInt8.ofNat 5),((r2.2.2.2.2.1,r2.2.2.2.2.2.1),([],((0,0),([],(0,(0,(List.replicate (α:=UInt8) 20 0)))))))))) [5,5] 0).bind fun r3=>
 (sPla fu r3.1 16 (0,(3,((UInt8.ofNat 4),((r2.2.2.2.2.1,r2.2.2.2.2.2.1),([],((0,0),([],(15,(30,[])))))))))).bind fun r4=>
 (sPla fu r3.1 16 (0,(3,((UInt8.ofNat 5),((r2.2.2.2.2.1,r2.2.2.2.2.2.1),([],((0,0),([],(15,(0,(List.replicate (α:=UInt8) 2 0))))))))))).bind fun r5=>
 (sPla fu r3.1 16 (0,(3,((UInt8.ofNat 5),((r2.2.2.2.2.1,r2.2.2.2.2.2.1),([],((0,0),([],(16,(0,(List.replicate (α:=UInt8) 16 0))))))))))).bind fun r6=>
 (sPla fu r3.1 16 (0,(3,((UInt8.ofNat 5),((r2.2.2.2.2.1,r2.2.2.2.2.2.1),([],((0,0),([],(50,(0,(List.replicate (α:=UInt8) 1 0))))))))))).bind fun r7=>
 Option.bind (α:=((Bool×(List (qT11)×qT37)))) (
  bif (!((IntKind.wrap .i64 ((IntKind.wrap .i64 ((IntKind.wrap .i64 ((IntKind.wrap .i64 ((IntKind.wrap .i64 ((IntKind.wrap .i64 (r1.2.2.2.2.2.2.2+r2.2.2.2.2.2.2.2.2.2.2.2.2))+r3.2.2.2.2.2.2.2.2.2.2.2.2))+r4.2))+r5.2))+r6.2))+r7.2))==0)) then
   some (true,([r3.1],(r2.2.1,(r2.2.2.1,(r2.2.2.2.1,(r2.2.2.2.2.1,(r2.2.2.2.2.2.1,(r2.2.2.2.2.2.2.1,(r2.2.2.2.2.2.2.2.1,(r2.2.2.2.2.2.2.2.2.1,(r2.2.2.2.2.2.2.2.2.2.1,(r2.2.2.2.2.2.2.2.2.2.2.1,r2.2.2.2.2.2.2.2.2.2.2.2.1))))))))))))
  else
   (law25_indexes fu r4.1.2.2.1).bind fun r8=>
   (lSamInt fu r8 [0,1]).bind fun r9=>
   bif (!r9) then
    some (true,([r3.1],(r2.2.1,(r2.2.2.1,(r2.2.2.2.1,(r2.2.2.2.2.1,(r2.2.2.2.2.2.1,(r2.2.2.2.2.2.2.1,(r2.2.2.2.2.2.2.2.1,(r2.2.2.2.2.2.2.2.2.1,(r2.2.2.2.2.2.2.2.2.2.1,(r2.2.2.2.2.2.2.2.2.2.2.1,r2.2.2.2.2.2.2.2.2.2.2.2.1))))))))))))
   else
    (law25_indexes fu r5.1.2.2.1).bind fun r10=>
    (lSamInt fu r10 [0,1]).bind fun r11=>
    bif (!r11) then
     some (true,([r3.1],(r2.2.1,(r2.2.2.1,(r2.2.2.2.1,(r2.2.2.2.2.1,(r2.2.2.2.2.2.1,(r2.2.2.2.2.2.2.1,(r2.2.2.2.2.2.2.2.1,(r2.2.2.2.2.2.2.2.2.1,(r2.2.2.2.2.2.2.2.2.2.1,(r2.2.2.2.2.2.2.2.2.2.2.1,r2.2.2.2.2.2.2.2.2.2.2.2.1))))))))))))
    else
     bif (!(((r5.1.2.2.2.length:Nat):Int)==2)) then
      some (true,([r3.1],(r2.2.1,(r2.2.2.1,(r2.2.2.2.1,(r2.2.2.2.2.1,(r2.2.2.2.2.2.1,(r2.2.2.2.2.2.2.1,(r2.2.2.2.2.2.2.2.1,(r2.2.2.2.2.2.2.2.2.1,(r2.2.2.2.2.2.2.2.2.2.1,(r2.2.2.2.2.2.2.2.2.2.2.1,r2.2.2.2.2.2.2.2.2.2.2.2.1))))))))))))
     else
      (law25_indexes fu r6.1.2.2.2).bind fun r12=>
      (lSamInt fu r12 [1]).bind fun r13=>
      bif (!r13) then
       some (true,([r3.1],(r2.2.1,(r2.2.2.1,(r2.2.2.2.1,(r2.2.2.2.2.1,(r2.2.2.2.2.2.1,(r2.2.2.2.2.2.2.1,(r2.2.2.2.2.2.2.2.1,(r2.2.2.2.2.2.2.2.2.1,(r2.2.2.2.2.2.2.2.2.2.1,(r2.2.2.2.2.2.2.2.2.2.2.1,r2.2.2.2.2.2.2.2.2.2.2.2.1))))))))))))
      else
       bif (!(((r6.1.2.2.1.length:Nat):Int)==0)) then
        some (true,([r3.1],(r2.2.1,(r2.2.2.1,(r2.2.2.2.1,(r2.2.2.2.2.1,(r2.2.2.2.2.2.1,(r2.2.2.2.2.2.2.1,(r2.2.2.2.2.2.2.2.1,(r2.2.2.2.2.2.2.2.2.1,(r2.2.2.2.2.2.2.2.2.2.1,(r2.2.2.2.2.2.2.2.2.2.2.1,r2.2.2.2.2.2.2.2.2.2.2.2.1))))))))))))
       else
        bif (!(((r7.1.2.2.2.length:Nat):Int)==1)) then
         some (true,([r3.1],(r2.2.1,(r2.2.2.1,(r2.2.2.2.1,(r2.2.2.2.2.1,(r2.2.2.2.2.2.1,(r2.2.2.2.2.2.2.1,(r2.2.2.2.2.2.2.2.1,(r2.2.2.2.2.2.2.2.2.1,(r2.2.2.2.2.2.2.2.2.2.1,(r2.2.2.2.2.2.2.2.2.2.2.1,r2.2.2.2.2.2.2.2.2.2.2.2.1))))))))))))
        else
         (idx? 0 r7.1.2.2.2.length).bind fun q=>
         (r7.1.2.2.2)[q]?.bind fun r14=>
         some ((!((r14.1==3)&&(((r14.2.1.1==0)&&(r14.2.1.2==0))&&(r14.2.2==3)))),([r3.1],(r2.2.1,(r2.2.2.1,(r2.2.2.2.1,(r2.2.2.2.2.1,(r2.2.2.2.2.2.1,(r2.2.2.2.2.2.2.1,(r2.2.2.2.2.2.2.2.1,(r2.2.2.2.2.2.2.2.2.1,(r2.2.2.2.2.2.2.2.2.2.1,(r2.2.2.2.2.2.2.2.2.2.2.1,r2.2.2.2.2.2.2.2.2.2.2.2.1))))))))))))) fun o=>
 bif o.1 then
  some false
 else
  (o.2.1)[0]?.bind fun r15=>
  (sPla fu r15 16 (0,(3,((UInt8.ofNat 6),((o.2.2.2.2.2.1,o.2.2.2.2.2.2.1),([],((0,0),([],(0,(18,[])))))))))).bind fun r16=>
  (o.2.1)[0]?.bind fun r17=>
  (sPla fu r17 16 (0,(3,((UInt8.ofNat 6),((o.2.2.2.2.2.1,o.2.2.2.2.2.2.1),([],((0,0),([],(0,(16,[])))))))))).bind fun r18=>
  (o.2.1)[0]?.bind fun r19=>
  (sApp fu r19 16 (0,(3,((UInt8.ofNat 6),((o.2.2.2.2.2.1,o.2.2.2.2.2.2.1),([],((0,0),([],(0,(16,[]))))))))) [] 0).bind fun r20=>
  (o.2.1)[0]?.bind fun r21=>
  bif ((IntKind.wrap .i64 ((IntKind.wrap .i64 (r16.2+r18.2))+r20.2.2.2.2.2.2.2.2.2.2.2.2))==0) then
   (law25_indexes fu r16.1.2.2.2).bind fun r22=>
   (lSamInt fu r22 [1]).bind fun r23=>
   bif r23 then
    bif (((r18.1.2.2.2.length:Nat):Int)==0) then
     ((List.set o.2.1 0 r20.1))[0]?.bind fun r24=>
     bif (((r24.2.2.2.2.length:Nat):Int)==1) then
      ((List.set o.2.1 0 r20.1))[0]?.bind fun r25=>
      (idx? 0 r25.2.2.2.2.length).bind fun q1=>
      (r25.2.2.2.2)[q1]?.bind fun r26=>
      some ((r26.1==2)&&(r26.2==5))
     else
      some false
    else
     some false
   else
    some false
  else
   some false
def law25_awake_fa:FnA:=⟨.two lf (.two (.reg [(0,{ids:=[100]}),(1,{md:=[0,1],fn:=1}),(5,{ids:=[101],md:=[1]})]) (.two (.reg [(1,{ids:=[102]})]) (.two (.reg [(3,{fn:=2}),(8,{ids:=[103]})]) (.two (.reg [(3,{ids:=[104]}),(5,{ids:=[105]}),(6,{md:=[0,0,1,1,0],fn:=2}),(11,{ids:=[106]})]) (.two (.reg [(4,{fn:=3}),(8,{ids:=[107]})]) (.two (.reg [(3,{ids:=[108]}),(5,{md:=[0,0,1],fn:=3}),(9,{ids:=[109]})]) (.two (.reg [(3,{ids:=[110]}),(5,{md:=[0,0,1],fn:=3}),(9,{ids:=[111]})]) (.two (.reg [(3,{ids:=[112]}),(5,{md:=[0,0,1],fn:=3}),(9,{ids:=[113]})]) (.two (.two (.join ⟨[1,4,145],⟨(.cons (.own 7 101 0 0) (.cons (.own 0 103 0 0) (.cons (.p .bool) .nil))),[(101,false,(.rows 33 qY10)),(103,false,(.vars qL9))]⟩⟩ false [] (.reg [(17,{ids:=[114],fn:=4}),(18,{ids:=[115]}),(19,{md:=[2,2],fn:=5}),(25,{ids:=[116],fn:=4}),(26,{ids:=[117]}),(27,{md:=[2,2],fn:=5}),(39,{ids:=[118],fn:=4}),(40,{ids:=[119]}),(41,{md:=[2,2],fn:=5})])) (.two lf lf)) (.two (.reg [(4,{fn:=3}),(8,{ids:=[120]})]) (.two (.reg [(4,{fn:=3}),(8,{ids:=[121]})]) (.two (.reg [(4,{fn:=2}),(9,{ids:=[122]})]) (.two (.reg [(9,{ids:=[123],fn:=4}),(10,{ids:=[124]}),(11,{md:=[2,2],fn:=5})]) lf))))))))))))),⟨.nil,[]⟩,[⟨(.cons (.p .bool) .nil),[]⟩],[0]⟩
def law25_awake_ft(fu:Nat):FnT:=⟨9,law25_awake_fa.i,law25_awake_fa.os,fun t=>law25_awake fu⟩
theorem e2Z(fu:Nat):Told Tryz.prog (law25_awake_ft fu):=tk fu law25_awake_fa (aaZ (cxZ fu) (aaZ (daZ fu) (aaZ (iCZ fu) (aaZ (fjZ fu) (aaZ (dsZ fu) (aaZ (iKZ fu) abZ)))))) Tryz.func9 (by kernel_rfl) fun t=>by kernel_rfl
def law25_StateHoles_l0(fu:Nat)(r8:qT47)(x:Int)(h:List (qT11))(h1:List (qT3))(h2:List (qT13))(h3:List (qT47))(h4:List (Int)):Option ((Int×(List (qT11)×(List (qT3)×(List (qT13)×(List (qT47)×List (Int))))))⊕((List (qT11)×(List (qT3)×(List (qT13)×(List (qT47)×List (Int))))))):=
 bif (decide (x<((r8.2.2.2.length:Nat):Int))) then
  need ((Nat.ble ((h4.length+1)*8) room)&&(Nat.ble (h4.length+1) room))<|
  some (.inl ((IntKind.wrap .i64 (x+1)),(h,(h1,(h2,(h3,(h4++[(IntKind.wrap .i64 (7+x))])))))))
 else
  some (.inr (h,(h1,(h2,(h3,h4)))))
def law25_StateHoles_l0_it(fu:Nat)(r8:qT47)(tt:(Int×(List (qT11)×(List (qT3)×(List (qT13)×(List (qT47)×List (Int))))))):Option ((List (qT11)×(List (qT3)×(List (qT13)×(List (qT47)×List (Int)))))):=
 iter fu (fun tt=>law25_StateHoles_l0 fu r8 tt.1 tt.2.1 tt.2.2.1 tt.2.2.2.1 tt.2.2.2.2.1 tt.2.2.2.2.2) tt
def law25_StateHoles_l1(fu:Nat)(r18:qT2)(at_:Int)(r:Int)(x1:Int)(h5:List (qT11))(h6:List (qT3))(h7:List (qT13))(h8:List (qT47)):Option ((Int×(List (qT11)×(List (qT3)×(List (qT13)×List (qT47)))))⊕((List (qT11)×(List (qT3)×(List (qT13)×List (qT47))))⊕Bool)):=
 bif (decide (x1<((r18.2.2.2.2.2.1.length:Nat):Int))) then
  (idx? x1 r18.2.2.2.2.2.1.length).bind fun q3=>
  (r18.2.2.2.2.2.1)[q3]?.bind fun r19=>
  bif (!((decide (x1<(IntKind.wrap .i64 (Int.tdiv (IntKind.wrap .i64 (Int.tmod at_ 2001)) (IntKind.wrap .i64 (16+r))))))==((r19.1==0)&&(r19.2==0)))) then
   some (.inr (.inr false))
  else
   some (.inl ((IntKind.wrap .i64 (x1+1)),(h5,(h6,(h7,h8)))))
 else
  some (.inr (.inl (h5,(h6,(h7,h8)))))
def law25_StateHoles_l1_it(fu:Nat)(r18:qT2)(at_:Int)(r:Int)(tt:(Int×(List (qT11)×(List (qT3)×(List (qT13)×List (qT47)))))):Option ((List (qT11)×(List (qT3)×(List (qT13)×List (qT47))))⊕Bool):=
 iter fu (fun tt=>law25_StateHoles_l1 fu r18 at_ r tt.1 tt.2.1 tt.2.2.1 tt.2.2.2.1 tt.2.2.2.2) tt
def law25_StateHoles(fu:Nat)(gl:List ((Int×Int)))(size:Int)(at_:Int)(many:Int)(more:Int):Option (Bool):=
 (kit_Pick fu size 50).bind fun r=>
 (law25_three fu).bind fun r1=>
 (state_New fu 2 r1).bind fun r2=>
 (gl)[0]?.bind fun r3=>
 (sApp fu (r2.1,((r2.2.1,r2.2.2.1),((r2.2.2.2.1,r2.2.2.2.2.1),(r2.2.2.2.2.2.1,r2.2.2.2.2.2.2.1)))) (IntKind.wrap .i64 (16+r)) (0,(1,((UInt8.ofNat 2),(r3,([102],((0,0),([],(0,(0,[]))))))))) [] 0).bind fun r4=>
 Option.bind (α:=((Bool×(List (qT11)×List (qT3))))) (
  bif (!(r2.2.2.2.2.2.2.2==0)) then
   some (true,([r4.1],[(r4.2.1,(r4.2.2.1,(r4.2.2.2.1,((r4.2.2.2.2.1,r4.2.2.2.2.2.1),(r4.2.2.2.2.2.2.1,(r4.2.2.2.2.2.2.2.1,(r4.2.2.2.2.2.2.2.2.1,(r4.2.2.2.2.2.2.2.2.2.1,(r4.2.2.2.2.2.2.2.2.2.2.1,r4.2.2.2.2.2.2.2.2.2.2.2.1)))))))))]))
  else
   some ((!(r4.2.2.2.2.2.2.2.2.2.2.2.2==0)),([r4.1],[(r4.2.1,(r4.2.2.1,(r4.2.2.2.1,((r4.2.2.2.2.1,r4.2.2.2.2.2.1),(r4.2.2.2.2.2.2.1,(r4.2.2.2.2.2.2.2.1,(r4.2.2.2.2.2.2.2.2.1,(r4.2.2.2.2.2.2.2.2.2.1,(r4.2.2.2.2.2.2.2.2.2.2.1,r4.2.2.2.2.2.2.2.2.2.2.2.1)))))))))]))) fun o=>
 bif o.1 then
  some false
 else
  (o.2.2)[0]?.bind fun r5=>
  (upto? (IntKind.wrap .u16 (1+(Int.tmod many 40))) room).bind fun m=>
  (upto? (IntKind.wrap .u16 (1+(Int.tmod many 40))) m).bind fun q=>
  need (Nat.ble (m*1) room)<|
  (o.2.1)[0]?.bind fun r6=>
  (sPla fu r6 (IntKind.wrap .i64 (16+r)) (0,(2,((UInt8.ofNat 5),(r5.2.2.2.1,([],((0,0),([],((IntKind.wrap .i64 (Int.tmod at_ 2001)),(0,(List.replicate (α:=UInt8) q 0))))))))))).bind fun r7=>
  need (!(decide ((IntKind.wrap .i64 (16+r))=0)))<|
  need (!(decide ((IntKind.wrap .i64 (16+r))=0)))<|
  Option.bind (α:=((Bool×(List (qT11)×(List (qT3)×(List (qT13)×List (qT47))))))) (
   bif (!(r7.2==0)) then
    some (true,(o.2.1,(o.2.2,([(0,(2,((UInt8.ofNat 5),(r5.2.2.2.1,([],((0,0),([],((IntKind.wrap .i64 (Int.tmod at_ 2001)),(0,(List.replicate (α:=UInt8) q 0))))))))))],[r7.1]))))
   else
    bif (!(((r7.1.2.2.2.length:Nat):Int)==(IntKind.wrap .i64 ((IntKind.wrap .i64 ((IntKind.wrap .i64 (Int.tdiv (IntKind.wrap .i64 ((IntKind.wrap .i64 ((IntKind.wrap .i64 (Int.tmod at_ 2001))+(((List.replicate (α:=UInt8) q 0).length:Nat):Int)))-1)) (IntKind.wrap .i64 (16+r))))-(IntKind.wrap .i64 (Int.tdiv (IntKind.wrap .i64 (Int.tmod at_ 2001)) (IntKind.wrap .i64 (16+r))))))+1)))) then
     some (true,(o.2.1,(o.2.2,([(0,(2,((UInt8.ofNat 5),(r5.2.2.2.1,([],((0,0),([],((IntKind.wrap .i64 (Int.tmod at_ 2001)),(0,(List.replicate (α:=UInt8) q 0))))))))))],[r7.1]))))
    else
     some ((!(((r7.1.2.2.1.length:Nat):Int)==0)),(o.2.1,(o.2.2,([(0,(2,((UInt8.ofNat 5),(r5.2.2.2.1,([],((0,0),([],((IntKind.wrap .i64 (Int.tmod at_ 2001)),(0,(List.replicate (α:=UInt8) q 0))))))))))],[r7.1]))))) fun o1=>
  bif o1.1 then
   some false
  else
   (o1.2.2.2.2)[0]?.bind fun r8=>
   (law25_StateHoles_l0_it fu r8 (0,(o1.2.1,(o1.2.2.1,(o1.2.2.2.1,(o1.2.2.2.2,[])))))).bind fun o2=>
   (o2.1)[0]?.bind fun r9=>
   (o2.2.2.1)[0]?.bind fun r10=>
   (sApp fu r9 (IntKind.wrap .i64 (16+r)) r10 o2.2.2.2.2 0).bind fun r11=>
   (o2.1)[0]?.bind fun r12=>
   Option.bind (α:=((Bool×(List (qT11)×(List (qT3)×(List (qT13)×List (qT47))))))) (
    bif (!(r11.2.2.2.2.2.2.2.2.2.2.2.2==0)) then
     some (true,((List.set o2.1 0 r11.1),(o2.2.1,(o2.2.2.1,o2.2.2.2.1))))
    else
     ((List.set o2.1 0 r11.1))[0]?.bind fun r13=>
     bif (!(r13.2.1.2==((o2.2.2.2.2.length:Nat):Int))) then
      some (true,((List.set o2.1 0 r11.1),(o2.2.1,(o2.2.2.1,o2.2.2.2.1))))
     else
      ((List.set o2.1 0 r11.1))[0]?.bind fun r14=>
      bif (decide (((r14.2.1.1.length:Nat):Int)<2)) then
       some (true,((List.set o2.1 0 r11.1),(o2.2.1,(o2.2.2.1,o2.2.2.2.1))))
      else
       ((List.set o2.1 0 r11.1))[0]?.bind fun r15=>
       (idx? 1 r15.2.1.1.length).bind fun q1=>
       (r15.2.1.1)[q1]?.bind fun r16=>
       some ((!(((r16.2.2.2.2.2.1.length:Nat):Int)==(IntKind.wrap .i64 ((IntKind.wrap .i64 (Int.tdiv (IntKind.wrap .i64 ((IntKind.wrap .i64 ((IntKind.wrap .i64 (Int.tmod at_ 2001))+(((List.replicate (α:=UInt8) q 0).length:Nat):Int)))-1)) (IntKind.wrap .i64 (16+r))))+1)))),((List.set o2.1 0 r11.1),(o2.2.1,(o2.2.2.1,o2.2.2.2.1))))) fun o3=>
   bif o3.1 then
    some false
   else
    (o3.2.1)[0]?.bind fun r17=>
    (idx? 1 r17.2.1.1.length).bind fun q2=>
    (r17.2.1.1)[q2]?.bind fun r18=>
    (law25_StateHoles_l1_it fu r18 at_ r (0,o3.2)).bind fun o4=>
    match o4 with
    |.inl s=>
     (s.2.1)[0]?.bind fun r20=>
     (s.2.2.1)[0]?.bind fun r21=>
     (s.2.2.1)[0]?.bind fun r22=>
     (s.2.2.1)[0]?.bind fun r23=>
     ((List.set s.2.2.1 0 (0,(3,((UInt8.ofNat 6),(r20.2.2.2.1,([],((0,0),([],(0,((IntKind.wrap .i64 ((IntKind.wrap .i64 (r21.2.2.2.2.2.2.2.1+((r22.2.2.2.2.2.2.2.2.2.length:Nat):Int)))+(IntKind.wrap .i64 more))),[])))))))))))[0]?.bind fun r24=>
     bif (decide (r24.2.2.2.2.2.2.2.2.1>65536)) then
      (law25_awake fu).bind fun r25=>
      some r25
     else
      (s.1)[0]?.bind fun r26=>
      ((List.set s.2.2.1 0 (0,(3,((UInt8.ofNat 6),(r20.2.2.2.1,([],((0,0),([],(0,((IntKind.wrap .i64 ((IntKind.wrap .i64 (r21.2.2.2.2.2.2.2.1+((r22.2.2.2.2.2.2.2.2.2.length:Nat):Int)))+(IntKind.wrap .i64 more))),[])))))))))))[0]?.bind fun r27=>
      (sPla fu r26 (IntKind.wrap .i64 (16+r)) r27).bind fun r28=>
      (s.2.2.2)[0]?.bind fun r29=>
      (s.1)[0]?.bind fun r30=>
      ((List.set s.2.2.1 0 (0,(3,((UInt8.ofNat 6),(r20.2.2.2.1,([],((0,0),([],(0,((IntKind.wrap .i64 ((IntKind.wrap .i64 (r21.2.2.2.2.2.2.2.1+((r22.2.2.2.2.2.2.2.2.2.length:Nat):Int)))+(IntKind.wrap .i64 more))),[])))))))))))[0]?.bind fun r31=>
      (sApp fu r30 (IntKind.wrap .i64 (16+r)) r31 [] 0).bind fun r32=>
      bif (r28.2==0) then
       bif (r32.2.2.2.2.2.2.2.2.2.2.2.2==0) then
        ((List.set s.2.2.2 0 r28.1))[0]?.bind fun r33=>
        bif (((r33.2.2.2.length:Nat):Int)==0) then
         (s.1)[0]?.bind fun r34=>
         bif (r32.1.2.1.2==r34.2.1.2) then
          (idx? 1 r32.1.2.1.1.length).bind fun q4=>
          (r32.1.2.1.1)[q4]?.bind fun r35=>
          ((List.set s.2.2.1 0 (0,(3,((UInt8.ofNat 6),(r20.2.2.2.1,([],((0,0),([],(0,((IntKind.wrap .i64 ((IntKind.wrap .i64 (r21.2.2.2.2.2.2.2.1+((r22.2.2.2.2.2.2.2.2.2.length:Nat):Int)))+(IntKind.wrap .i64 more))),[])))))))))))[0]?.bind fun r36=>
          need (!(decide ((IntKind.wrap .i64 (16+r))=0)))<|
          bif (((r35.2.2.2.2.2.1.length:Nat):Int)==(IntKind.wrap .i64 (Int.tdiv (IntKind.wrap .i64 ((IntKind.wrap .i64 (r36.2.2.2.2.2.2.2.2.1+(IntKind.wrap .i64 (16+r))))-1)) (IntKind.wrap .i64 (16+r))))) then
           bif (((r32.1.2.2.2.2.length:Nat):Int)==0) then
            (law25_awake fu).bind fun r37=>
            some r37
           else
            some false
          else
           some false
         else
          some false
        else
         some false
       else
        some false
      else
       some false
    |.inr o5=>
     some o5
def law25_StateHoles_fa:FnA:=⟨.two lf (.two (.reg [(1,{})]) (.two (.reg [(0,{ids:=[100],fn:=1}),(1,{md:=[0,1],fn:=2}),(5,{ids:=[101],md:=[1]})]) (.two (.reg [(4,{fn:=3}),(9,{ids:=[102],md:=[1]})]) (.two (.two (.join ⟨[10,12,48],⟨(.cons (.own 7 101 0 0) (.cons (.own 11 102 0 0) (.cons (.p .bool) .nil))),[(101,false,(.rows 33 qY10)),(102,false,(.rows 43 qY1))]⟩⟩ false [] lf) (.two lf lf)) (.two (.reg [(8,{ids:=[103]}),(10,{ids:=[104],md:=[1]})]) (.two (.reg [(3,{fn:=4}),(7,{ids:=[105],md:=[1]})]) (.two lf (.two (.two (.join ⟨[10,12,14,15,96],⟨(.cons (.own 7 101 0 0) (.cons (.own 11 102 0 0) (.cons (.own 12 104 0 0) (.cons (.own 14 105 0 0) (.cons (.p .bool) .nil))))),[(101,false,(.rows 33 qY10)),(102,false,(.rows 43 qY1)),(104,false,(.rows 48 qY14)),(105,false,qB46)]⟩⟩ false [] lf) (.two lf lf)) (.two lf (.two (.two lf (.one (.pre (.ownNil 19 3 106) (.loop ⟨[10,12,14,15,19,100],⟨(.cons (.own 7 101 0 0) (.cons (.own 11 102 0 0) (.cons (.own 12 104 0 0) (.cons (.own 14 105 0 0) (.cons (.slf 1 106) qL6))))),[(101,false,(.rows 33 qY10)),(102,false,(.rows 43 qY1)),(104,false,(.rows 48 qY14)),(105,false,qB46),(106,false,(.rows 3 (.int .i64)))]⟩⟩ false [(0,⟨[10,12,14,15,19],⟨(.cons (.own 7 101 0 0) (.cons (.own 11 102 0 0) (.cons (.own 12 104 0 0) (.cons (.own 14 105 0 0) (.cons (.slf 1 106) .nil))))),[(101,false,(.rows 33 qY10)),(102,false,(.rows 43 qY1)),(104,false,(.rows 48 qY14)),(105,false,qB46),(106,false,(.rows 3 (.int .i64)))]⟩⟩)] (.two lf (.two lf (.two (.one (.two lf (.reg [(3,{ids:=[107]}),(4,{ids:=[108]})]))) lf))))))) (.two (.reg [(4,{md:=[0,0,0,1,0],fn:=3})]) (.two (.two (.join ⟨[10,12,14,15,146],⟨(.cons (.own 7 101 0 0) (.cons (.own 11 102 0 0) (.cons (.own 12 104 0 0) (.cons (.own 14 105 0 0) (.cons (.p .bool) .nil))))),[(101,false,(.rows 33 qY10)),(102,false,(.rows 43 qY1)),(104,false,(.rows 48 qY14)),(105,false,qB46)]⟩⟩ false [] lf) (.two lf lf)) (.two (.two lf (.one (.loop ⟨[10,12,14,15,154],⟨(.cons (.own 7 101 0 0) (.cons (.own 11 102 0 0) (.cons (.own 12 104 0 0) (.cons (.own 14 105 0 0) qL6)))),[(101,false,(.rows 33 qY10)),(102,false,(.rows 43 qY1)),(104,false,(.rows 48 qY14)),(105,false,qB46)]⟩⟩ true [(2,⟨[10,12,14,15],⟨(.cons (.own 7 101 0 0) (.cons (.own 11 102 0 0) (.cons (.own 12 104 0 0) (.cons (.own 14 105 0 0) .nil)))),[(101,false,(.rows 33 qY10)),(102,false,(.rows 43 qY1)),(104,false,(.rows 48 qY14)),(105,false,qB46)]⟩⟩)] (.two lf (.two lf (.two (.one (.two (.reg [(3,{ids:=[109]})]) (.two lf (.two lf lf)))) lf)))))) (.two lf (.two (.two lf (.two (.two (.reg [(0,{fn:=5})]) lf) lf)) (.two (.reg [(3,{fn:=4})]) (.two (.reg [(3,{fn:=3}),(8,{ids:=[110],md:=[1]}),(9,{ids:=[111],md:=[1]})]) (.two (.reg [(45,{fn:=5})]) lf)))))))))))))))))),⟨(.cons (.pt qY5) (.cons (.p (.int .i64)) (.cons (.p (.int .u16)) (.cons (.p (.int .u16)) (.cons (.p (.int .u16)) .nil))))),[]⟩,[⟨(.cons (.p .bool) .nil),[]⟩],[0]⟩
def law25_StateHoles_ft(fu:Nat):FnT:=⟨3,law25_StateHoles_fa.i,law25_StateHoles_fa.os,u5 (law25_StateHoles fu)⟩
theorem dhZ(fu:Nat):∀t,evFG Tryz.prog [kit_Pick_ft fu,law25_three_ft fu,state_New_ft fu,sApp_ft fu,sPla_ft fu,law25_awake_ft fu] fu 0 Tryz.f3 law25_StateHoles_fa t=(law25_StateHoles_ft fu).spec t:=fun t=>by kernel_rfl
theorem law25_StateHoles_told(fu:Nat):ToldG Tryz.prog 0 (law25_StateHoles_ft fu):=oAZ (aaZ (hcZ fu) (aaZ (cxZ fu) (aaZ (daZ fu) (aaZ (iCZ fu) (aaZ (fjZ fu) (aaZ (e2Z fu) abZ)))))) mixed Tryz.func3 (by kernel_rfl) (dhZ fu)
end
end Go.Ab.D
