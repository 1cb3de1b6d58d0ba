/- Functions of the program as plain Lean functions: each equation is checked by the kernel; what is told of a function follows from it. -/
import Derived.Test.YtkfgjhbbdoljiaaGreatLinearWrongD3
set_option linter.all false
set_option maxRecDepth 100000
set_option maxHeartbeats 4000000
namespace Go.Ab.D
open Go.Proofs
open Go Go.Ab
noncomputable section
def lJud_l0(fu:Nat)(h2:List (qT3))(x1:Int)(h5:List (qT3))(h6:List (qT15))(h7:List (Bool))(h8:List (qT1))(h9:Int)(h10:List (List (UInt8)))(h11:List (qT15)):Option ((Int×(List (qT3)×(List (qT15)×(List (Bool)×(List (qT1)×(Int×(List (List (UInt8))×List (qT15))))))))⊕((List (qT3)×(List (qT15)×List (qT15))))):=
 bif (decide (x1<((h2.length:Nat):Int))) then
  (lstanex fu (h7,((h8,h9),h10)) h5 x1).bind fun r4=>
  Option.bind (α:=((Bool×(List (qT3)×(List (qT15)×(List (Bool)×(List (qT1)×(Int×(List (List (UInt8))×(List (Bool)×(List (qT1)×(Int×(List (List (UInt8))×List (qT15)))))))))))))) (
   bif r4.2.2.2.2 then
    (sConFun fu h6 r4.1 r4.2.1 r4.2.2.1 r4.2.2.2.1).bind fun r5=>
    some ((!r5.1),(h5,(r5.2.1,(h7,(h8,(h9,(h10,(r5.2.2.1,(r5.2.2.2.1,(r5.2.2.2.2.1,(r5.2.2.2.2.2,h11)))))))))))
   else
    some (false,(h5,(h6,(h7,(h8,(h9,(h10,(r4.1,(r4.2.1,(r4.2.2.1,(r4.2.2.2.1,h11)))))))))))) fun o1=>
  Option.bind (α:=((List (qT3)×(List (qT15)×(List (Bool)×(List (qT1)×(Int×(List (List (UInt8))×List (qT15))))))))) (
   bif o1.1 then
    need ((Nat.ble ((o1.2.2.1.length+1)*80) room)&&(Nat.ble (o1.2.2.1.length+1) room))<|
    some (o1.2.1,((o1.2.2.1++[(o1.2.2.2.2.2.2.2.1,((o1.2.2.2.2.2.2.2.2.1,o1.2.2.2.2.2.2.2.2.2.1),o1.2.2.2.2.2.2.2.2.2.2.1))]),(o1.2.2.2.1,(o1.2.2.2.2.1,(o1.2.2.2.2.2.1,(o1.2.2.2.2.2.2.1,o1.2.2.2.2.2.2.2.2.2.2.2))))))
   else
    some (o1.2.1,(o1.2.2.1,(o1.2.2.2.1,(o1.2.2.2.2.1,(o1.2.2.2.2.2.1,(o1.2.2.2.2.2.2.1,o1.2.2.2.2.2.2.2.2.2.2.2))))))) fun o2=>
  some (.inl ((IntKind.wrap .i64 (x1+1)),o2))
 else
  some (.inr (h5,(h6,h11)))
def lJud_l0_it(fu:Nat)(h2:List (qT3))(tt:(Int×(List (qT3)×(List (qT15)×(List (Bool)×(List (qT1)×(Int×(List (List (UInt8))×List (qT15))))))))):Option ((List (qT3)×(List (qT15)×List (qT15)))):=
 iter fu (fun tt=>lJud_l0 fu h2 tt.1 tt.2.1 tt.2.2.1 tt.2.2.2.1 tt.2.2.2.2.1 tt.2.2.2.2.2.1 tt.2.2.2.2.2.2.1 tt.2.2.2.2.2.2.2) tt
def lJud_l1(fu:Nat)(h1:List (qT15))(x:Int)(h2:List (qT3))(h3:List (qT15))(h4:List (qT15)):Option ((Int×(List (qT3)×(List (qT15)×List (qT15))))⊕((List (qT3)×List (qT15)))):=
 bif (decide (x<((h1.length:Nat):Int))) then
  (idx? x h4.length).bind fun q1=>
  (h4)[q1]?.bind fun r3=>
  (lJud_l0_it fu h2 (0,(h2,(h3,(r3.1,(r3.2.1.1,(r3.2.1.2,(r3.2.2,h4)))))))).bind fun o3=>
  some (.inl ((IntKind.wrap .i64 (x+1)),o3))
 else
  some (.inr (h2,h3))
def lJud_l1_it(fu:Nat)(h1:List (qT15))(tt:(Int×(List (qT3)×(List (qT15)×List (qT15))))):Option ((List (qT3)×List (qT15))):=
 iter fu (fun tt=>lJud_l1 fu h1 tt.1 tt.2.1 tt.2.2.1 tt.2.2.2) tt
def lJud_l2(fu:Nat)(most:Int)(h:List (qT3))(h1:List (qT15)):Option ((List (qT3)×List (qT15))⊕(Unit⊕(Bool×Int))):=
 bif (decide (((h1.length:Nat):Int)>0)) then
  (sConFun2 fu h1 h).bind fun r2=>
  bif r2.1 then
   some (.inr (.inr (true,0)))
  else
   bif (decide (((h1.length:Nat):Int)>most)) then
    some (.inr (.inr (false,5)))
   else
    (lJud_l1_it fu h1 (0,(r2.2,([],h1)))).bind fun o4=>
    some (.inl o4)
 else
  some (.inr (.inl ()))
def lJud_l2_it(fu:Nat)(most:Int)(tt:(List (qT3)×List (qT15))):Option (Unit⊕(Bool×Int)):=
 iter fu (fun tt=>lJud_l2 fu most tt.1 tt.2) tt
def lJud(fu:Nat)(l:List (qT3))(most:Int):Option ((Bool×Int)):=
 (lRig fu l).bind fun r=>
 bif (!r) then
  some (false,270)
 else
  Option.bind (α:=((Bool×List (qT3)))) (
   bif (decide (most<1)) then
    some (true,l)
   else
    some ((decide (most>1000)),l)) fun o=>
  bif o.1 then
   some (false,2)
  else
   (upto? ((o.2.length:Nat):Int) room).bind fun m=>
   (upto? ((o.2.length:Nat):Int) m).bind fun q=>
   need (Nat.ble (m*1) room)<|
   (model_New fu).bind fun r1=>
   (lJud_l2_it fu most (o.2,[((List.replicate (α:=Bool) q false),((r1.2.1,r1.1),r1.2.2))])).bind fun o5=>
   match o5 with
   |.inl s=>
    some (false,0)
   |.inr o6=>
    some o6
def lJud_fa:FnA:=⟨.two (.reg [(0,{ids:=[100]})]) (.two (.one (.two (.reg [(1,{})]) (.two lf (.two (.join ⟨[2,19],⟨qL44,[(100,false,qB41)]⟩⟩ false [] lf) (.two lf lf))))) (.two (.reg [(2,{ids:=[101]}),(3,{ids:=[102,103],fn:=1}),(5,{ids:=[104]})]) (.two (.one (.loop ⟨[2,6],⟨(.cons (.own 0 100 0 0) (.cons (.slf 4 104) .nil)),[(100,false,qB41),(104,false,(.rows 74 qY21))]⟩⟩ true [(1,⟨[],⟨.nil,[]⟩⟩)] (.two (.two lf lf) (.one (.two lf (.two (.one (.two (.reg [(2,{sh:=[100],md:=[1,0],fn:=2})]) (.two lf (.two lf (.two lf lf))))) (.two lf (.two (.two lf (.one (.pre (.ownNil 8 74 105) (.loop ⟨[2,8,45,47],⟨(.cons (.own 0 100 0 0) (.cons (.slf 4 105) (.cons (.slf 4 104) qL6))),[(100,false,qB41),(105,false,(.rows 74 qY21)),(104,true,(.rows 74 qY21))]⟩⟩ false [(4,⟨[2,8],⟨(.cons (.own 0 100 0 0) (.cons (.slf 4 105) .nil)),[(100,false,qB41),(105,false,(.rows 74 qY21))]⟩⟩)] (.two lf (.two lf (.two (.one (.two (.reg [(2,{ids:=[106]})]) (.two lf (.one (.loop ⟨[2,8,10,45,53],⟨(.cons (.own 0 100 0 0) (.cons (.slf 4 105) (.cons (.own 0 106 0 0) (.cons (.slf 4 104) qL6)))),[(100,false,qB41),(105,false,(.rows 74 qY21)),(106,false,qB43),(104,true,(.rows 74 qY21))]⟩⟩ false [(6,⟨[2,8,45],⟨(.cons (.own 0 100 0 0) (.cons (.slf 4 105) (.cons (.slf 4 104) .nil))),[(100,false,qB41),(105,false,(.rows 74 qY21)),(104,true,(.rows 74 qY21))]⟩⟩)] (.two lf (.two lf (.two (.one (.two lf (.two (.reg [(3,{fn:=3}),(7,{ids:=[107]})]) (.two lf (.two (.join ⟨[2,8,10,12,45,70],⟨(.cons (.own 0 100 0 0) (.cons (.slf 4 105) (.cons (.own 0 106 0 0) (.cons (.own 0 107 0 0) (.cons (.slf 4 104) (.cons (.p .bool) .nil)))))),[(100,false,qB41),(105,false,(.rows 74 qY21)),(106,false,qB43),(107,false,qB43),(104,true,(.rows 74 qY21))]⟩⟩ false [] (.reg [(4,{sh:=[105,107],fn:=4})])) (.join ⟨[2,8,10,45],⟨(.cons (.own 0 100 0 0) (.cons (.slf 4 109) (.cons (.own 0 106 0 0) (.cons (.slf 4 104) .nil)))),[(100,false,qB41),(109,false,(.rows 74 qY21)),(106,false,qB43),(104,true,(.rows 74 qY21))]⟩⟩ false [] (.two (.reg [(2,{ids:=[108]}),(3,{ids:=[109]})]) lf))))))) lf)))))))) lf))))))) lf)))))))) lf))),⟨(.cons (.p (.sl qY2)) qL6),[]⟩,[⟨(.cons (.p .bool) qL6),[]⟩],[0,0]⟩
def lJud_ft(fu:Nat):FnT:=⟨13,lJud_fa.i,lJud_fa.os,fun t=>lJud fu t.1 t.2⟩
theorem f0Z(fu:Nat):Told Tryz.prog (lJud_ft fu):=tk fu lJud_fa (aaZ (cRZ fu) (aaZ (crZ fu) (aaZ (hMZ fu) (aaZ (eUZ fu) (aaZ (ikZ fu) acZ))))) Tryz.func13 (by kernel_rfl) fun t=>by kernel_rfl
def law28_past(fu:Nat)(client:Int)(xid:Int)(op:Int)(begin:Int)(end_:Int)(e:Int)(h:(Int×Int)):Option (qT3):=
 (law28_root fu).bind fun r=>
 (byte? op).bind fun c=>
 bif (decide (end_>0)) then
  some ((client,(xid,(c,(r,([102],((0,0),([],(0,(0,[]))))))))),((client,(xid,(e,(h,(false,(0,([],([],(false,0))))))))),(begin,end_)))
 else
  some ((client,(xid,(c,(r,([102],((0,0),([],(0,(0,[]))))))))),((0,(0,(0,((0,0),(false,(0,([],([],(false,0))))))))),(begin,end_)))
def law28_past_fa:FnA:=⟨.two (.reg [(0,{ids:=[100]}),(1,{ids:=[101],md:=[1]})]) (.two (.reg [(3,{}),(8,{ids:=[102],md:=[1]})]) (.two (.two lf lf) lf)),⟨(.cons (.p (.int .i64)) (.cons (.p (.int .i64)) (.cons (.p (.int .u8)) (.cons (.p (.int .i64)) (.cons (.p (.int .i64)) (.cons (.p (.int .i64)) (.cons (.p qY8) .nil))))))),[]⟩,[⟨(.cons (.p qY2) .nil),[]⟩],[0]⟩
def law28_past_ft(fu:Nat):FnT:=⟨9,law28_past_fa.i,law28_past_fa.os,u7 (law28_past fu)⟩
theorem gcZ(fu:Nat):Told Tryz.prog (law28_past_ft fu):=tk fu law28_past_fa (aaZ (cSZ fu) acZ) Tryz.func9 (by kernel_rfl) fun t=>by kernel_rfl
def law28_judged(fu:Nat)(l:List (qT3)):Option (Int):=
 (lJud fu l 100).bind fun r=>
 bif (!(r.2==0)) then
  some (IntKind.wrap .i64 (10+r.2))
 else
  bif r.1 then
   some 1
  else
   some 0
def law28_judged_fa:FnA:=⟨.two lf (.two (.reg [(1,{})]) (.two (.one (.two lf (.two lf (.two lf (.two lf lf))))) lf)),⟨(.cons (.p (.sl qY2)) .nil),[]⟩,[⟨qL6,[]⟩],[0]⟩
def law28_judged_ft(fu:Nat):FnT:=⟨11,law28_judged_fa.i,law28_judged_fa.os,fun t=>law28_judged fu t⟩
theorem eAZ(fu:Nat):Told Tryz.prog (law28_judged_ft fu):=tk fu law28_judged_fa (aaZ (f0Z fu) acZ) Tryz.func11 (by kernel_rfl) fun t=>by kernel_rfl
def law28_awake(fu:Nat):Option (Bool):=
 (law28_past fu 0 1 2 1 4 0 (2,1)).bind fun r=>
 (law28_past fu 1 1 1 2 3 0 (2,1)).bind fun r1=>
 (law28_past fu 1 1 1 2 3 171 (0,0)).bind fun r2=>
 (law28_past fu 0 1 2 1 0 0 (0,0)).bind fun r3=>
 Option.bind (α:=((Bool×(Int×(Int×(Int×(Int×(List (qT3)×List (qT3))))))))) (
  (byte? ((r.1.2.2.1.toNat:Nat):Int)).bind fun c=>
  (byte? ((r1.1.2.2.1.toNat:Nat):Int)).bind fun c1=>
  (law28_judged fu [((r.1.1,(r.1.2.1,(c,r.1.2.2.2))),r.2),((r1.1.1,(r1.1.2.1,(c1,r1.1.2.2.2))),r1.2)]).bind fun r4=>
  bif (r4==1) then
   (byte? ((r.1.2.2.1.toNat:Nat):Int)).bind fun c2=>
   (byte? ((r1.1.2.2.1.toNat:Nat):Int)).bind fun c3=>
   (lOrd fu [((r.1.1,(r.1.2.1,(c2,r.1.2.2.2))),r.2),((r1.1.1,(r1.1.2.1,(c3,r1.1.2.2.2))),r1.2)] [0,1]).bind fun r5=>
   bif r5 then
    (byte? ((r.1.2.2.1.toNat:Nat):Int)).bind fun c4=>
    (byte? ((r2.1.2.2.1.toNat:Nat):Int)).bind fun c5=>
    (law28_judged fu [((r.1.1,(r.1.2.1,(c4,r.1.2.2.2))),r.2),((r2.1.1,(r2.1.2.1,(c5,r2.1.2.2.2))),r2.2)]).bind fun r6=>
    bif (r6==1) then
     (byte? ((r.1.2.2.1.toNat:Nat):Int)).bind fun c6=>
     (byte? ((r2.1.2.2.1.toNat:Nat):Int)).bind fun c7=>
     (lOrd fu [((r.1.1,(r.1.2.1,(c6,r.1.2.2.2))),r.2),((r2.1.1,(r2.1.2.1,(c7,r2.1.2.2.2))),r2.2)] [1,0]).bind fun r7=>
     bif r7 then
      (byte? ((r.1.2.2.1.toNat:Nat):Int)).bind fun c8=>
      (byte? ((r2.1.2.2.1.toNat:Nat):Int)).bind fun c9=>
      (lOrd fu [((r.1.1,(r.1.2.1,(c8,r.1.2.2.2))),r.2),((r2.1.1,(r2.1.2.1,(c9,r2.1.2.2.2))),r2.2)] [0,1]).bind fun r8=>
      some ((!r8),(2,(1,(0,(0,([r],[r3]))))))
     else
      some (false,(2,(1,(0,(0,([r],[r3]))))))
    else
     some (false,(2,(1,(0,(0,([r],[r3]))))))
   else
    some (false,(2,(1,(0,(0,([r],[r3]))))))
  else
   some (false,(2,(1,(0,(0,([r],[r3]))))))) fun o=>
 Option.bind (α:=((Bool×(Int×(Int×(Int×(Int×List (qT3)))))))) (
  (o.2.2.2.2.2.1)[0]?.bind fun r9=>
  (law28_past fu 1 1 1 5 6 171 (o.2.2.2.1,o.2.2.2.2.1)).bind fun r10=>
  (byte? ((r9.1.2.2.1.toNat:Nat):Int)).bind fun c10=>
  (byte? ((r10.1.2.2.1.toNat:Nat):Int)).bind fun c11=>
  (law28_judged fu [((r9.1.1,(r9.1.2.1,(c10,r9.1.2.2.2))),r9.2),((r10.1.1,(r10.1.2.1,(c11,r10.1.2.2.2))),r10.2)]).bind fun r11=>
  bif (r11==0) then
   (o.2.2.2.2.2.1)[0]?.bind fun r12=>
   (law28_past fu 1 1 2 2 3 0 (o.2.1,o.2.2.1)).bind fun r13=>
   (byte? ((r12.1.2.2.1.toNat:Nat):Int)).bind fun c12=>
   (byte? ((r13.1.2.2.1.toNat:Nat):Int)).bind fun c13=>
   (law28_judged fu [((r12.1.1,(r12.1.2.1,(c12,r12.1.2.2.2))),r12.2),((r13.1.1,(r13.1.2.1,(c13,r13.1.2.2.2))),r13.2)]).bind fun r14=>
   bif (r14==0) then
    (o.2.2.2.2.2.1)[0]?.bind fun r15=>
    (law28_past fu 1 1 2 2 3 172 (o.2.2.2.1,o.2.2.2.2.1)).bind fun r16=>
    (byte? ((r15.1.2.2.1.toNat:Nat):Int)).bind fun c14=>
    (byte? ((r16.1.2.2.1.toNat:Nat):Int)).bind fun c15=>
    (law28_judged fu [((r15.1.1,(r15.1.2.1,(c14,r15.1.2.2.2))),r15.2),((r16.1.1,(r16.1.2.1,(c15,r16.1.2.2.2))),r16.2)]).bind fun r17=>
    some ((r17==1),(o.2.1,(o.2.2.1,(o.2.2.2.1,(o.2.2.2.2.1,o.2.2.2.2.2.2)))))
   else
    some (false,(o.2.1,(o.2.2.1,(o.2.2.2.1,(o.2.2.2.2.1,o.2.2.2.2.2.2)))))
  else
   some (false,(o.2.1,(o.2.2.1,(o.2.2.2.1,(o.2.2.2.2.1,o.2.2.2.2.2.2)))))) fun o1=>
 bif o.1 then
  bif o1.1 then
   (o1.2.2.2.2.2)[0]?.bind fun r18=>
   (law28_past fu 1 1 1 5 6 0 (o1.2.1,o1.2.2.1)).bind fun r19=>
   (byte? ((r18.1.2.2.1.toNat:Nat):Int)).bind fun c16=>
   (byte? ((r19.1.2.2.1.toNat:Nat):Int)).bind fun c17=>
   (law28_judged fu [((r18.1.1,(r18.1.2.1,(c16,r18.1.2.2.2))),r18.2),((r19.1.1,(r19.1.2.1,(c17,r19.1.2.2.2))),r19.2)]).bind fun r20=>
   bif (r20==1) then
    (o1.2.2.2.2.2)[0]?.bind fun r21=>
    (law28_past fu 1 1 1 5 6 171 (o1.2.2.2.1,o1.2.2.2.2.1)).bind fun r22=>
    (byte? ((r21.1.2.2.1.toNat:Nat):Int)).bind fun c18=>
    (byte? ((r22.1.2.2.1.toNat:Nat):Int)).bind fun c19=>
    (law28_judged fu [((r21.1.1,(r21.1.2.1,(c18,r21.1.2.2.2))),r21.2),((r22.1.1,(r22.1.2.1,(c19,r22.1.2.2.2))),r22.2)]).bind fun r23=>
    some (r23==1)
   else
    some false
  else
   some false
 else
  some false
def law28_awake_fa:FnA:=⟨.two lf (.two (.reg [(2,{ids:=[100]}),(3,{ids:=[101]})]) (.two (.reg [(1,{}),(2,{ids:=[102],md:=[1]})]) (.two (.reg [(1,{}),(3,{}),(4,{ids:=[103],md:=[1]}),(5,{ids:=[104],md:=[1]})]) (.two (.reg [(1,{}),(2,{ids:=[105],md:=[1]})]) (.two (.join ⟨[1,2,3,6,7],⟨(.cons (.own 0 100 0 0) (.cons (.own 0 101 0 0) (.cons (.own 25 102 0 0) (.cons (.own 25 105 0 0) (.cons (.p .bool) .nil))))),[(100,false,(.vars qL38)),(101,false,(.vars qL38)),(102,false,(.rows 33 qY2)),(105,false,(.rows 33 qY2))]⟩⟩ false [] (.reg [(2,{ids:=[106]}),(3,{md:=[2],fn:=1}),(8,{ids:=[107]}),(9,{ids:=[108]}),(10,{md:=[2,2],fn:=2}),(15,{ids:=[109]}),(16,{md:=[2],fn:=1}),(22,{ids:=[110]}),(23,{ids:=[111]}),(24,{md:=[2,2],fn:=2}),(29,{ids:=[112]}),(30,{ids:=[113]}),(31,{md:=[2,2],fn:=2})])) (.two (.join ⟨[1,2,6,8],⟨(.cons (.own 0 100 0 0) (.cons (.own 0 101 0 0) (.cons (.own 25 105 0 0) (.cons (.p .bool) .nil)))),[(100,false,(.vars qL38)),(101,false,(.vars qL38)),(105,false,(.rows 33 qY2))]⟩⟩ false [] (.reg [(2,{}),(3,{ids:=[114]}),(4,{md:=[2],fn:=1}),(9,{}),(10,{ids:=[115]}),(11,{md:=[2],fn:=1}),(17,{}),(18,{ids:=[116]}),(19,{md:=[2],fn:=1})])) (.two (.reg [(7,{}),(8,{ids:=[117]}),(9,{md:=[2],fn:=1}),(15,{}),(16,{ids:=[118]}),(17,{md:=[2],fn:=1})]) lf))))))),⟨.nil,[]⟩,[⟨(.cons (.p .bool) .nil),[]⟩],[0]⟩
def law28_awake_ft(fu:Nat):FnT:=⟨14,law28_awake_fa.i,law28_awake_fa.os,fun t=>law28_awake fu⟩
theorem b9Z(fu:Nat):Told Tryz.prog (law28_awake_ft fu):=tk fu law28_awake_fa (aaZ (gcZ fu) (aaZ (eAZ fu) (aaZ (fVZ fu) acZ))) Tryz.func14 (by kernel_rfl) fun t=>by kernel_rfl
def law28_LinearHolds(fu:Nat)(l:List qT11):Option (Bool):=
 (law28_told fu l).bind fun r=>
 Option.bind (α:=((Bool×List (qT3)))) (
  (lRig fu r.1).bind fun r1=>
  bif (!r1) then
   some (true,r.1)
  else
   (lOrd fu r.1 r.2).bind fun r2=>
   some ((!r2),r.1)) fun o=>
 bif o.1 then
  some false
 else
  (lJud fu o.2 1000).bind fun r3=>
  bif r3.1 then
   bif (r3.2==0) then
    (law28_awake fu).bind fun r4=>
    some r4
   else
    bif (!r3.1) then
     bif (r3.2==5) then
      (law28_awake fu).bind fun r5=>
      some r5
     else
      some false
    else
     some false
  else
   bif (!r3.1) then
    bif (r3.2==5) then
     (law28_awake fu).bind fun r6=>
     some r6
    else
     some false
   else
    some false
def law28_LinearHolds_fa:FnA:=⟨.two lf (.two (.reg [(1,{ids:=[100,101]})]) (.two (.two (.join ⟨[3,20],⟨(.cons (.slf 25 100) (.cons (.p .bool) .nil)),[(100,false,(.rows 33 qY2))]⟩⟩ false [] (.reg [(1,{md:=[2],fn:=1}),(6,{md:=[2,2],fn:=2})])) (.two lf lf)) (.two (.reg [(1,{md:=[2,0],fn:=3})]) (.two (.reg [(14,{fn:=4})]) lf)))),⟨(.cons (.p (.sl qY33)) .nil),[]⟩,[⟨(.cons (.p .bool) .nil),[]⟩],[0]⟩
def law28_LinearHolds_ft(fu:Nat):FnT:=⟨5,law28_LinearHolds_fa.i,law28_LinearHolds_fa.os,fun t=>law28_LinearHolds fu t⟩
theorem hZZ(fu:Nat):Told Tryz.prog (law28_LinearHolds_ft fu):=tk fu law28_LinearHolds_fa (aaZ (bNZ fu) (aaZ (cRZ fu) (aaZ (fVZ fu) (aaZ (f0Z fu) (aaZ (b9Z fu) acZ))))) Tryz.func5 (by kernel_rfl) fun t=>by kernel_rfl
def law28_LinearWrong_l0(fu:Nat)(l:List qT11)(i:Int)(h:List qT11):Option ((Int×List qT11)⊕(List qT11)):=
 Option.bind (α:=((Bool×List qT11))) (
  bif (decide (i<((l.length:Nat):Int))) then
   some ((decide (i<12)),h)
  else
   some (false,h)) fun o=>
 bif o.1 then
  (idx? i l.length).bind fun q=>
  (l)[q]?.bind fun r=>
  (byte? ((r.1.1.2.2.1.toNat:Nat):Int)).bind fun c=>
  (byte? (((UInt8.ofNat 0).toNat:Nat):Int)).bind fun c1=>
  (byte? (((UInt8.ofNat 0).toNat:Nat):Int)).bind fun c2=>
  need ((Nat.ble ((o.2.length+1)*168) room)&&(Nat.ble (o.2.length+1) room))<|
  some (.inl ((IntKind.wrap .i64 (i+1)),(o.2++[(((r.1.1.1,(r.1.1.2.1,(c,r.1.1.2.2.2))),r.1.2),(c1,(c2,(false,(false,r.2.2.2.2.2)))))])))
 else
  some (.inr o.2)
def law28_LinearWrong_l0_it(fu:Nat)(l:List qT11)(tt:(Int×List qT11)):Option (List qT11):=
 iter fu (fun tt=>law28_LinearWrong_l0 fu l tt.1 tt.2) tt
def law28_LinearWrong(fu:Nat)(l:List qT11)(which:Int)(what:Int):Option (Bool):=
 (law28_LinearWrong_l0_it fu l (0,[])).bind fun o1=>
 (law28_told fu o1).bind fun r1=>
 Option.bind (α:=((Bool×List (qT3)))) (
  (lRig fu r1.1).bind fun r2=>
  bif (!r2) then
   some (true,r1.1)
  else
   some ((!(((r1.2.length:Nat):Int)==((r1.1.length:Nat):Int))),r1.1)) fun o2=>
 bif o2.1 then
  some false
 else
  (lJud fu o2.2 1).bind fun r3=>
  Option.bind (α:=((Bool×List (qT3)))) (
   bif (!r3.1) then
    some (true,o2.2)
   else
    some ((!(r3.2==0)),o2.2)) fun o3=>
  bif o3.1 then
   some false
  else
   bif (((o3.2.length:Nat):Int)==0) then
    (law28_awake fu).bind fun r4=>
    some r4
   else
    (kit_Pick fu which ((o3.2.length:Nat):Int)).bind fun r5=>
    (idx? r5 o3.2.length).bind fun q1=>
    (o3.2)[q1]?.bind fun r6=>
    Option.bind (α:=(List (qT3)⊕Bool)) (
     bif (!(r6.2.1.2.2.1==0)) then
      (o3.2)[q1]?.bind fun r7=>
      (o3.2)[q1]?.bind fun r8=>
      ((List.set o3.2 q1 (r8.1,((r8.2.1.1,(r8.2.1.2.1,((IntKind.wrap .i64 (r7.2.1.2.2.1+1)),r8.2.1.2.2.2))),r8.2.2))))[q1]?.bind fun r9=>
      bif (r9.2.1.2.2.1==151) then
       (law28_awake fu).bind fun r10=>
       some (.inr r10)
      else
       some (.inl (List.set o3.2 q1 (r8.1,((r8.2.1.1,(r8.2.1.2.1,((IntKind.wrap .i64 (r7.2.1.2.2.1+1)),r8.2.1.2.2.2))),r8.2.2))))
     else
      Option.bind (α:=(List (qT3))) (
       bif ((Int.tmod what 3)==0) then
        (o3.2)[q1]?.bind fun r11=>
        (o3.2)[q1]?.bind fun r12=>
        (o3.2)[q1]?.bind fun r13=>
        some (List.set o3.2 q1 (r13.1,((r11.2.1.1,(r12.2.1.2.1,(172,((0,0),(false,(0,([],([],(false,0))))))))),r13.2.2)))
       else
        Option.bind (α:=((Nat×(Bool×List (qT3))))) (
         bif ((Int.tmod what 3)==1) then
          (o3.2)[q1]?.bind fun r14=>
          some (q1,((decide (r14.2.1.2.2.2.2.2.1<65536)),o3.2))
         else
          some (q1,(false,o3.2))) fun o4=>
        Option.bind (α:=(List (qT3))) (
         bif o4.2.1 then
          (o4.2.2)[o4.1]?.bind fun r15=>
          (o4.2.2)[o4.1]?.bind fun r16=>
          some (List.set o4.2.2 o4.1 (r16.1,((r16.2.1.1,(r16.2.1.2.1,(r16.2.1.2.2.1,(r16.2.1.2.2.2.1,(r16.2.1.2.2.2.2.1,((IntKind.wrap .i64 (r15.2.1.2.2.2.2.2.1+1)),r16.2.1.2.2.2.2.2.2)))))),r16.2.2)))
         else
          (o4.2.2)[o4.1]?.bind fun r17=>
          (o4.2.2)[o4.1]?.bind fun r18=>
          some (List.set o4.2.2 o4.1 (r18.1,((r18.2.1.1,(r18.2.1.2.1,(r18.2.1.2.2.1,(r18.2.1.2.2.2.1,(r18.2.1.2.2.2.2.1,(r18.2.1.2.2.2.2.2.1,(r18.2.1.2.2.2.2.2.2.1,(r18.2.1.2.2.2.2.2.2.2.1,(r18.2.1.2.2.2.2.2.2.2.2.1,(IntKind.wrap .i64 (r17.2.1.2.2.2.2.2.2.2.2.2+1))))))))))),r18.2.2)))) fun o5=>
        some o5) fun o6=>
      some (.inl o6)) fun o7=>
    match o7 with
    |.inl s=>
     (lJud fu s 1).bind fun r19=>
     bif (!r19.1) then
      bif (r19.2==0) then
       (law28_awake fu).bind fun r20=>
       some r20
      else
       some false
     else
      some false
    |.inr o8=>
     some o8
def law28_LinearWrong_fa:FnA:=⟨.two lf (.two lf (.two (.two lf (.one (.pre (.ownNil 7 53 100) (.loop ⟨[7,8],⟨(.cons (.slf 20 100) qL6),[(100,false,(.rows 53 qY33))]⟩⟩ false [(0,⟨[7],⟨(.cons (.slf 20 100) .nil),[(100,false,(.rows 53 qY33))]⟩⟩)] (.two (.two (.join ⟨[7,22],⟨(.cons (.slf 20 100) (.cons (.p .bool) .nil)),[(100,false,(.rows 53 qY33))]⟩⟩ false [] lf) lf) (.two (.one (.two (.reg [(4,{ids:=[101],md:=[1]})]) (.two lf (.reg [(2,{ids:=[102]}),(3,{ids:=[103]})])))) lf)))))) (.two (.reg [(1,{ids:=[104,105],md:=[1]})]) (.two (.two (.join ⟨[10,51],⟨(.cons (.slf 25 104) (.cons (.p .bool) .nil)),[(104,false,(.rows 33 qY2))]⟩⟩ false [] (.reg [(1,{md:=[2],fn:=1})])) (.two lf lf)) (.two (.reg [(1,{md:=[2,0],fn:=2})]) (.two (.two (.join ⟨[10,62],⟨(.cons (.slf 25 104) (.cons (.p .bool) .nil)),[(104,false,(.rows 33 qY2))]⟩⟩ false [] lf) (.two lf lf)) (.two (.two lf (.two (.two (.reg [(0,{fn:=3})]) lf) lf)) (.two (.reg [(4,{fn:=4})]) (.two (.one (.two lf (.join ⟨[10],⟨(.cons (.slf 25 104) .nil),[(104,false,(.rows 33 qY2))]⟩⟩ true [] (.two (.two lf (.two lf (.two (.two (.reg [(0,{fn:=3})]) lf) lf))) (.two lf (.join ⟨[10],⟨(.cons (.slf 25 104) .nil),[(104,false,(.rows 33 qY2))]⟩⟩ false [] (.two lf (.two (.join ⟨[10,14,115],⟨(.cons (.slf 25 104) (.cons (.ownx 25 104 12) (.cons (.p .bool) .nil))),[(104,false,(.rows 33 qY2))]⟩⟩ false [] lf) (.join ⟨[10],⟨(.cons (.slf 25 104) .nil),[(104,false,(.rows 33 qY2))]⟩⟩ false [] lf))))))))) (.two (.reg [(1,{md:=[2,0],fn:=2})]) (.two (.reg [(7,{fn:=3})]) lf))))))))))),⟨(.cons (.p (.sl qY33)) (.cons (.p (.int .i64)) (.cons (.p (.int .u8)) .nil))),[]⟩,[⟨(.cons (.p .bool) .nil),[]⟩],[0]⟩
def law28_LinearWrong_ft(fu:Nat):FnT:=⟨6,law28_LinearWrong_fa.i,law28_LinearWrong_fa.os,u3 (law28_LinearWrong fu)⟩
theorem law28_LinearWrong_told(fu:Nat):Told Tryz.prog (law28_LinearWrong_ft fu):=tk fu law28_LinearWrong_fa (aaZ (bNZ fu) (aaZ (cRZ fu) (aaZ (f0Z fu) (aaZ (b9Z fu) (aaZ (cDZ fu) acZ))))) Tryz.func6 (by kernel_rfl) fun t=>by kernel_rfl
def law28_LinearMore(fu:Nat)(l:List qT11)(which:Int)(by_:Int)(how:Int):Option (Bool):=
 (law28_told fu l).bind fun r=>
 bif (((r.1.length:Nat):Int)==0) then
  (law28_awake fu).bind fun r1=>
  some r1
 else
  (kit_Pick fu which ((r.1.length:Nat):Int)).bind fun r2=>
  (idx? r2 r.1.length).bind fun q=>
  Option.bind (α:=((List (qT3)×List (Int))⊕Bool)) (
   bif ((Int.tmod how 3)==0) then
    (r.1)[q]?.bind fun r3=>
    (r.1)[q]?.bind fun r4=>
    some (.inl ((List.set r.1 q (r4.1,(r4.2.1,((if 1>(IntKind.wrap .i64 (r3.2.2.1-(IntKind.wrap .i64 by_))) then 1 else(IntKind.wrap .i64 (r3.2.2.1-(IntKind.wrap .i64 by_)))),r4.2.2.2)))),r.2))
   else
    Option.bind (α:=((List (qT3)×List (Int))⊕((List (qT3)×List (Int))⊕Bool))) (
     bif ((Int.tmod how 3)==1) then
      (r.1)[q]?.bind fun r5=>
      Option.bind (α:=((List (qT3)×List (Int)))) (
       bif (decide (r5.2.2.2>0)) then
        (r.1)[q]?.bind fun r6=>
        (r.1)[q]?.bind fun r7=>
        some ((List.set r.1 q (r7.1,(r7.2.1,(r7.2.2.1,(IntKind.wrap .i64 (r6.2.2.2+(IntKind.wrap .i64 by_))))))),r.2)
       else
        some r) fun o=>
      some (.inl o)
     else
      (r.1)[q]?.bind fun r8=>
      bif (r8.2.1.2.2.1==151) then
       (law28_awake fu).bind fun r9=>
       some (.inr (.inr r9))
      else
       (r.1)[q]?.bind fun r10=>
       ((List.set r.1 q (r10.1,((0,(0,(0,((0,0),(false,(0,([],([],(false,0))))))))),r10.2.2))))[q]?.bind fun r11=>
       some (.inl ((List.set (List.set r.1 q (r10.1,((0,(0,(0,((0,0),(false,(0,([],([],(false,0))))))))),r10.2.2))) q (r11.1,(r11.2.1,(r11.2.2.1,0)))),r.2))) fun o1=>
    match o1 with
    |.inl s=>
     some (.inl s)
    |.inr o2=>
     some o2) fun o3=>
  match o3 with
  |.inl s1=>
   (lRig fu s1.1).bind fun r12=>
   bif (!r12) then
    (law28_awake fu).bind fun r13=>
    some r13
   else
    (lOrd fu s1.1 s1.2).bind fun r14=>
    bif r14 then
     (law28_awake fu).bind fun r15=>
     some r15
    else
     some false
  |.inr o4=>
   some o4
def law28_LinearMore_fa:FnA:=⟨.two lf (.two (.reg [(1,{ids:=[100,101]})]) (.two (.two lf (.two (.two (.reg [(0,{fn:=1})]) lf) lf)) (.two (.reg [(4,{fn:=2})]) (.two (.two lf (.one (.two lf (.join ⟨[9,10],⟨(.cons (.slf 25 100) (.cons (.slf 1 101) .nil)),[(100,false,(.rows 33 qY2)),(101,false,(.rows 3 (.int .i64)))]⟩⟩ true [] (.two lf (.two lf (.join ⟨[9,10],⟨(.cons (.slf 25 100) (.cons (.slf 1 101) .nil)),[(100,false,(.rows 33 qY2)),(101,false,(.rows 3 (.int .i64)))]⟩⟩ true [] (.two (.two lf (.join ⟨[9,10],⟨(.cons (.slf 25 100) (.cons (.slf 1 101) .nil)),[(100,false,(.rows 33 qY2)),(101,false,(.rows 3 (.int .i64)))]⟩⟩ false [] lf)) (.two (.two lf (.two (.two (.reg [(0,{fn:=1})]) lf) lf)) lf))))))))) (.two (.two (.reg [(1,{md:=[2],fn:=3})]) (.two (.two (.reg [(0,{fn:=1})]) lf) lf)) (.two (.reg [(2,{md:=[2,2],fn:=4}),(4,{fn:=1})]) lf)))))),⟨(.cons (.p (.sl qY33)) (.cons (.p (.int .i64)) (.cons (.p (.int .u16)) (.cons (.p (.int .u8)) .nil)))),[]⟩,[⟨(.cons (.p .bool) .nil),[]⟩],[0]⟩
def law28_LinearMore_ft(fu:Nat):FnT:=⟨7,law28_LinearMore_fa.i,law28_LinearMore_fa.os,u4 (law28_LinearMore fu)⟩
theorem iuZ(fu:Nat):Told Tryz.prog (law28_LinearMore_ft fu):=tk fu law28_LinearMore_fa (aaZ (bNZ fu) (aaZ (b9Z fu) (aaZ (cDZ fu) (aaZ (cRZ fu) (aaZ (fVZ fu) acZ))))) Tryz.func7 (by kernel_rfl) fun t=>by kernel_rfl
end
end Go.Ab.D
