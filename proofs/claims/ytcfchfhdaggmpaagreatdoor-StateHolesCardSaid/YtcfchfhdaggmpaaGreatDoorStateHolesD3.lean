/- Functions of the program as plain Lean functions: each equation is checked by the kernel; what is told of a function follows from it. -/
import Derived.Test.YtcfchfhdaggmpaaGreatDoorStateHolesD2
set_option linter.all false
set_option maxRecDepth 100000
set_option maxHeartbeats 4000000
namespace Go.Ab.D
open Go.Proofs
open Go Go.Ab
noncomputable section
def iDro2go0R(fu:Nat)(t:Int)(id:Int)(h:List qT8)(h1:List qT27):Option ((Int×(List ((Int×Int))×(Int×(List qT8×(List qT23×(List qT59×(List qT27×List qT27)))))))):=
 (icop2go0R fu t h h1).bind fun r=>
 (unrefL (unrefD [⟨2,(.pair .str (.int .i64)),(List.map frz1 r.2.2.2.2.2)⟩,⟨1,(.pair .str (.int .i64)),(List.map frz1 r.2.2.2.2.1)⟩,⟨0,qY5,(List.map frz1 r.2.2.2.1)⟩] qY7) r.2.1).bind fun l=>
 (iRig fu (l,t)).bind fun r1=>
 bif (!r1) then
  some (r.1,([],(180,(r.2.1,(r.2.2.1,(r.2.2.2.1,(r.2.2.2.2.1,r.2.2.2.2.2)))))))
 else
  Option.bind (α:=((Int×(Bool×(List qT8×(Int×(Int×(List qT23×(List qT59×(List qT27×List qT27)))))))))) (
   bif (id==1) then
    some (t,(true,(r.2.1,(0,(r.1,(r.2.2.1,(r.2.2.2.1,(r.2.2.2.2.1,r.2.2.2.2.2))))))))
   else
    (unrefL (unrefD [⟨2,(.pair .str (.int .i64)),(List.map frz1 r.2.2.2.2.2)⟩,⟨1,(.pair .str (.int .i64)),(List.map frz1 r.2.2.2.2.1)⟩,⟨0,qY5,(List.map frz1 r.2.2.2.1)⟩] qY7) r.2.1).bind fun l1=>
    (inode_is fu (l1,t) id true).bind fun r2=>
    bif (!r2) then
     (unrefL (unrefD [⟨2,(.pair .str (.int .i64)),(List.map frz1 r.2.2.2.2.2)⟩,⟨1,(.pair .str (.int .i64)),(List.map frz1 r.2.2.2.2.1)⟩,⟨0,qY5,(List.map frz1 r.2.2.2.1)⟩] qY7) r.2.1).bind fun l2=>
     (inode_is fu (l2,t) id false).bind fun r3=>
     some (t,((!r3),(r.2.1,(0,(r.1,(r.2.2.1,(r.2.2.2.1,(r.2.2.2.2.1,r.2.2.2.2.2))))))))
    else
     some (t,(false,(r.2.1,(0,(r.1,(r.2.2.1,(r.2.2.2.1,(r.2.2.2.2.1,r.2.2.2.2.2))))))))) fun o=>
  bif o.2.1 then
   some (o.2.2.2.2.1,([],(2,(o.2.2.1,(o.2.2.2.2.2.1,(o.2.2.2.2.2.2.1,(o.2.2.2.2.2.2.2.1,o.2.2.2.2.2.2.2.2)))))))
  else
   (idx? (IntKind.wrap .i64 (id-1)) o.2.2.2.2.2.1.length).bind fun q=>
   Option.bind (α:=((Int×(Nat×(List qT8×(Int×(Int×(List qT23×(List ((Int×Int))×(List qT59×(List qT27×List qT27))))))))))) (
    (o.2.2.2.2.2.1)[q]?.bind fun r4=>
    (openM o.2.2.2.2.2.2.1 r4.2.2.2.2.2.1).bind fun m=>
    (sDelFun2 fu m.1).bind fun r5=>
    match r5 with
    |.inl r6=>
     some (o.1,(q,(o.2.2.1,(o.2.2.2.1,(o.2.2.2.2.1,(o.2.2.2.2.2.1,(r6,(m.2,(o.2.2.2.2.2.2.2.1,o.2.2.2.2.2.2.2.2)))))))))
    |.inr r7=>
     some (o.1,(q,(o.2.2.1,(o.2.2.2.1,(o.2.2.2.2.1,(o.2.2.2.2.2.1,(r7,(m.2,(o.2.2.2.2.2.2.2.1,o.2.2.2.2.2.2.2.2)))))))))) fun o1=>
   (o1.2.2.2.2.2.1)[o1.2.1]?.bind fun r8=>
   (o1.2.2.2.2.2.1)[o1.2.1]?.bind fun r9=>
   some (o1.2.2.2.2.1,(o1.2.2.2.2.2.2.1,(0,(o1.2.2.1,((List.set o1.2.2.2.2.2.1 o1.2.1 (id,(r8.2.1,(false,(false,(0,((.inr none),(0,(.inr none))))))))),(o1.2.2.2.2.2.2.2.1,(o1.2.2.2.2.2.2.2.2.1,o1.2.2.2.2.2.2.2.2.2)))))))
def iDro2go0R_fa:FnA:=⟨.two (.reg [(0,{ids:=[100]}),(1,{ids:=[101]})]) (.two (.reg [(1,{ids:=[102,999984,999986],sh:=[0,999985],md:=[3]}),(2,{ids:=[103]})]) (.two (.one (.two (.reg [(1,{md:=[2],fn:=1})]) (.two lf (.two (.join ⟨[0,4,7,17],⟨(.cons (.agg (.cons (.slf 8 0) qL6)) (.cons (.own 0 101 0 0) (.cons (.own 0 103 0 0) (.cons (.p .bool) .nil)))),[(0,true,(.rows 56 qY7)),(101,false,qB44),(103,false,qB62),(102,false,(.rows 56 qY21)),(999984,false,(.fam 58 qY5)),(999985,false,qB35),(999986,false,qB35)]⟩⟩ false [] (.reg [(5,{md:=[2,0,0],fn:=2}),(10,{md:=[2,0,0],fn:=2})])) (.two lf lf))))) (.two lf (.two (.join ⟨[0,4,7,8,9],⟨(.cons (.agg (.cons (.slf 8 0) qL6)) (.cons (.own 0 101 0 0) (.cons (.own 0 103 0 0) (.cons (.ownx 8 102 0) (.cons (.slf 2 620068) .nil))))),[(0,true,(.rows 56 qY7)),(101,false,qB44),(103,false,qB62),(102,false,(.rows 56 qY21)),(620068,false,(.rows 58 qY5)),(999984,false,(.fam 58 qY5)),(999985,false,qB35),(999986,false,qB35)]⟩⟩ false [] (.reg [(4,{ids:=[104],sh:=[620068],md:=[520068,0],fn:=3})])) (.two lf lf))))),⟨(.cons (.agg (.cons (.slf 8 0) qL6)) qL6),[(0,false,(.rows 56 qY7)),(999985,false,qB35)]⟩,[⟨(.cons (.agg (.cons (.slf 8 1) qL6)) (.cons (.p (.sl qY5)) qL6)),[(0,true,(.rows 56 qY7)),(1,false,(.rows 56 qY21)),(999984,false,(.fam 58 qY5)),(999985,false,qB35),(999986,false,qB35)]⟩],[0,1,0]⟩
def iDro2go0R_ft(fu:Nat):FnT:=⟨158,iDro2go0R_fa.i,iDro2go0R_fa.os,u4 (iDro2go0R fu)⟩
theorem fMZ(fu:Nat):Told Tryz.prog (iDro2go0R_ft fu):=tk fu iDro2go0R_fa (aaZ (fRZ fu) (aaZ (d9Z fu) (aaZ (cnZ fu) (aaZ (dKZ fu) abZ)))) Tryz.func158 (by kernel_rfl) fun t=>by kernel_rfl
def twit2(fu:Nat)(t:(List (qT2)×Int))(dir:Int)(name:List UInt8)(id:Int):Option ((Int×(List ((Int×Int))×(Int×(List qT23×(List qT59×List qT27)))))):=
 (tcopE fu (t.1,t.2)).bind fun r=>
 (ttak fu dir name r.1 r.2.1 r.2.2).bind fun r1=>
 (iDro2go0R fu r1.1 id r1.2.1 r1.2.2).bind fun r2=>
 some (r2.1,(r2.2.1,(r2.2.2.1,(r2.2.2.2.2.1,(r2.2.2.2.2.2.1,r2.2.2.2.2.2.2.2)))))
def twit2_fa:FnA:=⟨.two (.reg [(0,{ids:=[100]}),(1,{ids:=[101]})]) (.two (.reg [(1,{ids:=[102,999985]}),(2,{ids:=[103]})]) (.two (.reg [(2,{sh:=[103,102,999985],fn:=1})]) (.two (.reg [(2,{ids:=[104,999984,999986],sh:=[102,999985],md:=[3,0],fn:=2})]) lf))),⟨(.cons (.p qY53) (.cons (.p (.int .i64)) (.cons (.p .str) qL6))),[]⟩,[⟨(.cons (.agg (.cons (.slf 8 0) qL6)) (.cons (.p (.sl qY5)) qL6)),[(0,false,(.rows 56 qY21)),(999984,false,(.fam 58 qY5)),(999986,false,qB35)]⟩],[0,0,0]⟩
def twit2_ft(fu:Nat):FnT:=⟨125,twit2_fa.i,twit2_fa.os,u4 (twit2 fu)⟩
theorem lvZ(fu:Nat):Told Tryz.prog (twit2_ft fu):=tk fu twit2_fa (aaZ (dRZ fu) (aaZ (eKZ fu) (aaZ (fMZ fu) abZ))) Tryz.func125 (by kernel_rfl) fun t=>by kernel_rfl
def ttak2(fu:Nat)(dir:Int)(name:List UInt8)(h:Int)(h1:List qT23)(h2:List qT59)(h3:List qT27):Option ((Int×(List qT23×(List qT59×List qT27)))):=
 (idx? (IntKind.wrap .i64 (dir-1)) h1.length).bind fun q=>
 (h1)[q]?.bind fun r=>
 (openM h3 r.2.2.2.2.2.2.2).bind fun m=>
 (sDelFun fu m.1 name).bind fun r1=>
 match r1 with
 |.inl r2=>
  (h1)[q]?.bind fun r4=>
  some (h,((List.set h1 q (r4.1,(r4.2.1,(r4.2.2.1,(r4.2.2.2.1,(r4.2.2.2.2.1,(r4.2.2.2.2.2.1,(r4.2.2.2.2.2.2.1,(.inr (some (m.2.length,(0,r2.1.length)))))))))))),(h2,(m.2++[(1,r2.1)]))))
 |.inr r3=>
  (h1)[q]?.bind fun r5=>
  some (h,((List.set h1 q (r5.1,(r5.2.1,(r5.2.2.1,(r5.2.2.2.1,(r5.2.2.2.2.1,(r5.2.2.2.2.2.1,(r5.2.2.2.2.2.2.1,(.inr (some (m.2.length,(0,r3.2.length)))))))))))),(h2,(m.2++[(1,r3.2)]))))
def ttak2_fa:FnA:=⟨.two (.reg [(0,{ids:=[100]})]) (.two lf (.reg [(6,{ids:=[101],sh:=[605118,100],md:=[505118,0]}),(9,{sh:=[605118,999986]})])),⟨(.cons (.own 0 0 0 0) (.cons (.p (.int .i64)) (.cons (.p .str) .nil))),[(0,false,(.vars (.cons (.slf 8 1) qL6))),(1,false,(.rows 56 qY21)),(999984,false,(.fam 58 qY5)),(999986,false,qB35)]⟩,[⟨.nil,[(0,false,(.vars (.cons (.slf 8 1) qL6))),(1,false,(.rows 56 qY21)),(999984,false,(.fam 58 qY5)),(999986,false,qB35)]⟩],[]⟩
def ttak2_ft(fu:Nat):FnT:=⟨127,ttak2_fa.i,ttak2_fa.os,u6 (ttak2 fu)⟩
theorem liZ(fu:Nat):Told Tryz.prog (ttak2_ft fu):=tk fu ttak2_fa (aaZ (erZ fu) abZ) Tryz.func127 (by kernel_rfl) fun t=>by kernel_rfl
def tput2(fu:Nat)(dir:Int)(name:List UInt8)(id:Int)(h:Int)(h1:List qT23)(h2:List qT59)(h3:List qT27):Option ((Int×(List qT23×(List qT59×List qT27)))):=
 (idx? (IntKind.wrap .i64 (dir-1)) h1.length).bind fun q=>
 (h1)[q]?.bind fun r=>
 (unrefD [⟨2,(.pair .str (.int .i64)),(List.map frz1 h3)⟩,⟨0,qY5,(List.map frz1 h2)⟩] qY21 r).bind fun x=>
 (tent fu x name).bind fun r1=>
 (h1)[q]?.bind fun r2=>
 (openM h3 r2.2.2.2.2.2.2.2).bind fun m=>
 (sIns fu r1.1 m.1 [(name,id)]).bind fun r3=>
 (h1)[q]?.bind fun r4=>
 some (h,((List.set h1 q (r4.1,(r4.2.1,(r4.2.2.1,(r4.2.2.2.1,(r4.2.2.2.2.1,(r4.2.2.2.2.2.1,(r4.2.2.2.2.2.2.1,(.inr (some (m.2.length,(0,r3.2.length)))))))))))),(h2,(m.2++[(1,r3.2)]))))
def tput2_fa:FnA:=⟨.two lf (.two (.reg [(4,{md:=[2,0]})]) (.reg [(9,{ids:=[100]}),(10,{ids:=[101],sh:=[605118,100],md:=[505118,0,0],fn:=1}),(13,{sh:=[101,999986]})])),⟨(.cons (.own 0 0 0 0) (.cons (.p (.int .i64)) (.cons (.p .str) qL6))),[(0,false,(.vars (.cons (.slf 8 1) qL6))),(1,false,(.rows 56 qY21)),(999984,false,(.fam 58 qY5)),(999986,false,qB35)]⟩,[⟨.nil,[(0,false,(.vars (.cons (.slf 8 1) qL6))),(1,false,(.rows 56 qY21)),(999984,false,(.fam 58 qY5)),(999986,false,qB35)]⟩],[]⟩
def tput2_ft(fu:Nat):FnT:=⟨122,tput2_fa.i,tput2_fa.os,u7 (tput2 fu)⟩
theorem kSZ(fu:Nat):Told Tryz.prog (tput2_ft fu):=tk fu tput2_fa (aaZ (bGZ fu) (aaZ (i1Z fu) abZ)) Tryz.func122 (by kernel_rfl) fun t=>by kernel_rfl
def tRen(fu:Nat)(t:(List (qT2)×Int))(from_:(Int×Int))(old:List UInt8)(to_:(Int×Int))(name:List UInt8):Option ((List (qT2)×(Int×(List ((Int×Int))×Int)))):=
 (task fu (t.1,t.2) [(from_.1,from_.2),(to_.1,to_.2)]).bind fun r=>
 bif (!(r.1==0)) then
  (tcop fu (t.1,t.2)).bind fun r1=>
  some (r1.2,(r1.1,([],r.1)))
 else
  Option.bind (α:=((Bool×(List (qT2)×(Int×(Int×(Int×(Int×(Int×(Int×List (qT2))))))))))) (
   (tNam fu old).bind fun r2=>
   bif (!r2) then
    some (true,(t.1,(t.2,(from_.1,(from_.2,(to_.1,(to_.2,(0,r.2))))))))
   else
    (tNam fu name).bind fun r3=>
    some ((!r3),(t.1,(t.2,(from_.1,(from_.2,(to_.1,(to_.2,(0,r.2))))))))) fun o=>
  bif o.1 then
   (tcop fu (o.2.1,o.2.2.1)).bind fun r4=>
   some (r4.2,(r4.1,([],176)))
  else
   (idx? 0 o.2.2.2.2.2.2.2.2.length).bind fun q=>
   (o.2.2.2.2.2.2.2.2)[q]?.bind fun r5=>
   (tent fu r5 old).bind fun r6=>
   bif (!r6.2) then
    (tcop fu (o.2.1,o.2.2.1)).bind fun r7=>
    some (r7.2,(r7.1,([],171)))
   else
    (idx? 0 o.2.2.2.2.2.2.2.2.length).bind fun q1=>
    (o.2.2.2.2.2.2.2.2)[q1]?.bind fun r8=>
    (idx? r6.1 r8.2.2.2.2.2.2.2.length).bind fun q2=>
    (r8.2.2.2.2.2.2.2)[q2]?.bind fun r9=>
    (idx? (IntKind.wrap .i64 (r9.2-1)) o.2.1.length).bind fun q3=>
    (o.2.1)[q3]?.bind fun r10=>
    Option.bind (α:=((Bool×(List (qT2)×(Int×(Int×(Int×(Int×(Int×(Int×List (qT2))))))))))) (
     bif r10.2.2.2.1 then
      (tbel fu (o.2.1,o.2.2.1) o.2.2.2.2.2.1 r9.2).bind fun r11=>
      some (r11,(o.2.1,(o.2.2.1,(o.2.2.2.1,(o.2.2.2.2.1,(o.2.2.2.2.2.1,(o.2.2.2.2.2.2.1,(o.2.2.2.2.2.2.2.1,o.2.2.2.2.2.2.2.2))))))))
     else
      some (false,(o.2.1,(o.2.2.1,(o.2.2.2.1,(o.2.2.2.2.1,(o.2.2.2.2.2.1,(o.2.2.2.2.2.2.1,(o.2.2.2.2.2.2.2.1,o.2.2.2.2.2.2.2.2))))))))) fun o1=>
    bif o1.1 then
     (tcop fu (o1.2.1,o1.2.2.1)).bind fun r12=>
     some (r12.2,(r12.1,([],178)))
    else
     (idx? 1 o1.2.2.2.2.2.2.2.2.length).bind fun q4=>
     (o1.2.2.2.2.2.2.2.2)[q4]?.bind fun r13=>
     (tent fu r13 name).bind fun r14=>
     (tcopE fu (o1.2.1,o1.2.2.1)).bind fun r15=>
     Option.bind (α:=((Bool×(List (qT2)×(Int×(Int×(Int×(Int×(Int×(Int×(List (qT2)×(Int×(List qT8×List qT27))))))))))))) (
      bif r14.2 then
       (idx? 1 o1.2.2.2.2.2.2.2.2.length).bind fun q5=>
       (o1.2.2.2.2.2.2.2.2)[q5]?.bind fun r16=>
       (idx? r14.1 r16.2.2.2.2.2.2.2.length).bind fun q6=>
       (r16.2.2.2.2.2.2.2)[q6]?.bind fun r17=>
       some ((r17.2==r9.2),(o1.2.1,(o1.2.2.1,(o1.2.2.2.1,(o1.2.2.2.2.1,(o1.2.2.2.2.2.1,(o1.2.2.2.2.2.2.1,(o1.2.2.2.2.2.2.2.1,(o1.2.2.2.2.2.2.2.2,(r15.1,(r15.2.1,r15.2.2)))))))))))
      else
       some (false,(o1.2.1,(o1.2.2.1,(o1.2.2.2.1,(o1.2.2.2.2.1,(o1.2.2.2.2.2.1,(o1.2.2.2.2.2.2.1,(o1.2.2.2.2.2.2.2.1,(o1.2.2.2.2.2.2.2.2,(r15.1,(r15.2.1,r15.2.2)))))))))))) fun o2=>
     bif o2.1 then
      (unrefL (unrefD [⟨1,(.pair .str (.int .i64)),(List.map frz1 o2.2.2.2.2.2.2.2.2.2.2.2)⟩] qY7) o2.2.2.2.2.2.2.2.2.2.2.1).bind fun l5=>
      some (l5,(o2.2.2.2.2.2.2.2.2.2.1,([],0)))
     else
      bif r14.2 then
       (idx? 1 o2.2.2.2.2.2.2.2.2.1.length).bind fun q7=>
       (o2.2.2.2.2.2.2.2.2.1)[q7]?.bind fun r18=>
       (idx? r14.1 r18.2.2.2.2.2.2.2.length).bind fun q8=>
       (r18.2.2.2.2.2.2.2)[q8]?.bind fun r19=>
       (idx? (IntKind.wrap .i64 (r19.2-1)) o2.2.1.length).bind fun q9=>
       (o2.2.1)[q9]?.bind fun r20=>
       (tmis fu r10.2.2.2.1 r20).bind fun r21=>
       bif (!(r21==0)) then
        (unrefL (unrefD [⟨1,(.pair .str (.int .i64)),(List.map frz1 o2.2.2.2.2.2.2.2.2.2.2.2)⟩] qY7) o2.2.2.2.2.2.2.2.2.2.2.1).bind fun l6=>
        some (l6,(o2.2.2.2.2.2.2.2.2.2.1,([],r21)))
       else
        (twit2 fu (o2.2.1,o2.2.2.1) o2.2.2.2.2.2.1 name r19.2).bind fun r22=>
        bif (!(r22.2.2.1==0)) then
         (tcop fu (o2.2.1,o2.2.2.1)).bind fun r23=>
         some (r23.2,(r23.1,([],r22.2.2.1)))
        else
         (ttak2 fu o2.2.2.2.1 old r22.1 r22.2.2.2.1 r22.2.2.2.2.1 r22.2.2.2.2.2).bind fun r25=>
         (tput2 fu o2.2.2.2.2.2.1 name r9.2 r25.1 r25.2.1 r25.2.2.1 r25.2.2.2).bind fun r26=>
         (idx? (IntKind.wrap .i64 (r9.2-1)) r26.2.1.length).bind fun q11=>
         (r26.2.1)[q11]?.bind fun r27=>
         (unrefL (unrefD [⟨2,(.pair .str (.int .i64)),(List.map frz1 r26.2.2.2)⟩,⟨1,(.pair .str (.int .i64)),(List.map frz1 o2.2.2.2.2.2.2.2.2.2.2.2)⟩,⟨0,qY5,(List.map frz1 r26.2.2.1)⟩] qY21) (List.set r26.2.1 q11 (r27.1,(r27.2.1,(r27.2.2.1,(r27.2.2.2.1,(r27.2.2.2.2.1,(r27.2.2.2.2.2.1,(o2.2.2.2.2.2.1,r27.2.2.2.2.2.2.2))))))))).bind fun l7=>
         some (l7,(r26.1,(r22.2.1,0)))
      else
       Option.bind (α:=((Bool×(Int×(Int×(Int×(Int×(Int×(Int×(List qT8×List qT27)))))))))) (
        bif (!(o2.2.2.2.1==o2.2.2.2.2.2.1)) then
         (idx? 1 o2.2.2.2.2.2.2.2.2.1.length).bind fun q10=>
         (o2.2.2.2.2.2.2.2.2.1)[q10]?.bind fun r24=>
         some ((decide (((r24.2.2.2.2.2.2.2.length:Nat):Int)>=100)),(o2.2.2.2.1,(o2.2.2.2.2.1,(o2.2.2.2.2.2.1,(o2.2.2.2.2.2.2.1,(o2.2.2.2.2.2.2.2.1,(o2.2.2.2.2.2.2.2.2.2.1,(o2.2.2.2.2.2.2.2.2.2.2.1,o2.2.2.2.2.2.2.2.2.2.2.2))))))))
        else
         some (false,(o2.2.2.2.1,(o2.2.2.2.2.1,(o2.2.2.2.2.2.1,(o2.2.2.2.2.2.2.1,(o2.2.2.2.2.2.2.2.1,(o2.2.2.2.2.2.2.2.2.2.1,(o2.2.2.2.2.2.2.2.2.2.2.1,o2.2.2.2.2.2.2.2.2.2.2.2))))))))) fun o3=>
       bif o3.1 then
        (unrefL (unrefD [⟨1,(.pair .str (.int .i64)),(List.map frz1 o3.2.2.2.2.2.2.2.2)⟩] qY7) o3.2.2.2.2.2.2.2.1).bind fun l8=>
        some (l8,(o3.2.2.2.2.2.2.1,([],5)))
       else
        (ttak fu o3.2.1 old o3.2.2.2.2.2.2.1 o3.2.2.2.2.2.2.2.1 o3.2.2.2.2.2.2.2.2).bind fun r28=>
        (tput fu o3.2.2.2.1 name r9.2 r28.1 r28.2.1 r28.2.2).bind fun r29=>
        (idx? (IntKind.wrap .i64 (r9.2-1)) r29.2.1.length).bind fun q12=>
        (r29.2.1)[q12]?.bind fun r30=>
        (unrefL (unrefD [⟨1,(.pair .str (.int .i64)),(List.map frz1 r29.2.2)⟩] qY7) (List.set r29.2.1 q12 (r30.1,(r30.2.1,(r30.2.2.1,(r30.2.2.2.1,(r30.2.2.2.2.1,(r30.2.2.2.2.2.1,(o3.2.2.2.1,r30.2.2.2.2.2.2.2))))))))).bind fun l9=>
        some (l9,(r29.1,([],0)))
def tRen_fa:FnA:=⟨.two (.reg [(0,{ids:=[100]}),(1,{ids:=[101]}),(2,{ids:=[102]}),(3,{ids:=[103]})]) (.two (.reg [(3,{ids:=[104]}),(4,{ids:=[105],md:=[0,1]})]) (.two (.two lf (.two (.two (.reg [(1,{ids:=[106],fn:=1})]) lf) lf)) (.two (.two (.join ⟨[5,6,8,10,13,45],⟨(.cons (.own 0 100 0 0) (.cons (.own 0 101 0 0) (.cons (.own 0 102 0 0) (.cons (.own 0 103 0 0) (.cons (.slf 8 105) (.cons (.p .bool) .nil)))))),[(100,false,qB48),(101,false,(.vars qL50)),(102,false,(.vars qL50)),(103,false,qB44),(105,false,(.rows 56 qY0))]⟩⟩ false [] (.reg [(1,{fn:=2}),(5,{fn:=2})])) (.two (.two (.reg [(1,{ids:=[107],fn:=1})]) lf) lf)) (.two (.reg [(4,{fn:=3})]) (.two (.two lf (.two (.two (.reg [(1,{ids:=[108],fn:=1})]) lf) lf)) (.two lf (.two lf (.two (.two (.join ⟨[5,6,8,10,13,82],⟨(.cons (.own 0 100 0 0) (.cons (.own 0 101 0 0) (.cons (.own 0 102 0 0) (.cons (.own 0 103 0 0) (.cons (.slf 8 105) (.cons (.p .bool) .nil)))))),[(100,false,qB48),(101,false,(.vars qL50)),(102,false,(.vars qL50)),(103,false,qB44),(105,false,(.rows 56 qY0))]⟩⟩ false [] (.reg [(6,{fn:=4})])) (.two (.two (.reg [(1,{ids:=[109],fn:=1})]) lf) lf)) (.two (.reg [(4,{fn:=3})]) (.two (.reg [(1,{ids:=[110,999985],fn:=5}),(2,{ids:=[111]})]) (.two (.one (.two (.join ⟨[5,6,8,10,13,21,95],⟨(.cons (.own 0 100 0 0) (.cons (.own 0 101 0 0) (.cons (.own 0 102 0 0) (.cons (.own 0 103 0 0) (.cons (.slf 8 105) (.cons (.own 0 111 0 0) (.cons (.p .bool) .nil))))))),[(100,false,qB48),(101,false,(.vars qL50)),(102,false,(.vars qL50)),(103,false,qB44),(105,false,(.rows 56 qY0)),(111,false,(.vars (.cons (.slf 8 110) qL6))),(110,false,(.rows 56 qY7)),(999985,false,qB35)]⟩⟩ false [] lf) (.two lf (.two lf (.two (.two lf (.two (.two (.reg [(7,{fn:=6})]) (.two lf (.two lf lf))) (.two (.reg [(5,{ids:=[112,999984,999986],fn:=7})]) (.two lf (.two (.two (.reg [(1,{ids:=[113],fn:=1})]) lf) lf))))) (.two (.join ⟨[6,8,10,21,147],⟨(.cons (.own 0 101 0 0) (.cons (.own 0 102 0 0) (.cons (.own 0 103 0 0) (.cons (.own 0 111 0 0) (.cons (.p .bool) .nil))))),[(101,false,(.vars qL50)),(102,false,(.vars qL50)),(103,false,qB44),(111,false,(.vars (.cons (.slf 8 110) qL6))),(110,false,(.rows 56 qY7)),(999985,false,qB35)]⟩⟩ false [] lf) (.two lf lf))))))) (.sel (.slot 5 (.own 0 100 0 0)) (.two (.reg [(3,{sh:=[111,112,999984,999986],fn:=8})]) (.two (.reg [(4,{sh:=[111,112,999984,999986],fn:=9})]) (.two lf lf))) (.two (.reg [(3,{sh:=[111,110,999985],fn:=10})]) (.two (.reg [(4,{sh:=[111,110,999985],fn:=11})]) (.two lf lf))))))))))))))),⟨(.cons (.p qY53) (.cons (.p qY5) (.cons (.p .str) (.cons (.p qY5) (.cons (.p .str) .nil))))),[]⟩,[⟨(.cons (.agg (.cons (.p (.sl qY0)) qL6)) (.cons (.p (.sl qY5)) qL6)),[]⟩],[1,1,0]⟩
def tRen_ft(fu:Nat):FnT:=⟨90,tRen_fa.i,tRen_fa.os,u5 (tRen fu)⟩
theorem naZ(fu:Nat):Told Tryz.prog (tRen_ft fu):=tk fu tRen_fa (aaZ (c6Z fu) (aaZ (f2Z fu) (aaZ (cyZ fu) (aaZ (bGZ fu) (aaZ (m1Z fu) (aaZ (dRZ fu) (aaZ (i9Z fu) (aaZ (lvZ fu) (aaZ (liZ fu) (aaZ (kSZ fu) (aaZ (eKZ fu) (aaZ (iUZ fu) abZ)))))))))))) Tryz.func90 (by kernel_rfl) fun t=>by kernel_rfl
def mdoeren(fu:Nat)(h:List (qT2))(h1:Int)(h2:List (List (UInt8)))(h3:Int)(h4:Int)(h5:Int)(h6:Int)(h7:Int)(h8:List UInt8)(h9:Int)(h10:Int)(h11:List UInt8)(h12:Int)(h13:Int)(h14:List (UInt8))(h15:Int)(h16:Int)(h17:Int)(h18:Int)(h19:Int)(h20:Bool)(h21:Int)(h22:Bool)(h23:Int):Option ((Int×qT15)):=
 (tRen fu (h,h1) (h6,h7) h8 (h9,h10) h11).bind fun r=>
 bif (r.2.2.2==0) then
  some (r.2.2.2,(r.1,(r.2.1,(h2,(h3,(h4,(h5,(h6,(h7,(h8,(h9,(h10,(h11,(h12,(h13,(h14,(h15,(h16,(h17,(h18,(h19,(h20,(h21,(h22,h23))))))))))))))))))))))))
 else
  some (r.2.2.2,(h,(h1,(h2,(h3,(h4,(h5,(h6,(h7,(h8,(h9,(h10,(h11,(h12,(h13,(h14,(h15,(h16,(h17,(h18,(h19,(h20,(h21,(h22,h23))))))))))))))))))))))))
def mdoeren_fa:FnA:=⟨.two lf (.two (.reg [(24,{}),(29,{ids:=[100]})]) (.two (.two lf lf) lf)),⟨qL72,[(0,false,qB4)]⟩,[⟨qL6,[(0,false,qB4)]⟩],[0]⟩
def mdoeren_ft(fu:Nat):FnT:=⟨49,mdoeren_fa.i,mdoeren_fa.os,u24 (mdoeren fu)⟩
theorem hXZ(fu:Nat):Told Tryz.prog (mdoeren_ft fu):=tk fu mdoeren_fa (aaZ (naZ fu) abZ) Tryz.func49 (by kernel_rfl) fun t=>by kernel_rfl
def tree_List(fu:Nat)(t:(List (qT2)×Int))(dir:(Int×Int))(after:List UInt8)(most:Int):Option ((Bool×(Int×List ((List UInt8×Int))))):=
 (task fu (t.1,t.2) [(dir.1,dir.2)]).bind fun r=>
 bif (!(r.1==0)) then
  some (false,(r.1,[]))
 else
  Option.bind (α:=((Bool×List (qT2)))) (
   bif (decide (most<0)) then
    some (true,r.2)
   else
    some ((decide (most>4096)),r.2)) fun o=>
  bif o.1 then
   some (false,(2,[]))
  else
   (idx? 0 o.2.length).bind fun q=>
   (o.2)[q]?.bind fun r1=>
   (tent fu r1 after).bind fun r2=>
   Option.bind (α:=((Int×List (qT2)))) (
    bif r2.2 then
     some ((IntKind.wrap .i64 (r2.1+1)),o.2)
    else
     some (r2.1,o.2)) fun o1=>
   (idx? 0 o1.2.length).bind fun q1=>
   (o1.2)[q1]?.bind fun r3=>
   (upto? o1.1 r3.2.2.2.2.2.2.2.length).bind fun q2=>
   (upto? (if most<(((List.drop q2 r3.2.2.2.2.2.2.2).length:Nat):Int) then most else(((List.drop q2 r3.2.2.2.2.2.2.2).length:Nat):Int)) (List.drop q2 r3.2.2.2.2.2.2.2).length).bind fun q3=>
   (sClo fu (List.take q3 (List.drop q2 r3.2.2.2.2.2.2.2))).bind fun r4=>
   some ((decide ((((List.drop q2 r3.2.2.2.2.2.2.2).length:Nat):Int)>most)),(0,r4))
def tree_List_fa:FnA:=⟨.two (.reg [(0,{ids:=[100]}),(1,{ids:=[101]})]) (.two (.reg [(2,{ids:=[102]}),(3,{ids:=[103],md:=[0,1]})]) (.two (.one (.two lf (.two lf (.two (.join ⟨[11,27],⟨(.cons (.slf 8 103) (.cons (.p .bool) .nil)),[(103,false,(.rows 56 qY0))]⟩⟩ false [] lf) (.two lf lf))))) (.two (.reg [(4,{fn:=1})]) (.two (.two lf (.join ⟨[11,13],⟨(.cons (.slf 8 103) qL6),[(103,false,(.rows 56 qY0))]⟩⟩ false [] lf)) (.two lf (.two (.reg [(6,{ids:=[104],fn:=2})]) lf)))))),⟨(.cons (.p qY53) (.cons (.p qY5) (.cons (.p .str) qL6))),[]⟩,[⟨(.cons (.slf 2 0) (.cons (.p .bool) qL6)),[(0,false,qB55)]⟩],[118,0,0]⟩
def tree_List_ft(fu:Nat):FnT:=⟨91,tree_List_fa.i,tree_List_fa.os,u4 (tree_List fu)⟩
theorem fLZ(fu:Nat):Told Tryz.prog (tree_List_ft fu):=tk fu tree_List_fa (aaZ (c6Z fu) (aaZ (bGZ fu) (aaZ (brZ fu) abZ))) Tryz.func91 (by kernel_rfl) fun t=>by kernel_rfl
def mdoelis(fu:Nat)(h:List (qT2))(h1:Int)(h2:List (List (UInt8)))(h3:Int)(h4:Int)(h5:Int)(h6:Int)(h7:Int)(h8:List UInt8)(h9:Int)(h10:Int)(h11:List UInt8)(h12:Int)(h13:Int)(h14:List (UInt8))(h15:Int)(h16:Int)(h17:Int)(h18:Int)(h19:Int)(h20:Bool)(h21:Int)(h22:Bool)(h23:Int):Option ((Int×(List (qT2)×(Int×(List (List (UInt8))×(Int×(Int×(Int×(Int×(Int×(List UInt8×(Int×(Int×(List UInt8×(Int×(Int×(List (UInt8)×(Int×(Int×(Int×(Int×(Int×(Bool×(Int×(List ((List UInt8×Int))×(Bool×Int)))))))))))))))))))))))))):=
 (tree_List fu (h,h1) (h6,h7) h8 h13).bind fun r=>
 some (r.2.1,(h,(h1,(h2,(h3,(h4,(h5,(h6,(h7,(h8,(h9,(h10,(h11,(h12,(h13,(h14,(h15,(h16,(h17,(h18,(h19,(h20,(h21,(r.2.2,(r.1,h23)))))))))))))))))))))))))
def mdoelis_fa:FnA:=⟨.two lf (.two (.reg [(19,{ids:=[100]})]) (.two lf (.two lf (.pre (.pureCell 0 23) lf)))),⟨qL72,[(0,false,qB4)]⟩,[⟨qL6,[(0,false,(.vars (.cons (.p (.sl qY0)) (.cons (.p (.int .i64)) (.cons (.p (.sl (.sl .byte))) (.cons (.p (.int .i64)) (.cons (.p (.int .i64)) (.cons (.p (.int .u8)) (.cons (.p (.int .i64)) (.cons (.p (.int .i64)) (.cons (.p .str) (.cons (.p (.int .i64)) (.cons (.p (.int .i64)) (.cons (.p .str) (.cons (.p (.int .i64)) (.cons (.p (.int .i64)) (.cons (.p (.sl .byte)) (.cons (.p (.int .i64)) (.cons (.p (.int .i64)) (.cons (.p (.int .i64)) (.cons (.p (.int .i64)) (.cons (.p (.int .i64)) (.cons (.p .bool) (.cons (.p (.int .i64)) (.cons (.nilp (.slice none 0 0)) (.cons (.p (.sl (.pair .str (.int .i64)))) (.cons (.p .bool) qL6)))))))))))))))))))))))))))]⟩],[0]⟩
def mdoelis_ft(fu:Nat):FnT:=⟨50,mdoelis_fa.i,mdoelis_fa.os,u24 (mdoelis fu)⟩
theorem inZ(fu:Nat):Told Tryz.prog (mdoelis_ft fu):=tk fu mdoelis_fa (aaZ (fLZ fu) abZ) Tryz.func50 (by kernel_rfl) fun t=>by kernel_rfl
def mdoeget(fu:Nat)(h:List (qT2))(h1:Int)(h2:List (List (UInt8)))(h3:Int)(h4:Int)(h5:Int)(h6:Int)(h7:Int)(h8:List UInt8)(h9:Int)(h10:Int)(h11:List UInt8)(h12:Int)(h13:Int)(h14:List (UInt8))(h15:Int)(h16:Int)(h17:Int)(h18:Int)(h19:Int)(h20:Bool)(h21:Int)(h22:Bool)(h23:Int):Option ((Int×qT15)):=
 (inode_Get fu (h,h1) (h6,h7)).bind fun r=>
 bif (r.2.2.2.2.2.2.2.2==0) then
  some (r.2.2.2.2.2.2.2.2,(h,(h1,(h2,(h3,(h4,(h5,(h6,(h7,(h8,(h9,(h10,(h11,(h12,(h13,(h14,(h15,(h16,(h17,(h6,(h7,(r.2.2.2.1,(r.2.2.2.2.1,(h22,h23))))))))))))))))))))))))
 else
  some (r.2.2.2.2.2.2.2.2,(h,(h1,(h2,(h3,(h4,(h5,(h6,(h7,(h8,(h9,(h10,(h11,(h12,(h13,(h14,(h15,(h16,(h17,(h18,(h19,(h20,(h21,(h22,h23))))))))))))))))))))))))
def mdoeget_fa:FnA:=⟨.two lf (.two (.reg [(9,{}),(13,{ids:=[100]})]) (.two (.two lf lf) lf)),⟨qL72,[(0,false,qB4)]⟩,[⟨qL6,[(0,false,qB4)]⟩],[0]⟩
def mdoeget_ft(fu:Nat):FnT:=⟨51,mdoeget_fa.i,mdoeget_fa.os,u24 (mdoeget fu)⟩
theorem hUZ(fu:Nat):Told Tryz.prog (mdoeget_ft fu):=tk fu mdoeget_fa (aaZ (bSZ fu) abZ) Tryz.func51 (by kernel_rfl) fun t=>by kernel_rfl
def mdoesta_l0(fu:Nat)(h:List (qT2))(x:Int)(h24:List (qT2))(h25:Int)(h26:List (List (UInt8)))(h27:Int)(h28:Int)(h29:Int)(h30:Int)(h31:Int)(h32:List UInt8)(h33:Int)(h34:Int)(h35:List UInt8)(h36:Int)(h37:Int)(h38:List (UInt8))(h39:Int)(h40:Int)(h41:Int)(h42:Int)(h43:Int)(h44:Bool)(h45:Int)(h46:Bool)(h47:Int):Option ((Int×qT15)⊕(qT15)):=
 bif (decide (x<((h.length:Nat):Int))) then
  (idx? x h.length).bind fun q=>
  (h)[q]?.bind fun r=>
  Option.bind (α:=(qT15)) (
   bif r.2.2.1 then
    some (h24,(h25,(h26,(h27,(h28,(h29,(h30,(h31,(h32,(h33,(h34,(h35,(h36,(h37,(h38,(h39,(h40,(h41,(h42,(h43,(h44,(h45,(h46,(IntKind.wrap .i64 (h47-1)))))))))))))))))))))))))
   else
    some (h24,(h25,(h26,(h27,(h28,(h29,(h30,(h31,(h32,(h33,(h34,(h35,(h36,(h37,(h38,(h39,(h40,(h41,(h42,(h43,(h44,(h45,(h46,h47)))))))))))))))))))))))) fun o=>
  some (.inl ((IntKind.wrap .i64 (x+1)),(o.1,(o.2.1,(o.2.2.1,(o.2.2.2.1,(o.2.2.2.2.1,(o.2.2.2.2.2.1,(o.2.2.2.2.2.2.1,(o.2.2.2.2.2.2.2.1,(o.2.2.2.2.2.2.2.2.1,(o.2.2.2.2.2.2.2.2.2.1,(o.2.2.2.2.2.2.2.2.2.2.1,(o.2.2.2.2.2.2.2.2.2.2.2.1,(o.2.2.2.2.2.2.2.2.2.2.2.2.1,(o.2.2.2.2.2.2.2.2.2.2.2.2.2.1,(o.2.2.2.2.2.2.2.2.2.2.2.2.2.2.1,(o.2.2.2.2.2.2.2.2.2.2.2.2.2.2.2.1,(o.2.2.2.2.2.2.2.2.2.2.2.2.2.2.2.2.1,(o.2.2.2.2.2.2.2.2.2.2.2.2.2.2.2.2.2.1,(o.2.2.2.2.2.2.2.2.2.2.2.2.2.2.2.2.2.2.1,(o.2.2.2.2.2.2.2.2.2.2.2.2.2.2.2.2.2.2.2.1,(o.2.2.2.2.2.2.2.2.2.2.2.2.2.2.2.2.2.2.2.2.1,(o.2.2.2.2.2.2.2.2.2.2.2.2.2.2.2.2.2.2.2.2.2.1,(o.2.2.2.2.2.2.2.2.2.2.2.2.2.2.2.2.2.2.2.2.2.2.1,o.2.2.2.2.2.2.2.2.2.2.2.2.2.2.2.2.2.2.2.2.2.2.2)))))))))))))))))))))))))
 else
  some (.inr (h24,(h25,(h26,(h27,(h28,(h29,(h30,(h31,(h32,(h33,(h34,(h35,(h36,(h37,(h38,(h39,(h40,(h41,(h42,(h43,(h44,(h45,(h46,h47))))))))))))))))))))))))
def mdoesta_l0_it(fu:Nat)(h:List (qT2))(tt:(Int×qT15)):Option (qT15):=
 iter fu (u25 (mdoesta_l0 fu h)) tt
def mdoesta(fu:Nat)(h:List (qT2))(h1:Int)(h2:List (List (UInt8)))(h3:Int)(h4:Int)(h5:Int)(h6:Int)(h7:Int)(h8:List UInt8)(h9:Int)(h10:Int)(h11:List UInt8)(h12:Int)(h13:Int)(h14:List (UInt8))(h15:Int)(h16:Int)(h17:Int)(h18:Int)(h19:Int)(h20:Bool)(h21:Int)(h22:Bool)(h23:Int):Option ((Int×qT15)):=
 (mdoesta_l0_it fu h (0,(h,(h1,(h2,(h3,(h4,(h5,(h6,(h7,(h8,(h9,(h10,(h11,(h12,(h13,(h14,(h15,(h16,(h17,(h18,(h19,(h20,(h21,(h22,500))))))))))))))))))))))))).bind fun o1=>
 some (0,(o1.1,(o1.2.1,(o1.2.2.1,(o1.2.2.2.1,(o1.2.2.2.2.1,(o1.2.2.2.2.2.1,(o1.2.2.2.2.2.2.1,(o1.2.2.2.2.2.2.2.1,(o1.2.2.2.2.2.2.2.2.1,(o1.2.2.2.2.2.2.2.2.2.1,(o1.2.2.2.2.2.2.2.2.2.2.1,(o1.2.2.2.2.2.2.2.2.2.2.2.1,(o1.2.2.2.2.2.2.2.2.2.2.2.2.1,(o1.2.2.2.2.2.2.2.2.2.2.2.2.2.1,(o1.2.2.2.2.2.2.2.2.2.2.2.2.2.2.1,(o1.2.2.2.2.2.2.2.2.2.2.2.2.2.2.2.1,(o1.2.2.2.2.2.2.2.2.2.2.2.2.2.2.2.2.1,(o1.2.2.2.2.2.2.2.2.2.2.2.2.2.2.2.2.2.1,(o1.2.2.2.2.2.2.2.2.2.2.2.2.2.2.2.2.2.2.1,(o1.2.2.2.2.2.2.2.2.2.2.2.2.2.2.2.2.2.2.2.1,(o1.2.2.2.2.2.2.2.2.2.2.2.2.2.2.2.2.2.2.2.2.1,(o1.2.2.2.2.2.2.2.2.2.2.2.2.2.2.2.2.2.2.2.2.2.1,(o1.2.2.2.2.2.2.2.2.2.2.2.2.2.2.2.2.2.2.2.2.2.2.1,o1.2.2.2.2.2.2.2.2.2.2.2.2.2.2.2.2.2.2.2.2.2.2.2))))))))))))))))))))))))
def mdoesta_fa:FnA:=⟨.two lf (.two lf (.two (.two lf (.one (.loop ⟨[0,15],⟨(.cons (.own 0 0 0 0) qL6),[(0,false,qB4)]⟩⟩ false [(0,⟨[0],⟨qL72,[(0,false,qB4)]⟩⟩)] (.two lf (.two lf (.two (.one (.two (.reg [(2,{ids:=[100]})]) (.two lf (.join ⟨[0],⟨qL72,[(0,false,qB4)]⟩⟩ false [] lf)))) lf)))))) lf)),⟨qL72,[(0,false,qB4)]⟩,[⟨qL6,[(0,false,qB4)]⟩],[0]⟩
def mdoesta_ft(fu:Nat):FnT:=⟨52,mdoesta_fa.i,mdoesta_fa.os,u24 (mdoesta fu)⟩
theorem iLZ(fu:Nat):Told Tryz.prog (mdoesta_ft fu):=tk fu mdoesta_fa abZ Tryz.func52 (by kernel_rfl) fun t=>by kernel_rfl
def mdoemad_l0(fu:Nat)(r:(Int×List (qT2)))(x:Int)(h26:List (qT2))(h27:Int)(h28:List (List (UInt8)))(h29:Int)(h30:Int)(h31:Int)(h32:Int)(h33:Int)(h34:List UInt8)(h35:Int)(h36:Int)(h37:List UInt8)(h38:Int)(h39:Int)(h40:List (UInt8))(h41:Int)(h42:Int)(h43:Int)(h44:Int)(h45:Int)(h46:Bool)(h47:Int)(h48:List (UInt8))(h49:List ((List UInt8×Int)))(h50:Bool)(h51:Int)(h52:Int)(h53:Int)(h54:List (qT2))(h55:List (List (UInt8))):Option ((Int×qT32)⊕(qT32)):=
 bif (decide (x<((r.2.length:Nat):Int))) then
  (idx? x h54.length).bind fun q=>
  (h54)[q]?.bind fun r1=>
  Option.bind (α:=((Bool×qT32))) (
   bif (decide (x<((h28.length:Nat):Int))) then
    some (r1.2.2.1,(h26,(h27,(h28,(h29,(h30,(h31,(h32,(h33,(h34,(h35,(h36,(h37,(h38,(h39,(h40,(h41,(h42,(h43,(h44,(h45,(h46,(h47,(h48,(h49,(h50,(h51,(h52,(h53,(h54,h55))))))))))))))))))))))))))))))
   else
    some (false,(h26,(h27,(h28,(h29,(h30,(h31,(h32,(h33,(h34,(h35,(h36,(h37,(h38,(h39,(h40,(h41,(h42,(h43,(h44,(h45,(h46,(h47,(h48,(h49,(h50,(h51,(h52,(h53,(h54,h55))))))))))))))))))))))))))))))) fun o=>
  Option.bind (α:=((List (qT2)×(Int×(List (List (UInt8))×(Int×(Int×(Int×(Int×(Int×(List UInt8×(Int×(Int×(List UInt8×(Int×(Int×(List (UInt8)×(Int×(Int×(Int×(Int×(Int×(Bool×(Int×(List (UInt8)×(List ((List UInt8×Int))×(Bool×(Int×(Int×(Int×(List (qT2)×(List (List (UInt8))×List (UInt8))))))))))))))))))))))))))))))))) (
   bif o.1 then
    (idx? x o.2.2.2.1.length).bind fun q1=>
    (o.2.2.2.1)[q1]?.bind fun r2=>
    (sClo4 fu r2).bind fun r3=>
    some (o.2.1,(o.2.2.1,(o.2.2.2.1,(o.2.2.2.2.1,(o.2.2.2.2.2.1,(o.2.2.2.2.2.2.1,(o.2.2.2.2.2.2.2.1,(o.2.2.2.2.2.2.2.2.1,(o.2.2.2.2.2.2.2.2.2.1,(o.2.2.2.2.2.2.2.2.2.2.1,(o.2.2.2.2.2.2.2.2.2.2.2.1,(o.2.2.2.2.2.2.2.2.2.2.2.2.1,(o.2.2.2.2.2.2.2.2.2.2.2.2.2.1,(o.2.2.2.2.2.2.2.2.2.2.2.2.2.2.1,(o.2.2.2.2.2.2.2.2.2.2.2.2.2.2.2.1,(o.2.2.2.2.2.2.2.2.2.2.2.2.2.2.2.2.1,(o.2.2.2.2.2.2.2.2.2.2.2.2.2.2.2.2.2.1,(o.2.2.2.2.2.2.2.2.2.2.2.2.2.2.2.2.2.2.1,(o.2.2.2.2.2.2.2.2.2.2.2.2.2.2.2.2.2.2.2.1,(o.2.2.2.2.2.2.2.2.2.2.2.2.2.2.2.2.2.2.2.2.1,(o.2.2.2.2.2.2.2.2.2.2.2.2.2.2.2.2.2.2.2.2.2.1,(o.2.2.2.2.2.2.2.2.2.2.2.2.2.2.2.2.2.2.2.2.2.2.1,(o.2.2.2.2.2.2.2.2.2.2.2.2.2.2.2.2.2.2.2.2.2.2.2.1,(o.2.2.2.2.2.2.2.2.2.2.2.2.2.2.2.2.2.2.2.2.2.2.2.2.1,(o.2.2.2.2.2.2.2.2.2.2.2.2.2.2.2.2.2.2.2.2.2.2.2.2.2.1,(o.2.2.2.2.2.2.2.2.2.2.2.2.2.2.2.2.2.2.2.2.2.2.2.2.2.2.1,(o.2.2.2.2.2.2.2.2.2.2.2.2.2.2.2.2.2.2.2.2.2.2.2.2.2.2.2.1,(o.2.2.2.2.2.2.2.2.2.2.2.2.2.2.2.2.2.2.2.2.2.2.2.2.2.2.2.2.1,(o.2.2.2.2.2.2.2.2.2.2.2.2.2.2.2.2.2.2.2.2.2.2.2.2.2.2.2.2.2.1,(o.2.2.2.2.2.2.2.2.2.2.2.2.2.2.2.2.2.2.2.2.2.2.2.2.2.2.2.2.2.2,r3))))))))))))))))))))))))))))))
   else
    some (o.2.1,(o.2.2.1,(o.2.2.2.1,(o.2.2.2.2.1,(o.2.2.2.2.2.1,(o.2.2.2.2.2.2.1,(o.2.2.2.2.2.2.2.1,(o.2.2.2.2.2.2.2.2.1,(o.2.2.2.2.2.2.2.2.2.1,(o.2.2.2.2.2.2.2.2.2.2.1,(o.2.2.2.2.2.2.2.2.2.2.2.1,(o.2.2.2.2.2.2.2.2.2.2.2.2.1,(o.2.2.2.2.2.2.2.2.2.2.2.2.2.1,(o.2.2.2.2.2.2.2.2.2.2.2.2.2.2.1,(o.2.2.2.2.2.2.2.2.2.2.2.2.2.2.2.1,(o.2.2.2.2.2.2.2.2.2.2.2.2.2.2.2.2.1,(o.2.2.2.2.2.2.2.2.2.2.2.2.2.2.2.2.2.1,(o.2.2.2.2.2.2.2.2.2.2.2.2.2.2.2.2.2.2.1,(o.2.2.2.2.2.2.2.2.2.2.2.2.2.2.2.2.2.2.2.1,(o.2.2.2.2.2.2.2.2.2.2.2.2.2.2.2.2.2.2.2.2.1,(o.2.2.2.2.2.2.2.2.2.2.2.2.2.2.2.2.2.2.2.2.2.1,(o.2.2.2.2.2.2.2.2.2.2.2.2.2.2.2.2.2.2.2.2.2.2.1,(o.2.2.2.2.2.2.2.2.2.2.2.2.2.2.2.2.2.2.2.2.2.2.2.1,(o.2.2.2.2.2.2.2.2.2.2.2.2.2.2.2.2.2.2.2.2.2.2.2.2.1,(o.2.2.2.2.2.2.2.2.2.2.2.2.2.2.2.2.2.2.2.2.2.2.2.2.2.1,(o.2.2.2.2.2.2.2.2.2.2.2.2.2.2.2.2.2.2.2.2.2.2.2.2.2.2.1,(o.2.2.2.2.2.2.2.2.2.2.2.2.2.2.2.2.2.2.2.2.2.2.2.2.2.2.2.1,(o.2.2.2.2.2.2.2.2.2.2.2.2.2.2.2.2.2.2.2.2.2.2.2.2.2.2.2.2.1,(o.2.2.2.2.2.2.2.2.2.2.2.2.2.2.2.2.2.2.2.2.2.2.2.2.2.2.2.2.2.1,(o.2.2.2.2.2.2.2.2.2.2.2.2.2.2.2.2.2.2.2.2.2.2.2.2.2.2.2.2.2.2,[]))))))))))))))))))))))))))))))) fun o1=>
  need ((Nat.ble ((o1.2.2.2.2.2.2.2.2.2.2.2.2.2.2.2.2.2.2.2.2.2.2.2.2.2.2.2.2.2.1.length+1)*24) room)&&(Nat.ble (o1.2.2.2.2.2.2.2.2.2.2.2.2.2.2.2.2.2.2.2.2.2.2.2.2.2.2.2.2.2.1.length+1) room))<|
  some (.inl ((IntKind.wrap .i64 (x+1)),(o1.1,(o1.2.1,(o1.2.2.1,(o1.2.2.2.1,(o1.2.2.2.2.1,(o1.2.2.2.2.2.1,(o1.2.2.2.2.2.2.1,(o1.2.2.2.2.2.2.2.1,(o1.2.2.2.2.2.2.2.2.1,(o1.2.2.2.2.2.2.2.2.2.1,(o1.2.2.2.2.2.2.2.2.2.2.1,(o1.2.2.2.2.2.2.2.2.2.2.2.1,(o1.2.2.2.2.2.2.2.2.2.2.2.2.1,(o1.2.2.2.2.2.2.2.2.2.2.2.2.2.1,(o1.2.2.2.2.2.2.2.2.2.2.2.2.2.2.1,(o1.2.2.2.2.2.2.2.2.2.2.2.2.2.2.2.1,(o1.2.2.2.2.2.2.2.2.2.2.2.2.2.2.2.2.1,(o1.2.2.2.2.2.2.2.2.2.2.2.2.2.2.2.2.2.1,(o1.2.2.2.2.2.2.2.2.2.2.2.2.2.2.2.2.2.2.1,(o1.2.2.2.2.2.2.2.2.2.2.2.2.2.2.2.2.2.2.2.1,(o1.2.2.2.2.2.2.2.2.2.2.2.2.2.2.2.2.2.2.2.2.1,(o1.2.2.2.2.2.2.2.2.2.2.2.2.2.2.2.2.2.2.2.2.2.1,(o1.2.2.2.2.2.2.2.2.2.2.2.2.2.2.2.2.2.2.2.2.2.2.1,(o1.2.2.2.2.2.2.2.2.2.2.2.2.2.2.2.2.2.2.2.2.2.2.2.1,(o1.2.2.2.2.2.2.2.2.2.2.2.2.2.2.2.2.2.2.2.2.2.2.2.2.1,(o1.2.2.2.2.2.2.2.2.2.2.2.2.2.2.2.2.2.2.2.2.2.2.2.2.2.1,(o1.2.2.2.2.2.2.2.2.2.2.2.2.2.2.2.2.2.2.2.2.2.2.2.2.2.2.1,(o1.2.2.2.2.2.2.2.2.2.2.2.2.2.2.2.2.2.2.2.2.2.2.2.2.2.2.2.1,(o1.2.2.2.2.2.2.2.2.2.2.2.2.2.2.2.2.2.2.2.2.2.2.2.2.2.2.2.2.1,(o1.2.2.2.2.2.2.2.2.2.2.2.2.2.2.2.2.2.2.2.2.2.2.2.2.2.2.2.2.2.1++[o1.2.2.2.2.2.2.2.2.2.2.2.2.2.2.2.2.2.2.2.2.2.2.2.2.2.2.2.2.2.2]))))))))))))))))))))))))))))))))
 else
  some (.inr (h26,(h27,(h28,(h29,(h30,(h31,(h32,(h33,(h34,(h35,(h36,(h37,(h38,(h39,(h40,(h41,(h42,(h43,(h44,(h45,(h46,(h47,(h48,(h49,(h50,(h51,(h52,(h53,(h54,h55))))))))))))))))))))))))))))))
def mdoemad_l0_it(fu:Nat)(r:(Int×List (qT2)))(tt:(Int×qT32)):Option (qT32):=
 iter fu (fun tt=>mdoemad_l0 fu r tt.1 tt.2.1 tt.2.2.1 tt.2.2.2.1 tt.2.2.2.2.1 tt.2.2.2.2.2.1 tt.2.2.2.2.2.2.1 tt.2.2.2.2.2.2.2.1 tt.2.2.2.2.2.2.2.2.1 tt.2.2.2.2.2.2.2.2.2.1 tt.2.2.2.2.2.2.2.2.2.2.1 tt.2.2.2.2.2.2.2.2.2.2.2.1 tt.2.2.2.2.2.2.2.2.2.2.2.2.1 tt.2.2.2.2.2.2.2.2.2.2.2.2.2.1 tt.2.2.2.2.2.2.2.2.2.2.2.2.2.2.1 tt.2.2.2.2.2.2.2.2.2.2.2.2.2.2.2.1 tt.2.2.2.2.2.2.2.2.2.2.2.2.2.2.2.2.1 tt.2.2.2.2.2.2.2.2.2.2.2.2.2.2.2.2.2.1 tt.2.2.2.2.2.2.2.2.2.2.2.2.2.2.2.2.2.2.1 tt.2.2.2.2.2.2.2.2.2.2.2.2.2.2.2.2.2.2.2.1 tt.2.2.2.2.2.2.2.2.2.2.2.2.2.2.2.2.2.2.2.2.1 tt.2.2.2.2.2.2.2.2.2.2.2.2.2.2.2.2.2.2.2.2.2.1 tt.2.2.2.2.2.2.2.2.2.2.2.2.2.2.2.2.2.2.2.2.2.2.1 tt.2.2.2.2.2.2.2.2.2.2.2.2.2.2.2.2.2.2.2.2.2.2.2.1 tt.2.2.2.2.2.2.2.2.2.2.2.2.2.2.2.2.2.2.2.2.2.2.2.2.1 tt.2.2.2.2.2.2.2.2.2.2.2.2.2.2.2.2.2.2.2.2.2.2.2.2.2.1 tt.2.2.2.2.2.2.2.2.2.2.2.2.2.2.2.2.2.2.2.2.2.2.2.2.2.2.1 tt.2.2.2.2.2.2.2.2.2.2.2.2.2.2.2.2.2.2.2.2.2.2.2.2.2.2.2.1 tt.2.2.2.2.2.2.2.2.2.2.2.2.2.2.2.2.2.2.2.2.2.2.2.2.2.2.2.2.1 tt.2.2.2.2.2.2.2.2.2.2.2.2.2.2.2.2.2.2.2.2.2.2.2.2.2.2.2.2.2.1 tt.2.2.2.2.2.2.2.2.2.2.2.2.2.2.2.2.2.2.2.2.2.2.2.2.2.2.2.2.2.2) tt
def mdoemad(fu:Nat)(h:List (qT2))(h1:Int)(h2:List (List (UInt8)))(h3:Int)(h4:Int)(h5:Int)(h6:Int)(h7:Int)(h8:List UInt8)(h9:Int)(h10:Int)(h11:List UInt8)(h12:Int)(h13:Int)(h14:List (UInt8))(h15:Int)(h16:Int)(h17:Int)(h18:Int)(h19:Int)(h20:Bool)(h21:Int)(h22:List (UInt8))(h23:List ((List UInt8×Int)))(h24:Bool)(h25:Int):Option ((Int×(List (qT2)×(Int×(List (List (UInt8))×(Int×(Int×(Int×(Int×(Int×(List UInt8×(Int×(Int×(List UInt8×(Int×(Int×(List (UInt8)×(Int×(Int×(Int×(Int×(Int×(Bool×(Int×(List (UInt8)×(List ((List UInt8×Int))×(Bool×(Int×(List (qT2)×List (List (UInt8))))))))))))))))))))))))))))))):=
 (mcop fu (h,h1)).bind fun r=>
 (mdoemad_l0_it fu r (0,(h,(h1,(h2,(h3,(h4,(h5,(h6,(h7,(h8,(h9,(h10,(h11,(h12,(h13,(h14,(h15,(h16,(h17,(h18,(h19,(h20,(h21,(h22,(h23,(h24,(h25,(0,(r.1,(r.2,[]))))))))))))))))))))))))))))))).bind fun o2=>
 some (o2.2.2.2.2.2.2.2.2.2.2.2.2.2.2.2.2.2.2.2.2.2.2.2.2.2.2.2.1,(o2.1,(o2.2.1,(o2.2.2.1,(o2.2.2.2.1,(o2.2.2.2.2.1,(o2.2.2.2.2.2.1,(o2.2.2.2.2.2.2.1,(o2.2.2.2.2.2.2.2.1,(o2.2.2.2.2.2.2.2.2.1,(o2.2.2.2.2.2.2.2.2.2.1,(o2.2.2.2.2.2.2.2.2.2.2.1,(o2.2.2.2.2.2.2.2.2.2.2.2.1,(o2.2.2.2.2.2.2.2.2.2.2.2.2.1,(o2.2.2.2.2.2.2.2.2.2.2.2.2.2.1,(o2.2.2.2.2.2.2.2.2.2.2.2.2.2.2.1,(o2.2.2.2.2.2.2.2.2.2.2.2.2.2.2.2.1,(o2.2.2.2.2.2.2.2.2.2.2.2.2.2.2.2.2.1,(o2.2.2.2.2.2.2.2.2.2.2.2.2.2.2.2.2.2.1,(o2.2.2.2.2.2.2.2.2.2.2.2.2.2.2.2.2.2.2.1,(o2.2.2.2.2.2.2.2.2.2.2.2.2.2.2.2.2.2.2.2.1,(o2.2.2.2.2.2.2.2.2.2.2.2.2.2.2.2.2.2.2.2.2.1,(o2.2.2.2.2.2.2.2.2.2.2.2.2.2.2.2.2.2.2.2.2.2.1,(o2.2.2.2.2.2.2.2.2.2.2.2.2.2.2.2.2.2.2.2.2.2.2.1,(o2.2.2.2.2.2.2.2.2.2.2.2.2.2.2.2.2.2.2.2.2.2.2.2.1,(o2.2.2.2.2.2.2.2.2.2.2.2.2.2.2.2.2.2.2.2.2.2.2.2.2.1,(o2.2.2.2.2.2.2.2.2.2.2.2.2.2.2.2.2.2.2.2.2.2.2.2.2.2.1,(o2.2.2.2.2.2.2.2.2.2.2.2.2.2.2.2.2.2.2.2.2.2.2.2.2.2.2.2.2.1,o2.2.2.2.2.2.2.2.2.2.2.2.2.2.2.2.2.2.2.2.2.2.2.2.2.2.2.2.2.2))))))))))))))))))))))))))))
def mdoemad_fa:FnA:=⟨.two (.reg [(0,{ids:=[100]})]) (.two (.reg [(4,{ids:=[101]}),(6,{ids:=[102]})]) (.two (.two lf (.one (.pre (.ownCell 102 2 40 103) (.loop ⟨[0,2,3,15,17],⟨(.cons (.own 0 0 0 0) (.cons (.own 0 100 0 0) (.cons (.own 0 102 0 0) (.cons (.slf 8 101) qL6)))),[(0,true,qB20),(100,false,(.vars qL66)),(102,false,(.vars (.cons (.slf 8 101) (.cons (.p (.int .i64)) (.cons (.slf 1 103) .nil))))),(101,false,(.rows 56 qY0)),(103,false,(.rows 40 (.sl .byte)))]⟩⟩ false [(0,⟨[0,2,3],⟨(.cons (.own 0 0 0 0) (.cons (.own 0 100 0 0) (.cons (.own 0 102 0 0) .nil))),[(0,true,qB20),(100,false,(.vars qL66)),(102,false,(.vars (.cons (.slf 8 101) (.cons (.p (.int .i64)) (.cons (.slf 1 103) .nil))))),(101,false,(.rows 56 qY0)),(103,false,(.rows 40 (.sl .byte)))]⟩⟩)] (.two lf (.two lf (.two (.one (.two (.reg [(3,{ids:=[104]})]) (.two lf (.two (.two (.join ⟨[0,2,3,15,32],⟨(.cons (.own 0 0 0 0) (.cons (.own 0 100 0 0) (.cons (.own 0 102 0 0) (.cons (.slf 8 101) (.cons (.p .bool) .nil))))),[(0,true,qB20),(100,false,(.vars qL66)),(102,false,(.vars (.cons (.slf 8 101) (.cons (.p (.int .i64)) (.cons (.slf 1 103) .nil))))),(101,false,(.rows 56 qY0)),(103,false,(.rows 40 (.sl .byte)))]⟩⟩ false [] lf) (.pre (.ownNil 6 5 105) (.join ⟨[0,2,3,6,15],⟨(.cons (.own 0 0 0 0) (.cons (.own 0 100 0 0) (.cons (.own 0 102 0 0) (.cons (.slf 1 106) (.cons (.slf 8 101) .nil))))),[(0,true,qB20),(100,false,(.vars qL66)),(102,false,(.vars (.cons (.slf 8 101) (.cons (.p (.int .i64)) (.cons (.slf 1 103) .nil))))),(101,false,(.rows 56 qY0)),(103,false,(.rows 40 (.sl .byte))),(106,false,(.rows 5 .byte))]⟩⟩ false [] (.two (.reg [(7,{ids:=[106],fn:=1})]) lf)))) (.reg [(3,{ids:=[107]}),(4,{ids:=[108]})]))))) lf))))))) lf)),⟨qL72,[(0,true,qB20)]⟩,[⟨(.cons (.agg (.cons (.slf 8 1) (.cons (.p (.int .i64)) (.cons (.slf 1 2) .nil)))) .nil),[(0,true,qB20),(1,false,(.rows 56 qY0)),(2,false,(.rows 40 (.sl .byte)))]⟩],[0]⟩
def mdoemad_ft(fu:Nat):FnT:=⟨55,mdoemad_fa.i,mdoemad_fa.os,u26 (mdoemad fu)⟩
theorem i2Z(fu:Nat):Told Tryz.prog (mdoemad_ft fu):=tk fu mdoemad_fa (aaZ (dGZ fu) (aaZ (cbZ fu) abZ)) Tryz.func55 (by kernel_rfl) fun t=>by kernel_rfl
def model_Do_l0(fu:Nat)(o1:qT18)(x:Int)(h:Int)(h1:Int)(h2:Int)(h3:Int)(h4:Int)(h5:List UInt8)(h6:Int)(h7:Int)(h8:List UInt8)(h9:Int)(h10:Int)(h11:List (UInt8))(h12:Int)(h13:Int)(h14:Int)(h15:Int)(h16:Int)(h17:Int)(h18:Bool)(h19:Int)(h20:Bool)(h21:Int)(h22:Int)(h23:List (qT2))(h24:List (List (UInt8))):Option ((Int×qT26)⊕(qT26)):=
 bif (decide (x<((o1.2.2.2.1.length:Nat):Int))) then
  (idx? x o1.2.2.2.1.length).bind fun q=>
  (o1.2.2.2.1)[q]?.bind fun r15=>
  (sClo4 fu r15).bind fun r16=>
  need ((Nat.ble ((h24.length+1)*24) room)&&(Nat.ble (h24.length+1) room))<|
  some (.inl ((IntKind.wrap .i64 (x+1)),(h,(h1,(h2,(h3,(h4,(h5,(h6,(h7,(h8,(h9,(h10,(h11,(h12,(h13,(h14,(h15,(h16,(h17,(h18,(h19,(h20,(h21,(h22,(h23,(h24++[r16])))))))))))))))))))))))))))
 else
  some (.inr (h,(h1,(h2,(h3,(h4,(h5,(h6,(h7,(h8,(h9,(h10,(h11,(h12,(h13,(h14,(h15,(h16,(h17,(h18,(h19,(h20,(h21,(h22,(h23,h24)))))))))))))))))))))))))
def model_Do_l0_it(fu:Nat)(o1:qT18)(tt:(Int×qT26)):Option (qT26):=
 iter fu (fun tt=>model_Do_l0 fu o1 tt.1 tt.2.1 tt.2.2.1 tt.2.2.2.1 tt.2.2.2.2.1 tt.2.2.2.2.2.1 tt.2.2.2.2.2.2.1 tt.2.2.2.2.2.2.2.1 tt.2.2.2.2.2.2.2.2.1 tt.2.2.2.2.2.2.2.2.2.1 tt.2.2.2.2.2.2.2.2.2.2.1 tt.2.2.2.2.2.2.2.2.2.2.2.1 tt.2.2.2.2.2.2.2.2.2.2.2.2.1 tt.2.2.2.2.2.2.2.2.2.2.2.2.2.1 tt.2.2.2.2.2.2.2.2.2.2.2.2.2.2.1 tt.2.2.2.2.2.2.2.2.2.2.2.2.2.2.2.1 tt.2.2.2.2.2.2.2.2.2.2.2.2.2.2.2.2.1 tt.2.2.2.2.2.2.2.2.2.2.2.2.2.2.2.2.2.1 tt.2.2.2.2.2.2.2.2.2.2.2.2.2.2.2.2.2.2.1 tt.2.2.2.2.2.2.2.2.2.2.2.2.2.2.2.2.2.2.2.1 tt.2.2.2.2.2.2.2.2.2.2.2.2.2.2.2.2.2.2.2.2.1 tt.2.2.2.2.2.2.2.2.2.2.2.2.2.2.2.2.2.2.2.2.2.1 tt.2.2.2.2.2.2.2.2.2.2.2.2.2.2.2.2.2.2.2.2.2.2.1 tt.2.2.2.2.2.2.2.2.2.2.2.2.2.2.2.2.2.2.2.2.2.2.2.1 tt.2.2.2.2.2.2.2.2.2.2.2.2.2.2.2.2.2.2.2.2.2.2.2.2.1 tt.2.2.2.2.2.2.2.2.2.2.2.2.2.2.2.2.2.2.2.2.2.2.2.2.2) tt
def model_Do_l1(fu:Nat)(m:((List (qT2)×Int)×List (List (UInt8))))(x1:Int)(h25:Int)(h26:Int)(h27:Int)(h28:Int)(h29:Int)(h30:List UInt8)(h31:Int)(h32:Int)(h33:List UInt8)(h34:Int)(h35:Int)(h36:List (UInt8))(h37:Int)(h38:Int)(h39:Int)(h40:Int)(h41:Int)(h42:Int)(h43:Bool)(h44:Int)(h45:Bool)(h46:Int)(h47:Int)(h48:List (qT2))(h49:List (List (UInt8))):Option ((Int×qT26)⊕(qT26)):=
 bif (decide (x1<((m.2.length:Nat):Int))) then
  (idx? x1 m.2.length).bind fun q1=>
  (m.2)[q1]?.bind fun r19=>
  (sClo4 fu r19).bind fun r20=>
  need ((Nat.ble ((h49.length+1)*24) room)&&(Nat.ble (h49.length+1) room))<|
  some (.inl ((IntKind.wrap .i64 (x1+1)),(h25,(h26,(h27,(h28,(h29,(h30,(h31,(h32,(h33,(h34,(h35,(h36,(h37,(h38,(h39,(h40,(h41,(h42,(h43,(h44,(h45,(h46,(h47,(h48,(h49++[r20])))))))))))))))))))))))))))
 else
  some (.inr (h25,(h26,(h27,(h28,(h29,(h30,(h31,(h32,(h33,(h34,(h35,(h36,(h37,(h38,(h39,(h40,(h41,(h42,(h43,(h44,(h45,(h46,(h47,(h48,h49)))))))))))))))))))))))))
def model_Do_l1_it(fu:Nat)(m:((List (qT2)×Int)×List (List (UInt8))))(tt:(Int×qT26)):Option (qT26):=
 iter fu (u26 (model_Do_l1 fu m)) tt
def model_Do(fu:Nat)(m:((List (qT2)×Int)×List (List (UInt8))))(c:qT13):Option ((Int×(Int×(Int×(Int×(Int×(Int×(Bool×(Int×(List (UInt8)×(List ((List UInt8×Int))×(Bool×(Int×(List (qT2)×List (List (UInt8)))))))))))))))):=
 need ((!((UInt8.ofNat 2)==(UInt8.ofNat 1)))&&true)<|
 need ((!((UInt8.ofNat 3)==(UInt8.ofNat 1)))&&((!((UInt8.ofNat 3)==(UInt8.ofNat 2)))&&true))<|
 need ((!((UInt8.ofNat 4)==(UInt8.ofNat 1)))&&((!((UInt8.ofNat 4)==(UInt8.ofNat 2)))&&((!((UInt8.ofNat 4)==(UInt8.ofNat 3)))&&true)))<|
 need ((!((UInt8.ofNat 5)==(UInt8.ofNat 1)))&&((!((UInt8.ofNat 5)==(UInt8.ofNat 2)))&&((!((UInt8.ofNat 5)==(UInt8.ofNat 3)))&&((!((UInt8.ofNat 5)==(UInt8.ofNat 4)))&&true))))<|
 need ((!((UInt8.ofNat 6)==(UInt8.ofNat 1)))&&((!((UInt8.ofNat 6)==(UInt8.ofNat 2)))&&((!((UInt8.ofNat 6)==(UInt8.ofNat 3)))&&((!((UInt8.ofNat 6)==(UInt8.ofNat 4)))&&((!((UInt8.ofNat 6)==(UInt8.ofNat 5)))&&true)))))<|
 need ((!((UInt8.ofNat 7)==(UInt8.ofNat 1)))&&((!((UInt8.ofNat 7)==(UInt8.ofNat 2)))&&((!((UInt8.ofNat 7)==(UInt8.ofNat 3)))&&((!((UInt8.ofNat 7)==(UInt8.ofNat 4)))&&((!((UInt8.ofNat 7)==(UInt8.ofNat 5)))&&((!((UInt8.ofNat 7)==(UInt8.ofNat 6)))&&true))))))<|
 need ((!((UInt8.ofNat 8)==(UInt8.ofNat 1)))&&((!((UInt8.ofNat 8)==(UInt8.ofNat 2)))&&((!((UInt8.ofNat 8)==(UInt8.ofNat 3)))&&((!((UInt8.ofNat 8)==(UInt8.ofNat 4)))&&((!((UInt8.ofNat 8)==(UInt8.ofNat 5)))&&((!((UInt8.ofNat 8)==(UInt8.ofNat 6)))&&((!((UInt8.ofNat 8)==(UInt8.ofNat 7)))&&true)))))))<|
 need ((!((UInt8.ofNat 9)==(UInt8.ofNat 1)))&&((!((UInt8.ofNat 9)==(UInt8.ofNat 2)))&&((!((UInt8.ofNat 9)==(UInt8.ofNat 3)))&&((!((UInt8.ofNat 9)==(UInt8.ofNat 4)))&&((!((UInt8.ofNat 9)==(UInt8.ofNat 5)))&&((!((UInt8.ofNat 9)==(UInt8.ofNat 6)))&&((!((UInt8.ofNat 9)==(UInt8.ofNat 7)))&&((!((UInt8.ofNat 9)==(UInt8.ofNat 8)))&&true))))))))<|
 need ((!((UInt8.ofNat 10)==(UInt8.ofNat 1)))&&((!((UInt8.ofNat 10)==(UInt8.ofNat 2)))&&((!((UInt8.ofNat 10)==(UInt8.ofNat 3)))&&((!((UInt8.ofNat 10)==(UInt8.ofNat 4)))&&((!((UInt8.ofNat 10)==(UInt8.ofNat 5)))&&((!((UInt8.ofNat 10)==(UInt8.ofNat 6)))&&((!((UInt8.ofNat 10)==(UInt8.ofNat 7)))&&((!((UInt8.ofNat 10)==(UInt8.ofNat 8)))&&((!((UInt8.ofNat 10)==(UInt8.ofNat 9)))&&true)))))))))<|
 need ((!((UInt8.ofNat 11)==(UInt8.ofNat 1)))&&((!((UInt8.ofNat 11)==(UInt8.ofNat 2)))&&((!((UInt8.ofNat 11)==(UInt8.ofNat 3)))&&((!((UInt8.ofNat 11)==(UInt8.ofNat 4)))&&((!((UInt8.ofNat 11)==(UInt8.ofNat 5)))&&((!((UInt8.ofNat 11)==(UInt8.ofNat 6)))&&((!((UInt8.ofNat 11)==(UInt8.ofNat 7)))&&((!((UInt8.ofNat 11)==(UInt8.ofNat 8)))&&((!((UInt8.ofNat 11)==(UInt8.ofNat 9)))&&((!((UInt8.ofNat 11)==(UInt8.ofNat 10)))&&true))))))))))<|
 need ((!((UInt8.ofNat 12)==(UInt8.ofNat 1)))&&((!((UInt8.ofNat 12)==(UInt8.ofNat 2)))&&((!((UInt8.ofNat 12)==(UInt8.ofNat 3)))&&((!((UInt8.ofNat 12)==(UInt8.ofNat 4)))&&((!((UInt8.ofNat 12)==(UInt8.ofNat 5)))&&((!((UInt8.ofNat 12)==(UInt8.ofNat 6)))&&((!((UInt8.ofNat 12)==(UInt8.ofNat 7)))&&((!((UInt8.ofNat 12)==(UInt8.ofNat 8)))&&((!((UInt8.ofNat 12)==(UInt8.ofNat 9)))&&((!((UInt8.ofNat 12)==(UInt8.ofNat 10)))&&((!((UInt8.ofNat 12)==(UInt8.ofNat 11)))&&true)))))))))))<|
 (mRig fu ((m.1.1,m.1.2),m.2)).bind fun r=>
 bif r then
  (byte? ((c.2.2.1.toNat:Nat):Int)).bind fun c1=>
  (cRigCal fu (c.1,(c.2.1,(c1,((c.2.2.2.1.1,c.2.2.2.1.2),(c.2.2.2.2.1,((c.2.2.2.2.2.1.1,c.2.2.2.2.2.1.2),(c.2.2.2.2.2.2.1,(c.2.2.2.2.2.2.2.1,(c.2.2.2.2.2.2.2.2.1,c.2.2.2.2.2.2.2.2.2)))))))))).bind fun r1=>
  Option.bind (α:=(qT18)) (
   bif r1 then
    Option.bind (α:=(qT18)) (
     (byte? ((c.2.2.1.toNat:Nat):Int)).bind fun c2=>
     bif (c2==(UInt8.ofNat 1)) then
      (mdoeloo fu m.1.1 m.1.2 m.2 c.1 c.2.1 ((c.2.2.1.toNat:Nat):Int) c.2.2.2.1.1 c.2.2.2.1.2 c.2.2.2.2.1 c.2.2.2.2.2.1.1 c.2.2.2.2.2.1.2 c.2.2.2.2.2.2.1 c.2.2.2.2.2.2.2.1 c.2.2.2.2.2.2.2.2.1 c.2.2.2.2.2.2.2.2.2 c.1 c.2.1 0 0 0 false 0 false 0).bind fun r2=>
      some (r2.1,(m.1.1,(m.1.2,(m.2,(c.1,(c.2.1,(((c.2.2.1.toNat:Nat):Int),(c.2.2.2.1.1,(c.2.2.2.1.2,(c.2.2.2.2.1,(c.2.2.2.2.2.1.1,(c.2.2.2.2.2.1.2,(c.2.2.2.2.2.2.1,(c.2.2.2.2.2.2.2.1,(c.2.2.2.2.2.2.2.2.1,(c.2.2.2.2.2.2.2.2.2,(0,(0,(0,(0,(0,(0,(false,(0,(false,(0,(r2.2.1,(r2.2.2.1,(r2.2.2.2.1,(r2.2.2.2.2.1,(r2.2.2.2.2.2.1,(r2.2.2.2.2.2.2.1,(r2.2.2.2.2.2.2.2.1,(r2.2.2.2.2.2.2.2.2.1,(r2.2.2.2.2.2.2.2.2.2.1,(r2.2.2.2.2.2.2.2.2.2.2.1,(r2.2.2.2.2.2.2.2.2.2.2.2.1,(r2.2.2.2.2.2.2.2.2.2.2.2.2.1,(r2.2.2.2.2.2.2.2.2.2.2.2.2.2.1,(r2.2.2.2.2.2.2.2.2.2.2.2.2.2.2.1,(r2.2.2.2.2.2.2.2.2.2.2.2.2.2.2.2.1,(r2.2.2.2.2.2.2.2.2.2.2.2.2.2.2.2.2.1,(r2.2.2.2.2.2.2.2.2.2.2.2.2.2.2.2.2.2.1,(r2.2.2.2.2.2.2.2.2.2.2.2.2.2.2.2.2.2.2.1,(r2.2.2.2.2.2.2.2.2.2.2.2.2.2.2.2.2.2.2.2.1,(r2.2.2.2.2.2.2.2.2.2.2.2.2.2.2.2.2.2.2.2.2.1,(r2.2.2.2.2.2.2.2.2.2.2.2.2.2.2.2.2.2.2.2.2.2.1,(r2.2.2.2.2.2.2.2.2.2.2.2.2.2.2.2.2.2.2.2.2.2.2.1,([],([],(r2.2.2.2.2.2.2.2.2.2.2.2.2.2.2.2.2.2.2.2.2.2.2.2.1,r2.2.2.2.2.2.2.2.2.2.2.2.2.2.2.2.2.2.2.2.2.2.2.2.2)))))))))))))))))))))))))))))))))))))))))))))))))))
     else
      bif (c2==(UInt8.ofNat 2)) then
       (mdoemak fu m.1.1 m.1.2 m.2 c.1 c.2.1 ((c.2.2.1.toNat:Nat):Int) c.2.2.2.1.1 c.2.2.2.1.2 c.2.2.2.2.1 c.2.2.2.2.2.1.1 c.2.2.2.2.2.1.2 c.2.2.2.2.2.2.1 c.2.2.2.2.2.2.2.1 c.2.2.2.2.2.2.2.2.1 c.2.2.2.2.2.2.2.2.2 c.1 c.2.1 0 0 0 false 0 false 0).bind fun r3=>
       some (r3.1,(m.1.1,(m.1.2,(m.2,(c.1,(c.2.1,(((c.2.2.1.toNat:Nat):Int),(c.2.2.2.1.1,(c.2.2.2.1.2,(c.2.2.2.2.1,(c.2.2.2.2.2.1.1,(c.2.2.2.2.2.1.2,(c.2.2.2.2.2.2.1,(c.2.2.2.2.2.2.2.1,(c.2.2.2.2.2.2.2.2.1,(c.2.2.2.2.2.2.2.2.2,(0,(0,(0,(0,(0,(0,(false,(0,(false,(0,(r3.2.1,(r3.2.2.1,(r3.2.2.2.1,(r3.2.2.2.2.1,(r3.2.2.2.2.2.1,(r3.2.2.2.2.2.2.1,(r3.2.2.2.2.2.2.2.1,(r3.2.2.2.2.2.2.2.2.1,(r3.2.2.2.2.2.2.2.2.2.1,(r3.2.2.2.2.2.2.2.2.2.2.1,(r3.2.2.2.2.2.2.2.2.2.2.2.1,(r3.2.2.2.2.2.2.2.2.2.2.2.2.1,(r3.2.2.2.2.2.2.2.2.2.2.2.2.2.1,(r3.2.2.2.2.2.2.2.2.2.2.2.2.2.2.1,(r3.2.2.2.2.2.2.2.2.2.2.2.2.2.2.2.1,(r3.2.2.2.2.2.2.2.2.2.2.2.2.2.2.2.2.1,(r3.2.2.2.2.2.2.2.2.2.2.2.2.2.2.2.2.2.1,(r3.2.2.2.2.2.2.2.2.2.2.2.2.2.2.2.2.2.2.1,(r3.2.2.2.2.2.2.2.2.2.2.2.2.2.2.2.2.2.2.2.1,(r3.2.2.2.2.2.2.2.2.2.2.2.2.2.2.2.2.2.2.2.2.1,(r3.2.2.2.2.2.2.2.2.2.2.2.2.2.2.2.2.2.2.2.2.2.1,(r3.2.2.2.2.2.2.2.2.2.2.2.2.2.2.2.2.2.2.2.2.2.2.1,([],([],(r3.2.2.2.2.2.2.2.2.2.2.2.2.2.2.2.2.2.2.2.2.2.2.2.1,r3.2.2.2.2.2.2.2.2.2.2.2.2.2.2.2.2.2.2.2.2.2.2.2.2)))))))))))))))))))))))))))))))))))))))))))))))))))
      else
       bif (c2==(UInt8.ofNat 3)) then
        (mdoemak fu m.1.1 m.1.2 m.2 c.1 c.2.1 ((c.2.2.1.toNat:Nat):Int) c.2.2.2.1.1 c.2.2.2.1.2 c.2.2.2.2.1 c.2.2.2.2.2.1.1 c.2.2.2.2.2.1.2 c.2.2.2.2.2.2.1 c.2.2.2.2.2.2.2.1 c.2.2.2.2.2.2.2.2.1 c.2.2.2.2.2.2.2.2.2 c.1 c.2.1 0 0 0 false 0 false 0).bind fun r4=>
        some (r4.1,(m.1.1,(m.1.2,(m.2,(c.1,(c.2.1,(((c.2.2.1.toNat:Nat):Int),(c.2.2.2.1.1,(c.2.2.2.1.2,(c.2.2.2.2.1,(c.2.2.2.2.2.1.1,(c.2.2.2.2.2.1.2,(c.2.2.2.2.2.2.1,(c.2.2.2.2.2.2.2.1,(c.2.2.2.2.2.2.2.2.1,(c.2.2.2.2.2.2.2.2.2,(0,(0,(0,(0,(0,(0,(false,(0,(false,(0,(r4.2.1,(r4.2.2.1,(r4.2.2.2.1,(r4.2.2.2.2.1,(r4.2.2.2.2.2.1,(r4.2.2.2.2.2.2.1,(r4.2.2.2.2.2.2.2.1,(r4.2.2.2.2.2.2.2.2.1,(r4.2.2.2.2.2.2.2.2.2.1,(r4.2.2.2.2.2.2.2.2.2.2.1,(r4.2.2.2.2.2.2.2.2.2.2.2.1,(r4.2.2.2.2.2.2.2.2.2.2.2.2.1,(r4.2.2.2.2.2.2.2.2.2.2.2.2.2.1,(r4.2.2.2.2.2.2.2.2.2.2.2.2.2.2.1,(r4.2.2.2.2.2.2.2.2.2.2.2.2.2.2.2.1,(r4.2.2.2.2.2.2.2.2.2.2.2.2.2.2.2.2.1,(r4.2.2.2.2.2.2.2.2.2.2.2.2.2.2.2.2.2.1,(r4.2.2.2.2.2.2.2.2.2.2.2.2.2.2.2.2.2.2.1,(r4.2.2.2.2.2.2.2.2.2.2.2.2.2.2.2.2.2.2.2.1,(r4.2.2.2.2.2.2.2.2.2.2.2.2.2.2.2.2.2.2.2.2.1,(r4.2.2.2.2.2.2.2.2.2.2.2.2.2.2.2.2.2.2.2.2.2.1,(r4.2.2.2.2.2.2.2.2.2.2.2.2.2.2.2.2.2.2.2.2.2.2.1,([],([],(r4.2.2.2.2.2.2.2.2.2.2.2.2.2.2.2.2.2.2.2.2.2.2.2.1,r4.2.2.2.2.2.2.2.2.2.2.2.2.2.2.2.2.2.2.2.2.2.2.2.2)))))))))))))))))))))))))))))))))))))))))))))))))))
       else
        bif (c2==(UInt8.ofNat 4)) then
         (mdoerea fu m.1.1 m.1.2 m.2 c.1 c.2.1 ((c.2.2.1.toNat:Nat):Int) c.2.2.2.1.1 c.2.2.2.1.2 c.2.2.2.2.1 c.2.2.2.2.2.1.1 c.2.2.2.2.2.1.2 c.2.2.2.2.2.2.1 c.2.2.2.2.2.2.2.1 c.2.2.2.2.2.2.2.2.1 c.2.2.2.2.2.2.2.2.2 c.1 c.2.1 0 0 0 false 0 false 0).bind fun r5=>
         some (r5.1,(m.1.1,(m.1.2,(m.2,(c.1,(c.2.1,(((c.2.2.1.toNat:Nat):Int),(c.2.2.2.1.1,(c.2.2.2.1.2,(c.2.2.2.2.1,(c.2.2.2.2.2.1.1,(c.2.2.2.2.2.1.2,(c.2.2.2.2.2.2.1,(c.2.2.2.2.2.2.2.1,(c.2.2.2.2.2.2.2.2.1,(c.2.2.2.2.2.2.2.2.2,(0,(0,(0,(0,(0,(0,(false,(0,(false,(0,(r5.2.1,(r5.2.2.1,(r5.2.2.2.1,(r5.2.2.2.2.1,(r5.2.2.2.2.2.1,(r5.2.2.2.2.2.2.1,(r5.2.2.2.2.2.2.2.1,(r5.2.2.2.2.2.2.2.2.1,(r5.2.2.2.2.2.2.2.2.2.1,(r5.2.2.2.2.2.2.2.2.2.2.1,(r5.2.2.2.2.2.2.2.2.2.2.2.1,(r5.2.2.2.2.2.2.2.2.2.2.2.2.1,(r5.2.2.2.2.2.2.2.2.2.2.2.2.2.1,(r5.2.2.2.2.2.2.2.2.2.2.2.2.2.2.1,(r5.2.2.2.2.2.2.2.2.2.2.2.2.2.2.2.1,(r5.2.2.2.2.2.2.2.2.2.2.2.2.2.2.2.2.1,(r5.2.2.2.2.2.2.2.2.2.2.2.2.2.2.2.2.2.1,(r5.2.2.2.2.2.2.2.2.2.2.2.2.2.2.2.2.2.2.1,(r5.2.2.2.2.2.2.2.2.2.2.2.2.2.2.2.2.2.2.2.1,(r5.2.2.2.2.2.2.2.2.2.2.2.2.2.2.2.2.2.2.2.2.1,(r5.2.2.2.2.2.2.2.2.2.2.2.2.2.2.2.2.2.2.2.2.2.1,(r5.2.2.2.2.2.2.2.2.2.2.2.2.2.2.2.2.2.2.2.2.2.2.1,(r5.2.2.2.2.2.2.2.2.2.2.2.2.2.2.2.2.2.2.2.2.2.2.2.1,([],(r5.2.2.2.2.2.2.2.2.2.2.2.2.2.2.2.2.2.2.2.2.2.2.2.2.1,r5.2.2.2.2.2.2.2.2.2.2.2.2.2.2.2.2.2.2.2.2.2.2.2.2.2)))))))))))))))))))))))))))))))))))))))))))))))))))
        else
         bif (c2==(UInt8.ofNat 5)) then
          (mdoewri fu m.1.1 m.1.2 m.2 c.1 c.2.1 ((c.2.2.1.toNat:Nat):Int) c.2.2.2.1.1 c.2.2.2.1.2 c.2.2.2.2.1 c.2.2.2.2.2.1.1 c.2.2.2.2.2.1.2 c.2.2.2.2.2.2.1 c.2.2.2.2.2.2.2.1 c.2.2.2.2.2.2.2.2.1 c.2.2.2.2.2.2.2.2.2 c.1 c.2.1 0 0 0 false 0 false 0).bind fun r6=>
          some (r6.1,(m.1.1,(m.1.2,(m.2,(c.1,(c.2.1,(((c.2.2.1.toNat:Nat):Int),(c.2.2.2.1.1,(c.2.2.2.1.2,(c.2.2.2.2.1,(c.2.2.2.2.2.1.1,(c.2.2.2.2.2.1.2,(c.2.2.2.2.2.2.1,(c.2.2.2.2.2.2.2.1,(c.2.2.2.2.2.2.2.2.1,(c.2.2.2.2.2.2.2.2.2,(0,(0,(0,(0,(0,(0,(false,(0,(false,(0,(r6.2.1,(r6.2.2.1,(r6.2.2.2.1,(r6.2.2.2.2.1,(r6.2.2.2.2.2.1,(r6.2.2.2.2.2.2.1,(r6.2.2.2.2.2.2.2.1,(r6.2.2.2.2.2.2.2.2.1,(r6.2.2.2.2.2.2.2.2.2.1,(r6.2.2.2.2.2.2.2.2.2.2.1,(r6.2.2.2.2.2.2.2.2.2.2.2.1,(r6.2.2.2.2.2.2.2.2.2.2.2.2.1,(r6.2.2.2.2.2.2.2.2.2.2.2.2.2.1,(r6.2.2.2.2.2.2.2.2.2.2.2.2.2.2.1,(r6.2.2.2.2.2.2.2.2.2.2.2.2.2.2.2.1,(r6.2.2.2.2.2.2.2.2.2.2.2.2.2.2.2.2.1,(r6.2.2.2.2.2.2.2.2.2.2.2.2.2.2.2.2.2.1,(r6.2.2.2.2.2.2.2.2.2.2.2.2.2.2.2.2.2.2.1,(r6.2.2.2.2.2.2.2.2.2.2.2.2.2.2.2.2.2.2.2.1,(r6.2.2.2.2.2.2.2.2.2.2.2.2.2.2.2.2.2.2.2.2.1,(r6.2.2.2.2.2.2.2.2.2.2.2.2.2.2.2.2.2.2.2.2.2.1,(r6.2.2.2.2.2.2.2.2.2.2.2.2.2.2.2.2.2.2.2.2.2.2.1,([],([],(r6.2.2.2.2.2.2.2.2.2.2.2.2.2.2.2.2.2.2.2.2.2.2.2.1,r6.2.2.2.2.2.2.2.2.2.2.2.2.2.2.2.2.2.2.2.2.2.2.2.2)))))))))))))))))))))))))))))))))))))))))))))))))))
         else
          bif (c2==(UInt8.ofNat 6)) then
           (mdoesiz fu m.1.1 m.1.2 m.2 c.1 c.2.1 ((c.2.2.1.toNat:Nat):Int) c.2.2.2.1.1 c.2.2.2.1.2 c.2.2.2.2.1 c.2.2.2.2.2.1.1 c.2.2.2.2.2.1.2 c.2.2.2.2.2.2.1 c.2.2.2.2.2.2.2.1 c.2.2.2.2.2.2.2.2.1 c.2.2.2.2.2.2.2.2.2 c.1 c.2.1 0 0 0 false 0 false 0).bind fun r7=>
           some (r7.1,(m.1.1,(m.1.2,(m.2,(c.1,(c.2.1,(((c.2.2.1.toNat:Nat):Int),(c.2.2.2.1.1,(c.2.2.2.1.2,(c.2.2.2.2.1,(c.2.2.2.2.2.1.1,(c.2.2.2.2.2.1.2,(c.2.2.2.2.2.2.1,(c.2.2.2.2.2.2.2.1,(c.2.2.2.2.2.2.2.2.1,(c.2.2.2.2.2.2.2.2.2,(0,(0,(0,(0,(0,(0,(false,(0,(false,(0,(r7.2.1,(r7.2.2.1,(r7.2.2.2.1,(r7.2.2.2.2.1,(r7.2.2.2.2.2.1,(r7.2.2.2.2.2.2.1,(r7.2.2.2.2.2.2.2.1,(r7.2.2.2.2.2.2.2.2.1,(r7.2.2.2.2.2.2.2.2.2.1,(r7.2.2.2.2.2.2.2.2.2.2.1,(r7.2.2.2.2.2.2.2.2.2.2.2.1,(r7.2.2.2.2.2.2.2.2.2.2.2.2.1,(r7.2.2.2.2.2.2.2.2.2.2.2.2.2.1,(r7.2.2.2.2.2.2.2.2.2.2.2.2.2.2.1,(r7.2.2.2.2.2.2.2.2.2.2.2.2.2.2.2.1,(r7.2.2.2.2.2.2.2.2.2.2.2.2.2.2.2.2.1,(r7.2.2.2.2.2.2.2.2.2.2.2.2.2.2.2.2.2.1,(r7.2.2.2.2.2.2.2.2.2.2.2.2.2.2.2.2.2.2.1,(r7.2.2.2.2.2.2.2.2.2.2.2.2.2.2.2.2.2.2.2.1,(r7.2.2.2.2.2.2.2.2.2.2.2.2.2.2.2.2.2.2.2.2.1,(r7.2.2.2.2.2.2.2.2.2.2.2.2.2.2.2.2.2.2.2.2.2.1,(r7.2.2.2.2.2.2.2.2.2.2.2.2.2.2.2.2.2.2.2.2.2.2.1,([],([],(r7.2.2.2.2.2.2.2.2.2.2.2.2.2.2.2.2.2.2.2.2.2.2.2.1,r7.2.2.2.2.2.2.2.2.2.2.2.2.2.2.2.2.2.2.2.2.2.2.2.2)))))))))))))))))))))))))))))))))))))))))))))))))))
          else
           bif (c2==(UInt8.ofNat 7)) then
            (mdoerem fu m.1.1 m.1.2 m.2 c.1 c.2.1 ((c.2.2.1.toNat:Nat):Int) c.2.2.2.1.1 c.2.2.2.1.2 c.2.2.2.2.1 c.2.2.2.2.2.1.1 c.2.2.2.2.2.1.2 c.2.2.2.2.2.2.1 c.2.2.2.2.2.2.2.1 c.2.2.2.2.2.2.2.2.1 c.2.2.2.2.2.2.2.2.2 c.1 c.2.1 0 0 0 false 0 false 0).bind fun r8=>
            some (r8.1,(m.1.1,(m.1.2,(m.2,(c.1,(c.2.1,(((c.2.2.1.toNat:Nat):Int),(c.2.2.2.1.1,(c.2.2.2.1.2,(c.2.2.2.2.1,(c.2.2.2.2.2.1.1,(c.2.2.2.2.2.1.2,(c.2.2.2.2.2.2.1,(c.2.2.2.2.2.2.2.1,(c.2.2.2.2.2.2.2.2.1,(c.2.2.2.2.2.2.2.2.2,(0,(0,(0,(0,(0,(0,(false,(0,(false,(0,(r8.2.1,(r8.2.2.1,(r8.2.2.2.1,(r8.2.2.2.2.1,(r8.2.2.2.2.2.1,(r8.2.2.2.2.2.2.1,(r8.2.2.2.2.2.2.2.1,(r8.2.2.2.2.2.2.2.2.1,(r8.2.2.2.2.2.2.2.2.2.1,(r8.2.2.2.2.2.2.2.2.2.2.1,(r8.2.2.2.2.2.2.2.2.2.2.2.1,(r8.2.2.2.2.2.2.2.2.2.2.2.2.1,(r8.2.2.2.2.2.2.2.2.2.2.2.2.2.1,(r8.2.2.2.2.2.2.2.2.2.2.2.2.2.2.1,(r8.2.2.2.2.2.2.2.2.2.2.2.2.2.2.2.1,(r8.2.2.2.2.2.2.2.2.2.2.2.2.2.2.2.2.1,(r8.2.2.2.2.2.2.2.2.2.2.2.2.2.2.2.2.2.1,(r8.2.2.2.2.2.2.2.2.2.2.2.2.2.2.2.2.2.2.1,(r8.2.2.2.2.2.2.2.2.2.2.2.2.2.2.2.2.2.2.2.1,(r8.2.2.2.2.2.2.2.2.2.2.2.2.2.2.2.2.2.2.2.2.1,(r8.2.2.2.2.2.2.2.2.2.2.2.2.2.2.2.2.2.2.2.2.2.1,(r8.2.2.2.2.2.2.2.2.2.2.2.2.2.2.2.2.2.2.2.2.2.2.1,([],([],(r8.2.2.2.2.2.2.2.2.2.2.2.2.2.2.2.2.2.2.2.2.2.2.2.1,r8.2.2.2.2.2.2.2.2.2.2.2.2.2.2.2.2.2.2.2.2.2.2.2.2)))))))))))))))))))))))))))))))))))))))))))))))))))
           else
            bif (c2==(UInt8.ofNat 8)) then
             (mdoerem fu m.1.1 m.1.2 m.2 c.1 c.2.1 ((c.2.2.1.toNat:Nat):Int) c.2.2.2.1.1 c.2.2.2.1.2 c.2.2.2.2.1 c.2.2.2.2.2.1.1 c.2.2.2.2.2.1.2 c.2.2.2.2.2.2.1 c.2.2.2.2.2.2.2.1 c.2.2.2.2.2.2.2.2.1 c.2.2.2.2.2.2.2.2.2 c.1 c.2.1 0 0 0 false 0 false 0).bind fun r9=>
             some (r9.1,(m.1.1,(m.1.2,(m.2,(c.1,(c.2.1,(((c.2.2.1.toNat:Nat):Int),(c.2.2.2.1.1,(c.2.2.2.1.2,(c.2.2.2.2.1,(c.2.2.2.2.2.1.1,(c.2.2.2.2.2.1.2,(c.2.2.2.2.2.2.1,(c.2.2.2.2.2.2.2.1,(c.2.2.2.2.2.2.2.2.1,(c.2.2.2.2.2.2.2.2.2,(0,(0,(0,(0,(0,(0,(false,(0,(false,(0,(r9.2.1,(r9.2.2.1,(r9.2.2.2.1,(r9.2.2.2.2.1,(r9.2.2.2.2.2.1,(r9.2.2.2.2.2.2.1,(r9.2.2.2.2.2.2.2.1,(r9.2.2.2.2.2.2.2.2.1,(r9.2.2.2.2.2.2.2.2.2.1,(r9.2.2.2.2.2.2.2.2.2.2.1,(r9.2.2.2.2.2.2.2.2.2.2.2.1,(r9.2.2.2.2.2.2.2.2.2.2.2.2.1,(r9.2.2.2.2.2.2.2.2.2.2.2.2.2.1,(r9.2.2.2.2.2.2.2.2.2.2.2.2.2.2.1,(r9.2.2.2.2.2.2.2.2.2.2.2.2.2.2.2.1,(r9.2.2.2.2.2.2.2.2.2.2.2.2.2.2.2.2.1,(r9.2.2.2.2.2.2.2.2.2.2.2.2.2.2.2.2.2.1,(r9.2.2.2.2.2.2.2.2.2.2.2.2.2.2.2.2.2.2.1,(r9.2.2.2.2.2.2.2.2.2.2.2.2.2.2.2.2.2.2.2.1,(r9.2.2.2.2.2.2.2.2.2.2.2.2.2.2.2.2.2.2.2.2.1,(r9.2.2.2.2.2.2.2.2.2.2.2.2.2.2.2.2.2.2.2.2.2.1,(r9.2.2.2.2.2.2.2.2.2.2.2.2.2.2.2.2.2.2.2.2.2.2.1,([],([],(r9.2.2.2.2.2.2.2.2.2.2.2.2.2.2.2.2.2.2.2.2.2.2.2.1,r9.2.2.2.2.2.2.2.2.2.2.2.2.2.2.2.2.2.2.2.2.2.2.2.2)))))))))))))))))))))))))))))))))))))))))))))))))))
            else
             bif (c2==(UInt8.ofNat 9)) then
              (mdoeren fu m.1.1 m.1.2 m.2 c.1 c.2.1 ((c.2.2.1.toNat:Nat):Int) c.2.2.2.1.1 c.2.2.2.1.2 c.2.2.2.2.1 c.2.2.2.2.2.1.1 c.2.2.2.2.2.1.2 c.2.2.2.2.2.2.1 c.2.2.2.2.2.2.2.1 c.2.2.2.2.2.2.2.2.1 c.2.2.2.2.2.2.2.2.2 c.1 c.2.1 0 0 0 false 0 false 0).bind fun r10=>
              some (r10.1,(m.1.1,(m.1.2,(m.2,(c.1,(c.2.1,(((c.2.2.1.toNat:Nat):Int),(c.2.2.2.1.1,(c.2.2.2.1.2,(c.2.2.2.2.1,(c.2.2.2.2.2.1.1,(c.2.2.2.2.2.1.2,(c.2.2.2.2.2.2.1,(c.2.2.2.2.2.2.2.1,(c.2.2.2.2.2.2.2.2.1,(c.2.2.2.2.2.2.2.2.2,(0,(0,(0,(0,(0,(0,(false,(0,(false,(0,(r10.2.1,(r10.2.2.1,(r10.2.2.2.1,(r10.2.2.2.2.1,(r10.2.2.2.2.2.1,(r10.2.2.2.2.2.2.1,(r10.2.2.2.2.2.2.2.1,(r10.2.2.2.2.2.2.2.2.1,(r10.2.2.2.2.2.2.2.2.2.1,(r10.2.2.2.2.2.2.2.2.2.2.1,(r10.2.2.2.2.2.2.2.2.2.2.2.1,(r10.2.2.2.2.2.2.2.2.2.2.2.2.1,(r10.2.2.2.2.2.2.2.2.2.2.2.2.2.1,(r10.2.2.2.2.2.2.2.2.2.2.2.2.2.2.1,(r10.2.2.2.2.2.2.2.2.2.2.2.2.2.2.2.1,(r10.2.2.2.2.2.2.2.2.2.2.2.2.2.2.2.2.1,(r10.2.2.2.2.2.2.2.2.2.2.2.2.2.2.2.2.2.1,(r10.2.2.2.2.2.2.2.2.2.2.2.2.2.2.2.2.2.2.1,(r10.2.2.2.2.2.2.2.2.2.2.2.2.2.2.2.2.2.2.2.1,(r10.2.2.2.2.2.2.2.2.2.2.2.2.2.2.2.2.2.2.2.2.1,(r10.2.2.2.2.2.2.2.2.2.2.2.2.2.2.2.2.2.2.2.2.2.1,(r10.2.2.2.2.2.2.2.2.2.2.2.2.2.2.2.2.2.2.2.2.2.2.1,([],([],(r10.2.2.2.2.2.2.2.2.2.2.2.2.2.2.2.2.2.2.2.2.2.2.2.1,r10.2.2.2.2.2.2.2.2.2.2.2.2.2.2.2.2.2.2.2.2.2.2.2.2)))))))))))))))))))))))))))))))))))))))))))))))))))
             else
              bif (c2==(UInt8.ofNat 10)) then
               (mdoelis fu m.1.1 m.1.2 m.2 c.1 c.2.1 ((c.2.2.1.toNat:Nat):Int) c.2.2.2.1.1 c.2.2.2.1.2 c.2.2.2.2.1 c.2.2.2.2.2.1.1 c.2.2.2.2.2.1.2 c.2.2.2.2.2.2.1 c.2.2.2.2.2.2.2.1 c.2.2.2.2.2.2.2.2.1 c.2.2.2.2.2.2.2.2.2 c.1 c.2.1 0 0 0 false 0 false 0).bind fun r11=>
               some (r11.1,(m.1.1,(m.1.2,(m.2,(c.1,(c.2.1,(((c.2.2.1.toNat:Nat):Int),(c.2.2.2.1.1,(c.2.2.2.1.2,(c.2.2.2.2.1,(c.2.2.2.2.2.1.1,(c.2.2.2.2.2.1.2,(c.2.2.2.2.2.2.1,(c.2.2.2.2.2.2.2.1,(c.2.2.2.2.2.2.2.2.1,(c.2.2.2.2.2.2.2.2.2,(0,(0,(0,(0,(0,(0,(false,(0,(false,(0,(r11.2.1,(r11.2.2.1,(r11.2.2.2.1,(r11.2.2.2.2.1,(r11.2.2.2.2.2.1,(r11.2.2.2.2.2.2.1,(r11.2.2.2.2.2.2.2.1,(r11.2.2.2.2.2.2.2.2.1,(r11.2.2.2.2.2.2.2.2.2.1,(r11.2.2.2.2.2.2.2.2.2.2.1,(r11.2.2.2.2.2.2.2.2.2.2.2.1,(r11.2.2.2.2.2.2.2.2.2.2.2.2.1,(r11.2.2.2.2.2.2.2.2.2.2.2.2.2.1,(r11.2.2.2.2.2.2.2.2.2.2.2.2.2.2.1,(r11.2.2.2.2.2.2.2.2.2.2.2.2.2.2.2.1,(r11.2.2.2.2.2.2.2.2.2.2.2.2.2.2.2.2.1,(r11.2.2.2.2.2.2.2.2.2.2.2.2.2.2.2.2.2.1,(r11.2.2.2.2.2.2.2.2.2.2.2.2.2.2.2.2.2.2.1,(r11.2.2.2.2.2.2.2.2.2.2.2.2.2.2.2.2.2.2.2.1,(r11.2.2.2.2.2.2.2.2.2.2.2.2.2.2.2.2.2.2.2.2.1,(r11.2.2.2.2.2.2.2.2.2.2.2.2.2.2.2.2.2.2.2.2.2.1,(r11.2.2.2.2.2.2.2.2.2.2.2.2.2.2.2.2.2.2.2.2.2.2.1,([],(r11.2.2.2.2.2.2.2.2.2.2.2.2.2.2.2.2.2.2.2.2.2.2.2.1,(r11.2.2.2.2.2.2.2.2.2.2.2.2.2.2.2.2.2.2.2.2.2.2.2.2.1,r11.2.2.2.2.2.2.2.2.2.2.2.2.2.2.2.2.2.2.2.2.2.2.2.2.2)))))))))))))))))))))))))))))))))))))))))))))))))))
              else
               bif (c2==(UInt8.ofNat 11)) then
                (mdoeget fu m.1.1 m.1.2 m.2 c.1 c.2.1 ((c.2.2.1.toNat:Nat):Int) c.2.2.2.1.1 c.2.2.2.1.2 c.2.2.2.2.1 c.2.2.2.2.2.1.1 c.2.2.2.2.2.1.2 c.2.2.2.2.2.2.1 c.2.2.2.2.2.2.2.1 c.2.2.2.2.2.2.2.2.1 c.2.2.2.2.2.2.2.2.2 c.1 c.2.1 0 0 0 false 0 false 0).bind fun r12=>
                some (r12.1,(m.1.1,(m.1.2,(m.2,(c.1,(c.2.1,(((c.2.2.1.toNat:Nat):Int),(c.2.2.2.1.1,(c.2.2.2.1.2,(c.2.2.2.2.1,(c.2.2.2.2.2.1.1,(c.2.2.2.2.2.1.2,(c.2.2.2.2.2.2.1,(c.2.2.2.2.2.2.2.1,(c.2.2.2.2.2.2.2.2.1,(c.2.2.2.2.2.2.2.2.2,(0,(0,(0,(0,(0,(0,(false,(0,(false,(0,(r12.2.1,(r12.2.2.1,(r12.2.2.2.1,(r12.2.2.2.2.1,(r12.2.2.2.2.2.1,(r12.2.2.2.2.2.2.1,(r12.2.2.2.2.2.2.2.1,(r12.2.2.2.2.2.2.2.2.1,(r12.2.2.2.2.2.2.2.2.2.1,(r12.2.2.2.2.2.2.2.2.2.2.1,(r12.2.2.2.2.2.2.2.2.2.2.2.1,(r12.2.2.2.2.2.2.2.2.2.2.2.2.1,(r12.2.2.2.2.2.2.2.2.2.2.2.2.2.1,(r12.2.2.2.2.2.2.2.2.2.2.2.2.2.2.1,(r12.2.2.2.2.2.2.2.2.2.2.2.2.2.2.2.1,(r12.2.2.2.2.2.2.2.2.2.2.2.2.2.2.2.2.1,(r12.2.2.2.2.2.2.2.2.2.2.2.2.2.2.2.2.2.1,(r12.2.2.2.2.2.2.2.2.2.2.2.2.2.2.2.2.2.2.1,(r12.2.2.2.2.2.2.2.2.2.2.2.2.2.2.2.2.2.2.2.1,(r12.2.2.2.2.2.2.2.2.2.2.2.2.2.2.2.2.2.2.2.2.1,(r12.2.2.2.2.2.2.2.2.2.2.2.2.2.2.2.2.2.2.2.2.2.1,(r12.2.2.2.2.2.2.2.2.2.2.2.2.2.2.2.2.2.2.2.2.2.2.1,([],([],(r12.2.2.2.2.2.2.2.2.2.2.2.2.2.2.2.2.2.2.2.2.2.2.2.1,r12.2.2.2.2.2.2.2.2.2.2.2.2.2.2.2.2.2.2.2.2.2.2.2.2)))))))))))))))))))))))))))))))))))))))))))))))))))
               else
                bif (c2==(UInt8.ofNat 12)) then
                 (mdoesta fu m.1.1 m.1.2 m.2 c.1 c.2.1 ((c.2.2.1.toNat:Nat):Int) c.2.2.2.1.1 c.2.2.2.1.2 c.2.2.2.2.1 c.2.2.2.2.2.1.1 c.2.2.2.2.2.1.2 c.2.2.2.2.2.2.1 c.2.2.2.2.2.2.2.1 c.2.2.2.2.2.2.2.2.1 c.2.2.2.2.2.2.2.2.2 c.1 c.2.1 0 0 0 false 0 false 0).bind fun r13=>
                 some (r13.1,(m.1.1,(m.1.2,(m.2,(c.1,(c.2.1,(((c.2.2.1.toNat:Nat):Int),(c.2.2.2.1.1,(c.2.2.2.1.2,(c.2.2.2.2.1,(c.2.2.2.2.2.1.1,(c.2.2.2.2.2.1.2,(c.2.2.2.2.2.2.1,(c.2.2.2.2.2.2.2.1,(c.2.2.2.2.2.2.2.2.1,(c.2.2.2.2.2.2.2.2.2,(0,(0,(0,(0,(0,(0,(false,(0,(false,(0,(r13.2.1,(r13.2.2.1,(r13.2.2.2.1,(r13.2.2.2.2.1,(r13.2.2.2.2.2.1,(r13.2.2.2.2.2.2.1,(r13.2.2.2.2.2.2.2.1,(r13.2.2.2.2.2.2.2.2.1,(r13.2.2.2.2.2.2.2.2.2.1,(r13.2.2.2.2.2.2.2.2.2.2.1,(r13.2.2.2.2.2.2.2.2.2.2.2.1,(r13.2.2.2.2.2.2.2.2.2.2.2.2.1,(r13.2.2.2.2.2.2.2.2.2.2.2.2.2.1,(r13.2.2.2.2.2.2.2.2.2.2.2.2.2.2.1,(r13.2.2.2.2.2.2.2.2.2.2.2.2.2.2.2.1,(r13.2.2.2.2.2.2.2.2.2.2.2.2.2.2.2.2.1,(r13.2.2.2.2.2.2.2.2.2.2.2.2.2.2.2.2.2.1,(r13.2.2.2.2.2.2.2.2.2.2.2.2.2.2.2.2.2.2.1,(r13.2.2.2.2.2.2.2.2.2.2.2.2.2.2.2.2.2.2.2.1,(r13.2.2.2.2.2.2.2.2.2.2.2.2.2.2.2.2.2.2.2.2.1,(r13.2.2.2.2.2.2.2.2.2.2.2.2.2.2.2.2.2.2.2.2.2.1,(r13.2.2.2.2.2.2.2.2.2.2.2.2.2.2.2.2.2.2.2.2.2.2.1,([],([],(r13.2.2.2.2.2.2.2.2.2.2.2.2.2.2.2.2.2.2.2.2.2.2.2.1,r13.2.2.2.2.2.2.2.2.2.2.2.2.2.2.2.2.2.2.2.2.2.2.2.2)))))))))))))))))))))))))))))))))))))))))))))))))))
                else
                 none) fun o=>
    some (o.1,(o.2.1,(o.2.2.1,(o.2.2.2.1,(o.2.2.2.2.1,(o.2.2.2.2.2.1,(o.2.2.2.2.2.2.1,(o.2.2.2.2.2.2.2.1,(o.2.2.2.2.2.2.2.2.1,(o.2.2.2.2.2.2.2.2.2.1,(o.2.2.2.2.2.2.2.2.2.2.1,(o.2.2.2.2.2.2.2.2.2.2.2.1,(o.2.2.2.2.2.2.2.2.2.2.2.2.1,(o.2.2.2.2.2.2.2.2.2.2.2.2.2.1,(o.2.2.2.2.2.2.2.2.2.2.2.2.2.2.1,(o.2.2.2.2.2.2.2.2.2.2.2.2.2.2.2.1,(o.2.2.2.2.2.2.2.2.2.2.2.2.2.2.2.2.1,(o.2.2.2.2.2.2.2.2.2.2.2.2.2.2.2.2.2.1,(o.2.2.2.2.2.2.2.2.2.2.2.2.2.2.2.2.2.2.1,(o.2.2.2.2.2.2.2.2.2.2.2.2.2.2.2.2.2.2.2.1,(o.2.2.2.2.2.2.2.2.2.2.2.2.2.2.2.2.2.2.2.2.1,(o.2.2.2.2.2.2.2.2.2.2.2.2.2.2.2.2.2.2.2.2.2.1,(o.2.2.2.2.2.2.2.2.2.2.2.2.2.2.2.2.2.2.2.2.2.2.1,(o.2.2.2.2.2.2.2.2.2.2.2.2.2.2.2.2.2.2.2.2.2.2.2.1,(o.2.2.2.2.2.2.2.2.2.2.2.2.2.2.2.2.2.2.2.2.2.2.2.2.1,(o.2.2.2.2.2.2.2.2.2.2.2.2.2.2.2.2.2.2.2.2.2.2.2.2.2.1,(o.2.2.2.2.2.2.2.2.2.2.2.2.2.2.2.2.2.2.2.2.2.2.2.2.2.2.1,(o.2.2.2.2.2.2.2.2.2.2.2.2.2.2.2.2.2.2.2.2.2.2.2.2.2.2.2.1,(o.2.2.2.2.2.2.2.2.2.2.2.2.2.2.2.2.2.2.2.2.2.2.2.2.2.2.2.2.1,(o.2.2.2.2.2.2.2.2.2.2.2.2.2.2.2.2.2.2.2.2.2.2.2.2.2.2.2.2.2.1,(o.2.2.2.2.2.2.2.2.2.2.2.2.2.2.2.2.2.2.2.2.2.2.2.2.2.2.2.2.2.2.1,(o.2.2.2.2.2.2.2.2.2.2.2.2.2.2.2.2.2.2.2.2.2.2.2.2.2.2.2.2.2.2.2.1,(o.2.2.2.2.2.2.2.2.2.2.2.2.2.2.2.2.2.2.2.2.2.2.2.2.2.2.2.2.2.2.2.2.1,(o.2.2.2.2.2.2.2.2.2.2.2.2.2.2.2.2.2.2.2.2.2.2.2.2.2.2.2.2.2.2.2.2.2.1,(o.2.2.2.2.2.2.2.2.2.2.2.2.2.2.2.2.2.2.2.2.2.2.2.2.2.2.2.2.2.2.2.2.2.2.1,(o.2.2.2.2.2.2.2.2.2.2.2.2.2.2.2.2.2.2.2.2.2.2.2.2.2.2.2.2.2.2.2.2.2.2.2.1,(o.2.2.2.2.2.2.2.2.2.2.2.2.2.2.2.2.2.2.2.2.2.2.2.2.2.2.2.2.2.2.2.2.2.2.2.2.1,(o.2.2.2.2.2.2.2.2.2.2.2.2.2.2.2.2.2.2.2.2.2.2.2.2.2.2.2.2.2.2.2.2.2.2.2.2.2.1,(o.2.2.2.2.2.2.2.2.2.2.2.2.2.2.2.2.2.2.2.2.2.2.2.2.2.2.2.2.2.2.2.2.2.2.2.2.2.2.1,(o.2.2.2.2.2.2.2.2.2.2.2.2.2.2.2.2.2.2.2.2.2.2.2.2.2.2.2.2.2.2.2.2.2.2.2.2.2.2.2.1,(o.2.2.2.2.2.2.2.2.2.2.2.2.2.2.2.2.2.2.2.2.2.2.2.2.2.2.2.2.2.2.2.2.2.2.2.2.2.2.2.2.1,(o.2.2.2.2.2.2.2.2.2.2.2.2.2.2.2.2.2.2.2.2.2.2.2.2.2.2.2.2.2.2.2.2.2.2.2.2.2.2.2.2.2.1,(o.2.2.2.2.2.2.2.2.2.2.2.2.2.2.2.2.2.2.2.2.2.2.2.2.2.2.2.2.2.2.2.2.2.2.2.2.2.2.2.2.2.2.1,(o.2.2.2.2.2.2.2.2.2.2.2.2.2.2.2.2.2.2.2.2.2.2.2.2.2.2.2.2.2.2.2.2.2.2.2.2.2.2.2.2.2.2.2.1,(o.2.2.2.2.2.2.2.2.2.2.2.2.2.2.2.2.2.2.2.2.2.2.2.2.2.2.2.2.2.2.2.2.2.2.2.2.2.2.2.2.2.2.2.2.1,(o.2.2.2.2.2.2.2.2.2.2.2.2.2.2.2.2.2.2.2.2.2.2.2.2.2.2.2.2.2.2.2.2.2.2.2.2.2.2.2.2.2.2.2.2.2.1,(o.2.2.2.2.2.2.2.2.2.2.2.2.2.2.2.2.2.2.2.2.2.2.2.2.2.2.2.2.2.2.2.2.2.2.2.2.2.2.2.2.2.2.2.2.2.2.1,(o.2.2.2.2.2.2.2.2.2.2.2.2.2.2.2.2.2.2.2.2.2.2.2.2.2.2.2.2.2.2.2.2.2.2.2.2.2.2.2.2.2.2.2.2.2.2.2.1,(o.2.2.2.2.2.2.2.2.2.2.2.2.2.2.2.2.2.2.2.2.2.2.2.2.2.2.2.2.2.2.2.2.2.2.2.2.2.2.2.2.2.2.2.2.2.2.2.2.1,(o.2.2.2.2.2.2.2.2.2.2.2.2.2.2.2.2.2.2.2.2.2.2.2.2.2.2.2.2.2.2.2.2.2.2.2.2.2.2.2.2.2.2.2.2.2.2.2.2.2.1,(o.2.2.2.2.2.2.2.2.2.2.2.2.2.2.2.2.2.2.2.2.2.2.2.2.2.2.2.2.2.2.2.2.2.2.2.2.2.2.2.2.2.2.2.2.2.2.2.2.2.2.1,o.2.2.2.2.2.2.2.2.2.2.2.2.2.2.2.2.2.2.2.2.2.2.2.2.2.2.2.2.2.2.2.2.2.2.2.2.2.2.2.2.2.2.2.2.2.2.2.2.2.2.2)))))))))))))))))))))))))))))))))))))))))))))))))))
   else
    some (179,(m.1.1,(m.1.2,(m.2,(c.1,(c.2.1,(((c.2.2.1.toNat:Nat):Int),(c.2.2.2.1.1,(c.2.2.2.1.2,(c.2.2.2.2.1,(c.2.2.2.2.2.1.1,(c.2.2.2.2.2.1.2,(c.2.2.2.2.2.2.1,(c.2.2.2.2.2.2.2.1,(c.2.2.2.2.2.2.2.2.1,(c.2.2.2.2.2.2.2.2.2,(0,(0,(0,(0,(0,(0,(false,(0,(false,(0,(m.1.1,(m.1.2,(m.2,(c.1,(c.2.1,(((c.2.2.1.toNat:Nat):Int),(c.2.2.2.1.1,(c.2.2.2.1.2,(c.2.2.2.2.1,(c.2.2.2.2.2.1.1,(c.2.2.2.2.2.1.2,(c.2.2.2.2.2.2.1,(c.2.2.2.2.2.2.2.1,(c.2.2.2.2.2.2.2.2.1,(c.2.2.2.2.2.2.2.2.2,(c.1,(c.2.1,(0,(0,(0,(false,(0,([],([],(false,0)))))))))))))))))))))))))))))))))))))))))))))))))))) fun o1=>
  bif (!(o1.1==0)) then
   (mcop fu (o1.2.1,o1.2.2.1)).bind fun r14=>
   (model_Do_l0_it fu o1 (0,(o1.2.2.2.2.1,(o1.2.2.2.2.2.1,(o1.2.2.2.2.2.2.1,(o1.2.2.2.2.2.2.2.1,(o1.2.2.2.2.2.2.2.2.1,(o1.2.2.2.2.2.2.2.2.2.1,(o1.2.2.2.2.2.2.2.2.2.2.1,(o1.2.2.2.2.2.2.2.2.2.2.2.1,(o1.2.2.2.2.2.2.2.2.2.2.2.2.1,(o1.2.2.2.2.2.2.2.2.2.2.2.2.2.1,(o1.2.2.2.2.2.2.2.2.2.2.2.2.2.2.1,(o1.2.2.2.2.2.2.2.2.2.2.2.2.2.2.2.1,(o1.2.2.2.2.2.2.2.2.2.2.2.2.2.2.2.2.1,(o1.2.2.2.2.2.2.2.2.2.2.2.2.2.2.2.2.2.1,(o1.2.2.2.2.2.2.2.2.2.2.2.2.2.2.2.2.2.2.1,(o1.2.2.2.2.2.2.2.2.2.2.2.2.2.2.2.2.2.2.2.1,(o1.2.2.2.2.2.2.2.2.2.2.2.2.2.2.2.2.2.2.2.2.1,(o1.2.2.2.2.2.2.2.2.2.2.2.2.2.2.2.2.2.2.2.2.2.1,(o1.2.2.2.2.2.2.2.2.2.2.2.2.2.2.2.2.2.2.2.2.2.2.1,(o1.2.2.2.2.2.2.2.2.2.2.2.2.2.2.2.2.2.2.2.2.2.2.2.1,(o1.2.2.2.2.2.2.2.2.2.2.2.2.2.2.2.2.2.2.2.2.2.2.2.2.1,(o1.2.2.2.2.2.2.2.2.2.2.2.2.2.2.2.2.2.2.2.2.2.2.2.2.2.1,(r14.1,(r14.2,[])))))))))))))))))))))))))).bind fun o2=>
   some (o2.2.2.2.2.2.2.2.2.2.2.2.2.2.2.2.2.2.2.2.2.2.2.1,(o2.1,(o2.2.1,(o1.1,(0,(0,(false,(0,([],([],(false,(0,(o2.2.2.2.2.2.2.2.2.2.2.2.2.2.2.2.2.2.2.2.2.2.2.2.1,o2.2.2.2.2.2.2.2.2.2.2.2.2.2.2.2.2.2.2.2.2.2.2.2.2)))))))))))))
  else
   (mdoemad fu o1.2.2.2.2.2.2.2.2.2.2.2.2.2.2.2.2.2.2.2.2.2.2.2.2.2.2.1 o1.2.2.2.2.2.2.2.2.2.2.2.2.2.2.2.2.2.2.2.2.2.2.2.2.2.2.2.1 o1.2.2.2.2.2.2.2.2.2.2.2.2.2.2.2.2.2.2.2.2.2.2.2.2.2.2.2.2.1 o1.2.2.2.2.2.2.2.2.2.2.2.2.2.2.2.2.2.2.2.2.2.2.2.2.2.2.2.2.2.1 o1.2.2.2.2.2.2.2.2.2.2.2.2.2.2.2.2.2.2.2.2.2.2.2.2.2.2.2.2.2.2.1 o1.2.2.2.2.2.2.2.2.2.2.2.2.2.2.2.2.2.2.2.2.2.2.2.2.2.2.2.2.2.2.2.1 o1.2.2.2.2.2.2.2.2.2.2.2.2.2.2.2.2.2.2.2.2.2.2.2.2.2.2.2.2.2.2.2.2.1 o1.2.2.2.2.2.2.2.2.2.2.2.2.2.2.2.2.2.2.2.2.2.2.2.2.2.2.2.2.2.2.2.2.2.1 o1.2.2.2.2.2.2.2.2.2.2.2.2.2.2.2.2.2.2.2.2.2.2.2.2.2.2.2.2.2.2.2.2.2.2.1 o1.2.2.2.2.2.2.2.2.2.2.2.2.2.2.2.2.2.2.2.2.2.2.2.2.2.2.2.2.2.2.2.2.2.2.2.1 o1.2.2.2.2.2.2.2.2.2.2.2.2.2.2.2.2.2.2.2.2.2.2.2.2.2.2.2.2.2.2.2.2.2.2.2.2.1 o1.2.2.2.2.2.2.2.2.2.2.2.2.2.2.2.2.2.2.2.2.2.2.2.2.2.2.2.2.2.2.2.2.2.2.2.2.2.1 o1.2.2.2.2.2.2.2.2.2.2.2.2.2.2.2.2.2.2.2.2.2.2.2.2.2.2.2.2.2.2.2.2.2.2.2.2.2.2.1 o1.2.2.2.2.2.2.2.2.2.2.2.2.2.2.2.2.2.2.2.2.2.2.2.2.2.2.2.2.2.2.2.2.2.2.2.2.2.2.2.1 o1.2.2.2.2.2.2.2.2.2.2.2.2.2.2.2.2.2.2.2.2.2.2.2.2.2.2.2.2.2.2.2.2.2.2.2.2.2.2.2.2.1 o1.2.2.2.2.2.2.2.2.2.2.2.2.2.2.2.2.2.2.2.2.2.2.2.2.2.2.2.2.2.2.2.2.2.2.2.2.2.2.2.2.2.1 o1.2.2.2.2.2.2.2.2.2.2.2.2.2.2.2.2.2.2.2.2.2.2.2.2.2.2.2.2.2.2.2.2.2.2.2.2.2.2.2.2.2.2.1 o1.2.2.2.2.2.2.2.2.2.2.2.2.2.2.2.2.2.2.2.2.2.2.2.2.2.2.2.2.2.2.2.2.2.2.2.2.2.2.2.2.2.2.2.1 o1.2.2.2.2.2.2.2.2.2.2.2.2.2.2.2.2.2.2.2.2.2.2.2.2.2.2.2.2.2.2.2.2.2.2.2.2.2.2.2.2.2.2.2.2.1 o1.2.2.2.2.2.2.2.2.2.2.2.2.2.2.2.2.2.2.2.2.2.2.2.2.2.2.2.2.2.2.2.2.2.2.2.2.2.2.2.2.2.2.2.2.2.1 o1.2.2.2.2.2.2.2.2.2.2.2.2.2.2.2.2.2.2.2.2.2.2.2.2.2.2.2.2.2.2.2.2.2.2.2.2.2.2.2.2.2.2.2.2.2.2.1 o1.2.2.2.2.2.2.2.2.2.2.2.2.2.2.2.2.2.2.2.2.2.2.2.2.2.2.2.2.2.2.2.2.2.2.2.2.2.2.2.2.2.2.2.2.2.2.2.1 o1.2.2.2.2.2.2.2.2.2.2.2.2.2.2.2.2.2.2.2.2.2.2.2.2.2.2.2.2.2.2.2.2.2.2.2.2.2.2.2.2.2.2.2.2.2.2.2.2.1 o1.2.2.2.2.2.2.2.2.2.2.2.2.2.2.2.2.2.2.2.2.2.2.2.2.2.2.2.2.2.2.2.2.2.2.2.2.2.2.2.2.2.2.2.2.2.2.2.2.2.1 o1.2.2.2.2.2.2.2.2.2.2.2.2.2.2.2.2.2.2.2.2.2.2.2.2.2.2.2.2.2.2.2.2.2.2.2.2.2.2.2.2.2.2.2.2.2.2.2.2.2.2.1 o1.2.2.2.2.2.2.2.2.2.2.2.2.2.2.2.2.2.2.2.2.2.2.2.2.2.2.2.2.2.2.2.2.2.2.2.2.2.2.2.2.2.2.2.2.2.2.2.2.2.2.2).bind fun r17=>
   some (r17.1,(o1.2.2.2.2.2.2.2.2.2.2.2.2.2.2.2.2.2.2.2.2.2.2.2.2.2.2.2.2.2.2.2.2.2.2.2.2.2.2.2.2.2.1,(o1.2.2.2.2.2.2.2.2.2.2.2.2.2.2.2.2.2.2.2.2.2.2.2.2.2.2.2.2.2.2.2.2.2.2.2.2.2.2.2.2.2.2.1,(o1.2.2.2.2.2.2.2.2.2.2.2.2.2.2.2.2.2.2.2.2.2.2.2.2.2.2.2.2.2.2.2.2.2.2.2.2.2.2.2.2.2.2.2.1,(o1.2.2.2.2.2.2.2.2.2.2.2.2.2.2.2.2.2.2.2.2.2.2.2.2.2.2.2.2.2.2.2.2.2.2.2.2.2.2.2.2.2.2.2.2.1,(o1.2.2.2.2.2.2.2.2.2.2.2.2.2.2.2.2.2.2.2.2.2.2.2.2.2.2.2.2.2.2.2.2.2.2.2.2.2.2.2.2.2.2.2.2.2.1,(o1.2.2.2.2.2.2.2.2.2.2.2.2.2.2.2.2.2.2.2.2.2.2.2.2.2.2.2.2.2.2.2.2.2.2.2.2.2.2.2.2.2.2.2.2.2.2.1,(o1.2.2.2.2.2.2.2.2.2.2.2.2.2.2.2.2.2.2.2.2.2.2.2.2.2.2.2.2.2.2.2.2.2.2.2.2.2.2.2.2.2.2.2.2.2.2.2.1,(o1.2.2.2.2.2.2.2.2.2.2.2.2.2.2.2.2.2.2.2.2.2.2.2.2.2.2.2.2.2.2.2.2.2.2.2.2.2.2.2.2.2.2.2.2.2.2.2.2.1,(o1.2.2.2.2.2.2.2.2.2.2.2.2.2.2.2.2.2.2.2.2.2.2.2.2.2.2.2.2.2.2.2.2.2.2.2.2.2.2.2.2.2.2.2.2.2.2.2.2.2.1,(o1.2.2.2.2.2.2.2.2.2.2.2.2.2.2.2.2.2.2.2.2.2.2.2.2.2.2.2.2.2.2.2.2.2.2.2.2.2.2.2.2.2.2.2.2.2.2.2.2.2.2.1,(o1.2.2.2.2.2.2.2.2.2.2.2.2.2.2.2.2.2.2.2.2.2.2.2.2.2.2.2.2.2.2.2.2.2.2.2.2.2.2.2.2.2.2.2.2.2.2.2.2.2.2.2,(r17.2.2.2.2.2.2.2.2.2.2.2.2.2.2.2.2.2.2.2.2.2.2.2.2.2.2.2.1,r17.2.2.2.2.2.2.2.2.2.2.2.2.2.2.2.2.2.2.2.2.2.2.2.2.2.2.2.2)))))))))))))
 else
  (mcop fu (m.1.1,m.1.2)).bind fun r18=>
  (model_Do_l1_it fu m (0,(c.1,(c.2.1,(((c.2.2.1.toNat:Nat):Int),(c.2.2.2.1.1,(c.2.2.2.1.2,(c.2.2.2.2.1,(c.2.2.2.2.2.1.1,(c.2.2.2.2.2.1.2,(c.2.2.2.2.2.2.1,(c.2.2.2.2.2.2.2.1,(c.2.2.2.2.2.2.2.2.1,(c.2.2.2.2.2.2.2.2.2,(0,(0,(0,(0,(0,(0,(false,(0,(false,(0,(r18.1,(r18.2,[])))))))))))))))))))))))))).bind fun o3=>
  some (o3.2.2.2.2.2.2.2.2.2.2.2.2.2.2.2.2.2.2.2.2.2.2.1,(o3.1,(o3.2.1,(180,(0,(0,(false,(0,([],([],(false,(0,(o3.2.2.2.2.2.2.2.2.2.2.2.2.2.2.2.2.2.2.2.2.2.2.2.1,o3.2.2.2.2.2.2.2.2.2.2.2.2.2.2.2.2.2.2.2.2.2.2.2.2)))))))))))))
def model_Do_fa:FnA:=⟨.two (.reg [(0,{ids:=[100]}),(1,{ids:=[101]}),(2,{ids:=[102]}),(3,{ids:=[103]})]) (.two (.reg [(11,{ids:=[104]})]) (.two (.reg [(0,{ids:=[105]})]) (.two lf (.two (.two (.reg [(1,{})]) lf) (.two (.two (.reg [(4,{fn:=1})]) (.join ⟨[2,3,4,5,6,8],⟨(.cons (.own 0 100 0 0) (.cons (.own 0 101 0 0) (.cons (.own 0 102 0 0) (.cons (.own 0 103 0 0) (.cons (.own 0 104 0 0) qL6))))),[(100,false,qB71),(101,false,qB24),(102,false,(.vars qL66)),(103,false,(.vars qL17)),(104,false,qB20)]⟩⟩ false [] (.two (.join ⟨[2,3,4,5,6,8],⟨(.cons (.own 0 100 0 0) (.cons (.own 0 101 0 0) (.cons (.own 0 102 0 0) (.cons (.own 0 103 0 0) (.cons (.own 0 104 0 0) qL6))))),[(100,false,qB71),(101,false,qB24),(102,false,(.vars qL66)),(103,false,(.vars qL17)),(104,false,qB20)]⟩⟩ false [] (.reg [(4,{sh:=[104],fn:=2})])) lf))) (.two (.two lf (.two (.two (.reg [(2,{ids:=[106],fn:=12}),(4,{ids:=[107]})]) (.two (.two lf (.one (.pre (.ownCell 107 2 40 108) (.loop ⟨[3,4,5,9,72],⟨(.cons (.own 0 101 0 0) (.cons (.own 0 102 0 0) (.cons (.own 0 103 0 0) (.cons (.own 0 107 0 0) qL6)))),[(101,false,qB24),(102,false,(.vars qL66)),(103,false,(.vars qL17)),(107,false,(.vars (.cons (.slf 8 106) (.cons (.p (.int .i64)) (.cons (.slf 1 108) .nil))))),(106,false,(.rows 56 qY0)),(108,false,(.rows 40 (.sl .byte)))]⟩⟩ false [(0,⟨[3,4,5,9],⟨(.cons (.own 0 101 0 0) (.cons (.own 0 102 0 0) (.cons (.own 0 103 0 0) (.cons (.own 0 107 0 0) .nil)))),[(101,false,qB24),(102,false,(.vars qL66)),(103,false,(.vars qL17)),(107,false,(.vars (.cons (.slf 8 106) (.cons (.p (.int .i64)) (.cons (.slf 1 108) .nil))))),(106,false,(.rows 56 qY0)),(108,false,(.rows 40 (.sl .byte)))]⟩⟩)] (.two lf (.two lf (.two (.one (.two lf (.reg [(3,{ids:=[109],fn:=13}),(4,{ids:=[110]}),(5,{ids:=[111]})]))) lf))))))) lf)) lf)) (.two (.pre (.frzB 104) (.reg [(1,{ids:=[112,113],sh:=[104],fn:=14})])) lf))))))),⟨(.cons (.p (.pair qY53 (.sl (.sl .byte)))) (.cons (.p qY14) .nil)),[]⟩,[⟨(.cons (.agg (.cons (.slf 8 0) (.cons (.p (.int .i64)) (.cons (.slf 1 1) .nil)))) (.cons (.agg qL9) .nil)),[(0,false,(.rows 56 qY0)),(1,false,(.rows 40 (.sl .byte)))]⟩],[0,0]⟩
def model_Do_ft(fu:Nat):FnT:=⟨15,model_Do_fa.i,model_Do_fa.os,fun t=>model_Do fu t.1 t.2⟩
theorem dJZ(fu:Nat):Told Tryz.prog (model_Do_ft fu):=tk fu model_Do_fa (aaZ (m7Z fu) (aaZ (epZ fu) (aaZ (iFZ fu) (aaZ (hYZ fu) (aaZ (hPZ fu) (aaZ (iSZ fu) (aaZ (iEZ fu) (aaZ (irZ fu) (aaZ (hXZ fu) (aaZ (inZ fu) (aaZ (hUZ fu) (aaZ (iLZ fu) (aaZ (dGZ fu) (aaZ (cbZ fu) (aaZ (i2Z fu) abZ))))))))))))))) Tryz.func15 (by kernel_rfl) fun t=>by kernel_rfl
def sask(fu:Nat)(o:Int):Option (Bool):=
 bif (o==1) then
  bif (o==1) then
   some true
  else
   some false
 else
  bif (o==4) then
   bif (o==4) then
    some true
   else
    some false
  else
   bif (o==10) then
    bif (o==10) then
     some true
    else
     some false
   else
    bif (o==11) then
     bif (o==11) then
      some true
     else
      some false
    else
     bif (o==12) then
      some true
     else
      some false
def sask_fa:FnA:=⟨.two lf (.two (.two lf (.one (.two (.two lf (.two lf (.two lf (.two lf (.two lf (.two lf (.two lf lf))))))) (.two lf lf)))) lf),⟨(.cons (.p (.int .u8)) .nil),[]⟩,[⟨(.cons (.p .bool) .nil),[]⟩],[0]⟩
def sask_ft(fu:Nat):FnT:=⟨23,sask_fa.i,sask_fa.os,fun t=>sask fu t⟩
theorem m6Z(fu:Nat):Told Tryz.prog (sask_ft fu):=tk fu sask_fa abZ Tryz.func23 (by kernel_rfl) fun t=>by kernel_rfl
def srea1(fu:Nat)(i:Int)(x:List (qT2))(h:List qT19):Option (List qT19):=
 (x)[0]?.bind fun r=>
 (idx? i r.2.2.2.2.2.1.length).bind fun q=>
 (r.2.2.2.2.2.1)[q]?.bind fun r1=>
 need ((Nat.ble ((h.length+1)*32) room)&&(Nat.ble (h.length+1) room))<|
 some (h++[(i,(r1,0))])
def srea1_fa:FnA:=⟨.reg [(8,{ids:=[100]}),(9,{ids:=[101]})],⟨(.cons (.p (.int .i64)) (.cons (.own 0 0 0 0) (.cons (.pt qY0) .nil))),[(0,false,(.vars (.cons (.slf 4 1) .nil))),(1,false,(.rows 92 qY16))]⟩,[⟨.nil,[(0,false,(.vars (.cons (.slf 4 2) .nil))),(2,false,(.rows 92 qY16))]⟩],[]⟩
def srea1_ft(fu:Nat):FnT:=⟨78,srea1_fa.i,srea1_fa.os,u3 (srea1 fu)⟩
theorem lUZ(fu:Nat):Told Tryz.prog (srea1_ft fu):=tk fu srea1_fa abZ Tryz.func78 (by kernel_rfl) fun t=>by kernel_rfl
def sspaf13cn_l0(fu:Nat)(size:Int)(to_:Int)(i:Int)(h1:List qT19)(h2:List (qT2)):Option ((Int×(List qT19×List (qT2)))⊕((List qT19×List (qT2)))):=
 bif (decide ((IntKind.wrap .i64 (i*size))<to_)) then
  (srea1 fu i h2 h1).bind fun r=>
  some (.inl ((IntKind.wrap .i64 (i+1)),(r,h2)))
 else
  some (.inr (h1,h2))
def sspaf13cn_l0_it(fu:Nat)(size:Int)(to_:Int)(tt:(Int×(List qT19×List (qT2)))):Option ((List qT19×List (qT2))):=
 iter fu (u3 (sspaf13cn_l0 fu size to_)) tt
def sspaf13cn(fu:Nat)(size:Int)(from_:Int)(to_:Int)(h:List (qT2)):Option ((List (qT2)×List qT19)):=
 need (!(decide (size=0)))<|
 (sspaf13cn_l0_it fu size to_ ((IntKind.wrap .i64 (Int.tdiv from_ size)),([],h))).bind fun o=>
 some (o.2,o.1)
def sspaf13cn_fa:FnA:=⟨.two lf (.one (.pre (.ownCell 0 0 92 100) (.pre (.frzB 1) (.loop ⟨[3,8],⟨(.cons (.fn 78 .nil (.cons (.own 0 0 0 0) (.cons (.own 8 1 0 0) .nil))) qL6),[(0,false,(.vars (.cons (.slf 4 100) .nil))),(100,false,(.rows 92 qY16)),(1,true,(.rows 56 qY0))]⟩⟩ false [(0,⟨[3],⟨(.cons (.fn 78 .nil (.cons (.own 0 0 0 0) (.cons (.own 8 1 0 0) .nil))) .nil),[(0,false,(.vars (.cons (.slf 4 100) .nil))),(100,false,(.rows 92 qY16)),(1,true,(.rows 56 qY0))]⟩⟩)] (.two (.two lf lf) (.two (.one (.reg [(2,{ids:=[101],sh:=[0,100],md:=[0,0,1]})])) lf)))))),⟨(.cons (.p (.int .i64)) (.cons (.p (.int .i64)) (.cons (.p (.int .i64)) (.cons (.fn 78 .nil (.cons (.own 0 0 0 0) (.cons (.own 8 1 0 0) .nil))) .nil)))),[(0,false,qB75),(1,false,(.rows 56 qY0))]⟩,[⟨.nil,[(0,false,(.vars (.cons (.slf 4 2) .nil))),(1,true,(.rows 56 qY0)),(2,false,(.rows 92 qY16))]⟩],[]⟩
def sspaf13cn_ft(fu:Nat):FnT:=⟨77,sspaf13cn_fa.i,sspaf13cn_fa.os,u4 (sspaf13cn fu)⟩
theorem gaZ(fu:Nat):Told Tryz.prog (sspaf13cn_ft fu):=tk fu sspaf13cn_fa (aaZ (lUZ fu) abZ) Tryz.func77 (by kernel_rfl) fun t=>by kernel_rfl
def srea(fu:Nat)(n:qT2)(size:Int)(c:qT13):Option (List qT19):=
 bif (decide (c.2.2.2.2.2.2.2.2.1>0)) then
  (sspaf13cn fu size (if n.2.2.2.2.1<c.2.2.2.2.2.2.2.1 then n.2.2.2.2.1 else c.2.2.2.2.2.2.2.1) (if n.2.2.2.2.1<(IntKind.wrap .i64 (c.2.2.2.2.2.2.2.1+c.2.2.2.2.2.2.2.2.1)) then n.2.2.2.2.1 else(IntKind.wrap .i64 (c.2.2.2.2.2.2.2.1+c.2.2.2.2.2.2.2.2.1))) [n]).bind fun r=>
  some r.2
 else
  some []
def srea_fa:FnA:=⟨.two (.reg [(0,{ids:=[100],md:=[1]}),(1,{ids:=[101],md:=[1]})]) (.two (.reg [(0,{ids:=[102]})]) (.two (.two lf (.two (.reg [(15,{ids:=[103],sh:=[102,100]})]) lf)) lf)),⟨(.cons (.p qY0) (.cons (.p (.int .i64)) (.cons (.p qY14) .nil))),[]⟩,[⟨(.cons (.slf 4 0) .nil),[(0,false,(.rows 92 qY16))]⟩],[102]⟩
def srea_ft(fu:Nat):FnT:=⟨24,srea_fa.i,srea_fa.os,u3 (srea fu)⟩
theorem m9Z(fu:Nat):Told Tryz.prog (srea_ft fu):=tk fu srea_fa (aaZ (gaZ fu) abZ) Tryz.func24 (by kernel_rfl) fun t=>by kernel_rfl
def rof1(fu:Nat)(k:qT25)(client:Int):Option (Int):=
 some (IntKind.wrap .i64 (k.1-client))
def rof1_fa:FnA:=⟨.two (.reg [(0,{ids:=[100]})]) lf,⟨(.cons (.p (.pair (.int .i64) (.pair (.int .i64) (.sl qY1)))) qL6),[]⟩,[⟨qL6,[]⟩],[0]⟩
def rof1_ft(fu:Nat):FnT:=⟨95,rof1_fa.i,rof1_fa.os,fun t=>rof1 fu t.1 t.2⟩
theorem ngZ(fu:Nat):Told Tryz.prog (rof1_ft fu):=tk fu rof1_fa abZ Tryz.func95 (by kernel_rfl) fun t=>by kernel_rfl
def sBinSeaFu3_l0(fu:Nat)(x:List (qT25))(target:Int)(i:Int)(j:Int):Option ((Int×Int)⊕(Int)):=
 bif (decide (i<j)) then
  (idx? (IntKind.wrap .i64 (Int.fdiv (IntKind.wrap .u64 (IntKind.wrap .i64 (i+j))) 2)) x.length).bind fun q=>
  (x)[q]?.bind fun r=>
  (rof1 fu r target).bind fun r1=>
  Option.bind (α:=((Int×Int))) (
   bif (decide (r1<0)) then
    some ((IntKind.wrap .i64 ((IntKind.wrap .i64 (Int.fdiv (IntKind.wrap .u64 (IntKind.wrap .i64 (i+j))) 2))+1)),j)
   else
    some (i,(IntKind.wrap .i64 (Int.fdiv (IntKind.wrap .u64 (IntKind.wrap .i64 (i+j))) 2)))) fun o=>
  some (.inl (o.1,o.2))
 else
  some (.inr i)
def sBinSeaFu3_l0_it(fu:Nat)(x:List (qT25))(target:Int)(tt:(Int×Int)):Option (Int):=
 iter fu (fun tt=>sBinSeaFu3_l0 fu x target tt.1 tt.2) tt
def sBinSeaFu3(fu:Nat)(x:List (qT25))(target:Int):Option ((Int×Bool)):=
 (sBinSeaFu3_l0_it fu x target (0,((x.length:Nat):Int))).bind fun o1=>
 bif (decide (o1<((x.length:Nat):Int))) then
  (idx? o1 x.length).bind fun q1=>
  (x)[q1]?.bind fun r2=>
  (rof1 fu r2 target).bind fun r3=>
  some (o1,(r3==0))
 else
  some (o1,false)
def sBinSeaFu3_fa:FnA:=⟨.two lf (.two lf (.two lf (.two (.one (.loop ⟨[9,10],⟨qL50,[]⟩⟩ false [(0,⟨[9],⟨qL6,[]⟩⟩)] (.two (.two lf lf) (.one (.two lf (.two (.reg [(6,{})]) (.join ⟨[9,10],⟨qL50,[]⟩⟩ false [] lf))))))) (.two (.reg [(11,{})]) lf)))),⟨(.cons (.p qY22) (.cons (.p (.int .i64)) (.cons (.fn 95 .nil .nil) .nil))),[]⟩,[⟨(.cons (.p (.int .i64)) (.cons (.p .bool) .nil)),[]⟩],[0,0]⟩
def sBinSeaFu3_ft(fu:Nat):FnT:=⟨94,sBinSeaFu3_fa.i,sBinSeaFu3_fa.os,fun t=>sBinSeaFu3 fu t.1 t.2⟩
theorem fmZ(fu:Nat):Told Tryz.prog (sBinSeaFu3_ft fu):=tk fu sBinSeaFu3_fa (aaZ (ngZ fu) abZ) Tryz.func94 (by kernel_rfl) fun t=>by kernel_rfl
def rof(fu:Nat)(c:(Int×List (qT25)))(client:Int):Option ((Int×Bool)):=
 (sBinSeaFu3 fu c.2 client).bind fun r=>
 some r
def rof_fa:FnA:=⟨.two (.reg [(0,{ids:=[100]})]) (.two (.reg [(3,{})]) lf),⟨(.cons (.p (.pair (.int .i64) qY22)) qL6),[]⟩,[⟨(.cons (.p (.int .i64)) (.cons (.p .bool) .nil)),[]⟩],[0,0]⟩
def rof_ft(fu:Nat):FnT:=⟨59,rof_fa.i,rof_fa.os,fun t=>rof fu t.1 t.2⟩
theorem kiZ(fu:Nat):Told Tryz.prog (rof_ft fu):=tk fu rof_fa (aaZ (fmZ fu) abZ) Tryz.func59 (by kernel_rfl) fun t=>by kernel_rfl
def rcom(fu:Nat)(r:qT3)(xid:Int):Option (Int):=
 bif (decide (r.2.1<xid)) then
  some (-1)
 else
  bif (decide (r.2.1>xid)) then
   some 1
  else
   some 0
def rcom_fa:FnA:=⟨.two (.reg [(0,{ids:=[100]})]) (.two (.one (.two lf (.two lf (.two lf (.two lf lf))))) lf),⟨(.cons (.p qY1) qL6),[]⟩,[⟨qL6,[]⟩],[0]⟩
def rcom_ft(fu:Nat):FnT:=⟨62,rcom_fa.i,rcom_fa.os,fun t=>rcom fu t.1 t.2⟩
theorem mhZ(fu:Nat):Told Tryz.prog (rcom_ft fu):=tk fu rcom_fa abZ Tryz.func62 (by kernel_rfl) fun t=>by kernel_rfl
def sBinSeaFu_l0(fu:Nat)(x:List (qT3))(target:Int)(i:Int)(j:Int):Option ((Int×Int)⊕(Int)):=
 bif (decide (i<j)) then
  (idx? (IntKind.wrap .i64 (Int.fdiv (IntKind.wrap .u64 (IntKind.wrap .i64 (i+j))) 2)) x.length).bind fun q=>
  (x)[q]?.bind fun r=>
  (rcom fu r target).bind fun r1=>
  Option.bind (α:=((Int×Int))) (
   bif (decide (r1<0)) then
    some ((IntKind.wrap .i64 ((IntKind.wrap .i64 (Int.fdiv (IntKind.wrap .u64 (IntKind.wrap .i64 (i+j))) 2))+1)),j)
   else
    some (i,(IntKind.wrap .i64 (Int.fdiv (IntKind.wrap .u64 (IntKind.wrap .i64 (i+j))) 2)))) fun o=>
  some (.inl (o.1,o.2))
 else
  some (.inr i)
def sBinSeaFu_l0_it(fu:Nat)(x:List (qT3))(target:Int)(tt:(Int×Int)):Option (Int):=
 iter fu (fun tt=>sBinSeaFu_l0 fu x target tt.1 tt.2) tt
def sBinSeaFu(fu:Nat)(x:List (qT3))(target:Int):Option ((Int×Bool)):=
 (sBinSeaFu_l0_it fu x target (0,((x.length:Nat):Int))).bind fun o1=>
 bif (decide (o1<((x.length:Nat):Int))) then
  (idx? o1 x.length).bind fun q1=>
  (x)[q1]?.bind fun r2=>
  (rcom fu r2 target).bind fun r3=>
  some (o1,(r3==0))
 else
  some (o1,false)
def sBinSeaFu_fa:FnA:=⟨.two lf (.two lf (.two lf (.two (.one (.loop ⟨[9,10],⟨qL50,[]⟩⟩ false [(0,⟨[9],⟨qL6,[]⟩⟩)] (.two (.two lf lf) (.one (.two lf (.two (.reg [(6,{})]) (.join ⟨[9,10],⟨qL50,[]⟩⟩ false [] lf))))))) (.two (.reg [(11,{})]) lf)))),⟨(.cons (.p (.sl qY1)) (.cons (.p (.int .i64)) (.cons (.fn 62 .nil .nil) .nil))),[]⟩,[⟨(.cons (.p (.int .i64)) (.cons (.p .bool) .nil)),[]⟩],[0,0]⟩
def sBinSeaFu_ft(fu:Nat):FnT:=⟨61,sBinSeaFu_fa.i,sBinSeaFu_fa.os,fun t=>sBinSeaFu fu t.1 t.2⟩
theorem cWZ(fu:Nat):Told Tryz.prog (sBinSeaFu_ft fu):=tk fu sBinSeaFu_fa (aaZ (mhZ fu) abZ) Tryz.func61 (by kernel_rfl) fun t=>by kernel_rfl
def rown(fu:Nat)(r:qT3):Option ((Int×(Int×(Int×(Int×(Int×(Bool×(Int×(Bool×(Int×(List (UInt8)×List ((List UInt8×Int))))))))))))):=
 (sClo4 fu r.2.2.2.2.2.2.1).bind fun r1=>
 (sClo fu r.2.2.2.2.2.2.2.1).bind fun r2=>
 some (r.1,(r.2.1,(r.2.2.1,(r.2.2.2.1.1,(r.2.2.2.1.2,(r.2.2.2.2.1,(r.2.2.2.2.2.1,(r.2.2.2.2.2.2.2.2.1,(r.2.2.2.2.2.2.2.2.2,(r1,r2))))))))))
def rown_fa:FnA:=⟨.two (.reg [(0,{ids:=[100]}),(1,{ids:=[101]})]) (.two (.reg [(2,{ids:=[102]}),(5,{ids:=[103],fn:=1})]) lf),⟨(.cons (.p qY1) .nil),[]⟩,[⟨(.cons (.agg (.cons (.p (.int .i64)) (.cons (.p (.int .i64)) (.cons (.p (.int .i64)) (.cons (.p (.int .i64)) (.cons (.p (.int .i64)) (.cons (.p .bool) (.cons (.p (.int .i64)) (.cons (.slf 1 0) (.cons (.slf 2 1) (.cons (.p .bool) qL6))))))))))) .nil),[(0,false,(.rows 5 .byte)),(1,false,qB55)]⟩],[0]⟩
def rown_ft(fu:Nat):FnT:=⟨64,rown_fa.i,rown_fa.os,fun t=>rown fu t⟩
theorem fnZ(fu:Nat):Told Tryz.prog (rown_ft fu):=tk fu rown_fa (aaZ (cbZ fu) (aaZ (brZ fu) abZ)) Tryz.func64 (by kernel_rfl) fun t=>by kernel_rfl
def rLoo(fu:Nat)(c:(Int×List (qT25)))(client:Int)(xid:Int):Option ((Int×(Int×(Int×(Int×(Int×(Bool×(Int×(List (UInt8)×(List ((List UInt8×Int))×(Bool×(Int×Int)))))))))))):=
 (rRig fu c).bind fun r=>
 Option.bind (α:=((Bool×(Int×(List (qT25)×(Int×(Int×(Int×(Int×(Int×(Bool×(Int×(Bool×Int))))))))))))) (
  bif r then
   bif (decide (client>=0)) then
    some ((decide (client<16)),(c.1,(c.2,(0,(0,(0,(0,(0,(false,(0,(false,0)))))))))))
   else
    some (false,(c.1,(c.2,(0,(0,(0,(0,(0,(false,(0,(false,0)))))))))))
  else
   some (false,(c.1,(c.2,(0,(0,(0,(0,(0,(false,(0,(false,0)))))))))))) fun o=>
 Option.bind (α:=((Int×(Bool×(Int×(List (qT25)×(Int×(Int×(Int×(Int×(Int×(Bool×(Int×(Bool×Int)))))))))))))) (
  bif o.1 then
   (rof fu (o.2.1,o.2.2.1) client).bind fun r1=>
   some (r1.1,(r1.2,o.2))
  else
   some ((-1),(r,o.2))) fun o1=>
 Option.bind (α:=((Bool×(Int×(List (qT25)×(Int×(Int×(Int×(Int×(Int×(Bool×(Int×(Bool×Int))))))))))))) (
  bif (!o1.2.1) then
   some (true,o1.2.2)
  else
   some ((decide (o1.1<0)),o1.2.2)) fun o2=>
 bif o2.1 then
  some (0,(0,(0,(0,(0,(false,(0,([],([],(false,(0,0)))))))))))
 else
  (idx? o1.1 o2.2.2.1.length).bind fun q=>
  (o2.2.2.1)[q]?.bind fun r2=>
  bif (decide (xid<=r2.2.1)) then
   some (0,(0,(0,(0,(0,(false,(0,([],([],(false,(0,2)))))))))))
  else
   (sBinSeaFu fu r2.2.2 xid).bind fun r3=>
   bif r3.2 then
    (idx? r3.1 r2.2.2.length).bind fun q1=>
    (r2.2.2)[q1]?.bind fun r4=>
    (rown fu r4).bind fun r5=>
    some (r5.1,(r5.2.1,(r5.2.2.1,(r5.2.2.2.1,(r5.2.2.2.2.1,(r5.2.2.2.2.2.1,(r5.2.2.2.2.2.2.1,(r5.2.2.2.2.2.2.2.2.2.1,(r5.2.2.2.2.2.2.2.2.2.2,(r5.2.2.2.2.2.2.2.1,(r5.2.2.2.2.2.2.2.2.1,1)))))))))))
   else
    some (0,(0,(0,(0,(0,(false,(0,([],([],(false,(0,0)))))))))))
def rLoo_fa:FnA:=⟨.two (.reg [(0,{ids:=[100]}),(1,{ids:=[101]})]) (.two (.reg [(1,{})]) (.two (.two (.join ⟨[3,6,23],⟨qL73,[(100,false,qB70),(101,false,(.vars qL17))]⟩⟩ false [] lf) (.join ⟨[3,6,8,9],⟨(.cons (.own 0 100 0 0) (.cons (.own 0 101 0 0) (.cons (.p (.int .i64)) (.cons (.p .bool) .nil)))),[(100,false,qB70),(101,false,(.vars qL17))]⟩⟩ false [] (.two (.reg [(2,{fn:=1})]) lf))) (.two (.two (.join ⟨[3,6,35],⟨qL73,[(100,false,qB70),(101,false,(.vars qL17))]⟩⟩ false [] lf) (.two lf lf)) (.two (.reg [(5,{ids:=[102]})]) (.two (.two lf (.two lf lf)) (.two (.two (.reg [(3,{fn:=2})]) (.two lf (.two (.two (.reg [(5,{ids:=[103,104],fn:=3})]) lf) lf))) lf)))))),⟨(.cons (.p (.pair (.int .i64) qY22)) qL50),[]⟩,[⟨(.cons (.agg qL9) qL6),[]⟩],[1,0]⟩
def rLoo_ft(fu:Nat):FnT:=⟨25,rLoo_fa.i,rLoo_fa.os,u3 (rLoo fu)⟩
theorem iYZ(fu:Nat):Told Tryz.prog (rLoo_ft fu):=tk fu rLoo_fa (aaZ (fvZ fu) (aaZ (kiZ fu) (aaZ (cWZ fu) (aaZ (fnZ fu) abZ)))) Tryz.func25 (by kernel_rfl) fun t=>by kernel_rfl
def spar(fu:Nat)(n:qT2)(i:Int):Option ((Int×Int)):=
 bif (decide (i>=((n.2.2.2.2.2.1.length:Nat):Int))) then
  some (0,0)
 else
  (idx? i n.2.2.2.2.2.1.length).bind fun q=>
  (n.2.2.2.2.2.1)[q]?.bind fun r=>
  some r
def spar_fa:FnA:=⟨.two (.reg [(0,{ids:=[100]}),(1,{ids:=[101]})]) (.two (.two lf (.two lf lf)) lf),⟨(.cons (.p qY0) qL6),[]⟩,[⟨(.cons (.agg qL50) .nil),[]⟩],[0]⟩
def spar_ft(fu:Nat):FnT:=⟨80,spar_fa.i,spar_fa.os,fun t=>spar fu t.1 t.2⟩
theorem fqZ(fu:Nat):Told Tryz.prog (spar_ft fu):=tk fu spar_fa abZ Tryz.func80 (by kernel_rfl) fun t=>by kernel_rfl
def swri12(fu:Nat)(i:Int)(whole:Bool)(x:List (qT2))(h:Int)(h1:List qT19):Option ((Int×(List qT19×List qT19))⊕(Int×(List qT19×List qT19))):=
 (x)[0]?.bind fun r=>
 (spar fu r i).bind fun r1=>
 Option.bind (α:=((Int×(List qT19×List qT19)))) (
  bif ((r1.1==0)&&(r1.2==0)) then
   some ((IntKind.wrap .i64 (h+1)),(h1,[(i,(r1,(IntKind.wrap .i64 (h+1))))]))
  else
   some (h,(h1,[(i,(r1,r1.1))]))) fun o=>
 (o.2.2)[0]?.bind fun r2=>
 Option.bind (α:=((Bool×(Int×(List qT19×(List qT19×List qT19)))))) (
  bif (!((r1.1==0)&&(r1.2==0))) then
   some ((!whole),(o.1,([r2],o.2)))
  else
   some (false,(o.1,([r2],o.2)))) fun o1=>
 bif o1.1 then
  (o1.2.2.2.2)[0]?.bind fun r3=>
  need ((Nat.ble ((o1.2.2.2.1.length+1)*32) room)&&(Nat.ble (o1.2.2.2.1.length+1) room))<|
  some (.inl (o1.2.1,(o1.2.2.1,(o1.2.2.2.1++[r3]))))
 else
  some (.inr (o1.2.1,(o1.2.2.2.1,o1.2.2.1)))
def swri12_fa:FnA:=⟨.two (.reg [(3,{}),(5,{ids:=[100],md:=[1]})]) (.two lf (.two lf (.two (.two lf (.join ⟨[3,4,5,8],⟨(.cons (.own 0 0 0 0) (.cons (.own 0 1 0 0) (.cons (.own 0 2 0 0) (.cons (.own 4 100 0 0) .nil)))),[(0,false,(.vars qL6)),(1,false,qB75),(2,false,(.vars (.cons (.slf 4 3) .nil))),(3,false,(.rows 92 qY16)),(100,false,(.rows 92 qY16))]⟩⟩ false [] (.two lf lf))) (.two (.reg [(2,{ids:=[101]}),(3,{ids:=[102]})]) (.two (.join ⟨[3,4,5,8,37],⟨(.cons (.own 0 0 0 0) (.cons (.own 0 1 0 0) (.cons (.own 0 2 0 0) (.cons (.own 4 100 0 0) (.cons (.p .bool) .nil))))),[(0,false,(.vars qL6)),(1,false,(.vars (.cons (.slf 4 102) .nil))),(102,false,(.rows 92 qY16)),(2,false,(.vars (.cons (.slf 4 3) .nil))),(3,false,(.rows 92 qY16)),(100,false,(.rows 92 qY16))]⟩⟩ false [] lf) (.two (.reg [(2,{ids:=[103]}),(3,{ids:=[104]})]) lf)))))),⟨(.cons (.p (.int .i64)) (.cons (.p .bool) (.cons (.pt qY0) qL74))),[(0,false,(.vars qL6)),(1,false,qB75),(2,false,(.vars (.cons (.slf 4 3) .nil))),(3,false,(.rows 92 qY16))]⟩,[⟨.nil,[(0,false,(.vars qL6)),(1,false,(.vars (.cons (.slf 4 4) .nil))),(2,false,(.vars (.cons (.slf 4 5) .nil))),(4,false,(.rows 92 qY16)),(5,false,(.rows 92 qY16))]⟩,⟨.nil,[(0,false,(.vars qL6)),(1,false,(.vars (.cons (.slf 4 4) .nil))),(2,false,(.vars (.cons (.slf 4 3) .nil))),(3,false,(.rows 92 qY16)),(4,false,(.rows 92 qY16))]⟩],[]⟩
def swri12_ft(fu:Nat):FnT:=⟨79,swri12_fa.i,swri12_fa.os,u5 (swri12 fu)⟩
theorem j2Z(fu:Nat):Told Tryz.prog (swri12_ft fu):=tk fu swri12_fa (aaZ (fqZ fu) abZ) Tryz.func79 (by kernel_rfl) fun t=>by kernel_rfl
def swri1(fu:Nat)(i:Int)(whole:Bool)(x:List (qT2))(h:Int)(h1:List qT19)(h2:List qT19):Option ((Int×(List qT19×List qT19))⊕(Int×(List qT19×List qT19))):=
 (x)[0]?.bind fun r=>
 (spar fu r i).bind fun r1=>
 Option.bind (α:=((Int×(List qT19×(List qT19×List qT19))))) (
  bif ((r1.1==0)&&(r1.2==0)) then
   some ((IntKind.wrap .i64 (h+1)),(h1,(h2,[(i,(r1,(IntKind.wrap .i64 (h+1))))])))
  else
   some (h,(h1,(h2,[(i,(r1,r1.1))])))) fun o=>
 (o.2.2.2)[0]?.bind fun r2=>
 need ((Nat.ble ((o.2.1.length+1)*32) room)&&(Nat.ble (o.2.1.length+1) room))<|
 Option.bind (α:=((Bool×(Int×(List qT19×(List qT19×List qT19)))))) (
  bif (!((r1.1==0)&&(r1.2==0))) then
   some ((!whole),(o.1,((o.2.1++[r2]),o.2.2)))
  else
   some (false,(o.1,((o.2.1++[r2]),o.2.2)))) fun o1=>
 bif o1.1 then
  (o1.2.2.2.2)[0]?.bind fun r3=>
  need ((Nat.ble ((o1.2.2.2.1.length+1)*32) room)&&(Nat.ble (o1.2.2.2.1.length+1) room))<|
  some (.inl (o1.2.1,(o1.2.2.1,(o1.2.2.2.1++[r3]))))
 else
  some (.inr (o1.2.1,(o1.2.2.2.1,o1.2.2.1)))
def swri1_fa:FnA:=⟨.two (.reg [(3,{}),(5,{ids:=[100],md:=[1]})]) (.two lf (.two lf (.two (.two lf (.join ⟨[3,4,5,8],⟨(.cons (.own 0 0 0 0) (.cons (.own 0 1 0 0) (.cons (.own 0 3 0 0) (.cons (.own 4 100 0 0) .nil)))),[(0,false,(.vars qL6)),(1,false,(.vars (.cons (.slf 4 2) .nil))),(2,false,(.rows 92 qY16)),(3,false,(.vars (.cons (.slf 4 4) .nil))),(4,false,(.rows 92 qY16)),(100,false,(.rows 92 qY16))]⟩⟩ false [] (.two lf lf))) (.two (.reg [(2,{ids:=[101]}),(3,{ids:=[102]})]) (.two (.join ⟨[3,4,5,8,37],⟨(.cons (.own 0 0 0 0) (.cons (.own 0 1 0 0) (.cons (.own 0 3 0 0) (.cons (.own 4 100 0 0) (.cons (.p .bool) .nil))))),[(0,false,(.vars qL6)),(1,false,(.vars (.cons (.slf 4 102) .nil))),(102,false,(.rows 92 qY16)),(3,false,(.vars (.cons (.slf 4 4) .nil))),(4,false,(.rows 92 qY16)),(100,false,(.rows 92 qY16))]⟩⟩ false [] lf) (.two (.reg [(2,{ids:=[103]}),(3,{ids:=[104]})]) lf)))))),⟨(.cons (.p (.int .i64)) (.cons (.p .bool) (.cons (.pt qY0) (.cons (.own 0 0 0 0) (.cons (.own 0 1 0 0) (.cons (.own 0 3 0 0) .nil)))))),[(0,false,(.vars qL6)),(1,false,(.vars (.cons (.slf 4 2) .nil))),(2,false,(.rows 92 qY16)),(3,false,(.vars (.cons (.slf 4 4) .nil))),(4,false,(.rows 92 qY16))]⟩,[⟨.nil,[(0,false,(.vars qL6)),(1,false,(.vars (.cons (.slf 4 5) .nil))),(3,false,(.vars (.cons (.slf 4 6) .nil))),(5,false,(.rows 92 qY16)),(6,false,(.rows 92 qY16))]⟩,⟨.nil,[(0,false,(.vars qL6)),(1,false,(.vars (.cons (.slf 4 5) .nil))),(3,false,(.vars (.cons (.slf 4 4) .nil))),(4,false,(.rows 92 qY16)),(5,false,(.rows 92 qY16))]⟩],[]⟩
def swri1_ft(fu:Nat):FnT:=⟨79,swri1_fa.i,swri1_fa.os,u6 (swri1 fu)⟩
theorem kIZ(fu:Nat):Told Tryz.prog (swri1_ft fu):=tk fu swri1_fa (aaZ (fqZ fu) abZ) Tryz.func79 (by kernel_rfl) fun t=>by kernel_rfl
def swri2(fu:Nat)(i:Int)(x:List (qT13))(h:List (qT2))(h1:Int)(h2:List qT19)(h3:List qT19)(h4:Int)(h5:Int):Option ((List (qT2)×(Int×(Int×(Int×(List qT19×List qT19)))))⊕(List (qT2)×(Int×(List qT19×(Int×(Int×List qT19)))))):=
 (x)[0]?.bind fun r=>
 bif (decide (r.2.2.2.2.2.2.2.1<=(IntKind.wrap .i64 (i*h4)))) then
  (swri1 fu i (decide (h5>=(IntKind.wrap .i64 ((IntKind.wrap .i64 (i+1))*h4)))) h h1 h2 h3).bind fun r1=>
  match r1 with
  |.inl r2=>
   some (.inl (h,(r2.1,(h4,(h5,r2.2)))))
  |.inr r3=>
   some (.inr (h,(r3.1,(r3.2.1,(h4,(h5,r3.2.2))))))
 else
  (swri1 fu i false h h1 h2 h3).bind fun r4=>
  match r4 with
  |.inl r5=>
   some (.inl (h,(r5.1,(h4,(h5,r5.2)))))
  |.inr r6=>
   some (.inr (h,(r6.1,(r6.2.1,(h4,(h5,r6.2.2))))))
def swri2_fa:FnA:=⟨.reg [(16,{ids:=[100,101],sh:=[2,3,4,5,6],md:=[0,0,1,0,0,0]})],⟨(.cons (.p (.int .i64)) (.cons (.own 0 0 0 0) (.cons (.pt qY14) (.cons (.own 0 7 0 0) (.cons (.own 0 8 0 0) .nil))))),[(0,false,(.vars (.cons (.fn 79 .nil (.cons (.own 8 1 0 0) (.cons (.own 0 2 0 0) (.cons (.own 0 3 0 0) (.cons (.own 0 5 0 0) .nil))))) .nil))),(1,true,(.rows 56 qY0)),(2,false,(.vars qL6)),(3,false,(.vars (.cons (.slf 4 4) .nil))),(4,false,(.rows 92 qY16)),(5,false,(.vars (.cons (.slf 4 6) .nil))),(6,false,(.rows 92 qY16)),(7,false,(.vars qL6)),(8,false,(.vars qL6))]⟩,[⟨.nil,[(0,false,(.vars (.cons (.fn 79 .nil (.cons (.own 8 1 0 0) (.cons (.own 0 2 0 0) (.cons (.own 0 3 0 0) (.cons (.own 0 5 0 0) .nil))))) .nil))),(1,true,(.rows 56 qY0)),(2,false,(.vars qL6)),(3,false,(.vars (.cons (.slf 4 9) .nil))),(5,false,(.vars (.cons (.slf 4 10) .nil))),(7,false,(.vars qL6)),(8,false,(.vars qL6)),(9,false,(.rows 92 qY16)),(10,false,(.rows 92 qY16))]⟩,⟨.nil,[(0,false,(.vars (.cons (.fn 79 .nil (.cons (.own 8 1 0 0) (.cons (.own 0 2 0 0) (.cons (.own 0 3 0 0) (.cons (.own 0 5 0 0) .nil))))) .nil))),(1,true,(.rows 56 qY0)),(2,false,(.vars qL6)),(3,false,(.vars (.cons (.slf 4 9) .nil))),(5,false,(.vars (.cons (.slf 4 6) .nil))),(6,false,(.rows 92 qY16)),(7,false,(.vars qL6)),(8,false,(.vars qL6)),(9,false,(.rows 92 qY16))]⟩],[]⟩
def swri2_ft(fu:Nat):FnT:=⟨81,swri2_fa.i,swri2_fa.os,u8 (swri2 fu)⟩
theorem lDZ(fu:Nat):Told Tryz.prog (swri2_ft fu):=tk fu swri2_fa (aaZ (kIZ fu) abZ) Tryz.func81 (by kernel_rfl) fun t=>by kernel_rfl
def sspaf23cf_l0(fu:Nat)(size:Int)(to_:Int)(i:Int)(h5:List (qT2))(h6:Int)(h7:List qT19)(h8:List qT19)(h9:List (qT13))(h10:Int)(h11:Int):Option ((Int×(List (qT2)×(Int×(List qT19×(List qT19×(List (qT13)×(Int×Int)))))))⊕((List (qT2)×(Int×(List qT19×(List qT19×(List (qT13)×(Int×Int)))))))):=
 bif (decide ((IntKind.wrap .i64 (i*size))<to_)) then
  Option.bind (α:=((List (qT2)×(Int×(List qT19×(List qT19×(List (qT13)×(Int×Int)))))))) (
   (swri2 fu i h9 h5 h6 h7 h8 h10 h11).bind fun r=>
   match r with
   |.inl r1=>
    some (r1.1,(r1.2.1,(r1.2.2.2.2.1,(r1.2.2.2.2.2,(h9,(r1.2.2.1,r1.2.2.2.1))))))
   |.inr r2=>
    some (r2.1,(r2.2.1,(r2.2.2.2.2.2,(r2.2.2.1,(h9,(r2.2.2.2.1,r2.2.2.2.2.1))))))) fun o=>
  some (.inl ((IntKind.wrap .i64 (i+1)),o))
 else
  some (.inr (h5,(h6,(h7,(h8,(h9,(h10,h11)))))))
def sspaf23cf_l0_it(fu:Nat)(size:Int)(to_:Int)(tt:(Int×(List (qT2)×(Int×(List qT19×(List qT19×(List (qT13)×(Int×Int)))))))):Option ((List (qT2)×(Int×(List qT19×(List qT19×(List (qT13)×(Int×Int))))))):=
 iter fu (fun tt=>sspaf23cf_l0 fu size to_ tt.1 tt.2.1 tt.2.2.1 tt.2.2.2.1 tt.2.2.2.2.1 tt.2.2.2.2.2.1 tt.2.2.2.2.2.2.1 tt.2.2.2.2.2.2.2) tt
def sspaf23cf(fu:Nat)(size:Int)(from_:Int)(to_:Int)(h:List (qT2))(h1:Int)(h2:List (qT13))(h3:Int)(h4:Int):Option ((List (qT2)×(Int×(List (qT13)×(Int×(Int×(List qT19×List qT19))))))):=
 need (!(decide (size=0)))<|
 (sspaf23cf_l0_it fu size to_ ((IntKind.wrap .i64 (Int.tdiv from_ size)),(h,(h1,([],([],(h2,(h3,h4)))))))).bind fun o1=>
 some (o1.1,(o1.2.1,(o1.2.2.2.2.1,(o1.2.2.2.2.2.1,(o1.2.2.2.2.2.2,(o1.2.2.1,o1.2.2.2.1))))))
def sspaf23cf_fa:FnA:=⟨.two lf (.one (.pre (.ownCell 3 0 92 100) (.pre (.ownCell 4 0 92 101) (.pre (.frzB 1) (.pre (.frzB 5) (.loop ⟨[3,8],⟨(.cons (.fn 81 .nil (.cons (.own 0 0 0 0) (.cons (.own 12 5 0 0) (.cons (.own 0 6 0 0) (.cons (.own 0 7 0 0) .nil))))) qL6),[(0,false,qB58),(1,true,(.rows 56 qY0)),(2,false,(.vars qL6)),(3,false,(.vars (.cons (.slf 4 100) .nil))),(100,false,(.rows 92 qY16)),(4,false,(.vars (.cons (.slf 4 101) .nil))),(101,false,(.rows 92 qY16)),(5,true,(.rows 48 qY14)),(6,false,(.vars qL6)),(7,false,(.vars qL6))]⟩⟩ false [(0,⟨[3],⟨(.cons (.fn 81 .nil (.cons (.own 0 0 0 0) (.cons (.own 12 5 0 0) (.cons (.own 0 6 0 0) (.cons (.own 0 7 0 0) .nil))))) .nil),[(0,false,qB58),(1,true,(.rows 56 qY0)),(2,false,(.vars qL6)),(3,false,(.vars (.cons (.slf 4 100) .nil))),(100,false,(.rows 92 qY16)),(4,false,(.vars (.cons (.slf 4 101) .nil))),(101,false,(.rows 92 qY16)),(5,true,(.rows 48 qY14)),(6,false,(.vars qL6)),(7,false,(.vars qL6))]⟩⟩)] (.two (.two lf lf) (.two (.one (.join ⟨[3],⟨(.cons (.fn 81 .nil (.cons (.own 0 0 0 0) (.cons (.own 12 5 0 0) (.cons (.own 0 6 0 0) (.cons (.own 0 7 0 0) .nil))))) .nil),[(0,false,qB58),(1,true,(.rows 56 qY0)),(2,false,(.vars qL6)),(3,false,(.vars (.cons (.slf 4 102) .nil))),(102,false,(.rows 92 qY16)),(4,false,(.vars (.cons (.slf 4 103) .nil))),(103,false,(.rows 92 qY16)),(5,true,(.rows 48 qY14)),(6,false,(.vars qL6)),(7,false,(.vars qL6))]⟩⟩ false [] (.reg [(2,{ids:=[102,103],sh:=[0,1,2,3,100,4,101,6,7],md:=[0,0,1,0,0]})]))) lf)))))))),⟨(.cons (.p (.int .i64)) (.cons (.p (.int .i64)) (.cons (.p (.int .i64)) (.cons (.fn 81 .nil (.cons (.own 0 0 0 0) (.cons (.own 12 5 0 0) (.cons (.own 0 6 0 0) (.cons (.own 0 7 0 0) .nil))))) .nil)))),[(0,false,qB58),(1,false,(.rows 56 qY0)),(2,false,(.vars qL6)),(3,false,qB75),(4,false,qB75),(5,false,(.rows 48 qY14)),(6,false,(.vars qL6)),(7,false,(.vars qL6))]⟩,[⟨.nil,[(0,false,qB58),(1,true,(.rows 56 qY0)),(2,false,(.vars qL6)),(3,false,(.vars (.cons (.slf 4 8) .nil))),(4,false,(.vars (.cons (.slf 4 9) .nil))),(5,true,(.rows 48 qY14)),(6,false,(.vars qL6)),(7,false,(.vars qL6)),(8,false,(.rows 92 qY16)),(9,false,(.rows 92 qY16))]⟩],[]⟩
def sspaf23cf_ft(fu:Nat):FnT:=⟨77,sspaf23cf_fa.i,sspaf23cf_fa.os,u8 (sspaf23cf fu)⟩
theorem gdZ(fu:Nat):Told Tryz.prog (sspaf23cf_ft fu):=tk fu sspaf23cf_fa (aaZ (lDZ fu) abZ) Tryz.func77 (by kernel_rfl) fun t=>by kernel_rfl
def swri(fu:Nat)(n:qT2)(fresh:Int)(size:Int)(c:qT13):Option ((List qT19×List qT19)):=
 Option.bind (α:=((Bool×(List (qT2)×(Int×(List (qT13)×(Int×Int))))))) (
  bif (((c.2.2.1.toNat:Nat):Int)==5) then
   some ((decide (((c.2.2.2.2.2.2.2.2.2.length:Nat):Int)>0)),([n],(size,([c],(fresh,(IntKind.wrap .i64 (c.2.2.2.2.2.2.2.1+((c.2.2.2.2.2.2.2.2.2.length:Nat):Int))))))))
  else
   some (false,([n],(size,([c],(fresh,(IntKind.wrap .i64 (c.2.2.2.2.2.2.2.1+((c.2.2.2.2.2.2.2.2.2.length:Nat):Int))))))))) fun o=>
 bif o.1 then
  (o.2.2.2.1)[0]?.bind fun r=>
  (sspaf23cf fu o.2.2.1 r.2.2.2.2.2.2.2.1 o.2.2.2.2.2 o.2.1 o.2.2.2.2.1 o.2.2.2.1 o.2.2.1 o.2.2.2.2.2).bind fun r1=>
  some r1.2.2.2.2.2
 else
  Option.bind (α:=((Bool×(Int×(List (qT13)×(List (qT2)×Int)))))) (
   (o.2.2.2.1)[0]?.bind fun r2=>
   bif (((r2.2.2.1.toNat:Nat):Int)==6) then
    (o.2.2.2.1)[0]?.bind fun r3=>
    (o.2.1)[0]?.bind fun r4=>
    bif (decide (r3.2.2.2.2.2.2.2.2.1<r4.2.2.2.2.1)) then
     (o.2.2.2.1)[0]?.bind fun r5=>
     need (!(decide (o.2.2.1=0)))<|
     bif (!((Int.tmod r5.2.2.2.2.2.2.2.2.1 o.2.2.1)==0)) then
      (o.2.1)[0]?.bind fun r6=>
      (o.2.2.2.1)[0]?.bind fun r7=>
      need (!(decide (o.2.2.1=0)))<|
      (spar fu r6 (IntKind.wrap .i64 (Int.tdiv r7.2.2.2.2.2.2.2.2.1 o.2.2.1))).bind fun r8=>
      some ((!((r8.1==0)&&(r8.2==0))),(o.2.2.1,(o.2.2.2.1,(o.2.1,o.2.2.2.2.1))))
     else
      some (false,(o.2.2.1,(o.2.2.2.1,(o.2.1,o.2.2.2.2.1))))
    else
     some (false,(o.2.2.1,(o.2.2.2.1,(o.2.1,o.2.2.2.2.1))))
   else
    some (false,(o.2.2.1,(o.2.2.2.1,(o.2.1,o.2.2.2.2.1))))) fun o1=>
  bif o1.1 then
   Option.bind (α:=((List qT19×List qT19))) (
    (o1.2.2.1)[0]?.bind fun r9=>
    need (!(decide (o1.2.1=0)))<|
    (swri12 fu (IntKind.wrap .i64 (Int.tdiv r9.2.2.2.2.2.2.2.2.1 o1.2.1)) false o1.2.2.2.1 o1.2.2.2.2 []).bind fun r10=>
    match r10 with
    |.inl r11=>
     some r11.2
    |.inr r12=>
     some (r12.2.2,r12.2.1)) fun o2=>
   some o2
  else
   some ([],[])
def swri_fa:FnA:=⟨.two (.reg [(0,{ids:=[100],md:=[1]}),(1,{ids:=[101]}),(2,{ids:=[102]}),(3,{ids:=[103],md:=[1]})]) (.two (.reg [(0,{ids:=[104]}),(1,{ids:=[105]})]) (.two (.reg [(1,{ids:=[106]})]) (.two (.reg [(6,{ids:=[107]})]) (.two (.one (.two (.join ⟨[4,6,7,10,11,12,13,21],⟨(.cons (.own 8 100 0 0) (.cons (.own 0 102 0 0) (.cons (.own 12 103 0 0) (.cons (.own 0 104 0 0) (.cons (.own 0 105 0 0) (.cons (.own 0 106 0 0) (.cons (.own 0 107 0 0) (.cons (.p .bool) .nil)))))))),[(100,false,(.rows 56 qY0)),(102,false,(.vars qL6)),(103,false,(.rows 48 qY14)),(104,false,qB75),(105,false,qB75),(106,false,(.vars (.cons (.fn 79 .nil (.cons (.own 8 100 0 0) (.cons (.own 0 101 0 0) (.cons (.own 0 104 0 0) (.cons (.own 0 105 0 0) .nil))))) .nil))),(101,false,(.vars qL6)),(107,false,(.vars qL6))]⟩⟩ false [] lf) (.two (.reg [(5,{ids:=[108,109],sh:=[106,100,101,104,105,103,102,107]})]) (.two (.join ⟨[6,7,10,11,12,37],⟨(.cons (.own 0 102 0 0) (.cons (.own 12 103 0 0) (.cons (.own 0 104 0 0) (.cons (.own 0 105 0 0) (.cons (.own 0 106 0 0) (.cons (.p .bool) .nil)))))),[(102,false,(.vars qL6)),(103,false,(.rows 48 qY14)),(104,false,qB75),(105,false,qB75),(106,false,(.vars (.cons (.fn 79 .nil (.cons (.own 8 100 0 0) (.cons (.own 0 101 0 0) (.cons (.own 0 104 0 0) (.cons (.own 0 105 0 0) .nil))))) .nil))),(100,false,(.rows 56 qY0)),(101,false,(.vars qL6))]⟩⟩ false [] (.reg [(23,{fn:=1})])) (.pre (.ownCell 105 0 92 110) (.two (.join ⟨[10,11],⟨(.cons (.own 0 104 0 0) (.cons (.own 0 105 0 0) .nil)),[(104,false,(.vars (.cons (.slf 4 111) .nil))),(111,false,(.rows 92 qY16)),(105,false,(.vars (.cons (.slf 4 112) .nil))),(112,false,(.rows 92 qY16))]⟩⟩ false [] (.reg [(5,{ids:=[111,112],sh:=[101,104,105,110],md:=[0,0,1,0,0,0],fn:=2})])) lf)))))) lf)))),⟨(.cons (.p qY0) (.cons (.p (.int .i64)) (.cons (.p (.int .i64)) (.cons (.p qY14) .nil)))),[]⟩,[⟨(.cons (.slf 4 0) (.cons (.slf 4 1) .nil)),[(0,false,(.rows 92 qY16)),(1,false,(.rows 92 qY16))]⟩],[102,0]⟩
def swri_ft(fu:Nat):FnT:=⟨26,swri_fa.i,swri_fa.os,u4 (swri fu)⟩
theorem nEZ(fu:Nat):Told Tryz.prog (swri_ft fu):=tk fu swri_fa (aaZ (gdZ fu) (aaZ (fqZ fu) (aaZ (j2Z fu) abZ))) Tryz.func26 (by kernel_rfl) fun t=>by kernel_rfl
end
end Go.Ab.D
