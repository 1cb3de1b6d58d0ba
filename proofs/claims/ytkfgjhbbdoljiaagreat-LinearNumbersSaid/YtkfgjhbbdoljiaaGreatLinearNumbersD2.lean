/- Functions of the program as plain Lean functions: each equation is checked by the kernel; what is told of a function follows from it. -/
import Derived.Test.YtkfgjhbbdoljiaaGreatLinearNumbersD1
set_option linter.all false
set_option maxRecDepth 100000
set_option maxHeartbeats 4000000
namespace Go.Ab.D
open Go Go.Ab
noncomputable section
def iAllE(fu:Nat)(t:(List (qT0)×Int))(dir:Bool)(parent:Int):Option (qT38):=
 (icopE fu (t.1,t.2)).bind fun r=>
 (iRig fu (t.1,t.2)).bind fun r1=>
 bif (!r1) then
  some (r.1,(0,(0,(180,(r.2.1,r.2.2)))))
 else
  (inode_is fu (t.1,t.2) parent true).bind fun r2=>
  bif (!r2) then
   some (r.1,(0,(0,(2,(r.2.1,r.2.2)))))
  else
   (unrefL (unrefD [⟨1,(.pair .str (.int .i64)),(List.map frz1 r.2.2)⟩] qY12) r.2.1).bind fun l=>
   (sIndFun4 fu l).bind fun r3=>
   Option.bind (α:=((Bool×qT38))) (
    bif (decide (r3<0)) then
     some ((decide (((r.2.1.length:Nat):Int)>=500)),(0,(0,(0,(r.1,(r.2.1,r.2.2))))))
    else
     some (false,(0,(0,(0,(r.1,(r.2.1,r.2.2))))))) fun o=>
   bif o.1 then
    some (o.2.2.2.2.1,(0,(0,(5,(o.2.2.2.2.2.1,o.2.2.2.2.2.2)))))
   else
    Option.bind (α:=((Int×qT38)⊕qT38)) (
     bif (decide (r3<0)) then
      need ((Nat.ble ((o.2.2.2.2.2.1.length+1)*88) room)&&(Nat.ble (o.2.2.2.2.2.1.length+1) room))<|
      some (.inl (((o.2.2.2.2.2.1.length:Nat):Int),(o.2.1,(o.2.2.1,(o.2.2.2.1,(o.2.2.2.2.1,((o.2.2.2.2.2.1++(List.map (liftT qY12) ([((IntKind.wrap .i64 (((o.2.2.2.2.2.1.length:Nat):Int)+1)),(0,(false,(false,(0,([],(0,[])))))))]:List (qT0)))),o.2.2.2.2.2.2)))))))
     else
      (idx? r3 o.2.2.2.2.2.1.length).bind fun q=>
      (o.2.2.2.2.2.1)[q]?.bind fun r4=>
      bif (decide (r4.2.1>=1099511627776)) then
       some (.inr (o.2.2.2.2.1,(0,(0,(5,(o.2.2.2.2.2.1,o.2.2.2.2.2.2))))))
      else
       some (.inl (r3,(o.2.1,(o.2.2.1,(o.2.2.2.1,(o.2.2.2.2.1,(o.2.2.2.2.2.1,o.2.2.2.2.2.2)))))))) fun o1=>
    match o1 with
    |.inl s=>
     (idx? s.1 s.2.2.2.2.2.1.length).bind fun q1=>
     (s.2.2.2.2.2.1)[q1]?.bind fun r5=>
     (s.2.2.2.2.2.1)[q1]?.bind fun r6=>
     ((List.set s.2.2.2.2.2.1 q1 (r6.1,((IntKind.wrap .i64 (r5.2.1+1)),r6.2.2))))[q1]?.bind fun r7=>
     ((List.set (List.set s.2.2.2.2.2.1 q1 (r6.1,((IntKind.wrap .i64 (r5.2.1+1)),r6.2.2))) q1 (r7.1,(r7.2.1,(true,r7.2.2.2)))))[q1]?.bind fun r8=>
     ((List.set (List.set (List.set s.2.2.2.2.2.1 q1 (r6.1,((IntKind.wrap .i64 (r5.2.1+1)),r6.2.2))) q1 (r7.1,(r7.2.1,(true,r7.2.2.2)))) q1 (r8.1,(r8.2.1,(r8.2.2.1,(dir,r8.2.2.2.2))))))[q1]?.bind fun r9=>
     ((List.set (List.set (List.set (List.set s.2.2.2.2.2.1 q1 (r6.1,((IntKind.wrap .i64 (r5.2.1+1)),r6.2.2))) q1 (r7.1,(r7.2.1,(true,r7.2.2.2)))) q1 (r8.1,(r8.2.1,(r8.2.2.1,(dir,r8.2.2.2.2))))) q1 (r9.1,(r9.2.1,(r9.2.2.1,(r9.2.2.2.1,(r9.2.2.2.2.1,(r9.2.2.2.2.2.1,(parent,r9.2.2.2.2.2.2.2)))))))))[q1]?.bind fun r10=>
     ((List.set (List.set (List.set (List.set s.2.2.2.2.2.1 q1 (r6.1,((IntKind.wrap .i64 (r5.2.1+1)),r6.2.2))) q1 (r7.1,(r7.2.1,(true,r7.2.2.2)))) q1 (r8.1,(r8.2.1,(r8.2.2.1,(dir,r8.2.2.2.2))))) q1 (r9.1,(r9.2.1,(r9.2.2.1,(r9.2.2.2.1,(r9.2.2.2.2.1,(r9.2.2.2.2.2.1,(parent,r9.2.2.2.2.2.2.2)))))))))[q1]?.bind fun r11=>
     some (s.2.2.2.2.1,(r10.1,(r11.2.1,(0,((List.set (List.set (List.set (List.set s.2.2.2.2.2.1 q1 (r6.1,((IntKind.wrap .i64 (r5.2.1+1)),r6.2.2))) q1 (r7.1,(r7.2.1,(true,r7.2.2.2)))) q1 (r8.1,(r8.2.1,(r8.2.2.1,(dir,r8.2.2.2.2))))) q1 (r9.1,(r9.2.1,(r9.2.2.1,(r9.2.2.2.1,(r9.2.2.2.2.1,(r9.2.2.2.2.2.1,(parent,r9.2.2.2.2.2.2.2)))))))),s.2.2.2.2.2.2)))))
    |.inr o2=>
     some o2
def iAllE_fa:FnA:=⟨.two (.reg [(0,{ids:=[100]}),(1,{ids:=[101]}),(2,{ids:=[102]})]) (.two (.reg [(1,{ids:=[103,999985]}),(2,{ids:=[104]})]) (.two (.one (.two (.reg [(1,{fn:=1})]) (.two (.leaf) (.two (.reg [(2,{fn:=2})]) (.two (.leaf) (.leaf)))))) (.two (.leaf) (.two (.reg [(3,{md:=[2,0],fn:=3})]) (.two (.one (.two (.join ⟨[6,7,9,32],⟨(.cons (.own 0 101 0 0) (.cons (.own 0 102 0 0) (.cons (.own 0 104 0 0) (.cons (.p .bool) .nil)))),[(101,false,(.vars (.cons (.nilp (.slice none 0 0)) qL9))),(102,false,(.vars qL34)),(104,false,(.vars (.cons (.slf 8 103) qL9))),(103,false,(.rows 103 qY12)),(999985,false,(.fam 108 (.pair .str (.int .i64))))]⟩⟩ false [] (.leaf)) (.two (.leaf) (.two (.leaf) (.join ⟨[6,7,9,11],⟨(.cons (.own 0 101 0 0) (.cons (.own 0 102 0 0) (.cons (.own 0 104 0 0) qL9))),[(101,false,(.vars (.cons (.nilp (.slice none 0 0)) qL9))),(102,false,(.vars qL34)),(104,false,(.vars (.cons (.slf 8 106) qL9))),(106,false,(.rows 103 qY12)),(999985,false,(.fam 108 (.pair .str (.int .i64))))]⟩⟩ true [] (.two (.two (.leaf) (.reg [(5,{ids:=[105]}),(6,{ids:=[106]})])) (.two (.leaf) (.two (.leaf) (.leaf))))))))) (.two (.leaf) (.two (.leaf) (.leaf)))))))),⟨(.cons (.p qY43) (.cons (.p .bool) qL9)),[]⟩,[⟨(.cons (.agg (.cons (.slf 8 0) qL9)) (.cons (.agg qL34) qL9)),[(0,false,(.rows 103 qY12)),(999985,false,(.fam 108 (.pair .str (.int .i64))))]⟩],[0,0,0]⟩
def iAllE_ft(fu:Nat):FnT:=⟨134,iAllE_fa.i,iAllE_fa.os,fun t=>iAllE fu t.1 t.2.1 t.2.2⟩
theorem lEZ(fu:Nat):∀t,evF Go.Proofs.Tryz.prog [icopE_ft fu,iRig_ft fu,inode_is_ft fu,sIndFun4_ft fu] fu Go.Proofs.Tryz.f134 iAllE_fa t=(iAllE_ft fu).spec t:=fun t=>by kernel_rfl
theorem jfZ(fu:Nat):Told Go.Proofs.Tryz.prog (iAllE_ft fu):=afZ (aaZ (jgZ fu) (aaZ (gnZ fu) (aaZ (eXZ fu) (aaZ (foZ fu) acZ)))) mixed Go.Proofs.Tryz.func134 (by kernel_rfl) (by kernel_rfl) (lEZ fu)
def sIns(fu:Nat)(i:Int)(l v:List ((List UInt8×Int))):Option (List ((List UInt8×Int))×List ((List UInt8×Int))):=
 (upto? i l.length).bind fun q=>need (Nat.blt 0 v.length&&Nat.ble ((l.length+v.length)*24) room&&Nat.ble (l.length+v.length) room) (some (v,l.take q++v++l.drop q))
def sIns_ft(fu:Nat):FnT:=⟨157,⟨(.cons (.slf 2 0) (.cons (.p (.int .i64)) (.cons (.slf 2 1) .nil))),[(0,false,(.rows 108 (.pair .str (.int .i64)))),(1,false,(.rows 108 (.pair .str (.int .i64))))]⟩,[⟨(.cons (.slf 2 2) .nil),[(1,false,(.rows 108 (.pair .str (.int .i64)))),(2,false,(.rows 108 (.pair .str (.int .i64))))]⟩],fun t=>sIns fu t.1 t.2.1 t.2.2⟩
theorem k8Z(fu:Nat):Told Go.Proofs.Tryz.prog (sIns_ft fu):=
 h2Z (u:=(.pair .str (.int .i64))) Go.Proofs.Tryz.ins157 (by decide) (by intro h;cases h) Go.Proofs.Tryz.sizeOf108 Go.Proofs.Tryz.isAgg108 (by kernel_rfl) ⟨_,_,Go.Proofs.Tryz.func157,rfl,by kernel_rfl⟩
def tput(fu:Nat)(dir:Int)(name:List UInt8)(id:Int)(h:Int)(h1:List qT13)(h2:List qT28):Option ((Int×(List qT13×List qT28))):=
 (idx? (IntKind.wrap .i64 (dir-1)) h1.length).bind fun q=>
 (h1)[q]?.bind fun r=>
 (unrefD [⟨1,(.pair .str (.int .i64)),(List.map frz1 h2)⟩] qY12 r).bind fun x=>
 (tent fu x name).bind fun r1=>
 (h1)[q]?.bind fun r2=>
 (openM h2 r2.2.2.2.2.2.2.2).bind fun m=>
 (sIns fu r1.1 m.1 [(name,id)]).bind fun r3=>
 (h1)[q]?.bind fun r4=>
 some (h,((List.set h1 q (r4.1,(r4.2.1,(r4.2.2.1,(r4.2.2.2.1,(r4.2.2.2.2.1,(r4.2.2.2.2.2.1,(r4.2.2.2.2.2.2.1,(.inr (some (m.2.length,(0,r3.2.length)))))))))))),(m.2++[(1,r3.2)])))
def tput_fa:FnA:=⟨.two (.leaf) (.two (.reg [(4,{md:=[2,0]})]) (.reg [(9,{ids:=[100]}),(10,{ids:=[101],sh:=[605118,100],md:=[505118,0,0],fn:=1}),(13,{sh:=[101,999985]})])),⟨(.cons (.own 0 0 0 0) (.cons (.p (.int .i64)) (.cons (.p .str) qL9))),[(0,false,(.vars (.cons (.slf 8 1) qL9))),(1,false,(.rows 103 qY12)),(999985,false,(.fam 108 (.pair .str (.int .i64))))]⟩,[⟨.nil,[(0,false,(.vars (.cons (.slf 8 1) qL9))),(1,false,(.rows 103 qY12)),(999985,false,(.fam 108 (.pair .str (.int .i64))))]⟩],[]⟩
def tput_ft(fu:Nat):FnT:=⟨135,tput_fa.i,tput_fa.os,fun t=>tput fu t.1 t.2.1 t.2.2.1 t.2.2.2.1 t.2.2.2.2.1 t.2.2.2.2.2⟩
theorem mAZ(fu:Nat):∀t,evF Go.Proofs.Tryz.prog [tent_ft fu,sIns_ft fu] fu Go.Proofs.Tryz.f135 tput_fa t=(tput_ft fu).spec t:=fun t=>by kernel_rfl
theorem kpZ(fu:Nat):Told Go.Proofs.Tryz.prog (tput_ft fu):=afZ (aaZ (etZ fu) (aaZ (k8Z fu) acZ)) mixed Go.Proofs.Tryz.func135 (by kernel_rfl) (by kernel_rfl) (mAZ fu)
def tree_Make(fu:Nat)(t:(List (qT0)×Int))(dir:(Int×Int))(name:List UInt8)(is_:Bool):Option ((List (qT0)×(Int×(Int×(Int×Int))))):=
 (task fu (t.1,t.2) [(dir.1,dir.2)]).bind fun r=>
 bif (!(r.1==0)) then
  (tcop fu (t.1,t.2)).bind fun r1=>
  some (r1.2,(r1.1,(0,(0,r.1))))
 else
  (idx? 0 r.2.length).bind fun q=>
  (r.2)[q]?.bind fun r2=>
  (tent fu r2 name).bind fun r3=>
  (tNam fu name).bind fun r4=>
  bif (!r4) then
   (tcop fu (t.1,t.2)).bind fun r5=>
   some (r5.2,(r5.1,(0,(0,176))))
  else
   bif r3.2 then
    (tcop fu (t.1,t.2)).bind fun r6=>
    some (r6.2,(r6.1,(0,(0,172))))
   else
    (idx? 0 r.2.length).bind fun q1=>
    (r.2)[q1]?.bind fun r7=>
    bif (decide (((r7.2.2.2.2.2.2.2.length:Nat):Int)>=100)) then
     (tcop fu (t.1,t.2)).bind fun r8=>
     some (r8.2,(r8.1,(0,(0,5))))
    else
     (iAllE fu (t.1,t.2) is_ dir.1).bind fun r9=>
     bif (!(r9.2.2.2.1==0)) then
      (unrefL (unrefD [⟨1,(.pair .str (.int .i64)),(List.map frz1 r9.2.2.2.2.2)⟩] qY12) r9.2.2.2.2.1).bind fun l2=>
      some (l2,(r9.1,(0,(0,r9.2.2.2.1))))
     else
      (tput fu dir.1 name r9.2.1 r9.1 r9.2.2.2.2.1 r9.2.2.2.2.2).bind fun r10=>
      (unrefL (unrefD [⟨1,(.pair .str (.int .i64)),(List.map frz1 r10.2.2)⟩] qY12) r10.2.1).bind fun l3=>
      some (l3,(r10.1,(r9.2.1,(r9.2.2.1,0))))
def tree_Make_fa:FnA:=⟨.two (.reg [(0,{ids:=[100]}),(1,{ids:=[101]}),(2,{ids:=[102]}),(3,{ids:=[103]})]) (.two (.reg [(2,{ids:=[104]}),(3,{ids:=[105],md:=[0,1]})]) (.two (.two (.leaf) (.two (.two (.reg [(1,{ids:=[106],fn:=1})]) (.leaf)) (.leaf))) (.two (.reg [(4,{fn:=2})]) (.two (.one (.two (.reg [(1,{fn:=3})]) (.two (.two (.reg [(1,{ids:=[107],fn:=1})]) (.leaf)) (.two (.leaf) (.two (.two (.reg [(1,{ids:=[108],fn:=1})]) (.leaf)) (.two (.leaf) (.two (.two (.reg [(1,{ids:=[109],fn:=1})]) (.leaf)) (.leaf)))))))) (.two (.reg [(4,{ids:=[110,999985],fn:=4}),(9,{ids:=[111]}),(10,{ids:=[112]})]) (.two (.two (.leaf) (.two (.leaf) (.leaf))) (.two (.reg [(5,{sh:=[111,110,999985],fn:=5})]) (.leaf)))))))),⟨(.cons (.p qY43) (.cons (.p qY32) (.cons (.p .str) (.cons (.p .bool) .nil)))),[]⟩,[⟨(.cons (.agg (.cons (.p (.sl qY2)) qL9)) (.cons (.agg qL34) qL9)),[]⟩],[1,0,0]⟩
def tree_Make_ft(fu:Nat):FnT:=⟨100,tree_Make_fa.i,tree_Make_fa.os,fun t=>tree_Make fu t.1 t.2.1 t.2.2.1 t.2.2.2⟩
theorem gyZ(fu:Nat):∀t,evF Go.Proofs.Tryz.prog [task_ft fu,tcop_ft fu,tent_ft fu,tNam_ft fu,iAllE_ft fu,tput_ft fu] fu Go.Proofs.Tryz.f100 tree_Make_fa t=(tree_Make_ft fu).spec t:=fun t=>by kernel_rfl
theorem e5Z(fu:Nat):Told Go.Proofs.Tryz.prog (tree_Make_ft fu):=afZ (aaZ (gAZ fu) (aaZ (kuZ fu) (aaZ (etZ fu) (aaZ (ejZ fu) (aaZ (jfZ fu) (aaZ (kpZ fu) acZ)))))) mixed Go.Proofs.Tryz.func100 (by kernel_rfl) (by kernel_rfl) (gyZ fu)
def mdoemak(fu:Nat)(h:List (qT0))(h1:Int)(h2:List (List (UInt8)))(h3:Int)(h4:Int)(h5:Int)(h6:Int)(h7:Int)(h8:List UInt8)(h9:Int)(h10:Int)(h11:List UInt8)(h12:Int)(h13:Int)(h14:List (UInt8))(h15:Int)(h16:Int)(h17:Int)(h18:Int)(h19:Int)(h20:Bool)(h21:Int)(h22:Bool)(h23:Int):Option ((Int×qT8)):=
 (tree_Make fu (h,h1) (h6,h7) h8 (h5==3)).bind fun r=>
 bif (r.2.2.2.2==0) then
  some (r.2.2.2.2,(r.1,(r.2.1,(h2,(h3,(h4,(h5,(h6,(h7,(h8,(h9,(h10,(h11,(h12,(h13,(h14,(h15,(h16,(h17,(r.2.2.1,(r.2.2.2.1,((h5==3),(h21,(h22,h23))))))))))))))))))))))))
 else
  some (r.2.2.2.2,(h,(h1,(h2,(h3,(h4,(h5,(h6,(h7,(h8,(h9,(h10,(h11,(h12,(h13,(h14,(h15,(h16,(h17,(h18,(h19,(h20,(h21,(h22,h23))))))))))))))))))))))))
def mdoemak_fa:FnA:=⟨.two (.leaf) (.two (.reg [(20,{}),(25,{ids:=[100]}),(26,{ids:=[101]})]) (.two (.two (.leaf) (.leaf)) (.leaf))),⟨qL37,[(0,false,qB4)]⟩,[⟨qL9,[(0,false,qB4)]⟩],[0]⟩
def mdoemak_ft(fu:Nat):FnT:=⟨69,mdoemak_fa.i,mdoemak_fa.os,fun t=>mdoemak fu t.1 t.2.1 t.2.2.1 t.2.2.2.1 t.2.2.2.2.1 t.2.2.2.2.2.1 t.2.2.2.2.2.2.1 t.2.2.2.2.2.2.2.1 t.2.2.2.2.2.2.2.2.1 t.2.2.2.2.2.2.2.2.2.1 t.2.2.2.2.2.2.2.2.2.2.1 t.2.2.2.2.2.2.2.2.2.2.2.1 t.2.2.2.2.2.2.2.2.2.2.2.2.1 t.2.2.2.2.2.2.2.2.2.2.2.2.2.1 t.2.2.2.2.2.2.2.2.2.2.2.2.2.2.1 t.2.2.2.2.2.2.2.2.2.2.2.2.2.2.2.1 t.2.2.2.2.2.2.2.2.2.2.2.2.2.2.2.2.1 t.2.2.2.2.2.2.2.2.2.2.2.2.2.2.2.2.2.1 t.2.2.2.2.2.2.2.2.2.2.2.2.2.2.2.2.2.2.1 t.2.2.2.2.2.2.2.2.2.2.2.2.2.2.2.2.2.2.2.1 t.2.2.2.2.2.2.2.2.2.2.2.2.2.2.2.2.2.2.2.2.1 t.2.2.2.2.2.2.2.2.2.2.2.2.2.2.2.2.2.2.2.2.2.1 t.2.2.2.2.2.2.2.2.2.2.2.2.2.2.2.2.2.2.2.2.2.2.1 t.2.2.2.2.2.2.2.2.2.2.2.2.2.2.2.2.2.2.2.2.2.2.2⟩
theorem iXZ(fu:Nat):∀t,evF Go.Proofs.Tryz.prog [tree_Make_ft fu] fu Go.Proofs.Tryz.f69 mdoemak_fa t=(mdoemak_ft fu).spec t:=fun t=>by kernel_rfl
theorem fTZ(fu:Nat):Told Go.Proofs.Tryz.prog (mdoemak_ft fu):=afZ (aaZ (e5Z fu) acZ) mixed Go.Proofs.Tryz.func69 (by kernel_rfl) (by kernel_rfl) (iXZ fu)
def mdoerea(fu:Nat)(h:List (qT0))(h1:Int)(h2:List (List (UInt8)))(h3:Int)(h4:Int)(h5:Int)(h6:Int)(h7:Int)(h8:List UInt8)(h9:Int)(h10:Int)(h11:List UInt8)(h12:Int)(h13:Int)(h14:List (UInt8))(h15:Int)(h16:Int)(h17:Int)(h18:Int)(h19:Int)(h20:Bool)(h21:Int)(h22:Bool)(h23:Int):Option (Empty):=
 none
def mdoerea_fa:FnA:=⟨.two (.leaf) (.two (.pre (.mem 0 15) (.leaf)) (.leaf)),⟨qL37,[(0,false,qB4)]⟩,[],[0]⟩
def mdoerea_ft(fu:Nat):FnT:=⟨70,mdoerea_fa.i,mdoerea_fa.os,fun t=>mdoerea fu t.1 t.2.1 t.2.2.1 t.2.2.2.1 t.2.2.2.2.1 t.2.2.2.2.2.1 t.2.2.2.2.2.2.1 t.2.2.2.2.2.2.2.1 t.2.2.2.2.2.2.2.2.1 t.2.2.2.2.2.2.2.2.2.1 t.2.2.2.2.2.2.2.2.2.2.1 t.2.2.2.2.2.2.2.2.2.2.2.1 t.2.2.2.2.2.2.2.2.2.2.2.2.1 t.2.2.2.2.2.2.2.2.2.2.2.2.2.1 t.2.2.2.2.2.2.2.2.2.2.2.2.2.2.1 t.2.2.2.2.2.2.2.2.2.2.2.2.2.2.2.1 t.2.2.2.2.2.2.2.2.2.2.2.2.2.2.2.2.1 t.2.2.2.2.2.2.2.2.2.2.2.2.2.2.2.2.2.1 t.2.2.2.2.2.2.2.2.2.2.2.2.2.2.2.2.2.2.1 t.2.2.2.2.2.2.2.2.2.2.2.2.2.2.2.2.2.2.2.1 t.2.2.2.2.2.2.2.2.2.2.2.2.2.2.2.2.2.2.2.2.1 t.2.2.2.2.2.2.2.2.2.2.2.2.2.2.2.2.2.2.2.2.2.1 t.2.2.2.2.2.2.2.2.2.2.2.2.2.2.2.2.2.2.2.2.2.2.1 t.2.2.2.2.2.2.2.2.2.2.2.2.2.2.2.2.2.2.2.2.2.2.2⟩
theorem jyZ(fu:Nat):∀t,evF Go.Proofs.Tryz.prog [] fu Go.Proofs.Tryz.f70 mdoerea_fa t=(mdoerea_ft fu).spec t:=fun t=>by kernel_rfl
theorem ggZ(fu:Nat):Told Go.Proofs.Tryz.prog (mdoerea_ft fu):=afZ acZ mixed Go.Proofs.Tryz.func70 (by kernel_rfl) (by kernel_rfl) (jyZ fu)
def mdoewri(fu:Nat)(h:List (qT0))(h1:Int)(h2:List (List (UInt8)))(h3:Int)(h4:Int)(h5:Int)(h6:Int)(h7:Int)(h8:List UInt8)(h9:Int)(h10:Int)(h11:List UInt8)(h12:Int)(h13:Int)(h14:List (UInt8))(h15:Int)(h16:Int)(h17:Int)(h18:Int)(h19:Int)(h20:Bool)(h21:Int)(h22:Bool)(h23:Int):Option (Empty):=
 none
def mdoewri_fa:FnA:=⟨.two (.leaf) (.two (.pre (.mem 0 15) (.leaf)) (.leaf)),⟨qL37,[(0,false,qB4)]⟩,[],[0]⟩
def mdoewri_ft(fu:Nat):FnT:=⟨71,mdoewri_fa.i,mdoewri_fa.os,fun t=>mdoewri fu t.1 t.2.1 t.2.2.1 t.2.2.2.1 t.2.2.2.2.1 t.2.2.2.2.2.1 t.2.2.2.2.2.2.1 t.2.2.2.2.2.2.2.1 t.2.2.2.2.2.2.2.2.1 t.2.2.2.2.2.2.2.2.2.1 t.2.2.2.2.2.2.2.2.2.2.1 t.2.2.2.2.2.2.2.2.2.2.2.1 t.2.2.2.2.2.2.2.2.2.2.2.2.1 t.2.2.2.2.2.2.2.2.2.2.2.2.2.1 t.2.2.2.2.2.2.2.2.2.2.2.2.2.2.1 t.2.2.2.2.2.2.2.2.2.2.2.2.2.2.2.1 t.2.2.2.2.2.2.2.2.2.2.2.2.2.2.2.2.1 t.2.2.2.2.2.2.2.2.2.2.2.2.2.2.2.2.2.1 t.2.2.2.2.2.2.2.2.2.2.2.2.2.2.2.2.2.2.1 t.2.2.2.2.2.2.2.2.2.2.2.2.2.2.2.2.2.2.2.1 t.2.2.2.2.2.2.2.2.2.2.2.2.2.2.2.2.2.2.2.2.1 t.2.2.2.2.2.2.2.2.2.2.2.2.2.2.2.2.2.2.2.2.2.1 t.2.2.2.2.2.2.2.2.2.2.2.2.2.2.2.2.2.2.2.2.2.2.1 t.2.2.2.2.2.2.2.2.2.2.2.2.2.2.2.2.2.2.2.2.2.2.2⟩
theorem i0Z(fu:Nat):∀t,evF Go.Proofs.Tryz.prog [] fu Go.Proofs.Tryz.f71 mdoewri_fa t=(mdoewri_ft fu).spec t:=fun t=>by kernel_rfl
theorem gqZ(fu:Nat):Told Go.Proofs.Tryz.prog (mdoewri_ft fu):=afZ acZ mixed Go.Proofs.Tryz.func71 (by kernel_rfl) (by kernel_rfl) (i0Z fu)
def mdoesiz(fu:Nat)(h:List (qT0))(h1:Int)(h2:List (List (UInt8)))(h3:Int)(h4:Int)(h5:Int)(h6:Int)(h7:Int)(h8:List UInt8)(h9:Int)(h10:Int)(h11:List UInt8)(h12:Int)(h13:Int)(h14:List (UInt8))(h15:Int)(h16:Int)(h17:Int)(h18:Int)(h19:Int)(h20:Bool)(h21:Int)(h22:Bool)(h23:Int):Option (Empty):=
 none
def mdoesiz_fa:FnA:=⟨.two (.leaf) (.two (.pre (.mem 0 15) (.leaf)) (.leaf)),⟨qL37,[(0,false,qB4)]⟩,[],[0]⟩
def mdoesiz_ft(fu:Nat):FnT:=⟨72,mdoesiz_fa.i,mdoesiz_fa.os,fun t=>mdoesiz fu t.1 t.2.1 t.2.2.1 t.2.2.2.1 t.2.2.2.2.1 t.2.2.2.2.2.1 t.2.2.2.2.2.2.1 t.2.2.2.2.2.2.2.1 t.2.2.2.2.2.2.2.2.1 t.2.2.2.2.2.2.2.2.2.1 t.2.2.2.2.2.2.2.2.2.2.1 t.2.2.2.2.2.2.2.2.2.2.2.1 t.2.2.2.2.2.2.2.2.2.2.2.2.1 t.2.2.2.2.2.2.2.2.2.2.2.2.2.1 t.2.2.2.2.2.2.2.2.2.2.2.2.2.2.1 t.2.2.2.2.2.2.2.2.2.2.2.2.2.2.2.1 t.2.2.2.2.2.2.2.2.2.2.2.2.2.2.2.2.1 t.2.2.2.2.2.2.2.2.2.2.2.2.2.2.2.2.2.1 t.2.2.2.2.2.2.2.2.2.2.2.2.2.2.2.2.2.2.1 t.2.2.2.2.2.2.2.2.2.2.2.2.2.2.2.2.2.2.2.1 t.2.2.2.2.2.2.2.2.2.2.2.2.2.2.2.2.2.2.2.2.1 t.2.2.2.2.2.2.2.2.2.2.2.2.2.2.2.2.2.2.2.2.2.1 t.2.2.2.2.2.2.2.2.2.2.2.2.2.2.2.2.2.2.2.2.2.2.1 t.2.2.2.2.2.2.2.2.2.2.2.2.2.2.2.2.2.2.2.2.2.2.2⟩
theorem j3Z(fu:Nat):∀t,evF Go.Proofs.Tryz.prog [] fu Go.Proofs.Tryz.f72 mdoesiz_fa t=(mdoesiz_ft fu).spec t:=fun t=>by kernel_rfl
theorem gEZ(fu:Nat):Told Go.Proofs.Tryz.prog (mdoesiz_ft fu):=afZ acZ mixed Go.Proofs.Tryz.func72 (by kernel_rfl) (by kernel_rfl) (j3Z fu)
def mdoerem(fu:Nat)(h:List (qT0))(h1:Int)(h2:List (List (UInt8)))(h3:Int)(h4:Int)(h5:Int)(h6:Int)(h7:Int)(h8:List UInt8)(h9:Int)(h10:Int)(h11:List UInt8)(h12:Int)(h13:Int)(h14:List (UInt8))(h15:Int)(h16:Int)(h17:Int)(h18:Int)(h19:Int)(h20:Bool)(h21:Int)(h22:Bool)(h23:Int):Option (Empty):=
 none
def mdoerem_fa:FnA:=⟨.two (.leaf) (.two (.pre (.mem 0 15) (.leaf)) (.leaf)),⟨qL37,[(0,false,qB4)]⟩,[],[0]⟩
def mdoerem_ft(fu:Nat):FnT:=⟨73,mdoerem_fa.i,mdoerem_fa.os,fun t=>mdoerem fu t.1 t.2.1 t.2.2.1 t.2.2.2.1 t.2.2.2.2.1 t.2.2.2.2.2.1 t.2.2.2.2.2.2.1 t.2.2.2.2.2.2.2.1 t.2.2.2.2.2.2.2.2.1 t.2.2.2.2.2.2.2.2.2.1 t.2.2.2.2.2.2.2.2.2.2.1 t.2.2.2.2.2.2.2.2.2.2.2.1 t.2.2.2.2.2.2.2.2.2.2.2.2.1 t.2.2.2.2.2.2.2.2.2.2.2.2.2.1 t.2.2.2.2.2.2.2.2.2.2.2.2.2.2.1 t.2.2.2.2.2.2.2.2.2.2.2.2.2.2.2.1 t.2.2.2.2.2.2.2.2.2.2.2.2.2.2.2.2.1 t.2.2.2.2.2.2.2.2.2.2.2.2.2.2.2.2.2.1 t.2.2.2.2.2.2.2.2.2.2.2.2.2.2.2.2.2.2.1 t.2.2.2.2.2.2.2.2.2.2.2.2.2.2.2.2.2.2.2.1 t.2.2.2.2.2.2.2.2.2.2.2.2.2.2.2.2.2.2.2.2.1 t.2.2.2.2.2.2.2.2.2.2.2.2.2.2.2.2.2.2.2.2.2.1 t.2.2.2.2.2.2.2.2.2.2.2.2.2.2.2.2.2.2.2.2.2.2.1 t.2.2.2.2.2.2.2.2.2.2.2.2.2.2.2.2.2.2.2.2.2.2.2⟩
theorem jeZ(fu:Nat):∀t,evF Go.Proofs.Tryz.prog [] fu Go.Proofs.Tryz.f73 mdoerem_fa t=(mdoerem_ft fu).spec t:=fun t=>by kernel_rfl
theorem gZZ(fu:Nat):Told Go.Proofs.Tryz.prog (mdoerem_ft fu):=afZ acZ mixed Go.Proofs.Tryz.func73 (by kernel_rfl) (by kernel_rfl) (jeZ fu)
def mdoeren(fu:Nat)(h:List (qT0))(h1:Int)(h2:List (List (UInt8)))(h3:Int)(h4:Int)(h5:Int)(h6:Int)(h7:Int)(h8:List UInt8)(h9:Int)(h10:Int)(h11:List UInt8)(h12:Int)(h13:Int)(h14:List (UInt8))(h15:Int)(h16:Int)(h17:Int)(h18:Int)(h19:Int)(h20:Bool)(h21:Int)(h22:Bool)(h23:Int):Option (Empty):=
 none
def mdoeren_fa:FnA:=⟨.two (.leaf) (.two (.pre (.mem 0 15) (.leaf)) (.leaf)),⟨qL37,[(0,false,qB4)]⟩,[],[0]⟩
def mdoeren_ft(fu:Nat):FnT:=⟨74,mdoeren_fa.i,mdoeren_fa.os,fun t=>mdoeren fu t.1 t.2.1 t.2.2.1 t.2.2.2.1 t.2.2.2.2.1 t.2.2.2.2.2.1 t.2.2.2.2.2.2.1 t.2.2.2.2.2.2.2.1 t.2.2.2.2.2.2.2.2.1 t.2.2.2.2.2.2.2.2.2.1 t.2.2.2.2.2.2.2.2.2.2.1 t.2.2.2.2.2.2.2.2.2.2.2.1 t.2.2.2.2.2.2.2.2.2.2.2.2.1 t.2.2.2.2.2.2.2.2.2.2.2.2.2.1 t.2.2.2.2.2.2.2.2.2.2.2.2.2.2.1 t.2.2.2.2.2.2.2.2.2.2.2.2.2.2.2.1 t.2.2.2.2.2.2.2.2.2.2.2.2.2.2.2.2.1 t.2.2.2.2.2.2.2.2.2.2.2.2.2.2.2.2.2.1 t.2.2.2.2.2.2.2.2.2.2.2.2.2.2.2.2.2.2.1 t.2.2.2.2.2.2.2.2.2.2.2.2.2.2.2.2.2.2.2.1 t.2.2.2.2.2.2.2.2.2.2.2.2.2.2.2.2.2.2.2.2.1 t.2.2.2.2.2.2.2.2.2.2.2.2.2.2.2.2.2.2.2.2.2.1 t.2.2.2.2.2.2.2.2.2.2.2.2.2.2.2.2.2.2.2.2.2.2.1 t.2.2.2.2.2.2.2.2.2.2.2.2.2.2.2.2.2.2.2.2.2.2.2⟩
theorem iOZ(fu:Nat):∀t,evF Go.Proofs.Tryz.prog [] fu Go.Proofs.Tryz.f74 mdoeren_fa t=(mdoeren_ft fu).spec t:=fun t=>by kernel_rfl
theorem fNZ(fu:Nat):Told Go.Proofs.Tryz.prog (mdoeren_ft fu):=afZ acZ mixed Go.Proofs.Tryz.func74 (by kernel_rfl) (by kernel_rfl) (iOZ fu)
def mdoelis(fu:Nat)(h:List (qT0))(h1:Int)(h2:List (List (UInt8)))(h3:Int)(h4:Int)(h5:Int)(h6:Int)(h7:Int)(h8:List UInt8)(h9:Int)(h10:Int)(h11:List UInt8)(h12:Int)(h13:Int)(h14:List (UInt8))(h15:Int)(h16:Int)(h17:Int)(h18:Int)(h19:Int)(h20:Bool)(h21:Int)(h22:Bool)(h23:Int):Option (Empty):=
 none
def mdoelis_fa:FnA:=⟨.two (.leaf) (.two (.pre (.mem 0 15) (.leaf)) (.leaf)),⟨qL37,[(0,false,qB4)]⟩,[],[0]⟩
def mdoelis_ft(fu:Nat):FnT:=⟨75,mdoelis_fa.i,mdoelis_fa.os,fun t=>mdoelis fu t.1 t.2.1 t.2.2.1 t.2.2.2.1 t.2.2.2.2.1 t.2.2.2.2.2.1 t.2.2.2.2.2.2.1 t.2.2.2.2.2.2.2.1 t.2.2.2.2.2.2.2.2.1 t.2.2.2.2.2.2.2.2.2.1 t.2.2.2.2.2.2.2.2.2.2.1 t.2.2.2.2.2.2.2.2.2.2.2.1 t.2.2.2.2.2.2.2.2.2.2.2.2.1 t.2.2.2.2.2.2.2.2.2.2.2.2.2.1 t.2.2.2.2.2.2.2.2.2.2.2.2.2.2.1 t.2.2.2.2.2.2.2.2.2.2.2.2.2.2.2.1 t.2.2.2.2.2.2.2.2.2.2.2.2.2.2.2.2.1 t.2.2.2.2.2.2.2.2.2.2.2.2.2.2.2.2.2.1 t.2.2.2.2.2.2.2.2.2.2.2.2.2.2.2.2.2.2.1 t.2.2.2.2.2.2.2.2.2.2.2.2.2.2.2.2.2.2.2.1 t.2.2.2.2.2.2.2.2.2.2.2.2.2.2.2.2.2.2.2.2.1 t.2.2.2.2.2.2.2.2.2.2.2.2.2.2.2.2.2.2.2.2.2.1 t.2.2.2.2.2.2.2.2.2.2.2.2.2.2.2.2.2.2.2.2.2.2.1 t.2.2.2.2.2.2.2.2.2.2.2.2.2.2.2.2.2.2.2.2.2.2.2⟩
theorem iKZ(fu:Nat):∀t,evF Go.Proofs.Tryz.prog [] fu Go.Proofs.Tryz.f75 mdoelis_fa t=(mdoelis_ft fu).spec t:=fun t=>by kernel_rfl
theorem g1Z(fu:Nat):Told Go.Proofs.Tryz.prog (mdoelis_ft fu):=afZ acZ mixed Go.Proofs.Tryz.func75 (by kernel_rfl) (by kernel_rfl) (iKZ fu)
def mdoeget(fu:Nat)(h:List (qT0))(h1:Int)(h2:List (List (UInt8)))(h3:Int)(h4:Int)(h5:Int)(h6:Int)(h7:Int)(h8:List UInt8)(h9:Int)(h10:Int)(h11:List UInt8)(h12:Int)(h13:Int)(h14:List (UInt8))(h15:Int)(h16:Int)(h17:Int)(h18:Int)(h19:Int)(h20:Bool)(h21:Int)(h22:Bool)(h23:Int):Option (Empty):=
 none
def mdoeget_fa:FnA:=⟨.two (.leaf) (.two (.pre (.mem 0 15) (.leaf)) (.leaf)),⟨qL37,[(0,false,qB4)]⟩,[],[0]⟩
def mdoeget_ft(fu:Nat):FnT:=⟨76,mdoeget_fa.i,mdoeget_fa.os,fun t=>mdoeget fu t.1 t.2.1 t.2.2.1 t.2.2.2.1 t.2.2.2.2.1 t.2.2.2.2.2.1 t.2.2.2.2.2.2.1 t.2.2.2.2.2.2.2.1 t.2.2.2.2.2.2.2.2.1 t.2.2.2.2.2.2.2.2.2.1 t.2.2.2.2.2.2.2.2.2.2.1 t.2.2.2.2.2.2.2.2.2.2.2.1 t.2.2.2.2.2.2.2.2.2.2.2.2.1 t.2.2.2.2.2.2.2.2.2.2.2.2.2.1 t.2.2.2.2.2.2.2.2.2.2.2.2.2.2.1 t.2.2.2.2.2.2.2.2.2.2.2.2.2.2.2.1 t.2.2.2.2.2.2.2.2.2.2.2.2.2.2.2.2.1 t.2.2.2.2.2.2.2.2.2.2.2.2.2.2.2.2.2.1 t.2.2.2.2.2.2.2.2.2.2.2.2.2.2.2.2.2.2.1 t.2.2.2.2.2.2.2.2.2.2.2.2.2.2.2.2.2.2.2.1 t.2.2.2.2.2.2.2.2.2.2.2.2.2.2.2.2.2.2.2.2.1 t.2.2.2.2.2.2.2.2.2.2.2.2.2.2.2.2.2.2.2.2.2.1 t.2.2.2.2.2.2.2.2.2.2.2.2.2.2.2.2.2.2.2.2.2.2.1 t.2.2.2.2.2.2.2.2.2.2.2.2.2.2.2.2.2.2.2.2.2.2.2⟩
theorem j9Z(fu:Nat):∀t,evF Go.Proofs.Tryz.prog [] fu Go.Proofs.Tryz.f76 mdoeget_fa t=(mdoeget_ft fu).spec t:=fun t=>by kernel_rfl
theorem glZ(fu:Nat):Told Go.Proofs.Tryz.prog (mdoeget_ft fu):=afZ acZ mixed Go.Proofs.Tryz.func76 (by kernel_rfl) (by kernel_rfl) (j9Z fu)
def mdoesta_l0(fu:Nat)(h:List (qT0))(x:Int)(h24:List (qT0))(h25:Int)(h26:List (List (UInt8)))(h27:Int)(h28:Int)(h29:Int)(h30:Int)(h31:Int)(h32:List UInt8)(h33:Int)(h34:Int)(h35:List UInt8)(h36:Int)(h37:Int)(h38:List (UInt8))(h39:Int)(h40:Int)(h41:Int)(h42:Int)(h43:Int)(h44:Bool)(h45:Int)(h46:Bool)(h47:Int):Option ((Int×qT8)⊕(qT8)):=
 bif (decide (x<((h.length:Nat):Int))) then
  (idx? x h.length).bind fun q=>
  (h)[q]?.bind fun r=>
  Option.bind (α:=(qT8)) (
   bif r.2.2.1 then
    some (h24,(h25,(h26,(h27,(h28,(h29,(h30,(h31,(h32,(h33,(h34,(h35,(h36,(h37,(h38,(h39,(h40,(h41,(h42,(h43,(h44,(h45,(h46,(IntKind.wrap .i64 (h47-1)))))))))))))))))))))))))
   else
    some (h24,(h25,(h26,(h27,(h28,(h29,(h30,(h31,(h32,(h33,(h34,(h35,(h36,(h37,(h38,(h39,(h40,(h41,(h42,(h43,(h44,(h45,(h46,h47)))))))))))))))))))))))) fun o=>
  some (.inl ((IntKind.wrap .i64 (x+1)),(o.1,(o.2.1,(o.2.2.1,(o.2.2.2.1,(o.2.2.2.2.1,(o.2.2.2.2.2.1,(o.2.2.2.2.2.2.1,(o.2.2.2.2.2.2.2.1,(o.2.2.2.2.2.2.2.2.1,(o.2.2.2.2.2.2.2.2.2.1,(o.2.2.2.2.2.2.2.2.2.2.1,(o.2.2.2.2.2.2.2.2.2.2.2.1,(o.2.2.2.2.2.2.2.2.2.2.2.2.1,(o.2.2.2.2.2.2.2.2.2.2.2.2.2.1,(o.2.2.2.2.2.2.2.2.2.2.2.2.2.2.1,(o.2.2.2.2.2.2.2.2.2.2.2.2.2.2.2.1,(o.2.2.2.2.2.2.2.2.2.2.2.2.2.2.2.2.1,(o.2.2.2.2.2.2.2.2.2.2.2.2.2.2.2.2.2.1,(o.2.2.2.2.2.2.2.2.2.2.2.2.2.2.2.2.2.2.1,(o.2.2.2.2.2.2.2.2.2.2.2.2.2.2.2.2.2.2.2.1,(o.2.2.2.2.2.2.2.2.2.2.2.2.2.2.2.2.2.2.2.2.1,(o.2.2.2.2.2.2.2.2.2.2.2.2.2.2.2.2.2.2.2.2.2.1,(o.2.2.2.2.2.2.2.2.2.2.2.2.2.2.2.2.2.2.2.2.2.2.1,o.2.2.2.2.2.2.2.2.2.2.2.2.2.2.2.2.2.2.2.2.2.2.2)))))))))))))))))))))))))
 else
  some (.inr (h24,(h25,(h26,(h27,(h28,(h29,(h30,(h31,(h32,(h33,(h34,(h35,(h36,(h37,(h38,(h39,(h40,(h41,(h42,(h43,(h44,(h45,(h46,h47))))))))))))))))))))))))
def mdoesta_l0_it(fu:Nat)(h:List (qT0))(tt:(Int×qT8)):Option (qT8):=
 iter fu (fun tt=>mdoesta_l0 fu h tt.1 tt.2.1 tt.2.2.1 tt.2.2.2.1 tt.2.2.2.2.1 tt.2.2.2.2.2.1 tt.2.2.2.2.2.2.1 tt.2.2.2.2.2.2.2.1 tt.2.2.2.2.2.2.2.2.1 tt.2.2.2.2.2.2.2.2.2.1 tt.2.2.2.2.2.2.2.2.2.2.1 tt.2.2.2.2.2.2.2.2.2.2.2.1 tt.2.2.2.2.2.2.2.2.2.2.2.2.1 tt.2.2.2.2.2.2.2.2.2.2.2.2.2.1 tt.2.2.2.2.2.2.2.2.2.2.2.2.2.2.1 tt.2.2.2.2.2.2.2.2.2.2.2.2.2.2.2.1 tt.2.2.2.2.2.2.2.2.2.2.2.2.2.2.2.2.1 tt.2.2.2.2.2.2.2.2.2.2.2.2.2.2.2.2.2.1 tt.2.2.2.2.2.2.2.2.2.2.2.2.2.2.2.2.2.2.1 tt.2.2.2.2.2.2.2.2.2.2.2.2.2.2.2.2.2.2.2.1 tt.2.2.2.2.2.2.2.2.2.2.2.2.2.2.2.2.2.2.2.2.1 tt.2.2.2.2.2.2.2.2.2.2.2.2.2.2.2.2.2.2.2.2.2.1 tt.2.2.2.2.2.2.2.2.2.2.2.2.2.2.2.2.2.2.2.2.2.2.1 tt.2.2.2.2.2.2.2.2.2.2.2.2.2.2.2.2.2.2.2.2.2.2.2.1 tt.2.2.2.2.2.2.2.2.2.2.2.2.2.2.2.2.2.2.2.2.2.2.2.2) tt
def mdoesta(fu:Nat)(h:List (qT0))(h1:Int)(h2:List (List (UInt8)))(h3:Int)(h4:Int)(h5:Int)(h6:Int)(h7:Int)(h8:List UInt8)(h9:Int)(h10:Int)(h11:List UInt8)(h12:Int)(h13:Int)(h14:List (UInt8))(h15:Int)(h16:Int)(h17:Int)(h18:Int)(h19:Int)(h20:Bool)(h21:Int)(h22:Bool)(h23:Int):Option ((Int×qT8)):=
 (mdoesta_l0_it fu h (0,(h,(h1,(h2,(h3,(h4,(h5,(h6,(h7,(h8,(h9,(h10,(h11,(h12,(h13,(h14,(h15,(h16,(h17,(h18,(h19,(h20,(h21,(h22,500))))))))))))))))))))))))).bind fun o1=>
 some (0,(o1.1,(o1.2.1,(o1.2.2.1,(o1.2.2.2.1,(o1.2.2.2.2.1,(o1.2.2.2.2.2.1,(o1.2.2.2.2.2.2.1,(o1.2.2.2.2.2.2.2.1,(o1.2.2.2.2.2.2.2.2.1,(o1.2.2.2.2.2.2.2.2.2.1,(o1.2.2.2.2.2.2.2.2.2.2.1,(o1.2.2.2.2.2.2.2.2.2.2.2.1,(o1.2.2.2.2.2.2.2.2.2.2.2.2.1,(o1.2.2.2.2.2.2.2.2.2.2.2.2.2.1,(o1.2.2.2.2.2.2.2.2.2.2.2.2.2.2.1,(o1.2.2.2.2.2.2.2.2.2.2.2.2.2.2.2.1,(o1.2.2.2.2.2.2.2.2.2.2.2.2.2.2.2.2.1,(o1.2.2.2.2.2.2.2.2.2.2.2.2.2.2.2.2.2.1,(o1.2.2.2.2.2.2.2.2.2.2.2.2.2.2.2.2.2.2.1,(o1.2.2.2.2.2.2.2.2.2.2.2.2.2.2.2.2.2.2.2.1,(o1.2.2.2.2.2.2.2.2.2.2.2.2.2.2.2.2.2.2.2.2.1,(o1.2.2.2.2.2.2.2.2.2.2.2.2.2.2.2.2.2.2.2.2.2.1,(o1.2.2.2.2.2.2.2.2.2.2.2.2.2.2.2.2.2.2.2.2.2.2.1,o1.2.2.2.2.2.2.2.2.2.2.2.2.2.2.2.2.2.2.2.2.2.2.2))))))))))))))))))))))))
def mdoesta_fa:FnA:=⟨.two (.leaf) (.two (.leaf) (.two (.two (.leaf) (.one (.loop ⟨[0,15],⟨(.cons (.own 0 0 0 0) qL9),[(0,false,qB4)]⟩⟩ false [(0,⟨[0],⟨qL37,[(0,false,qB4)]⟩⟩)] (.two (.leaf) (.two (.leaf) (.two (.one (.two (.reg [(2,{ids:=[100]})]) (.two (.leaf) (.join ⟨[0],⟨qL37,[(0,false,qB4)]⟩⟩ false [] (.leaf))))) (.leaf))))))) (.leaf))),⟨qL37,[(0,false,qB4)]⟩,[⟨qL9,[(0,false,qB4)]⟩],[0]⟩
def mdoesta_ft(fu:Nat):FnT:=⟨77,mdoesta_fa.i,mdoesta_fa.os,fun t=>mdoesta fu t.1 t.2.1 t.2.2.1 t.2.2.2.1 t.2.2.2.2.1 t.2.2.2.2.2.1 t.2.2.2.2.2.2.1 t.2.2.2.2.2.2.2.1 t.2.2.2.2.2.2.2.2.1 t.2.2.2.2.2.2.2.2.2.1 t.2.2.2.2.2.2.2.2.2.2.1 t.2.2.2.2.2.2.2.2.2.2.2.1 t.2.2.2.2.2.2.2.2.2.2.2.2.1 t.2.2.2.2.2.2.2.2.2.2.2.2.2.1 t.2.2.2.2.2.2.2.2.2.2.2.2.2.2.1 t.2.2.2.2.2.2.2.2.2.2.2.2.2.2.2.1 t.2.2.2.2.2.2.2.2.2.2.2.2.2.2.2.2.1 t.2.2.2.2.2.2.2.2.2.2.2.2.2.2.2.2.2.1 t.2.2.2.2.2.2.2.2.2.2.2.2.2.2.2.2.2.2.1 t.2.2.2.2.2.2.2.2.2.2.2.2.2.2.2.2.2.2.2.1 t.2.2.2.2.2.2.2.2.2.2.2.2.2.2.2.2.2.2.2.2.1 t.2.2.2.2.2.2.2.2.2.2.2.2.2.2.2.2.2.2.2.2.2.1 t.2.2.2.2.2.2.2.2.2.2.2.2.2.2.2.2.2.2.2.2.2.2.1 t.2.2.2.2.2.2.2.2.2.2.2.2.2.2.2.2.2.2.2.2.2.2.2⟩
theorem j7Z(fu:Nat):∀t,evF Go.Proofs.Tryz.prog [] fu Go.Proofs.Tryz.f77 mdoesta_fa t=(mdoesta_ft fu).spec t:=fun t=>by kernel_rfl
theorem gGZ(fu:Nat):Told Go.Proofs.Tryz.prog (mdoesta_ft fu):=afZ acZ mixed Go.Proofs.Tryz.func77 (by kernel_rfl) (by kernel_rfl) (j7Z fu)
def mcop_l0(fu:Nat)(r:List (qT0))(x:Int)(h:Int)(h1:List (qT0))(h2:Int):Option ((Int×qT39)⊕(qT39)):=
 bif (decide (x<((r.length:Nat):Int))) then
  (idx? x h1.length).bind fun q=>
  (h1)[q]?.bind fun r1=>
  (sClo3 fu r1.2.2.2.2.2.1).bind fun r2=>
  (idx? x h1.length).bind fun q1=>
  (h1)[q1]?.bind fun r3=>
  (sClo fu r3.2.2.2.2.2.2.2).bind fun r4=>
  (idx? x h1.length).bind fun q2=>
  (h1)[q2]?.bind fun r5=>
  (idx? x (List.set h1 q2 (r5.1,(r5.2.1,(r5.2.2.1,(r5.2.2.2.1,(r5.2.2.2.2.1,(r2,r5.2.2.2.2.2.2))))))).length).bind fun q3=>
  ((List.set h1 q2 (r5.1,(r5.2.1,(r5.2.2.1,(r5.2.2.2.1,(r5.2.2.2.2.1,(r2,r5.2.2.2.2.2.2))))))))[q3]?.bind fun r6=>
  some (.inl ((IntKind.wrap .i64 (x+1)),(h,((List.set (List.set h1 q2 (r5.1,(r5.2.1,(r5.2.2.1,(r5.2.2.2.1,(r5.2.2.2.2.1,(r2,r5.2.2.2.2.2.2))))))) q3 (r6.1,(r6.2.1,(r6.2.2.1,(r6.2.2.2.1,(r6.2.2.2.2.1,(r6.2.2.2.2.2.1,(r6.2.2.2.2.2.2.1,r4)))))))),h2))))
 else
  some (.inr (h,(h1,h2)))
def mcop_l0_it(fu:Nat)(r:List (qT0))(tt:(Int×qT39)):Option (qT39):=
 iter fu (fun tt=>mcop_l0 fu r tt.1 tt.2.1 tt.2.2.1 tt.2.2.2) tt
def mcop(fu:Nat)(t:(List (qT0)×Int)):Option ((Int×List (qT0))):=
 (sClo2 fu t.1).bind fun r=>
 (mcop_l0_it fu r (0,(t.2,(r,0)))).bind fun o=>
 some (o.1,o.2.1)
def mcop_fa:FnA:=⟨.two (.reg [(0,{ids:=[100]}),(1,{ids:=[101]})]) (.two (.reg [(2,{ids:=[102]})]) (.two (.two (.leaf) (.one (.loop ⟨[1,2,11],⟨(.cons (.own 0 100 0 0) (.cons (.own 0 101 0 0) qL9)),[(100,false,(.vars (.cons (.slf 8 102) qL9))),(102,false,(.rows 103 qY2)),(101,false,(.vars (.cons (.nilp (.slice none 0 0)) qL9)))]⟩⟩ false [(0,⟨[1,2],⟨(.cons (.own 0 100 0 0) (.cons (.own 0 101 0 0) .nil)),[(100,false,(.vars (.cons (.slf 8 102) qL9))),(102,false,(.rows 103 qY2)),(101,false,(.vars (.cons (.nilp (.slice none 0 0)) qL9)))]⟩⟩)] (.two (.leaf) (.two (.leaf) (.two (.one (.two (.leaf) (.reg [(12,{ids:=[103],fn:=1}),(19,{ids:=[104],fn:=2})]))) (.leaf))))))) (.leaf))),⟨(.cons (.p qY43) .nil),[]⟩,[⟨(.cons (.agg (.cons (.slf 8 0) qL9)) .nil),[(0,false,(.rows 103 qY2))]⟩],[0]⟩
def mcop_ft(fu:Nat):FnT:=⟨79,mcop_fa.i,mcop_fa.os,fun t=>mcop fu t⟩
theorem mfZ(fu:Nat):∀t,evF Go.Proofs.Tryz.prog [sClo2_ft fu,sClo3_ft fu,sClo_ft fu] fu Go.Proofs.Tryz.f79 mcop_fa t=(mcop_ft fu).spec t:=fun t=>by kernel_rfl
theorem gRZ(fu:Nat):Told Go.Proofs.Tryz.prog (mcop_ft fu):=afZ (aaZ (cXZ fu) (aaZ (deZ fu) (aaZ (dDZ fu) acZ))) mixed Go.Proofs.Tryz.func79 (by kernel_rfl) (by kernel_rfl) (mfZ fu)
def sClo4(fu:Nat)(s:List (UInt8)):Option (List (UInt8)):=
 nilQ s.length fun isNil=>
 bif isNil then
  some []
 else
  need ((Nat.ble ((0+s.length)*1) room)&&(Nat.ble (0+s.length) room))<|
  some s
def sClo4_fa:FnA:=⟨.two (.leaf) (.two (.two (.leaf) (.two (.leaf) (.leaf))) (.two (.reg [(0,{ids:=[100]}),(2,{ids:=[101]})]) (.leaf))),⟨(.cons (.p (.sl .byte)) .nil),[]⟩,[⟨(.cons (.slf 1 0) .nil),[(0,false,(.rows 5 .byte))]⟩],[15]⟩
def sClo4_ft(fu:Nat):FnT:=⟨80,sClo4_fa.i,sClo4_fa.os,fun t=>sClo4 fu t⟩
theorem kWZ(fu:Nat):∀t,evF Go.Proofs.Tryz.prog [] fu Go.Proofs.Tryz.f80 sClo4_fa t=(sClo4_ft fu).spec t:=fun t=>by kernel_rfl
theorem eNZ(fu:Nat):Told Go.Proofs.Tryz.prog (sClo4_ft fu):=afZ acZ mixed Go.Proofs.Tryz.func80 (by kernel_rfl) (by kernel_rfl) (kWZ fu)
def mdoemad_l0(fu:Nat)(r:(Int×List (qT0)))(x:Int)(h24:List (qT0))(h25:Int)(h26:List (List (UInt8)))(h27:Int)(h28:Int)(h29:Int)(h30:Int)(h31:Int)(h32:List UInt8)(h33:Int)(h34:Int)(h35:List UInt8)(h36:Int)(h37:Int)(h38:List (UInt8))(h39:Int)(h40:Int)(h41:Int)(h42:Int)(h43:Int)(h44:Bool)(h45:Int)(h46:Bool)(h47:Int)(h48:Int)(h49:Int)(h50:List (qT0))(h51:List (List (UInt8))):Option ((Int×qT14)⊕(qT14)):=
 bif (decide (x<((r.2.length:Nat):Int))) then
  (idx? x h50.length).bind fun q=>
  (h50)[q]?.bind fun r1=>
  Option.bind (α:=((Bool×qT14))) (
   bif (decide (x<((h26.length:Nat):Int))) then
    some (r1.2.2.1,(h24,(h25,(h26,(h27,(h28,(h29,(h30,(h31,(h32,(h33,(h34,(h35,(h36,(h37,(h38,(h39,(h40,(h41,(h42,(h43,(h44,(h45,(h46,(h47,(h48,(h49,(h50,h51))))))))))))))))))))))))))))
   else
    some (false,(h24,(h25,(h26,(h27,(h28,(h29,(h30,(h31,(h32,(h33,(h34,(h35,(h36,(h37,(h38,(h39,(h40,(h41,(h42,(h43,(h44,(h45,(h46,(h47,(h48,(h49,(h50,h51))))))))))))))))))))))))))))) fun o=>
  Option.bind (α:=((List (qT0)×(Int×(List (List (UInt8))×(Int×(Int×(Int×(Int×(Int×(List UInt8×(Int×(Int×(List UInt8×(Int×(Int×(List (UInt8)×(Int×(Int×(Int×(Int×(Int×(Bool×(Int×(Bool×(Int×(Int×(Int×(List (qT0)×(List (List (UInt8))×List (UInt8))))))))))))))))))))))))))))))) (
   bif o.1 then
    (idx? x o.2.2.2.1.length).bind fun q1=>
    (o.2.2.2.1)[q1]?.bind fun r2=>
    (sClo4 fu r2).bind fun r3=>
    some (o.2.1,(o.2.2.1,(o.2.2.2.1,(o.2.2.2.2.1,(o.2.2.2.2.2.1,(o.2.2.2.2.2.2.1,(o.2.2.2.2.2.2.2.1,(o.2.2.2.2.2.2.2.2.1,(o.2.2.2.2.2.2.2.2.2.1,(o.2.2.2.2.2.2.2.2.2.2.1,(o.2.2.2.2.2.2.2.2.2.2.2.1,(o.2.2.2.2.2.2.2.2.2.2.2.2.1,(o.2.2.2.2.2.2.2.2.2.2.2.2.2.1,(o.2.2.2.2.2.2.2.2.2.2.2.2.2.2.1,(o.2.2.2.2.2.2.2.2.2.2.2.2.2.2.2.1,(o.2.2.2.2.2.2.2.2.2.2.2.2.2.2.2.2.1,(o.2.2.2.2.2.2.2.2.2.2.2.2.2.2.2.2.2.1,(o.2.2.2.2.2.2.2.2.2.2.2.2.2.2.2.2.2.2.1,(o.2.2.2.2.2.2.2.2.2.2.2.2.2.2.2.2.2.2.2.1,(o.2.2.2.2.2.2.2.2.2.2.2.2.2.2.2.2.2.2.2.2.1,(o.2.2.2.2.2.2.2.2.2.2.2.2.2.2.2.2.2.2.2.2.2.1,(o.2.2.2.2.2.2.2.2.2.2.2.2.2.2.2.2.2.2.2.2.2.2.1,(o.2.2.2.2.2.2.2.2.2.2.2.2.2.2.2.2.2.2.2.2.2.2.2.1,(o.2.2.2.2.2.2.2.2.2.2.2.2.2.2.2.2.2.2.2.2.2.2.2.2.1,(o.2.2.2.2.2.2.2.2.2.2.2.2.2.2.2.2.2.2.2.2.2.2.2.2.2.1,(o.2.2.2.2.2.2.2.2.2.2.2.2.2.2.2.2.2.2.2.2.2.2.2.2.2.2.1,(o.2.2.2.2.2.2.2.2.2.2.2.2.2.2.2.2.2.2.2.2.2.2.2.2.2.2.2.1,(o.2.2.2.2.2.2.2.2.2.2.2.2.2.2.2.2.2.2.2.2.2.2.2.2.2.2.2.2,r3))))))))))))))))))))))))))))
   else
    some (o.2.1,(o.2.2.1,(o.2.2.2.1,(o.2.2.2.2.1,(o.2.2.2.2.2.1,(o.2.2.2.2.2.2.1,(o.2.2.2.2.2.2.2.1,(o.2.2.2.2.2.2.2.2.1,(o.2.2.2.2.2.2.2.2.2.1,(o.2.2.2.2.2.2.2.2.2.2.1,(o.2.2.2.2.2.2.2.2.2.2.2.1,(o.2.2.2.2.2.2.2.2.2.2.2.2.1,(o.2.2.2.2.2.2.2.2.2.2.2.2.2.1,(o.2.2.2.2.2.2.2.2.2.2.2.2.2.2.1,(o.2.2.2.2.2.2.2.2.2.2.2.2.2.2.2.1,(o.2.2.2.2.2.2.2.2.2.2.2.2.2.2.2.2.1,(o.2.2.2.2.2.2.2.2.2.2.2.2.2.2.2.2.2.1,(o.2.2.2.2.2.2.2.2.2.2.2.2.2.2.2.2.2.2.1,(o.2.2.2.2.2.2.2.2.2.2.2.2.2.2.2.2.2.2.2.1,(o.2.2.2.2.2.2.2.2.2.2.2.2.2.2.2.2.2.2.2.2.1,(o.2.2.2.2.2.2.2.2.2.2.2.2.2.2.2.2.2.2.2.2.2.1,(o.2.2.2.2.2.2.2.2.2.2.2.2.2.2.2.2.2.2.2.2.2.2.1,(o.2.2.2.2.2.2.2.2.2.2.2.2.2.2.2.2.2.2.2.2.2.2.2.1,(o.2.2.2.2.2.2.2.2.2.2.2.2.2.2.2.2.2.2.2.2.2.2.2.2.1,(o.2.2.2.2.2.2.2.2.2.2.2.2.2.2.2.2.2.2.2.2.2.2.2.2.2.1,(o.2.2.2.2.2.2.2.2.2.2.2.2.2.2.2.2.2.2.2.2.2.2.2.2.2.2.1,(o.2.2.2.2.2.2.2.2.2.2.2.2.2.2.2.2.2.2.2.2.2.2.2.2.2.2.2.1,(o.2.2.2.2.2.2.2.2.2.2.2.2.2.2.2.2.2.2.2.2.2.2.2.2.2.2.2.2,[]))))))))))))))))))))))))))))) fun o1=>
  need ((Nat.ble ((o1.2.2.2.2.2.2.2.2.2.2.2.2.2.2.2.2.2.2.2.2.2.2.2.2.2.2.2.1.length+1)*24) room)&&(Nat.ble (o1.2.2.2.2.2.2.2.2.2.2.2.2.2.2.2.2.2.2.2.2.2.2.2.2.2.2.2.1.length+1) room))<|
  some (.inl ((IntKind.wrap .i64 (x+1)),(o1.1,(o1.2.1,(o1.2.2.1,(o1.2.2.2.1,(o1.2.2.2.2.1,(o1.2.2.2.2.2.1,(o1.2.2.2.2.2.2.1,(o1.2.2.2.2.2.2.2.1,(o1.2.2.2.2.2.2.2.2.1,(o1.2.2.2.2.2.2.2.2.2.1,(o1.2.2.2.2.2.2.2.2.2.2.1,(o1.2.2.2.2.2.2.2.2.2.2.2.1,(o1.2.2.2.2.2.2.2.2.2.2.2.2.1,(o1.2.2.2.2.2.2.2.2.2.2.2.2.2.1,(o1.2.2.2.2.2.2.2.2.2.2.2.2.2.2.1,(o1.2.2.2.2.2.2.2.2.2.2.2.2.2.2.2.1,(o1.2.2.2.2.2.2.2.2.2.2.2.2.2.2.2.2.1,(o1.2.2.2.2.2.2.2.2.2.2.2.2.2.2.2.2.2.1,(o1.2.2.2.2.2.2.2.2.2.2.2.2.2.2.2.2.2.2.1,(o1.2.2.2.2.2.2.2.2.2.2.2.2.2.2.2.2.2.2.2.1,(o1.2.2.2.2.2.2.2.2.2.2.2.2.2.2.2.2.2.2.2.2.1,(o1.2.2.2.2.2.2.2.2.2.2.2.2.2.2.2.2.2.2.2.2.2.1,(o1.2.2.2.2.2.2.2.2.2.2.2.2.2.2.2.2.2.2.2.2.2.2.1,(o1.2.2.2.2.2.2.2.2.2.2.2.2.2.2.2.2.2.2.2.2.2.2.2.1,(o1.2.2.2.2.2.2.2.2.2.2.2.2.2.2.2.2.2.2.2.2.2.2.2.2.1,(o1.2.2.2.2.2.2.2.2.2.2.2.2.2.2.2.2.2.2.2.2.2.2.2.2.2.1,(o1.2.2.2.2.2.2.2.2.2.2.2.2.2.2.2.2.2.2.2.2.2.2.2.2.2.2.1,(o1.2.2.2.2.2.2.2.2.2.2.2.2.2.2.2.2.2.2.2.2.2.2.2.2.2.2.2.1++[o1.2.2.2.2.2.2.2.2.2.2.2.2.2.2.2.2.2.2.2.2.2.2.2.2.2.2.2.2]))))))))))))))))))))))))))))))
 else
  some (.inr (h24,(h25,(h26,(h27,(h28,(h29,(h30,(h31,(h32,(h33,(h34,(h35,(h36,(h37,(h38,(h39,(h40,(h41,(h42,(h43,(h44,(h45,(h46,(h47,(h48,(h49,(h50,h51))))))))))))))))))))))))))))
def mdoemad_l0_it(fu:Nat)(r:(Int×List (qT0)))(tt:(Int×qT14)):Option (qT14):=
 iter fu (fun tt=>mdoemad_l0 fu r tt.1 tt.2.1 tt.2.2.1 tt.2.2.2.1 tt.2.2.2.2.1 tt.2.2.2.2.2.1 tt.2.2.2.2.2.2.1 tt.2.2.2.2.2.2.2.1 tt.2.2.2.2.2.2.2.2.1 tt.2.2.2.2.2.2.2.2.2.1 tt.2.2.2.2.2.2.2.2.2.2.1 tt.2.2.2.2.2.2.2.2.2.2.2.1 tt.2.2.2.2.2.2.2.2.2.2.2.2.1 tt.2.2.2.2.2.2.2.2.2.2.2.2.2.1 tt.2.2.2.2.2.2.2.2.2.2.2.2.2.2.1 tt.2.2.2.2.2.2.2.2.2.2.2.2.2.2.2.1 tt.2.2.2.2.2.2.2.2.2.2.2.2.2.2.2.2.1 tt.2.2.2.2.2.2.2.2.2.2.2.2.2.2.2.2.2.1 tt.2.2.2.2.2.2.2.2.2.2.2.2.2.2.2.2.2.2.1 tt.2.2.2.2.2.2.2.2.2.2.2.2.2.2.2.2.2.2.2.1 tt.2.2.2.2.2.2.2.2.2.2.2.2.2.2.2.2.2.2.2.2.1 tt.2.2.2.2.2.2.2.2.2.2.2.2.2.2.2.2.2.2.2.2.2.1 tt.2.2.2.2.2.2.2.2.2.2.2.2.2.2.2.2.2.2.2.2.2.2.1 tt.2.2.2.2.2.2.2.2.2.2.2.2.2.2.2.2.2.2.2.2.2.2.2.1 tt.2.2.2.2.2.2.2.2.2.2.2.2.2.2.2.2.2.2.2.2.2.2.2.2.1 tt.2.2.2.2.2.2.2.2.2.2.2.2.2.2.2.2.2.2.2.2.2.2.2.2.2.1 tt.2.2.2.2.2.2.2.2.2.2.2.2.2.2.2.2.2.2.2.2.2.2.2.2.2.2.1 tt.2.2.2.2.2.2.2.2.2.2.2.2.2.2.2.2.2.2.2.2.2.2.2.2.2.2.2.1 tt.2.2.2.2.2.2.2.2.2.2.2.2.2.2.2.2.2.2.2.2.2.2.2.2.2.2.2.2) tt
def mdoemad(fu:Nat)(h:List (qT0))(h1:Int)(h2:List (List (UInt8)))(h3:Int)(h4:Int)(h5:Int)(h6:Int)(h7:Int)(h8:List UInt8)(h9:Int)(h10:Int)(h11:List UInt8)(h12:Int)(h13:Int)(h14:List (UInt8))(h15:Int)(h16:Int)(h17:Int)(h18:Int)(h19:Int)(h20:Bool)(h21:Int)(h22:Bool)(h23:Int):Option ((Int×(List (qT0)×(Int×(List (List (UInt8))×(Int×(Int×(Int×(Int×(Int×(List UInt8×(Int×(Int×(List UInt8×(Int×(Int×(List (UInt8)×(Int×(Int×(Int×(Int×(Int×(Bool×(Int×(Bool×(Int×(List (qT0)×List (List (UInt8))))))))))))))))))))))))))))):=
 (mcop fu (h,h1)).bind fun r=>
 (mdoemad_l0_it fu r (0,(h,(h1,(h2,(h3,(h4,(h5,(h6,(h7,(h8,(h9,(h10,(h11,(h12,(h13,(h14,(h15,(h16,(h17,(h18,(h19,(h20,(h21,(h22,(h23,(0,(r.1,(r.2,[]))))))))))))))))))))))))))))).bind fun o2=>
 some (o2.2.2.2.2.2.2.2.2.2.2.2.2.2.2.2.2.2.2.2.2.2.2.2.2.2.1,(o2.1,(o2.2.1,(o2.2.2.1,(o2.2.2.2.1,(o2.2.2.2.2.1,(o2.2.2.2.2.2.1,(o2.2.2.2.2.2.2.1,(o2.2.2.2.2.2.2.2.1,(o2.2.2.2.2.2.2.2.2.1,(o2.2.2.2.2.2.2.2.2.2.1,(o2.2.2.2.2.2.2.2.2.2.2.1,(o2.2.2.2.2.2.2.2.2.2.2.2.1,(o2.2.2.2.2.2.2.2.2.2.2.2.2.1,(o2.2.2.2.2.2.2.2.2.2.2.2.2.2.1,(o2.2.2.2.2.2.2.2.2.2.2.2.2.2.2.1,(o2.2.2.2.2.2.2.2.2.2.2.2.2.2.2.2.1,(o2.2.2.2.2.2.2.2.2.2.2.2.2.2.2.2.2.1,(o2.2.2.2.2.2.2.2.2.2.2.2.2.2.2.2.2.2.1,(o2.2.2.2.2.2.2.2.2.2.2.2.2.2.2.2.2.2.2.1,(o2.2.2.2.2.2.2.2.2.2.2.2.2.2.2.2.2.2.2.2.1,(o2.2.2.2.2.2.2.2.2.2.2.2.2.2.2.2.2.2.2.2.2.1,(o2.2.2.2.2.2.2.2.2.2.2.2.2.2.2.2.2.2.2.2.2.2.1,(o2.2.2.2.2.2.2.2.2.2.2.2.2.2.2.2.2.2.2.2.2.2.2.1,(o2.2.2.2.2.2.2.2.2.2.2.2.2.2.2.2.2.2.2.2.2.2.2.2.1,(o2.2.2.2.2.2.2.2.2.2.2.2.2.2.2.2.2.2.2.2.2.2.2.2.2.2.2.1,o2.2.2.2.2.2.2.2.2.2.2.2.2.2.2.2.2.2.2.2.2.2.2.2.2.2.2.2))))))))))))))))))))))))))
def mdoemad_fa:FnA:=⟨.two (.reg [(0,{ids:=[100]})]) (.two (.reg [(4,{ids:=[101]}),(6,{ids:=[102]})]) (.two (.two (.leaf) (.one (.pre (.ownCell 102 2 25 103) (.loop ⟨[0,2,3,15,17],⟨(.cons (.own 0 0 0 0) (.cons (.own 0 100 0 0) (.cons (.own 0 102 0 0) (.cons (.slf 8 101) qL9)))),[(0,true,qB4),(100,false,(.vars qL25)),(102,false,(.vars (.cons (.slf 8 101) (.cons (.p (.int .i64)) (.cons (.slf 1 103) .nil))))),(101,false,(.rows 103 qY2)),(103,false,(.rows 25 (.sl .byte)))]⟩⟩ false [(0,⟨[0,2,3],⟨(.cons (.own 0 0 0 0) (.cons (.own 0 100 0 0) (.cons (.own 0 102 0 0) .nil))),[(0,true,qB4),(100,false,(.vars qL25)),(102,false,(.vars (.cons (.slf 8 101) (.cons (.p (.int .i64)) (.cons (.slf 1 103) .nil))))),(101,false,(.rows 103 qY2)),(103,false,(.rows 25 (.sl .byte)))]⟩⟩)] (.two (.leaf) (.two (.leaf) (.two (.one (.two (.reg [(3,{ids:=[104]})]) (.two (.leaf) (.two (.two (.join ⟨[0,2,3,15,32],⟨(.cons (.own 0 0 0 0) (.cons (.own 0 100 0 0) (.cons (.own 0 102 0 0) (.cons (.slf 8 101) (.cons (.p .bool) .nil))))),[(0,true,qB4),(100,false,(.vars qL25)),(102,false,(.vars (.cons (.slf 8 101) (.cons (.p (.int .i64)) (.cons (.slf 1 103) .nil))))),(101,false,(.rows 103 qY2)),(103,false,(.rows 25 (.sl .byte)))]⟩⟩ false [] (.leaf)) (.pre (.ownNil 6 5 105) (.join ⟨[0,2,3,6,15],⟨(.cons (.own 0 0 0 0) (.cons (.own 0 100 0 0) (.cons (.own 0 102 0 0) (.cons (.slf 1 106) (.cons (.slf 8 101) .nil))))),[(0,true,qB4),(100,false,(.vars qL25)),(102,false,(.vars (.cons (.slf 8 101) (.cons (.p (.int .i64)) (.cons (.slf 1 103) .nil))))),(101,false,(.rows 103 qY2)),(103,false,(.rows 25 (.sl .byte))),(106,false,(.rows 5 .byte))]⟩⟩ false [] (.two (.reg [(7,{ids:=[106],fn:=1})]) (.leaf))))) (.reg [(3,{ids:=[107]}),(4,{ids:=[108]})]))))) (.leaf)))))))) (.leaf))),⟨qL37,[(0,true,qB4)]⟩,[⟨(.cons (.agg (.cons (.slf 8 1) (.cons (.p (.int .i64)) (.cons (.slf 1 2) .nil)))) .nil),[(0,true,qB4),(1,false,(.rows 103 qY2)),(2,false,(.rows 25 (.sl .byte)))]⟩],[0]⟩
def mdoemad_ft(fu:Nat):FnT:=⟨81,mdoemad_fa.i,mdoemad_fa.os,fun t=>mdoemad fu t.1 t.2.1 t.2.2.1 t.2.2.2.1 t.2.2.2.2.1 t.2.2.2.2.2.1 t.2.2.2.2.2.2.1 t.2.2.2.2.2.2.2.1 t.2.2.2.2.2.2.2.2.1 t.2.2.2.2.2.2.2.2.2.1 t.2.2.2.2.2.2.2.2.2.2.1 t.2.2.2.2.2.2.2.2.2.2.2.1 t.2.2.2.2.2.2.2.2.2.2.2.2.1 t.2.2.2.2.2.2.2.2.2.2.2.2.2.1 t.2.2.2.2.2.2.2.2.2.2.2.2.2.2.1 t.2.2.2.2.2.2.2.2.2.2.2.2.2.2.2.1 t.2.2.2.2.2.2.2.2.2.2.2.2.2.2.2.2.1 t.2.2.2.2.2.2.2.2.2.2.2.2.2.2.2.2.2.1 t.2.2.2.2.2.2.2.2.2.2.2.2.2.2.2.2.2.2.1 t.2.2.2.2.2.2.2.2.2.2.2.2.2.2.2.2.2.2.2.1 t.2.2.2.2.2.2.2.2.2.2.2.2.2.2.2.2.2.2.2.2.1 t.2.2.2.2.2.2.2.2.2.2.2.2.2.2.2.2.2.2.2.2.2.1 t.2.2.2.2.2.2.2.2.2.2.2.2.2.2.2.2.2.2.2.2.2.2.1 t.2.2.2.2.2.2.2.2.2.2.2.2.2.2.2.2.2.2.2.2.2.2.2⟩
theorem j0Z(fu:Nat):∀t,evF Go.Proofs.Tryz.prog [mcop_ft fu,sClo4_ft fu] fu Go.Proofs.Tryz.f81 mdoemad_fa t=(mdoemad_ft fu).spec t:=fun t=>by kernel_rfl
theorem fWZ(fu:Nat):Told Go.Proofs.Tryz.prog (mdoemad_ft fu):=afZ (aaZ (gRZ fu) (aaZ (eNZ fu) acZ)) mixed Go.Proofs.Tryz.func81 (by kernel_rfl) (by kernel_rfl) (j0Z fu)
def model_Do_l0(fu:Nat)(o1:qT16)(x:Int)(h:Int)(h1:Int)(h2:Int)(h3:Int)(h4:Int)(h5:List UInt8)(h6:Int)(h7:Int)(h8:List UInt8)(h9:Int)(h10:Int)(h11:List (UInt8))(h12:Int)(h13:Int)(h14:Int)(h15:Int)(h16:Int)(h17:Int)(h18:Bool)(h19:Int)(h20:Bool)(h21:Int)(h22:Int)(h23:List (qT0))(h24:List (List (UInt8))):Option ((Int×qT11)⊕(qT11)):=
 bif (decide (x<((o1.2.2.2.1.length:Nat):Int))) then
  (idx? x o1.2.2.2.1.length).bind fun q=>
  (o1.2.2.2.1)[q]?.bind fun r15=>
  (sClo4 fu r15).bind fun r16=>
  need ((Nat.ble ((h24.length+1)*24) room)&&(Nat.ble (h24.length+1) room))<|
  some (.inl ((IntKind.wrap .i64 (x+1)),(h,(h1,(h2,(h3,(h4,(h5,(h6,(h7,(h8,(h9,(h10,(h11,(h12,(h13,(h14,(h15,(h16,(h17,(h18,(h19,(h20,(h21,(h22,(h23,(h24++[r16])))))))))))))))))))))))))))
 else
  some (.inr (h,(h1,(h2,(h3,(h4,(h5,(h6,(h7,(h8,(h9,(h10,(h11,(h12,(h13,(h14,(h15,(h16,(h17,(h18,(h19,(h20,(h21,(h22,(h23,h24)))))))))))))))))))))))))
def model_Do_l0_it(fu:Nat)(o1:qT16)(tt:(Int×qT11)):Option (qT11):=
 iter fu (fun tt=>model_Do_l0 fu o1 tt.1 tt.2.1 tt.2.2.1 tt.2.2.2.1 tt.2.2.2.2.1 tt.2.2.2.2.2.1 tt.2.2.2.2.2.2.1 tt.2.2.2.2.2.2.2.1 tt.2.2.2.2.2.2.2.2.1 tt.2.2.2.2.2.2.2.2.2.1 tt.2.2.2.2.2.2.2.2.2.2.1 tt.2.2.2.2.2.2.2.2.2.2.2.1 tt.2.2.2.2.2.2.2.2.2.2.2.2.1 tt.2.2.2.2.2.2.2.2.2.2.2.2.2.1 tt.2.2.2.2.2.2.2.2.2.2.2.2.2.2.1 tt.2.2.2.2.2.2.2.2.2.2.2.2.2.2.2.1 tt.2.2.2.2.2.2.2.2.2.2.2.2.2.2.2.2.1 tt.2.2.2.2.2.2.2.2.2.2.2.2.2.2.2.2.2.1 tt.2.2.2.2.2.2.2.2.2.2.2.2.2.2.2.2.2.2.1 tt.2.2.2.2.2.2.2.2.2.2.2.2.2.2.2.2.2.2.2.1 tt.2.2.2.2.2.2.2.2.2.2.2.2.2.2.2.2.2.2.2.2.1 tt.2.2.2.2.2.2.2.2.2.2.2.2.2.2.2.2.2.2.2.2.2.1 tt.2.2.2.2.2.2.2.2.2.2.2.2.2.2.2.2.2.2.2.2.2.2.1 tt.2.2.2.2.2.2.2.2.2.2.2.2.2.2.2.2.2.2.2.2.2.2.2.1 tt.2.2.2.2.2.2.2.2.2.2.2.2.2.2.2.2.2.2.2.2.2.2.2.2.1 tt.2.2.2.2.2.2.2.2.2.2.2.2.2.2.2.2.2.2.2.2.2.2.2.2.2) tt
def model_Do_l1(fu:Nat)(m:((List (qT0)×Int)×List (List (UInt8))))(x1:Int)(h25:Int)(h26:Int)(h27:Int)(h28:Int)(h29:Int)(h30:List UInt8)(h31:Int)(h32:Int)(h33:List UInt8)(h34:Int)(h35:Int)(h36:List (UInt8))(h37:Int)(h38:Int)(h39:Int)(h40:Int)(h41:Int)(h42:Int)(h43:Bool)(h44:Int)(h45:Bool)(h46:Int)(h47:Int)(h48:List (qT0))(h49:List (List (UInt8))):Option ((Int×qT11)⊕(qT11)):=
 bif (decide (x1<((m.2.length:Nat):Int))) then
  (idx? x1 m.2.length).bind fun q1=>
  (m.2)[q1]?.bind fun r19=>
  (sClo4 fu r19).bind fun r20=>
  need ((Nat.ble ((h49.length+1)*24) room)&&(Nat.ble (h49.length+1) room))<|
  some (.inl ((IntKind.wrap .i64 (x1+1)),(h25,(h26,(h27,(h28,(h29,(h30,(h31,(h32,(h33,(h34,(h35,(h36,(h37,(h38,(h39,(h40,(h41,(h42,(h43,(h44,(h45,(h46,(h47,(h48,(h49++[r20])))))))))))))))))))))))))))
 else
  some (.inr (h25,(h26,(h27,(h28,(h29,(h30,(h31,(h32,(h33,(h34,(h35,(h36,(h37,(h38,(h39,(h40,(h41,(h42,(h43,(h44,(h45,(h46,(h47,(h48,h49)))))))))))))))))))))))))
def model_Do_l1_it(fu:Nat)(m:((List (qT0)×Int)×List (List (UInt8))))(tt:(Int×qT11)):Option (qT11):=
 iter fu (fun tt=>model_Do_l1 fu m tt.1 tt.2.1 tt.2.2.1 tt.2.2.2.1 tt.2.2.2.2.1 tt.2.2.2.2.2.1 tt.2.2.2.2.2.2.1 tt.2.2.2.2.2.2.2.1 tt.2.2.2.2.2.2.2.2.1 tt.2.2.2.2.2.2.2.2.2.1 tt.2.2.2.2.2.2.2.2.2.2.1 tt.2.2.2.2.2.2.2.2.2.2.2.1 tt.2.2.2.2.2.2.2.2.2.2.2.2.1 tt.2.2.2.2.2.2.2.2.2.2.2.2.2.1 tt.2.2.2.2.2.2.2.2.2.2.2.2.2.2.1 tt.2.2.2.2.2.2.2.2.2.2.2.2.2.2.2.1 tt.2.2.2.2.2.2.2.2.2.2.2.2.2.2.2.2.1 tt.2.2.2.2.2.2.2.2.2.2.2.2.2.2.2.2.2.1 tt.2.2.2.2.2.2.2.2.2.2.2.2.2.2.2.2.2.2.1 tt.2.2.2.2.2.2.2.2.2.2.2.2.2.2.2.2.2.2.2.1 tt.2.2.2.2.2.2.2.2.2.2.2.2.2.2.2.2.2.2.2.2.1 tt.2.2.2.2.2.2.2.2.2.2.2.2.2.2.2.2.2.2.2.2.2.1 tt.2.2.2.2.2.2.2.2.2.2.2.2.2.2.2.2.2.2.2.2.2.2.1 tt.2.2.2.2.2.2.2.2.2.2.2.2.2.2.2.2.2.2.2.2.2.2.2.1 tt.2.2.2.2.2.2.2.2.2.2.2.2.2.2.2.2.2.2.2.2.2.2.2.2.1 tt.2.2.2.2.2.2.2.2.2.2.2.2.2.2.2.2.2.2.2.2.2.2.2.2.2) tt
def model_Do(fu:Nat)(m:((List (qT0)×Int)×List (List (UInt8))))(c:(Int×(Int×(UInt8×((Int×Int)×(List UInt8×((Int×Int)×(List UInt8×(Int×(Int×List (UInt8))))))))))):Option ((Int×(Int×(Int×(Int×(Int×(Int×(Bool×(Int×(Bool×(Int×(List (qT0)×List (List (UInt8)))))))))))))):=
 need ((!((UInt8.ofNat 2)==(UInt8.ofNat 1)))&&true)<|
 need ((!((UInt8.ofNat 3)==(UInt8.ofNat 1)))&&((!((UInt8.ofNat 3)==(UInt8.ofNat 2)))&&true))<|
 need ((!((UInt8.ofNat 4)==(UInt8.ofNat 1)))&&((!((UInt8.ofNat 4)==(UInt8.ofNat 2)))&&((!((UInt8.ofNat 4)==(UInt8.ofNat 3)))&&true)))<|
 need ((!((UInt8.ofNat 5)==(UInt8.ofNat 1)))&&((!((UInt8.ofNat 5)==(UInt8.ofNat 2)))&&((!((UInt8.ofNat 5)==(UInt8.ofNat 3)))&&((!((UInt8.ofNat 5)==(UInt8.ofNat 4)))&&true))))<|
 need ((!((UInt8.ofNat 6)==(UInt8.ofNat 1)))&&((!((UInt8.ofNat 6)==(UInt8.ofNat 2)))&&((!((UInt8.ofNat 6)==(UInt8.ofNat 3)))&&((!((UInt8.ofNat 6)==(UInt8.ofNat 4)))&&((!((UInt8.ofNat 6)==(UInt8.ofNat 5)))&&true)))))<|
 need ((!((UInt8.ofNat 7)==(UInt8.ofNat 1)))&&((!((UInt8.ofNat 7)==(UInt8.ofNat 2)))&&((!((UInt8.ofNat 7)==(UInt8.ofNat 3)))&&((!((UInt8.ofNat 7)==(UInt8.ofNat 4)))&&((!((UInt8.ofNat 7)==(UInt8.ofNat 5)))&&((!((UInt8.ofNat 7)==(UInt8.ofNat 6)))&&true))))))<|
 need ((!((UInt8.ofNat 8)==(UInt8.ofNat 1)))&&((!((UInt8.ofNat 8)==(UInt8.ofNat 2)))&&((!((UInt8.ofNat 8)==(UInt8.ofNat 3)))&&((!((UInt8.ofNat 8)==(UInt8.ofNat 4)))&&((!((UInt8.ofNat 8)==(UInt8.ofNat 5)))&&((!((UInt8.ofNat 8)==(UInt8.ofNat 6)))&&((!((UInt8.ofNat 8)==(UInt8.ofNat 7)))&&true)))))))<|
 need ((!((UInt8.ofNat 9)==(UInt8.ofNat 1)))&&((!((UInt8.ofNat 9)==(UInt8.ofNat 2)))&&((!((UInt8.ofNat 9)==(UInt8.ofNat 3)))&&((!((UInt8.ofNat 9)==(UInt8.ofNat 4)))&&((!((UInt8.ofNat 9)==(UInt8.ofNat 5)))&&((!((UInt8.ofNat 9)==(UInt8.ofNat 6)))&&((!((UInt8.ofNat 9)==(UInt8.ofNat 7)))&&((!((UInt8.ofNat 9)==(UInt8.ofNat 8)))&&true))))))))<|
 need ((!((UInt8.ofNat 10)==(UInt8.ofNat 1)))&&((!((UInt8.ofNat 10)==(UInt8.ofNat 2)))&&((!((UInt8.ofNat 10)==(UInt8.ofNat 3)))&&((!((UInt8.ofNat 10)==(UInt8.ofNat 4)))&&((!((UInt8.ofNat 10)==(UInt8.ofNat 5)))&&((!((UInt8.ofNat 10)==(UInt8.ofNat 6)))&&((!((UInt8.ofNat 10)==(UInt8.ofNat 7)))&&((!((UInt8.ofNat 10)==(UInt8.ofNat 8)))&&((!((UInt8.ofNat 10)==(UInt8.ofNat 9)))&&true)))))))))<|
 need ((!((UInt8.ofNat 11)==(UInt8.ofNat 1)))&&((!((UInt8.ofNat 11)==(UInt8.ofNat 2)))&&((!((UInt8.ofNat 11)==(UInt8.ofNat 3)))&&((!((UInt8.ofNat 11)==(UInt8.ofNat 4)))&&((!((UInt8.ofNat 11)==(UInt8.ofNat 5)))&&((!((UInt8.ofNat 11)==(UInt8.ofNat 6)))&&((!((UInt8.ofNat 11)==(UInt8.ofNat 7)))&&((!((UInt8.ofNat 11)==(UInt8.ofNat 8)))&&((!((UInt8.ofNat 11)==(UInt8.ofNat 9)))&&((!((UInt8.ofNat 11)==(UInt8.ofNat 10)))&&true))))))))))<|
 need ((!((UInt8.ofNat 12)==(UInt8.ofNat 1)))&&((!((UInt8.ofNat 12)==(UInt8.ofNat 2)))&&((!((UInt8.ofNat 12)==(UInt8.ofNat 3)))&&((!((UInt8.ofNat 12)==(UInt8.ofNat 4)))&&((!((UInt8.ofNat 12)==(UInt8.ofNat 5)))&&((!((UInt8.ofNat 12)==(UInt8.ofNat 6)))&&((!((UInt8.ofNat 12)==(UInt8.ofNat 7)))&&((!((UInt8.ofNat 12)==(UInt8.ofNat 8)))&&((!((UInt8.ofNat 12)==(UInt8.ofNat 9)))&&((!((UInt8.ofNat 12)==(UInt8.ofNat 10)))&&((!((UInt8.ofNat 12)==(UInt8.ofNat 11)))&&true)))))))))))<|
 (mRig fu ((m.1.1,m.1.2),m.2)).bind fun r=>
 bif r then
  (byte? ((c.2.2.1.toNat:Nat):Int)).bind fun c1=>
  (cRigCal fu (c.1,(c.2.1,(c1,((c.2.2.2.1.1,c.2.2.2.1.2),(c.2.2.2.2.1,((c.2.2.2.2.2.1.1,c.2.2.2.2.2.1.2),(c.2.2.2.2.2.2.1,(c.2.2.2.2.2.2.2.1,(c.2.2.2.2.2.2.2.2.1,c.2.2.2.2.2.2.2.2.2)))))))))).bind fun r1=>
  Option.bind (α:=(qT16)) (
   bif r1 then
    Option.bind (α:=(qT16)) (
     (byte? ((c.2.2.1.toNat:Nat):Int)).bind fun c2=>
     bif (c2==(UInt8.ofNat 1)) then
      (mdoeloo fu m.1.1 m.1.2 m.2 c.1 c.2.1 ((c.2.2.1.toNat:Nat):Int) c.2.2.2.1.1 c.2.2.2.1.2 c.2.2.2.2.1 c.2.2.2.2.2.1.1 c.2.2.2.2.2.1.2 c.2.2.2.2.2.2.1 c.2.2.2.2.2.2.2.1 c.2.2.2.2.2.2.2.2.1 c.2.2.2.2.2.2.2.2.2 c.1 c.2.1 0 0 0 false 0 false 0).bind fun r2=>
      some (r2.1,(m.1.1,(m.1.2,(m.2,(c.1,(c.2.1,(((c.2.2.1.toNat:Nat):Int),(c.2.2.2.1.1,(c.2.2.2.1.2,(c.2.2.2.2.1,(c.2.2.2.2.2.1.1,(c.2.2.2.2.2.1.2,(c.2.2.2.2.2.2.1,(c.2.2.2.2.2.2.2.1,(c.2.2.2.2.2.2.2.2.1,(c.2.2.2.2.2.2.2.2.2,(0,(0,(0,(0,(0,(0,(false,(0,(false,(0,(r2.2.1,(r2.2.2.1,(r2.2.2.2.1,(r2.2.2.2.2.1,(r2.2.2.2.2.2.1,(r2.2.2.2.2.2.2.1,(r2.2.2.2.2.2.2.2.1,(r2.2.2.2.2.2.2.2.2.1,(r2.2.2.2.2.2.2.2.2.2.1,(r2.2.2.2.2.2.2.2.2.2.2.1,(r2.2.2.2.2.2.2.2.2.2.2.2.1,(r2.2.2.2.2.2.2.2.2.2.2.2.2.1,(r2.2.2.2.2.2.2.2.2.2.2.2.2.2.1,(r2.2.2.2.2.2.2.2.2.2.2.2.2.2.2.1,(r2.2.2.2.2.2.2.2.2.2.2.2.2.2.2.2.1,(r2.2.2.2.2.2.2.2.2.2.2.2.2.2.2.2.2.1,(r2.2.2.2.2.2.2.2.2.2.2.2.2.2.2.2.2.2.1,(r2.2.2.2.2.2.2.2.2.2.2.2.2.2.2.2.2.2.2.1,(r2.2.2.2.2.2.2.2.2.2.2.2.2.2.2.2.2.2.2.2.1,(r2.2.2.2.2.2.2.2.2.2.2.2.2.2.2.2.2.2.2.2.2.1,(r2.2.2.2.2.2.2.2.2.2.2.2.2.2.2.2.2.2.2.2.2.2.1,(r2.2.2.2.2.2.2.2.2.2.2.2.2.2.2.2.2.2.2.2.2.2.2.1,(r2.2.2.2.2.2.2.2.2.2.2.2.2.2.2.2.2.2.2.2.2.2.2.2.1,r2.2.2.2.2.2.2.2.2.2.2.2.2.2.2.2.2.2.2.2.2.2.2.2.2)))))))))))))))))))))))))))))))))))))))))))))))))
     else
      bif (c2==(UInt8.ofNat 2)) then
       (mdoemak fu m.1.1 m.1.2 m.2 c.1 c.2.1 ((c.2.2.1.toNat:Nat):Int) c.2.2.2.1.1 c.2.2.2.1.2 c.2.2.2.2.1 c.2.2.2.2.2.1.1 c.2.2.2.2.2.1.2 c.2.2.2.2.2.2.1 c.2.2.2.2.2.2.2.1 c.2.2.2.2.2.2.2.2.1 c.2.2.2.2.2.2.2.2.2 c.1 c.2.1 0 0 0 false 0 false 0).bind fun r3=>
       some (r3.1,(m.1.1,(m.1.2,(m.2,(c.1,(c.2.1,(((c.2.2.1.toNat:Nat):Int),(c.2.2.2.1.1,(c.2.2.2.1.2,(c.2.2.2.2.1,(c.2.2.2.2.2.1.1,(c.2.2.2.2.2.1.2,(c.2.2.2.2.2.2.1,(c.2.2.2.2.2.2.2.1,(c.2.2.2.2.2.2.2.2.1,(c.2.2.2.2.2.2.2.2.2,(0,(0,(0,(0,(0,(0,(false,(0,(false,(0,(r3.2.1,(r3.2.2.1,(r3.2.2.2.1,(r3.2.2.2.2.1,(r3.2.2.2.2.2.1,(r3.2.2.2.2.2.2.1,(r3.2.2.2.2.2.2.2.1,(r3.2.2.2.2.2.2.2.2.1,(r3.2.2.2.2.2.2.2.2.2.1,(r3.2.2.2.2.2.2.2.2.2.2.1,(r3.2.2.2.2.2.2.2.2.2.2.2.1,(r3.2.2.2.2.2.2.2.2.2.2.2.2.1,(r3.2.2.2.2.2.2.2.2.2.2.2.2.2.1,(r3.2.2.2.2.2.2.2.2.2.2.2.2.2.2.1,(r3.2.2.2.2.2.2.2.2.2.2.2.2.2.2.2.1,(r3.2.2.2.2.2.2.2.2.2.2.2.2.2.2.2.2.1,(r3.2.2.2.2.2.2.2.2.2.2.2.2.2.2.2.2.2.1,(r3.2.2.2.2.2.2.2.2.2.2.2.2.2.2.2.2.2.2.1,(r3.2.2.2.2.2.2.2.2.2.2.2.2.2.2.2.2.2.2.2.1,(r3.2.2.2.2.2.2.2.2.2.2.2.2.2.2.2.2.2.2.2.2.1,(r3.2.2.2.2.2.2.2.2.2.2.2.2.2.2.2.2.2.2.2.2.2.1,(r3.2.2.2.2.2.2.2.2.2.2.2.2.2.2.2.2.2.2.2.2.2.2.1,(r3.2.2.2.2.2.2.2.2.2.2.2.2.2.2.2.2.2.2.2.2.2.2.2.1,r3.2.2.2.2.2.2.2.2.2.2.2.2.2.2.2.2.2.2.2.2.2.2.2.2)))))))))))))))))))))))))))))))))))))))))))))))))
      else
       bif (c2==(UInt8.ofNat 3)) then
        (mdoemak fu m.1.1 m.1.2 m.2 c.1 c.2.1 ((c.2.2.1.toNat:Nat):Int) c.2.2.2.1.1 c.2.2.2.1.2 c.2.2.2.2.1 c.2.2.2.2.2.1.1 c.2.2.2.2.2.1.2 c.2.2.2.2.2.2.1 c.2.2.2.2.2.2.2.1 c.2.2.2.2.2.2.2.2.1 c.2.2.2.2.2.2.2.2.2 c.1 c.2.1 0 0 0 false 0 false 0).bind fun r4=>
        some (r4.1,(m.1.1,(m.1.2,(m.2,(c.1,(c.2.1,(((c.2.2.1.toNat:Nat):Int),(c.2.2.2.1.1,(c.2.2.2.1.2,(c.2.2.2.2.1,(c.2.2.2.2.2.1.1,(c.2.2.2.2.2.1.2,(c.2.2.2.2.2.2.1,(c.2.2.2.2.2.2.2.1,(c.2.2.2.2.2.2.2.2.1,(c.2.2.2.2.2.2.2.2.2,(0,(0,(0,(0,(0,(0,(false,(0,(false,(0,(r4.2.1,(r4.2.2.1,(r4.2.2.2.1,(r4.2.2.2.2.1,(r4.2.2.2.2.2.1,(r4.2.2.2.2.2.2.1,(r4.2.2.2.2.2.2.2.1,(r4.2.2.2.2.2.2.2.2.1,(r4.2.2.2.2.2.2.2.2.2.1,(r4.2.2.2.2.2.2.2.2.2.2.1,(r4.2.2.2.2.2.2.2.2.2.2.2.1,(r4.2.2.2.2.2.2.2.2.2.2.2.2.1,(r4.2.2.2.2.2.2.2.2.2.2.2.2.2.1,(r4.2.2.2.2.2.2.2.2.2.2.2.2.2.2.1,(r4.2.2.2.2.2.2.2.2.2.2.2.2.2.2.2.1,(r4.2.2.2.2.2.2.2.2.2.2.2.2.2.2.2.2.1,(r4.2.2.2.2.2.2.2.2.2.2.2.2.2.2.2.2.2.1,(r4.2.2.2.2.2.2.2.2.2.2.2.2.2.2.2.2.2.2.1,(r4.2.2.2.2.2.2.2.2.2.2.2.2.2.2.2.2.2.2.2.1,(r4.2.2.2.2.2.2.2.2.2.2.2.2.2.2.2.2.2.2.2.2.1,(r4.2.2.2.2.2.2.2.2.2.2.2.2.2.2.2.2.2.2.2.2.2.1,(r4.2.2.2.2.2.2.2.2.2.2.2.2.2.2.2.2.2.2.2.2.2.2.1,(r4.2.2.2.2.2.2.2.2.2.2.2.2.2.2.2.2.2.2.2.2.2.2.2.1,r4.2.2.2.2.2.2.2.2.2.2.2.2.2.2.2.2.2.2.2.2.2.2.2.2)))))))))))))))))))))))))))))))))))))))))))))))))
       else
        bif (c2==(UInt8.ofNat 4)) then
         (mdoerea fu m.1.1 m.1.2 m.2 c.1 c.2.1 ((c.2.2.1.toNat:Nat):Int) c.2.2.2.1.1 c.2.2.2.1.2 c.2.2.2.2.1 c.2.2.2.2.2.1.1 c.2.2.2.2.2.1.2 c.2.2.2.2.2.2.1 c.2.2.2.2.2.2.2.1 c.2.2.2.2.2.2.2.2.1 c.2.2.2.2.2.2.2.2.2 c.1 c.2.1 0 0 0 false 0 false 0).bind fun r5=>
         Empty.elim r5
        else
         bif (c2==(UInt8.ofNat 5)) then
          (mdoewri fu m.1.1 m.1.2 m.2 c.1 c.2.1 ((c.2.2.1.toNat:Nat):Int) c.2.2.2.1.1 c.2.2.2.1.2 c.2.2.2.2.1 c.2.2.2.2.2.1.1 c.2.2.2.2.2.1.2 c.2.2.2.2.2.2.1 c.2.2.2.2.2.2.2.1 c.2.2.2.2.2.2.2.2.1 c.2.2.2.2.2.2.2.2.2 c.1 c.2.1 0 0 0 false 0 false 0).bind fun r6=>
          Empty.elim r6
         else
          bif (c2==(UInt8.ofNat 6)) then
           (mdoesiz fu m.1.1 m.1.2 m.2 c.1 c.2.1 ((c.2.2.1.toNat:Nat):Int) c.2.2.2.1.1 c.2.2.2.1.2 c.2.2.2.2.1 c.2.2.2.2.2.1.1 c.2.2.2.2.2.1.2 c.2.2.2.2.2.2.1 c.2.2.2.2.2.2.2.1 c.2.2.2.2.2.2.2.2.1 c.2.2.2.2.2.2.2.2.2 c.1 c.2.1 0 0 0 false 0 false 0).bind fun r7=>
           Empty.elim r7
          else
           bif (c2==(UInt8.ofNat 7)) then
            (mdoerem fu m.1.1 m.1.2 m.2 c.1 c.2.1 ((c.2.2.1.toNat:Nat):Int) c.2.2.2.1.1 c.2.2.2.1.2 c.2.2.2.2.1 c.2.2.2.2.2.1.1 c.2.2.2.2.2.1.2 c.2.2.2.2.2.2.1 c.2.2.2.2.2.2.2.1 c.2.2.2.2.2.2.2.2.1 c.2.2.2.2.2.2.2.2.2 c.1 c.2.1 0 0 0 false 0 false 0).bind fun r8=>
            Empty.elim r8
           else
            bif (c2==(UInt8.ofNat 8)) then
             (mdoerem fu m.1.1 m.1.2 m.2 c.1 c.2.1 ((c.2.2.1.toNat:Nat):Int) c.2.2.2.1.1 c.2.2.2.1.2 c.2.2.2.2.1 c.2.2.2.2.2.1.1 c.2.2.2.2.2.1.2 c.2.2.2.2.2.2.1 c.2.2.2.2.2.2.2.1 c.2.2.2.2.2.2.2.2.1 c.2.2.2.2.2.2.2.2.2 c.1 c.2.1 0 0 0 false 0 false 0).bind fun r9=>
             Empty.elim r9
            else
             bif (c2==(UInt8.ofNat 9)) then
              (mdoeren fu m.1.1 m.1.2 m.2 c.1 c.2.1 ((c.2.2.1.toNat:Nat):Int) c.2.2.2.1.1 c.2.2.2.1.2 c.2.2.2.2.1 c.2.2.2.2.2.1.1 c.2.2.2.2.2.1.2 c.2.2.2.2.2.2.1 c.2.2.2.2.2.2.2.1 c.2.2.2.2.2.2.2.2.1 c.2.2.2.2.2.2.2.2.2 c.1 c.2.1 0 0 0 false 0 false 0).bind fun r10=>
              Empty.elim r10
             else
              bif (c2==(UInt8.ofNat 10)) then
               (mdoelis fu m.1.1 m.1.2 m.2 c.1 c.2.1 ((c.2.2.1.toNat:Nat):Int) c.2.2.2.1.1 c.2.2.2.1.2 c.2.2.2.2.1 c.2.2.2.2.2.1.1 c.2.2.2.2.2.1.2 c.2.2.2.2.2.2.1 c.2.2.2.2.2.2.2.1 c.2.2.2.2.2.2.2.2.1 c.2.2.2.2.2.2.2.2.2 c.1 c.2.1 0 0 0 false 0 false 0).bind fun r11=>
               Empty.elim r11
              else
               bif (c2==(UInt8.ofNat 11)) then
                (mdoeget fu m.1.1 m.1.2 m.2 c.1 c.2.1 ((c.2.2.1.toNat:Nat):Int) c.2.2.2.1.1 c.2.2.2.1.2 c.2.2.2.2.1 c.2.2.2.2.2.1.1 c.2.2.2.2.2.1.2 c.2.2.2.2.2.2.1 c.2.2.2.2.2.2.2.1 c.2.2.2.2.2.2.2.2.1 c.2.2.2.2.2.2.2.2.2 c.1 c.2.1 0 0 0 false 0 false 0).bind fun r12=>
                Empty.elim r12
               else
                bif (c2==(UInt8.ofNat 12)) then
                 (mdoesta fu m.1.1 m.1.2 m.2 c.1 c.2.1 ((c.2.2.1.toNat:Nat):Int) c.2.2.2.1.1 c.2.2.2.1.2 c.2.2.2.2.1 c.2.2.2.2.2.1.1 c.2.2.2.2.2.1.2 c.2.2.2.2.2.2.1 c.2.2.2.2.2.2.2.1 c.2.2.2.2.2.2.2.2.1 c.2.2.2.2.2.2.2.2.2 c.1 c.2.1 0 0 0 false 0 false 0).bind fun r13=>
                 some (r13.1,(m.1.1,(m.1.2,(m.2,(c.1,(c.2.1,(((c.2.2.1.toNat:Nat):Int),(c.2.2.2.1.1,(c.2.2.2.1.2,(c.2.2.2.2.1,(c.2.2.2.2.2.1.1,(c.2.2.2.2.2.1.2,(c.2.2.2.2.2.2.1,(c.2.2.2.2.2.2.2.1,(c.2.2.2.2.2.2.2.2.1,(c.2.2.2.2.2.2.2.2.2,(0,(0,(0,(0,(0,(0,(false,(0,(false,(0,(r13.2.1,(r13.2.2.1,(r13.2.2.2.1,(r13.2.2.2.2.1,(r13.2.2.2.2.2.1,(r13.2.2.2.2.2.2.1,(r13.2.2.2.2.2.2.2.1,(r13.2.2.2.2.2.2.2.2.1,(r13.2.2.2.2.2.2.2.2.2.1,(r13.2.2.2.2.2.2.2.2.2.2.1,(r13.2.2.2.2.2.2.2.2.2.2.2.1,(r13.2.2.2.2.2.2.2.2.2.2.2.2.1,(r13.2.2.2.2.2.2.2.2.2.2.2.2.2.1,(r13.2.2.2.2.2.2.2.2.2.2.2.2.2.2.1,(r13.2.2.2.2.2.2.2.2.2.2.2.2.2.2.2.1,(r13.2.2.2.2.2.2.2.2.2.2.2.2.2.2.2.2.1,(r13.2.2.2.2.2.2.2.2.2.2.2.2.2.2.2.2.2.1,(r13.2.2.2.2.2.2.2.2.2.2.2.2.2.2.2.2.2.2.1,(r13.2.2.2.2.2.2.2.2.2.2.2.2.2.2.2.2.2.2.2.1,(r13.2.2.2.2.2.2.2.2.2.2.2.2.2.2.2.2.2.2.2.2.1,(r13.2.2.2.2.2.2.2.2.2.2.2.2.2.2.2.2.2.2.2.2.2.1,(r13.2.2.2.2.2.2.2.2.2.2.2.2.2.2.2.2.2.2.2.2.2.2.1,(r13.2.2.2.2.2.2.2.2.2.2.2.2.2.2.2.2.2.2.2.2.2.2.2.1,r13.2.2.2.2.2.2.2.2.2.2.2.2.2.2.2.2.2.2.2.2.2.2.2.2)))))))))))))))))))))))))))))))))))))))))))))))))
                else
                 none) fun o=>
    some (o.1,(o.2.1,(o.2.2.1,(o.2.2.2.1,(o.2.2.2.2.1,(o.2.2.2.2.2.1,(o.2.2.2.2.2.2.1,(o.2.2.2.2.2.2.2.1,(o.2.2.2.2.2.2.2.2.1,(o.2.2.2.2.2.2.2.2.2.1,(o.2.2.2.2.2.2.2.2.2.2.1,(o.2.2.2.2.2.2.2.2.2.2.2.1,(o.2.2.2.2.2.2.2.2.2.2.2.2.1,(o.2.2.2.2.2.2.2.2.2.2.2.2.2.1,(o.2.2.2.2.2.2.2.2.2.2.2.2.2.2.1,(o.2.2.2.2.2.2.2.2.2.2.2.2.2.2.2.1,(o.2.2.2.2.2.2.2.2.2.2.2.2.2.2.2.2.1,(o.2.2.2.2.2.2.2.2.2.2.2.2.2.2.2.2.2.1,(o.2.2.2.2.2.2.2.2.2.2.2.2.2.2.2.2.2.2.1,(o.2.2.2.2.2.2.2.2.2.2.2.2.2.2.2.2.2.2.2.1,(o.2.2.2.2.2.2.2.2.2.2.2.2.2.2.2.2.2.2.2.2.1,(o.2.2.2.2.2.2.2.2.2.2.2.2.2.2.2.2.2.2.2.2.2.1,(o.2.2.2.2.2.2.2.2.2.2.2.2.2.2.2.2.2.2.2.2.2.2.1,(o.2.2.2.2.2.2.2.2.2.2.2.2.2.2.2.2.2.2.2.2.2.2.2.1,(o.2.2.2.2.2.2.2.2.2.2.2.2.2.2.2.2.2.2.2.2.2.2.2.2.1,(o.2.2.2.2.2.2.2.2.2.2.2.2.2.2.2.2.2.2.2.2.2.2.2.2.2.1,(o.2.2.2.2.2.2.2.2.2.2.2.2.2.2.2.2.2.2.2.2.2.2.2.2.2.2.1,(o.2.2.2.2.2.2.2.2.2.2.2.2.2.2.2.2.2.2.2.2.2.2.2.2.2.2.2.1,(o.2.2.2.2.2.2.2.2.2.2.2.2.2.2.2.2.2.2.2.2.2.2.2.2.2.2.2.2.1,(o.2.2.2.2.2.2.2.2.2.2.2.2.2.2.2.2.2.2.2.2.2.2.2.2.2.2.2.2.2.1,(o.2.2.2.2.2.2.2.2.2.2.2.2.2.2.2.2.2.2.2.2.2.2.2.2.2.2.2.2.2.2.1,(o.2.2.2.2.2.2.2.2.2.2.2.2.2.2.2.2.2.2.2.2.2.2.2.2.2.2.2.2.2.2.2.1,(o.2.2.2.2.2.2.2.2.2.2.2.2.2.2.2.2.2.2.2.2.2.2.2.2.2.2.2.2.2.2.2.2.1,(o.2.2.2.2.2.2.2.2.2.2.2.2.2.2.2.2.2.2.2.2.2.2.2.2.2.2.2.2.2.2.2.2.2.1,(o.2.2.2.2.2.2.2.2.2.2.2.2.2.2.2.2.2.2.2.2.2.2.2.2.2.2.2.2.2.2.2.2.2.2.1,(o.2.2.2.2.2.2.2.2.2.2.2.2.2.2.2.2.2.2.2.2.2.2.2.2.2.2.2.2.2.2.2.2.2.2.2.1,(o.2.2.2.2.2.2.2.2.2.2.2.2.2.2.2.2.2.2.2.2.2.2.2.2.2.2.2.2.2.2.2.2.2.2.2.2.1,(o.2.2.2.2.2.2.2.2.2.2.2.2.2.2.2.2.2.2.2.2.2.2.2.2.2.2.2.2.2.2.2.2.2.2.2.2.2.1,(o.2.2.2.2.2.2.2.2.2.2.2.2.2.2.2.2.2.2.2.2.2.2.2.2.2.2.2.2.2.2.2.2.2.2.2.2.2.2.1,(o.2.2.2.2.2.2.2.2.2.2.2.2.2.2.2.2.2.2.2.2.2.2.2.2.2.2.2.2.2.2.2.2.2.2.2.2.2.2.2.1,(o.2.2.2.2.2.2.2.2.2.2.2.2.2.2.2.2.2.2.2.2.2.2.2.2.2.2.2.2.2.2.2.2.2.2.2.2.2.2.2.2.1,(o.2.2.2.2.2.2.2.2.2.2.2.2.2.2.2.2.2.2.2.2.2.2.2.2.2.2.2.2.2.2.2.2.2.2.2.2.2.2.2.2.2.1,(o.2.2.2.2.2.2.2.2.2.2.2.2.2.2.2.2.2.2.2.2.2.2.2.2.2.2.2.2.2.2.2.2.2.2.2.2.2.2.2.2.2.2.1,(o.2.2.2.2.2.2.2.2.2.2.2.2.2.2.2.2.2.2.2.2.2.2.2.2.2.2.2.2.2.2.2.2.2.2.2.2.2.2.2.2.2.2.2.1,(o.2.2.2.2.2.2.2.2.2.2.2.2.2.2.2.2.2.2.2.2.2.2.2.2.2.2.2.2.2.2.2.2.2.2.2.2.2.2.2.2.2.2.2.2.1,(o.2.2.2.2.2.2.2.2.2.2.2.2.2.2.2.2.2.2.2.2.2.2.2.2.2.2.2.2.2.2.2.2.2.2.2.2.2.2.2.2.2.2.2.2.2.1,(o.2.2.2.2.2.2.2.2.2.2.2.2.2.2.2.2.2.2.2.2.2.2.2.2.2.2.2.2.2.2.2.2.2.2.2.2.2.2.2.2.2.2.2.2.2.2.1,(o.2.2.2.2.2.2.2.2.2.2.2.2.2.2.2.2.2.2.2.2.2.2.2.2.2.2.2.2.2.2.2.2.2.2.2.2.2.2.2.2.2.2.2.2.2.2.2.1,(o.2.2.2.2.2.2.2.2.2.2.2.2.2.2.2.2.2.2.2.2.2.2.2.2.2.2.2.2.2.2.2.2.2.2.2.2.2.2.2.2.2.2.2.2.2.2.2.2.1,o.2.2.2.2.2.2.2.2.2.2.2.2.2.2.2.2.2.2.2.2.2.2.2.2.2.2.2.2.2.2.2.2.2.2.2.2.2.2.2.2.2.2.2.2.2.2.2.2.2)))))))))))))))))))))))))))))))))))))))))))))))))
   else
    some (179,(m.1.1,(m.1.2,(m.2,(c.1,(c.2.1,(((c.2.2.1.toNat:Nat):Int),(c.2.2.2.1.1,(c.2.2.2.1.2,(c.2.2.2.2.1,(c.2.2.2.2.2.1.1,(c.2.2.2.2.2.1.2,(c.2.2.2.2.2.2.1,(c.2.2.2.2.2.2.2.1,(c.2.2.2.2.2.2.2.2.1,(c.2.2.2.2.2.2.2.2.2,(0,(0,(0,(0,(0,(0,(false,(0,(false,(0,(m.1.1,(m.1.2,(m.2,(c.1,(c.2.1,(((c.2.2.1.toNat:Nat):Int),(c.2.2.2.1.1,(c.2.2.2.1.2,(c.2.2.2.2.1,(c.2.2.2.2.2.1.1,(c.2.2.2.2.2.1.2,(c.2.2.2.2.2.2.1,(c.2.2.2.2.2.2.2.1,(c.2.2.2.2.2.2.2.2.1,(c.2.2.2.2.2.2.2.2.2,(c.1,(c.2.1,(0,(0,(0,(false,(0,(false,0)))))))))))))))))))))))))))))))))))))))))))))))))) fun o1=>
  bif (!(o1.1==0)) then
   (mcop fu (o1.2.1,o1.2.2.1)).bind fun r14=>
   (model_Do_l0_it fu o1 (0,(o1.2.2.2.2.1,(o1.2.2.2.2.2.1,(o1.2.2.2.2.2.2.1,(o1.2.2.2.2.2.2.2.1,(o1.2.2.2.2.2.2.2.2.1,(o1.2.2.2.2.2.2.2.2.2.1,(o1.2.2.2.2.2.2.2.2.2.2.1,(o1.2.2.2.2.2.2.2.2.2.2.2.1,(o1.2.2.2.2.2.2.2.2.2.2.2.2.1,(o1.2.2.2.2.2.2.2.2.2.2.2.2.2.1,(o1.2.2.2.2.2.2.2.2.2.2.2.2.2.2.1,(o1.2.2.2.2.2.2.2.2.2.2.2.2.2.2.2.1,(o1.2.2.2.2.2.2.2.2.2.2.2.2.2.2.2.2.1,(o1.2.2.2.2.2.2.2.2.2.2.2.2.2.2.2.2.2.1,(o1.2.2.2.2.2.2.2.2.2.2.2.2.2.2.2.2.2.2.1,(o1.2.2.2.2.2.2.2.2.2.2.2.2.2.2.2.2.2.2.2.1,(o1.2.2.2.2.2.2.2.2.2.2.2.2.2.2.2.2.2.2.2.2.1,(o1.2.2.2.2.2.2.2.2.2.2.2.2.2.2.2.2.2.2.2.2.2.1,(o1.2.2.2.2.2.2.2.2.2.2.2.2.2.2.2.2.2.2.2.2.2.2.1,(o1.2.2.2.2.2.2.2.2.2.2.2.2.2.2.2.2.2.2.2.2.2.2.2.1,(o1.2.2.2.2.2.2.2.2.2.2.2.2.2.2.2.2.2.2.2.2.2.2.2.2.1,(o1.2.2.2.2.2.2.2.2.2.2.2.2.2.2.2.2.2.2.2.2.2.2.2.2.2.1,(r14.1,(r14.2,[])))))))))))))))))))))))))).bind fun o2=>
   some (o2.2.2.2.2.2.2.2.2.2.2.2.2.2.2.2.2.2.2.2.2.2.2.1,(o2.1,(o2.2.1,(o1.1,(0,(0,(false,(0,(false,(0,(o2.2.2.2.2.2.2.2.2.2.2.2.2.2.2.2.2.2.2.2.2.2.2.2.1,o2.2.2.2.2.2.2.2.2.2.2.2.2.2.2.2.2.2.2.2.2.2.2.2.2)))))))))))
  else
   (mdoemad fu o1.2.2.2.2.2.2.2.2.2.2.2.2.2.2.2.2.2.2.2.2.2.2.2.2.2.2.1 o1.2.2.2.2.2.2.2.2.2.2.2.2.2.2.2.2.2.2.2.2.2.2.2.2.2.2.2.1 o1.2.2.2.2.2.2.2.2.2.2.2.2.2.2.2.2.2.2.2.2.2.2.2.2.2.2.2.2.1 o1.2.2.2.2.2.2.2.2.2.2.2.2.2.2.2.2.2.2.2.2.2.2.2.2.2.2.2.2.2.1 o1.2.2.2.2.2.2.2.2.2.2.2.2.2.2.2.2.2.2.2.2.2.2.2.2.2.2.2.2.2.2.1 o1.2.2.2.2.2.2.2.2.2.2.2.2.2.2.2.2.2.2.2.2.2.2.2.2.2.2.2.2.2.2.2.1 o1.2.2.2.2.2.2.2.2.2.2.2.2.2.2.2.2.2.2.2.2.2.2.2.2.2.2.2.2.2.2.2.2.1 o1.2.2.2.2.2.2.2.2.2.2.2.2.2.2.2.2.2.2.2.2.2.2.2.2.2.2.2.2.2.2.2.2.2.1 o1.2.2.2.2.2.2.2.2.2.2.2.2.2.2.2.2.2.2.2.2.2.2.2.2.2.2.2.2.2.2.2.2.2.2.1 o1.2.2.2.2.2.2.2.2.2.2.2.2.2.2.2.2.2.2.2.2.2.2.2.2.2.2.2.2.2.2.2.2.2.2.2.1 o1.2.2.2.2.2.2.2.2.2.2.2.2.2.2.2.2.2.2.2.2.2.2.2.2.2.2.2.2.2.2.2.2.2.2.2.2.1 o1.2.2.2.2.2.2.2.2.2.2.2.2.2.2.2.2.2.2.2.2.2.2.2.2.2.2.2.2.2.2.2.2.2.2.2.2.2.1 o1.2.2.2.2.2.2.2.2.2.2.2.2.2.2.2.2.2.2.2.2.2.2.2.2.2.2.2.2.2.2.2.2.2.2.2.2.2.2.1 o1.2.2.2.2.2.2.2.2.2.2.2.2.2.2.2.2.2.2.2.2.2.2.2.2.2.2.2.2.2.2.2.2.2.2.2.2.2.2.2.1 o1.2.2.2.2.2.2.2.2.2.2.2.2.2.2.2.2.2.2.2.2.2.2.2.2.2.2.2.2.2.2.2.2.2.2.2.2.2.2.2.2.1 o1.2.2.2.2.2.2.2.2.2.2.2.2.2.2.2.2.2.2.2.2.2.2.2.2.2.2.2.2.2.2.2.2.2.2.2.2.2.2.2.2.2.1 o1.2.2.2.2.2.2.2.2.2.2.2.2.2.2.2.2.2.2.2.2.2.2.2.2.2.2.2.2.2.2.2.2.2.2.2.2.2.2.2.2.2.2.1 o1.2.2.2.2.2.2.2.2.2.2.2.2.2.2.2.2.2.2.2.2.2.2.2.2.2.2.2.2.2.2.2.2.2.2.2.2.2.2.2.2.2.2.2.1 o1.2.2.2.2.2.2.2.2.2.2.2.2.2.2.2.2.2.2.2.2.2.2.2.2.2.2.2.2.2.2.2.2.2.2.2.2.2.2.2.2.2.2.2.2.1 o1.2.2.2.2.2.2.2.2.2.2.2.2.2.2.2.2.2.2.2.2.2.2.2.2.2.2.2.2.2.2.2.2.2.2.2.2.2.2.2.2.2.2.2.2.2.1 o1.2.2.2.2.2.2.2.2.2.2.2.2.2.2.2.2.2.2.2.2.2.2.2.2.2.2.2.2.2.2.2.2.2.2.2.2.2.2.2.2.2.2.2.2.2.2.1 o1.2.2.2.2.2.2.2.2.2.2.2.2.2.2.2.2.2.2.2.2.2.2.2.2.2.2.2.2.2.2.2.2.2.2.2.2.2.2.2.2.2.2.2.2.2.2.2.1 o1.2.2.2.2.2.2.2.2.2.2.2.2.2.2.2.2.2.2.2.2.2.2.2.2.2.2.2.2.2.2.2.2.2.2.2.2.2.2.2.2.2.2.2.2.2.2.2.2.1 o1.2.2.2.2.2.2.2.2.2.2.2.2.2.2.2.2.2.2.2.2.2.2.2.2.2.2.2.2.2.2.2.2.2.2.2.2.2.2.2.2.2.2.2.2.2.2.2.2.2).bind fun r17=>
   some (r17.1,(o1.2.2.2.2.2.2.2.2.2.2.2.2.2.2.2.2.2.2.2.2.2.2.2.2.2.2.2.2.2.2.2.2.2.2.2.2.2.2.2.2.2.1,(o1.2.2.2.2.2.2.2.2.2.2.2.2.2.2.2.2.2.2.2.2.2.2.2.2.2.2.2.2.2.2.2.2.2.2.2.2.2.2.2.2.2.2.1,(o1.2.2.2.2.2.2.2.2.2.2.2.2.2.2.2.2.2.2.2.2.2.2.2.2.2.2.2.2.2.2.2.2.2.2.2.2.2.2.2.2.2.2.2.1,(o1.2.2.2.2.2.2.2.2.2.2.2.2.2.2.2.2.2.2.2.2.2.2.2.2.2.2.2.2.2.2.2.2.2.2.2.2.2.2.2.2.2.2.2.2.1,(o1.2.2.2.2.2.2.2.2.2.2.2.2.2.2.2.2.2.2.2.2.2.2.2.2.2.2.2.2.2.2.2.2.2.2.2.2.2.2.2.2.2.2.2.2.2.1,(o1.2.2.2.2.2.2.2.2.2.2.2.2.2.2.2.2.2.2.2.2.2.2.2.2.2.2.2.2.2.2.2.2.2.2.2.2.2.2.2.2.2.2.2.2.2.2.1,(o1.2.2.2.2.2.2.2.2.2.2.2.2.2.2.2.2.2.2.2.2.2.2.2.2.2.2.2.2.2.2.2.2.2.2.2.2.2.2.2.2.2.2.2.2.2.2.2.1,(o1.2.2.2.2.2.2.2.2.2.2.2.2.2.2.2.2.2.2.2.2.2.2.2.2.2.2.2.2.2.2.2.2.2.2.2.2.2.2.2.2.2.2.2.2.2.2.2.2.1,(o1.2.2.2.2.2.2.2.2.2.2.2.2.2.2.2.2.2.2.2.2.2.2.2.2.2.2.2.2.2.2.2.2.2.2.2.2.2.2.2.2.2.2.2.2.2.2.2.2.2,(r17.2.2.2.2.2.2.2.2.2.2.2.2.2.2.2.2.2.2.2.2.2.2.2.2.2.1,r17.2.2.2.2.2.2.2.2.2.2.2.2.2.2.2.2.2.2.2.2.2.2.2.2.2.2)))))))))))
 else
  (mcop fu (m.1.1,m.1.2)).bind fun r18=>
  (model_Do_l1_it fu m (0,(c.1,(c.2.1,(((c.2.2.1.toNat:Nat):Int),(c.2.2.2.1.1,(c.2.2.2.1.2,(c.2.2.2.2.1,(c.2.2.2.2.2.1.1,(c.2.2.2.2.2.1.2,(c.2.2.2.2.2.2.1,(c.2.2.2.2.2.2.2.1,(c.2.2.2.2.2.2.2.2.1,(c.2.2.2.2.2.2.2.2.2,(0,(0,(0,(0,(0,(0,(false,(0,(false,(0,(r18.1,(r18.2,[])))))))))))))))))))))))))).bind fun o3=>
  some (o3.2.2.2.2.2.2.2.2.2.2.2.2.2.2.2.2.2.2.2.2.2.2.1,(o3.1,(o3.2.1,(180,(0,(0,(false,(0,(false,(0,(o3.2.2.2.2.2.2.2.2.2.2.2.2.2.2.2.2.2.2.2.2.2.2.2.1,o3.2.2.2.2.2.2.2.2.2.2.2.2.2.2.2.2.2.2.2.2.2.2.2.2)))))))))))
def model_Do_fa:FnA:=⟨.two (.reg [(0,{ids:=[100]}),(1,{ids:=[101]}),(2,{ids:=[102]}),(3,{ids:=[103]})]) (.two (.reg [(11,{ids:=[104]})]) (.two (.reg [(0,{ids:=[105]})]) (.two (.leaf) (.two (.two (.reg [(1,{})]) (.leaf)) (.two (.two (.reg [(4,{fn:=1})]) (.join ⟨[2,3,4,5,6,8],⟨(.cons (.own 0 100 0 0) (.cons (.own 0 101 0 0) (.cons (.own 0 102 0 0) (.cons (.own 0 103 0 0) (.cons (.own 0 104 0 0) qL9))))),[(100,false,(.vars qL36)),(101,false,qB17),(102,false,(.vars qL25)),(103,false,(.vars qL24)),(104,false,qB4)]⟩⟩ false [] (.two (.join ⟨[2,3,4,5,6,8],⟨(.cons (.own 0 100 0 0) (.cons (.own 0 101 0 0) (.cons (.own 0 102 0 0) (.cons (.own 0 103 0 0) (.cons (.own 0 104 0 0) qL9))))),[(100,false,(.vars qL36)),(101,false,qB17),(102,false,(.vars qL25)),(103,false,(.vars qL24)),(104,false,qB4)]⟩⟩ false [] (.reg [(4,{sh:=[104],fn:=2})])) (.leaf)))) (.two (.two (.leaf) (.two (.two (.reg [(2,{ids:=[106],fn:=12}),(4,{ids:=[107]})]) (.two (.two (.leaf) (.one (.pre (.ownCell 107 2 25 108) (.loop ⟨[3,4,5,9,72],⟨(.cons (.own 0 101 0 0) (.cons (.own 0 102 0 0) (.cons (.own 0 103 0 0) (.cons (.own 0 107 0 0) qL9)))),[(101,false,qB17),(102,false,(.vars qL25)),(103,false,(.vars qL24)),(107,false,(.vars (.cons (.slf 8 106) (.cons (.p (.int .i64)) (.cons (.slf 1 108) .nil))))),(106,false,(.rows 103 qY2)),(108,false,(.rows 25 (.sl .byte)))]⟩⟩ false [(0,⟨[3,4,5,9],⟨(.cons (.own 0 101 0 0) (.cons (.own 0 102 0 0) (.cons (.own 0 103 0 0) (.cons (.own 0 107 0 0) .nil)))),[(101,false,qB17),(102,false,(.vars qL25)),(103,false,(.vars qL24)),(107,false,(.vars (.cons (.slf 8 106) (.cons (.p (.int .i64)) (.cons (.slf 1 108) .nil))))),(106,false,(.rows 103 qY2)),(108,false,(.rows 25 (.sl .byte)))]⟩⟩)] (.two (.leaf) (.two (.leaf) (.two (.one (.two (.leaf) (.reg [(3,{ids:=[109],fn:=13}),(4,{ids:=[110]}),(5,{ids:=[111]})]))) (.leaf)))))))) (.leaf))) (.leaf))) (.two (.pre (.frzB 104) (.reg [(1,{ids:=[112,113],sh:=[104],fn:=14})])) (.leaf)))))))),⟨(.cons (.p (.pair qY43 (.sl (.sl .byte)))) (.cons (.p (.pair (.int .i64) (.pair (.int .i64) (.pair .byte (.pair qY32 (.pair .str (.pair qY32 (.pair .str (.pair (.int .i64) (.pair (.int .i64) (.sl .byte))))))))))) .nil)),[]⟩,[⟨(.cons (.agg (.cons (.slf 8 0) (.cons (.p (.int .i64)) (.cons (.slf 1 1) .nil)))) (.cons (.agg qL24) .nil)),[(0,false,(.rows 103 qY2)),(1,false,(.rows 25 (.sl .byte)))]⟩],[0,0]⟩
def model_Do_ft(fu:Nat):FnT:=⟨42,model_Do_fa.i,model_Do_fa.os,fun t=>model_Do fu t.1 t.2⟩
theorem hIZ(fu:Nat):∀t,evF Go.Proofs.Tryz.prog [mRig_ft fu,cRigCal_ft fu,mdoeloo_ft fu,mdoemak_ft fu,mdoerea_ft fu,mdoewri_ft fu,mdoesiz_ft fu,mdoerem_ft fu,mdoeren_ft fu,mdoelis_ft fu,mdoeget_ft fu,mdoesta_ft fu,mcop_ft fu,sClo4_ft fu,mdoemad_ft fu] fu Go.Proofs.Tryz.f42 model_Do_fa t=(model_Do_ft fu).spec t:=fun t=>by kernel_rfl
theorem faZ(fu:Nat):Told Go.Proofs.Tryz.prog (model_Do_ft fu):=afZ (aaZ (jTZ fu) (aaZ (dtZ fu) (aaZ (goZ fu) (aaZ (fTZ fu) (aaZ (ggZ fu) (aaZ (gqZ fu) (aaZ (gEZ fu) (aaZ (gZZ fu) (aaZ (fNZ fu) (aaZ (g1Z fu) (aaZ (glZ fu) (aaZ (gGZ fu) (aaZ (gRZ fu) (aaZ (eNZ fu) (aaZ (fWZ fu) acZ))))))))))))))) mixed Go.Proofs.Tryz.func42 (by kernel_rfl) (by kernel_rfl) (hIZ fu)
def bEqu(fu:Nat)(a:List (UInt8))(b:List (UInt8)):Option (Bool):=
 some (a==b)
def bEqu_fa:FnA:=⟨.two (.leaf) (.leaf),⟨(.cons (.p (.sl .byte)) (.cons (.p (.sl .byte)) .nil)),[]⟩,[⟨(.cons (.p .bool) .nil),[]⟩],[0]⟩
def bEqu_ft(fu:Nat):FnT:=⟨56,bEqu_fa.i,bEqu_fa.os,fun t=>bEqu fu t.1 t.2⟩
theorem mnZ(fu:Nat):∀t,evF Go.Proofs.Tryz.prog [] fu Go.Proofs.Tryz.f56 bEqu_fa t=(bEqu_ft fu).spec t:=fun t=>by kernel_rfl
theorem g9Z(fu:Nat):Told Go.Proofs.Tryz.prog (bEqu_ft fu):=afZ acZ mixed Go.Proofs.Tryz.func56 (by kernel_rfl) (by kernel_rfl) (mnZ fu)
def sEqu_l0(fu:Nat)(s1:List ((List UInt8×Int)))(s2:List ((List UInt8×Int)))(x:Int):Option (Int⊕(Unit⊕Bool)):=
 bif (decide (x<((s1.length:Nat):Int))) then
  (idx? x s1.length).bind fun q=>
  (s1)[q]?.bind fun r=>
  (idx? x s2.length).bind fun q1=>
  (s2)[q1]?.bind fun r1=>
  bif (!((r.1==r1.1)&&(r.2==r1.2))) then
   some (.inr (.inr false))
  else
   some (.inl (IntKind.wrap .i64 (x+1)))
 else
  some (.inr (.inl ()))
def sEqu_l0_it(fu:Nat)(s1:List ((List UInt8×Int)))(s2:List ((List UInt8×Int)))(tt:Int):Option (Unit⊕Bool):=
 iter fu (fun tt=>sEqu_l0 fu s1 s2 tt) tt
def sEqu(fu:Nat)(s1:List ((List UInt8×Int)))(s2:List ((List UInt8×Int))):Option (Bool):=
 bif (!(((s1.length:Nat):Int)==((s2.length:Nat):Int))) then
  some false
 else
  (sEqu_l0_it fu s1 s2 0).bind fun o=>
  match o with
  |.inl s=>
   some true
  |.inr o1=>
   some o1
def sEqu_fa:FnA:=⟨.two (.leaf) (.two (.two (.leaf) (.two (.leaf) (.leaf))) (.two (.two (.leaf) (.one (.loop ⟨[13],⟨qL9,[]⟩⟩ true [(0,⟨[],⟨.nil,[]⟩⟩)] (.two (.leaf) (.two (.leaf) (.two (.one (.two (.leaf) (.two (.leaf) (.two (.leaf) (.leaf))))) (.leaf))))))) (.leaf))),⟨(.cons (.p (.sl (.pair .str (.int .i64)))) (.cons (.p (.sl (.pair .str (.int .i64)))) .nil)),[]⟩,[⟨(.cons (.p .bool) .nil),[]⟩],[0]⟩
def sEqu_ft(fu:Nat):FnT:=⟨89,sEqu_fa.i,sEqu_fa.os,fun t=>sEqu fu t.1 t.2⟩
theorem mIZ(fu:Nat):∀t,evF Go.Proofs.Tryz.prog [] fu Go.Proofs.Tryz.f89 sEqu_fa t=(sEqu_ft fu).spec t:=fun t=>by kernel_rfl
theorem gxZ(fu:Nat):Told Go.Proofs.Tryz.prog (sEqu_ft fu):=afZ acZ mixed Go.Proofs.Tryz.func89 (by kernel_rfl) (by kernel_rfl) (mIZ fu)
def lsam(fu:Nat)(a:qT42)(b:qT42):Option (Bool):=
 bif (a.1==b.1) then
  bif (a.2.1==b.2.1) then
   bif (a.2.2.1==b.2.2.1) then
    bif ((a.2.2.2.1.1==b.2.2.2.1.1)&&(a.2.2.2.1.2==b.2.2.2.1.2)) then
     bif (a.2.2.2.2.1==b.2.2.2.2.1) then
      bif (a.2.2.2.2.2.1==b.2.2.2.2.2.1) then
       (bEqu fu a.2.2.2.2.2.2.1 b.2.2.2.2.2.2.1).bind fun r=>
       bif r then
        (sEqu fu a.2.2.2.2.2.2.2.1 b.2.2.2.2.2.2.2.1).bind fun r1=>
        bif r1 then
         bif (a.2.2.2.2.2.2.2.2.1==b.2.2.2.2.2.2.2.2.1) then
          some (a.2.2.2.2.2.2.2.2.2==b.2.2.2.2.2.2.2.2.2)
         else
          some false
        else
         some false
       else
        some false
      else
       some false
     else
      some false
    else
     some false
   else
    some false
  else
   some false
 else
  some false
def lsam_fa:FnA:=⟨.two (.reg [(0,{ids:=[100]}),(1,{ids:=[101]})]) (.two (.reg [(45,{}),(52,{fn:=1})]) (.leaf)),⟨(.cons (.p qY27) (.cons (.p qY27) .nil)),[]⟩,[⟨(.cons (.p .bool) .nil),[]⟩],[0]⟩
def lsam_ft(fu:Nat):FnT:=⟨48,lsam_fa.i,lsam_fa.os,fun t=>lsam fu t.1 t.2⟩
theorem m8Z(fu:Nat):∀t,evF Go.Proofs.Tryz.prog [bEqu_ft fu,sEqu_ft fu] fu Go.Proofs.Tryz.f48 lsam_fa t=(lsam_ft fu).spec t:=fun t=>by kernel_rfl
theorem kgZ(fu:Nat):Told Go.Proofs.Tryz.prog (lsam_ft fu):=afZ (aaZ (g9Z fu) (aaZ (gxZ fu) acZ)) mixed Go.Proofs.Tryz.func48 (by kernel_rfl) (by kernel_rfl) (m8Z fu)
def sClo5(fu:Nat)(s:List (Bool)):Option (List (Bool)):=
 nilQ s.length fun isNil=>
 bif isNil then
  some []
 else
  need ((Nat.ble ((0+s.length)*1) room)&&(Nat.ble (0+s.length) room))<|
  some s
def sClo5_fa:FnA:=⟨.two (.leaf) (.two (.two (.leaf) (.two (.leaf) (.leaf))) (.two (.reg [(0,{ids:=[100]}),(2,{ids:=[101]})]) (.leaf))),⟨(.cons (.p (.sl .bool)) .nil),[]⟩,[⟨(.cons (.slf 1 0) .nil),[(0,false,(.rows 4 .bool))]⟩],[14]⟩
def sClo5_ft(fu:Nat):FnT:=⟨49,sClo5_fa.i,sClo5_fa.os,fun t=>sClo5 fu t⟩
theorem lpZ(fu:Nat):∀t,evF Go.Proofs.Tryz.prog [] fu Go.Proofs.Tryz.f49 sClo5_fa t=(sClo5_ft fu).spec t:=fun t=>by kernel_rfl
theorem j1Z(fu:Nat):Told Go.Proofs.Tryz.prog (sClo5_ft fu):=afZ acZ mixed Go.Proofs.Tryz.func49 (by kernel_rfl) (by kernel_rfl) (lpZ fu)
def lstanex(fu:Nat)(s:qT7)(l:List (qT1))(i:Int):Option ((List (Bool)×(List (qT0)×(Int×(List (List (UInt8))×Bool))))):=
 (lmay fu l s.1 i).bind fun r=>
 bif (!r) then
  some (s.1,(s.2.1.1,(s.2.1.2,(s.2.2,false))))
 else
  (idx? i l.length).bind fun q=>
  (l)[q]?.bind fun r1=>
  (model_Do fu s.2 r1.1).bind fun r2=>
  Option.bind (α:=((Bool×(List (Bool)×(List (qT0)×(Int×(List (List (UInt8))×(Int×(Int×(List (qT0)×List (List (UInt8)))))))))))) (
   (idx? i l.length).bind fun q1=>
   (l)[q1]?.bind fun r3=>
   bif (decide (r3.2.2.2>0)) then
    (idx? i l.length).bind fun q2=>
    (l)[q2]?.bind fun r4=>
    (lsam fu (r2.2.1,(r2.2.2.1,(r2.2.2.2.1,((r2.2.2.2.2.1,r2.2.2.2.2.2.1),(r2.2.2.2.2.2.2.1,(r2.2.2.2.2.2.2.2.1,([],([],(r2.2.2.2.2.2.2.2.2.1,r2.2.2.2.2.2.2.2.2.2.1))))))))) r4.2.1).bind fun r5=>
    some ((!r5),(s.1,(s.2.1.1,(s.2.1.2,(s.2.2,(0,(r2.1,r2.2.2.2.2.2.2.2.2.2.2)))))))
   else
    some (false,(s.1,(s.2.1.1,(s.2.1.2,(s.2.2,(0,(r2.1,r2.2.2.2.2.2.2.2.2.2.2)))))))) fun o=>
  bif o.1 then
   some (o.2.1,(o.2.2.1,(o.2.2.2.1,(o.2.2.2.2.1,false))))
  else
   (sClo5 fu o.2.1).bind fun r6=>
   (idx? i r6.length).bind fun q3=>
   (r6)[q3]?.bind fun r7=>
   some ((List.set r6 q3 true),(o.2.2.2.2.2.2.2.1,(o.2.2.2.2.2.2.1,(o.2.2.2.2.2.2.2.2,true))))
def lstanex_fa:FnA:=⟨.two (.reg [(0,{ids:=[100]}),(1,{ids:=[101]})]) (.two (.two (.reg [(4,{})]) (.two (.leaf) (.leaf))) (.two (.reg [(7,{ids:=[102,103],fn:=1}),(11,{ids:=[104]}),(12,{ids:=[105]})]) (.two (.two (.join ⟨[3,6,8,44],⟨(.cons (.own 0 100 0 0) (.cons (.own 0 101 0 0) (.cons (.own 0 104 0 0) (.cons (.p .bool) .nil)))),[(100,false,qB15),(101,false,(.vars (.cons (.nilp (.slice none 0 0)) qL25))),(104,false,(.vars (.cons (.slf 8 102) (.cons (.p (.int .i64)) (.cons (.slf 1 103) .nil))))),(102,false,(.rows 103 qY2)),(103,false,(.rows 25 (.sl .byte)))]⟩⟩ false [] (.reg [(13,{fn:=2})])) (.two (.leaf) (.leaf))) (.two (.reg [(2,{ids:=[106],fn:=3})]) (.two (.leaf) (.leaf)))))),⟨(.cons (.p qY18) (.cons (.p (.sl qY3)) qL9)),[]⟩,[⟨(.cons (.agg (.cons (.p (.sl .bool)) qL36)) (.cons (.p .bool) .nil)),[]⟩],[1,0]⟩
def lstanex_ft(fu:Nat):FnT:=⟨25,lstanex_fa.i,lstanex_fa.os,fun t=>lstanex fu t.1 t.2.1 t.2.2⟩
theorem iHZ(fu:Nat):∀t,evF Go.Proofs.Tryz.prog [lmay_ft fu,model_Do_ft fu,lsam_ft fu,sClo5_ft fu] fu Go.Proofs.Tryz.f25 lstanex_fa t=(lstanex_ft fu).spec t:=fun t=>by kernel_rfl
theorem duZ(fu:Nat):Told Go.Proofs.Tryz.prog (lstanex_ft fu):=afZ (aaZ (jUZ fu) (aaZ (faZ fu) (aaZ (kgZ fu) (aaZ (j1Z fu) acZ)))) mixed Go.Proofs.Tryz.func25 (by kernel_rfl) (by kernel_rfl) (iHZ fu)
def sEqu3_l0(fu:Nat)(s1:List (Bool))(s2:List (Bool))(x:Int):Option (Int⊕(Unit⊕Bool)):=
 bif (decide (x<((s1.length:Nat):Int))) then
  (idx? x s1.length).bind fun q=>
  (s1)[q]?.bind fun r=>
  (idx? x s2.length).bind fun q1=>
  (s2)[q1]?.bind fun r1=>
  bif (!(r==r1)) then
   some (.inr (.inr false))
  else
   some (.inl (IntKind.wrap .i64 (x+1)))
 else
  some (.inr (.inl ()))
def sEqu3_l0_it(fu:Nat)(s1:List (Bool))(s2:List (Bool))(tt:Int):Option (Unit⊕Bool):=
 iter fu (fun tt=>sEqu3_l0 fu s1 s2 tt) tt
def sEqu3(fu:Nat)(s1:List (Bool))(s2:List (Bool)):Option (Bool):=
 bif (!(((s1.length:Nat):Int)==((s2.length:Nat):Int))) then
  some false
 else
  (sEqu3_l0_it fu s1 s2 0).bind fun o=>
  match o with
  |.inl s=>
   some true
  |.inr o1=>
   some o1
def sEqu3_fa:FnA:=⟨.two (.leaf) (.two (.two (.leaf) (.two (.leaf) (.leaf))) (.two (.two (.leaf) (.one (.loop ⟨[13],⟨qL9,[]⟩⟩ true [(0,⟨[],⟨.nil,[]⟩⟩)] (.two (.leaf) (.two (.leaf) (.two (.one (.two (.leaf) (.two (.leaf) (.two (.leaf) (.leaf))))) (.leaf))))))) (.leaf))),⟨(.cons (.p (.sl .bool)) (.cons (.p (.sl .bool)) .nil)),[]⟩,[⟨(.cons (.p .bool) .nil),[]⟩],[0]⟩
def sEqu3_ft(fu:Nat):FnT:=⟨52,sEqu3_fa.i,sEqu3_fa.os,fun t=>sEqu3 fu t.1 t.2⟩
theorem lIZ(fu:Nat):∀t,evF Go.Proofs.Tryz.prog [] fu Go.Proofs.Tryz.f52 sEqu3_fa t=(sEqu3_ft fu).spec t:=fun t=>by kernel_rfl
theorem i1Z(fu:Nat):Told Go.Proofs.Tryz.prog (sEqu3_ft fu):=afZ acZ mixed Go.Proofs.Tryz.func52 (by kernel_rfl) (by kernel_rfl) (lIZ fu)
def sEqu2_l0(fu:Nat)(s1:List ((Int×Int)))(s2:List ((Int×Int)))(x:Int):Option (Int⊕(Unit⊕Bool)):=
 bif (decide (x<((s1.length:Nat):Int))) then
  (idx? x s1.length).bind fun q=>
  (s1)[q]?.bind fun r=>
  (idx? x s2.length).bind fun q1=>
  (s2)[q1]?.bind fun r1=>
  bif (!((r.1==r1.1)&&(r.2==r1.2))) then
   some (.inr (.inr false))
  else
   some (.inl (IntKind.wrap .i64 (x+1)))
 else
  some (.inr (.inl ()))
def sEqu2_l0_it(fu:Nat)(s1:List ((Int×Int)))(s2:List ((Int×Int)))(tt:Int):Option (Unit⊕Bool):=
 iter fu (fun tt=>sEqu2_l0 fu s1 s2 tt) tt
def sEqu2(fu:Nat)(s1:List ((Int×Int)))(s2:List ((Int×Int))):Option (Bool):=
 bif (!(((s1.length:Nat):Int)==((s2.length:Nat):Int))) then
  some false
 else
  (sEqu2_l0_it fu s1 s2 0).bind fun o=>
  match o with
  |.inl s=>
   some true
  |.inr o1=>
   some o1
def sEqu2_fa:FnA:=⟨.two (.leaf) (.two (.two (.leaf) (.two (.leaf) (.leaf))) (.two (.two (.leaf) (.one (.loop ⟨[13],⟨qL9,[]⟩⟩ true [(0,⟨[],⟨.nil,[]⟩⟩)] (.two (.leaf) (.two (.leaf) (.two (.one (.two (.leaf) (.two (.leaf) (.two (.leaf) (.leaf))))) (.leaf))))))) (.leaf))),⟨(.cons (.p (.sl qY32)) (.cons (.p (.sl qY32)) .nil)),[]⟩,[⟨(.cons (.p .bool) .nil),[]⟩],[0]⟩
def sEqu2_ft(fu:Nat):FnT:=⟨90,sEqu2_fa.i,sEqu2_fa.os,fun t=>sEqu2 fu t.1 t.2⟩
theorem lCZ(fu:Nat):∀t,evF Go.Proofs.Tryz.prog [] fu Go.Proofs.Tryz.f90 sEqu2_fa t=(sEqu2_ft fu).spec t:=fun t=>by kernel_rfl
theorem jnZ(fu:Nat):Told Go.Proofs.Tryz.prog (sEqu2_ft fu):=afZ acZ mixed Go.Proofs.Tryz.func90 (by kernel_rfl) (by kernel_rfl) (lCZ fu)
def lsamIno(fu:Nat)(a:qT0)(b:qT0):Option (Bool):=
 bif (a.1==b.1) then
  bif (a.2.1==b.2.1) then
   bif (a.2.2.1==b.2.2.1) then
    bif (a.2.2.2.1==b.2.2.2.1) then
     bif (a.2.2.2.2.1==b.2.2.2.2.1) then
      bif (a.2.2.2.2.2.2.1==b.2.2.2.2.2.2.1) then
       (sEqu2 fu a.2.2.2.2.2.1 b.2.2.2.2.2.1).bind fun r=>
       bif r then
        (sEqu fu a.2.2.2.2.2.2.2 b.2.2.2.2.2.2.2).bind fun r1=>
        some r1
       else
        some false
      else
       some false
     else
      some false
    else
     some false
   else
    some false
  else
   some false
 else
  some false
def lsamIno_fa:FnA:=⟨.two (.reg [(0,{ids:=[100]}),(1,{ids:=[101]})]) (.two (.reg [(45,{}),(52,{fn:=1})]) (.leaf)),⟨(.cons (.p qY2) (.cons (.p qY2) .nil)),[]⟩,[⟨(.cons (.p .bool) .nil),[]⟩],[0]⟩
def lsamIno_ft(fu:Nat):FnT:=⟨54,lsamIno_fa.i,lsamIno_fa.os,fun t=>lsamIno fu t.1 t.2⟩
theorem iIZ(fu:Nat):∀t,evF Go.Proofs.Tryz.prog [sEqu2_ft fu,sEqu_ft fu] fu Go.Proofs.Tryz.f54 lsamIno_fa t=(lsamIno_ft fu).spec t:=fun t=>by kernel_rfl
theorem gIZ(fu:Nat):Told Go.Proofs.Tryz.prog (lsamIno_ft fu):=afZ (aaZ (jnZ fu) (aaZ (gxZ fu) acZ)) mixed Go.Proofs.Tryz.func54 (by kernel_rfl) (by kernel_rfl) (iIZ fu)
def sEquFun_l0(fu:Nat)(s1:List (qT0))(s2:List (qT0))(x:Int):Option (Int⊕(Unit⊕Bool)):=
 bif (decide (x<((s1.length:Nat):Int))) then
  (idx? x s1.length).bind fun q=>
  (s1)[q]?.bind fun r=>
  (idx? x s2.length).bind fun q1=>
  (s2)[q1]?.bind fun r1=>
  (lsamIno fu (r.1,(r.2.1,(r.2.2.1,(r.2.2.2.1,(r.2.2.2.2.1,(r.2.2.2.2.2.1,(r.2.2.2.2.2.2.1,r.2.2.2.2.2.2.2))))))) (r1.1,(r1.2.1,(r1.2.2.1,(r1.2.2.2.1,(r1.2.2.2.2.1,(r1.2.2.2.2.2.1,(r1.2.2.2.2.2.2.1,r1.2.2.2.2.2.2.2)))))))).bind fun r2=>
  bif (!r2) then
   some (.inr (.inr false))
  else
   some (.inl (IntKind.wrap .i64 (x+1)))
 else
  some (.inr (.inl ()))
def sEquFun_l0_it(fu:Nat)(s1:List (qT0))(s2:List (qT0))(tt:Int):Option (Unit⊕Bool):=
 iter fu (fun tt=>sEquFun_l0 fu s1 s2 tt) tt
def sEquFun(fu:Nat)(s1:List (qT0))(s2:List (qT0)):Option (Bool):=
 bif (!(((s1.length:Nat):Int)==((s2.length:Nat):Int))) then
  some false
 else
  (sEquFun_l0_it fu s1 s2 0).bind fun o=>
  match o with
  |.inl s=>
   some true
  |.inr o1=>
   some o1
def sEquFun_fa:FnA:=⟨.two (.leaf) (.two (.two (.leaf) (.two (.leaf) (.leaf))) (.two (.two (.leaf) (.one (.loop ⟨[17],⟨qL9,[]⟩⟩ true [(0,⟨[],⟨.nil,[]⟩⟩)] (.two (.leaf) (.two (.leaf) (.two (.one (.two (.reg [(3,{ids:=[100]})]) (.two (.reg [(4,{ids:=[101]})]) (.two (.reg [(3,{})]) (.two (.leaf) (.leaf)))))) (.leaf))))))) (.leaf))),⟨(.cons (.p (.sl qY2)) (.cons (.p (.sl qY2)) (.cons (.fn 54 .nil .nil) .nil))),[]⟩,[⟨(.cons (.p .bool) .nil),[]⟩],[0]⟩
def sEquFun_ft(fu:Nat):FnT:=⟨53,sEquFun_fa.i,sEquFun_fa.os,fun t=>sEquFun fu t.1 t.2⟩
theorem jsZ(fu:Nat):∀t,evF Go.Proofs.Tryz.prog [lsamIno_ft fu] fu Go.Proofs.Tryz.f53 sEquFun_fa t=(sEquFun_ft fu).spec t:=fun t=>by kernel_rfl
theorem fOZ(fu:Nat):Told Go.Proofs.Tryz.prog (sEquFun_ft fu):=afZ (aaZ (gIZ fu) acZ) mixed Go.Proofs.Tryz.func53 (by kernel_rfl) (by kernel_rfl) (jsZ fu)
def sEquFun2_l0(fu:Nat)(s1:List (List (UInt8)))(s2:List (List (UInt8)))(x:Int):Option (Int⊕(Unit⊕Bool)):=
 bif (decide (x<((s1.length:Nat):Int))) then
  (idx? x s1.length).bind fun q=>
  (s1)[q]?.bind fun r=>
  (idx? x s2.length).bind fun q1=>
  (s2)[q1]?.bind fun r1=>
  (bEqu fu r r1).bind fun r2=>
  bif (!r2) then
   some (.inr (.inr false))
  else
   some (.inl (IntKind.wrap .i64 (x+1)))
 else
  some (.inr (.inl ()))
def sEquFun2_l0_it(fu:Nat)(s1:List (List (UInt8)))(s2:List (List (UInt8)))(tt:Int):Option (Unit⊕Bool):=
 iter fu (fun tt=>sEquFun2_l0 fu s1 s2 tt) tt
def sEquFun2(fu:Nat)(s1:List (List (UInt8)))(s2:List (List (UInt8))):Option (Bool):=
 bif (!(((s1.length:Nat):Int)==((s2.length:Nat):Int))) then
  some false
 else
  (sEquFun2_l0_it fu s1 s2 0).bind fun o=>
  match o with
  |.inl s=>
   some true
  |.inr o1=>
   some o1
def sEquFun2_fa:FnA:=⟨.two (.leaf) (.two (.two (.leaf) (.two (.leaf) (.leaf))) (.two (.two (.leaf) (.one (.loop ⟨[17],⟨qL9,[]⟩⟩ true [(0,⟨[],⟨.nil,[]⟩⟩)] (.two (.leaf) (.two (.leaf) (.two (.one (.two (.leaf) (.two (.leaf) (.two (.reg [(3,{})]) (.two (.leaf) (.leaf)))))) (.leaf))))))) (.leaf))),⟨(.cons (.p (.sl (.sl .byte))) (.cons (.p (.sl (.sl .byte))) (.cons (.fn 56 .nil .nil) .nil))),[]⟩,[⟨(.cons (.p .bool) .nil),[]⟩],[0]⟩
def sEquFun2_ft(fu:Nat):FnT:=⟨55,sEquFun2_fa.i,sEquFun2_fa.os,fun t=>sEquFun2 fu t.1 t.2⟩
theorem hCZ(fu:Nat):∀t,evF Go.Proofs.Tryz.prog [bEqu_ft fu] fu Go.Proofs.Tryz.f55 sEquFun2_fa t=(sEquFun2_ft fu).spec t:=fun t=>by kernel_rfl
theorem frZ(fu:Nat):Told Go.Proofs.Tryz.prog (sEquFun2_ft fu):=afZ (aaZ (g9Z fu) acZ) mixed Go.Proofs.Tryz.func55 (by kernel_rfl) (by kernel_rfl) (hCZ fu)
def lequ(fu:Nat)(a:qT7)(b:qT7):Option (Bool):=
 (sEqu3 fu a.1 b.1).bind fun r=>
 bif r then
  bif (a.2.1.2==b.2.1.2) then
   (sEquFun fu a.2.1.1 b.2.1.1).bind fun r1=>
   bif r1 then
    (sEquFun2 fu a.2.2 b.2.2).bind fun r2=>
    some r2
   else
    some false
  else
   some false
 else
  some false
def lequ_fa:FnA:=⟨.two (.reg [(0,{ids:=[100]}),(1,{ids:=[101]})]) (.two (.reg [(4,{}),(25,{fn:=1}),(34,{fn:=2})]) (.leaf)),⟨(.cons (.p qY18) (.cons (.p qY18) .nil)),[]⟩,[⟨(.cons (.p .bool) .nil),[]⟩],[0]⟩
def lequ_ft(fu:Nat):FnT:=⟨30,lequ_fa.i,lequ_fa.os,fun t=>lequ fu t.1 t.2⟩
theorem naZ(fu:Nat):∀t,evF Go.Proofs.Tryz.prog [sEqu3_ft fu,sEquFun_ft fu,sEquFun2_ft fu] fu Go.Proofs.Tryz.f30 lequ_fa t=(lequ_ft fu).spec t:=fun t=>by kernel_rfl
theorem klZ(fu:Nat):Told Go.Proofs.Tryz.prog (lequ_ft fu):=afZ (aaZ (i1Z fu) (aaZ (fOZ fu) (aaZ (frZ fu) acZ))) mixed Go.Proofs.Tryz.func30 (by kernel_rfl) (by kernel_rfl) (naZ fu)
def lJud2(fu:Nat)(y:qT7)(h:List (Bool))(h1:List (qT0))(h2:Int)(h3:List (List (UInt8))):Option ((Bool×qT22)):=
 (lequ fu (h,((h1,h2),h3)) y).bind fun r=>
 some (r,(h,(h1,(h2,h3))))
def lJud2_fa:FnA:=⟨.two (.reg [(0,{ids:=[100]})]) (.two (.reg [(2,{})]) (.leaf)),⟨(.cons (.p qY18) qL37),[(0,false,qB15)]⟩,[⟨(.cons (.p .bool) .nil),[(0,false,qB15)]⟩],[0]⟩
def lJud2_ft(fu:Nat):FnT:=⟨29,lJud2_fa.i,lJud2_fa.os,fun t=>lJud2 fu t.1 t.2.1 t.2.2.1 t.2.2.2.1 t.2.2.2.2⟩
theorem llZ(fu:Nat):∀t,evF Go.Proofs.Tryz.prog [lequ_ft fu] fu Go.Proofs.Tryz.f29 lJud2_fa t=(lJud2_ft fu).spec t:=fun t=>by kernel_rfl
theorem jkZ(fu:Nat):Told Go.Proofs.Tryz.prog (lJud2_ft fu):=afZ (aaZ (klZ fu) acZ) mixed Go.Proofs.Tryz.func29 (by kernel_rfl) (by kernel_rfl) (llZ fu)
def sIndFun_l0(fu:Nat)(h:List (qT7))(x:Int)(h5:List (qT7))(h6:List (Bool))(h7:List (qT0))(h8:Int)(h9:List (List (UInt8))):Option ((Int×(List (qT7)×qT22))⊕((List (qT7)×qT22)⊕(Int×(List (qT7)×qT22)))):=
 bif (decide (x<((h.length:Nat):Int))) then
  (idx? x h5.length).bind fun q=>
  (h5)[q]?.bind fun r=>
  (lJud2 fu r h6 h7 h8 h9).bind fun r1=>
  bif r1.1 then
   some (.inr (.inr (x,(h5,(r1.2.1,(r1.2.2.1,(r1.2.2.2.1,r1.2.2.2.2)))))))
  else
   some (.inl ((IntKind.wrap .i64 (x+1)),(h5,(r1.2.1,(r1.2.2.1,(r1.2.2.2.1,r1.2.2.2.2))))))
 else
  some (.inr (.inl (h5,(h6,(h7,(h8,h9))))))
def sIndFun_l0_it(fu:Nat)(h:List (qT7))(tt:(Int×(List (qT7)×qT22))):Option ((List (qT7)×qT22)⊕(Int×(List (qT7)×qT22))):=
 iter fu (fun tt=>sIndFun_l0 fu h tt.1 tt.2.1 tt.2.2.1 tt.2.2.2.1 tt.2.2.2.2.1 tt.2.2.2.2.2) tt
def sIndFun(fu:Nat)(h:List (qT7))(h1:List (Bool))(h2:List (qT0))(h3:Int)(h4:List (List (UInt8))):Option ((Int×(List (qT7)×qT22))):=
 (sIndFun_l0_it fu h (0,(h,(h1,(h2,(h3,h4)))))).bind fun o=>
 match o with
 |.inl s=>
  some ((-1),(s.1,(s.2.1,(s.2.2.1,(s.2.2.2.1,s.2.2.2.2)))))
 |.inr o1=>
  some o1
def sIndFun_fa:FnA:=⟨.two (.leaf) (.two (.two (.leaf) (.one (.loop ⟨[0,1,8],⟨(.cons (.slf 4 0) (.cons (.fn 29 .nil (.cons (.own 0 1 0 0) .nil)) qL9)),[(0,false,(.rows 74 qY18)),(1,false,qB15)]⟩⟩ true [(0,⟨[0,1],⟨(.cons (.slf 4 0) (.cons (.fn 29 .nil (.cons (.own 0 1 0 0) .nil)) .nil)),[(0,false,(.rows 74 qY18)),(1,false,qB15)]⟩⟩)] (.two (.leaf) (.two (.leaf) (.two (.one (.two (.leaf) (.two (.reg [(5,{sh:=[1]})]) (.two (.leaf) (.leaf))))) (.leaf))))))) (.leaf)),⟨(.cons (.slf 4 0) (.cons (.fn 29 .nil (.cons (.own 0 1 0 0) .nil)) .nil)),[(0,false,(.rows 74 qY18)),(1,false,qB15)]⟩,[⟨qL9,[(0,false,(.rows 74 qY18)),(1,false,qB15)]⟩],[0]⟩
def sIndFun_ft(fu:Nat):FnT:=⟨51,sIndFun_fa.i,sIndFun_fa.os,fun t=>sIndFun fu t.1 t.2.1 t.2.2.1 t.2.2.2.1 t.2.2.2.2⟩
theorem j8Z(fu:Nat):∀t,evF Go.Proofs.Tryz.prog [lJud2_ft fu] fu Go.Proofs.Tryz.f51 sIndFun_fa t=(sIndFun_ft fu).spec t:=fun t=>by kernel_rfl
theorem gkZ(fu:Nat):Told Go.Proofs.Tryz.prog (sIndFun_ft fu):=afZ (aaZ (jkZ fu) acZ) mixed Go.Proofs.Tryz.func51 (by kernel_rfl) (by kernel_rfl) (j8Z fu)
def sConFun(fu:Nat)(h:List (qT7))(h1:List (Bool))(h2:List (qT0))(h3:Int)(h4:List (List (UInt8))):Option ((Bool×(List (qT7)×qT22))):=
 (sIndFun fu h h1 h2 h3 h4).bind fun r=>
 some ((decide (r.1>=0)),(r.2.1,(r.2.2.1,(r.2.2.2.1,(r.2.2.2.2.1,r.2.2.2.2.2)))))
def sConFun_fa:FnA:=⟨.two (.leaf) (.two (.reg [(2,{sh:=[0,1]})]) (.leaf)),⟨(.cons (.slf 4 0) (.cons (.fn 29 .nil (.cons (.own 0 1 0 0) .nil)) .nil)),[(0,false,(.rows 74 qY18)),(1,false,qB15)]⟩,[⟨(.cons (.p .bool) .nil),[(0,false,(.rows 74 qY18)),(1,false,qB15)]⟩],[0]⟩
def sConFun_ft(fu:Nat):FnT:=⟨28,sConFun_fa.i,sConFun_fa.os,fun t=>sConFun fu t.1 t.2.1 t.2.2.1 t.2.2.2.1 t.2.2.2.2⟩
theorem iNZ(fu:Nat):∀t,evF Go.Proofs.Tryz.prog [sIndFun_ft fu] fu Go.Proofs.Tryz.f28 sConFun_fa t=(sConFun_ft fu).spec t:=fun t=>by kernel_rfl
theorem g3Z(fu:Nat):Told Go.Proofs.Tryz.prog (sConFun_ft fu):=afZ (aaZ (gkZ fu) acZ) mixed Go.Proofs.Tryz.func28 (by kernel_rfl) (by kernel_rfl) (iNZ fu)
def lJud_l0(fu:Nat)(h2:List (qT1))(x1:Int)(h5:List (qT1))(h6:List (qT7))(h7:List (Bool))(h8:List (qT0))(h9:Int)(h10:List (List (UInt8)))(h11:List (qT7)):Option ((Int×qT33)⊕((List (qT1)×(List (qT7)×List (qT7))))):=
 bif (decide (x1<((h2.length:Nat):Int))) then
  (lstanex fu (h7,((h8,h9),h10)) h5 x1).bind fun r4=>
  Option.bind (α:=((Bool×(List (qT1)×(List (qT7)×(List (Bool)×(List (qT0)×(Int×(List (List (UInt8))×(List (Bool)×(List (qT0)×(Int×(List (List (UInt8))×List (qT7)))))))))))))) (
   bif r4.2.2.2.2 then
    (sConFun fu h6 r4.1 r4.2.1 r4.2.2.1 r4.2.2.2.1).bind fun r5=>
    some ((!r5.1),(h5,(r5.2.1,(h7,(h8,(h9,(h10,(r5.2.2.1,(r5.2.2.2.1,(r5.2.2.2.2.1,(r5.2.2.2.2.2,h11)))))))))))
   else
    some (false,(h5,(h6,(h7,(h8,(h9,(h10,(r4.1,(r4.2.1,(r4.2.2.1,(r4.2.2.2.1,h11)))))))))))) fun o1=>
  Option.bind (α:=(qT33)) (
   bif o1.1 then
    need ((Nat.ble ((o1.2.2.1.length+1)*80) room)&&(Nat.ble (o1.2.2.1.length+1) room))<|
    some (o1.2.1,((o1.2.2.1++[(o1.2.2.2.2.2.2.2.1,((o1.2.2.2.2.2.2.2.2.1,o1.2.2.2.2.2.2.2.2.2.1),o1.2.2.2.2.2.2.2.2.2.2.1))]),(o1.2.2.2.1,(o1.2.2.2.2.1,(o1.2.2.2.2.2.1,(o1.2.2.2.2.2.2.1,o1.2.2.2.2.2.2.2.2.2.2.2))))))
   else
    some (o1.2.1,(o1.2.2.1,(o1.2.2.2.1,(o1.2.2.2.2.1,(o1.2.2.2.2.2.1,(o1.2.2.2.2.2.2.1,o1.2.2.2.2.2.2.2.2.2.2.2))))))) fun o2=>
  some (.inl ((IntKind.wrap .i64 (x1+1)),o2))
 else
  some (.inr (h5,(h6,h11)))
def lJud_l0_it(fu:Nat)(h2:List (qT1))(tt:(Int×qT33)):Option ((List (qT1)×(List (qT7)×List (qT7)))):=
 iter fu (fun tt=>lJud_l0 fu h2 tt.1 tt.2.1 tt.2.2.1 tt.2.2.2.1 tt.2.2.2.2.1 tt.2.2.2.2.2.1 tt.2.2.2.2.2.2.1 tt.2.2.2.2.2.2.2) tt
def lJud_l1(fu:Nat)(h1:List (qT7))(x:Int)(h2:List (qT1))(h3:List (qT7))(h4:List (qT7)):Option ((Int×(List (qT1)×(List (qT7)×List (qT7))))⊕((List (qT1)×List (qT7)))):=
 bif (decide (x<((h1.length:Nat):Int))) then
  (idx? x h4.length).bind fun q1=>
  (h4)[q1]?.bind fun r3=>
  (lJud_l0_it fu h2 (0,(h2,(h3,(r3.1,(r3.2.1.1,(r3.2.1.2,(r3.2.2,h4)))))))).bind fun o3=>
  some (.inl ((IntKind.wrap .i64 (x+1)),o3))
 else
  some (.inr (h2,h3))
def lJud_l1_it(fu:Nat)(h1:List (qT7))(tt:(Int×(List (qT1)×(List (qT7)×List (qT7))))):Option ((List (qT1)×List (qT7))):=
 iter fu (fun tt=>lJud_l1 fu h1 tt.1 tt.2.1 tt.2.2.1 tt.2.2.2) tt
def lJud_l2(fu:Nat)(most:Int)(h:List (qT1))(h1:List (qT7)):Option ((List (qT1)×List (qT7))⊕(Unit⊕(Bool×Int))):=
 bif (decide (((h1.length:Nat):Int)>0)) then
  (sConFun2 fu h1 h).bind fun r2=>
  bif r2.1 then
   some (.inr (.inr (true,0)))
  else
   bif (decide (((h1.length:Nat):Int)>most)) then
    some (.inr (.inr (false,5)))
   else
    (lJud_l1_it fu h1 (0,(r2.2,([],h1)))).bind fun o4=>
    some (.inl o4)
 else
  some (.inr (.inl ()))
def lJud_l2_it(fu:Nat)(most:Int)(tt:(List (qT1)×List (qT7))):Option (Unit⊕(Bool×Int)):=
 iter fu (fun tt=>lJud_l2 fu most tt.1 tt.2) tt
def lJud(fu:Nat)(l:List (qT1))(most:Int):Option ((Bool×Int)):=
 (lRig fu l).bind fun r=>
 bif (!r) then
  some (false,270)
 else
  Option.bind (α:=((Bool×List (qT1)))) (
   bif (decide (most<1)) then
    some (true,l)
   else
    some ((decide (most>1000)),l)) fun o=>
  bif o.1 then
   some (false,2)
  else
   (upto? ((o.2.length:Nat):Int) room).bind fun m=>
   (upto? ((o.2.length:Nat):Int) m).bind fun q=>
   need (Nat.ble (m*1) room)<|
   (model_New fu).bind fun r1=>
   (lJud_l2_it fu most (o.2,[((List.replicate (α:=Bool) q false),((r1.2.1,r1.1),r1.2.2))])).bind fun o5=>
   match o5 with
   |.inl s=>
    some (false,0)
   |.inr o6=>
    some o6
def lJud_fa:FnA:=⟨.two (.reg [(0,{ids:=[100]})]) (.two (.one (.two (.reg [(1,{})]) (.two (.leaf) (.two (.join ⟨[2,19],⟨qL40,[(100,false,qB31)]⟩⟩ false [] (.leaf)) (.two (.leaf) (.leaf)))))) (.two (.reg [(2,{ids:=[101]}),(3,{ids:=[102,103],fn:=1}),(5,{ids:=[104]})]) (.two (.one (.loop ⟨[2,6],⟨(.cons (.own 0 100 0 0) (.cons (.slf 4 104) .nil)),[(100,false,qB31),(104,false,(.rows 74 qY18))]⟩⟩ true [(1,⟨[],⟨.nil,[]⟩⟩)] (.two (.two (.leaf) (.leaf)) (.one (.two (.leaf) (.two (.one (.two (.reg [(2,{sh:=[100],md:=[1,0],fn:=2})]) (.two (.leaf) (.two (.leaf) (.two (.leaf) (.leaf)))))) (.two (.leaf) (.two (.two (.leaf) (.one (.pre (.ownNil 8 74 105) (.loop ⟨[2,8,45,47],⟨(.cons (.own 0 100 0 0) (.cons (.slf 4 105) (.cons (.slf 4 104) qL9))),[(100,false,qB31),(105,false,(.rows 74 qY18)),(104,true,(.rows 74 qY18))]⟩⟩ false [(4,⟨[2,8],⟨(.cons (.own 0 100 0 0) (.cons (.slf 4 105) .nil)),[(100,false,qB31),(105,false,(.rows 74 qY18))]⟩⟩)] (.two (.leaf) (.two (.leaf) (.two (.one (.two (.reg [(2,{ids:=[106]})]) (.two (.leaf) (.one (.loop ⟨[2,8,10,45,53],⟨(.cons (.own 0 100 0 0) (.cons (.slf 4 105) (.cons (.own 0 106 0 0) (.cons (.slf 4 104) qL9)))),[(100,false,qB31),(105,false,(.rows 74 qY18)),(106,false,qB15),(104,true,(.rows 74 qY18))]⟩⟩ false [(6,⟨[2,8,45],⟨(.cons (.own 0 100 0 0) (.cons (.slf 4 105) (.cons (.slf 4 104) .nil))),[(100,false,qB31),(105,false,(.rows 74 qY18)),(104,true,(.rows 74 qY18))]⟩⟩)] (.two (.leaf) (.two (.leaf) (.two (.one (.two (.leaf) (.two (.reg [(3,{fn:=3}),(7,{ids:=[107]})]) (.two (.leaf) (.two (.join ⟨[2,8,10,12,45,70],⟨(.cons (.own 0 100 0 0) (.cons (.slf 4 105) (.cons (.own 0 106 0 0) (.cons (.own 0 107 0 0) (.cons (.slf 4 104) (.cons (.p .bool) .nil)))))),[(100,false,qB31),(105,false,(.rows 74 qY18)),(106,false,qB15),(107,false,qB15),(104,true,(.rows 74 qY18))]⟩⟩ false [] (.reg [(4,{sh:=[105,107],fn:=4})])) (.join ⟨[2,8,10,45],⟨(.cons (.own 0 100 0 0) (.cons (.slf 4 109) (.cons (.own 0 106 0 0) (.cons (.slf 4 104) .nil)))),[(100,false,qB31),(109,false,(.rows 74 qY18)),(106,false,qB15),(104,true,(.rows 74 qY18))]⟩⟩ false [] (.two (.reg [(2,{ids:=[108]}),(3,{ids:=[109]})]) (.leaf)))))))) (.leaf))))))))) (.leaf)))))))) (.leaf))))))))) (.leaf)))),⟨(.cons (.p (.sl qY3)) qL9),[]⟩,[⟨(.cons (.p .bool) qL9),[]⟩],[0,0]⟩
def lJud_ft(fu:Nat):FnT:=⟨13,lJud_fa.i,lJud_fa.os,fun t=>lJud fu t.1 t.2⟩
theorem mFZ(fu:Nat):∀t,evF Go.Proofs.Tryz.prog [lRig_ft fu,model_New_ft fu,sConFun2_ft fu,lstanex_ft fu,sConFun_ft fu] fu Go.Proofs.Tryz.f13 lJud_fa t=(lJud_ft fu).spec t:=fun t=>by kernel_rfl
theorem g5Z(fu:Nat):Told Go.Proofs.Tryz.prog (lJud_ft fu):=afZ (aaZ (dKZ fu) (aaZ (c0Z fu) (aaZ (flZ fu) (aaZ (duZ fu) (aaZ (g3Z fu) acZ))))) mixed Go.Proofs.Tryz.func13 (by kernel_rfl) (by kernel_rfl) (mFZ fu)
def law28_judged(fu:Nat)(l:List (qT1)):Option (Int):=
 (lJud fu l 100).bind fun r=>
 bif (!(r.2==0)) then
  some (IntKind.wrap .i64 (10+r.2))
 else
  bif r.1 then
   some 1
  else
   some 0
def law28_judged_fa:FnA:=⟨.two (.leaf) (.two (.reg [(1,{})]) (.two (.one (.two (.leaf) (.two (.leaf) (.two (.leaf) (.two (.leaf) (.leaf)))))) (.leaf))),⟨(.cons (.p (.sl qY3)) .nil),[]⟩,[⟨qL9,[]⟩],[0]⟩
def law28_judged_ft(fu:Nat):FnT:=⟨11,law28_judged_fa.i,law28_judged_fa.os,fun t=>law28_judged fu t⟩
theorem ekZ(fu:Nat):∀t,evF Go.Proofs.Tryz.prog [lJud_ft fu] fu Go.Proofs.Tryz.f11 law28_judged_fa t=(law28_judged_ft fu).spec t:=fun t=>by kernel_rfl
theorem bGZ(fu:Nat):Told Go.Proofs.Tryz.prog (law28_judged_ft fu):=afZ (aaZ (g5Z fu) acZ) mixed Go.Proofs.Tryz.func11 (by kernel_rfl) (by kernel_rfl) (ekZ fu)
def lOrd_l0(fu:Nat)(o:List (Int))(l:List (qT1))(x:Int)(h:List (Bool))(h1:List (qT0))(h2:Int)(h3:List (List (UInt8))):Option ((Int×qT22)⊕(qT22⊕Bool)):=
 bif (decide (x<((o.length:Nat):Int))) then
  (idx? x o.length).bind fun q1=>
  (o)[q1]?.bind fun r2=>
  Option.bind (α:=((Bool×qT22))) (
   bif (decide (r2<0)) then
    some (true,(h,(h1,(h2,h3))))
   else
    some ((decide (r2>=((l.length:Nat):Int))),(h,(h1,(h2,h3))))) fun o1=>
  bif o1.1 then
   some (.inr (.inr false))
  else
   (lstanex fu (o1.2.1,((o1.2.2.1,o1.2.2.2.1),o1.2.2.2.2)) l r2).bind fun r3=>
   bif (!r3.2.2.2.2) then
    some (.inr (.inr false))
   else
    some (.inl ((IntKind.wrap .i64 (x+1)),(r3.1,(r3.2.1,(r3.2.2.1,r3.2.2.2.1)))))
 else
  some (.inr (.inl (h,(h1,(h2,h3)))))
def lOrd_l0_it(fu:Nat)(o:List (Int))(l:List (qT1))(tt:(Int×qT22)):Option (qT22⊕Bool):=
 iter fu (fun tt=>lOrd_l0 fu o l tt.1 tt.2.1 tt.2.2.1 tt.2.2.2.1 tt.2.2.2.2) tt
def lOrd(fu:Nat)(l:List (qT1))(o:List (Int)):Option (Bool):=
 (lRig fu l).bind fun r=>
 bif (!r) then
  some false
 else
  (upto? ((l.length:Nat):Int) room).bind fun m=>
  (upto? ((l.length:Nat):Int) m).bind fun q=>
  need (Nat.ble (m*1) room)<|
  (model_New fu).bind fun r1=>
  (lOrd_l0_it fu o l (0,((List.replicate (α:=Bool) q false),(r1.2.1,(r1.1,r1.2.2))))).bind fun o2=>
  match o2 with
  |.inl s=>
   (lstawho fu (s.1,((s.2.1,s.2.2.1),s.2.2.2)) l).bind fun r4=>
   some r4
  |.inr o3=>
   some o3
def lOrd_fa:FnA:=⟨.two (.leaf) (.two (.two (.reg [(1,{})]) (.two (.leaf) (.leaf))) (.two (.reg [(2,{ids:=[100]}),(3,{ids:=[101,102],fn:=1}),(5,{ids:=[103]})]) (.two (.two (.leaf) (.one (.pre (.pureCell 103 0) (.pre (.pureCell 103 1) (.pre (.pureCell 103 3) (.loop ⟨[5,19],⟨(.cons (.own 0 103 0 0) qL9),[(103,false,qB15)]⟩⟩ true [(0,⟨[5],⟨(.cons (.own 0 103 0 0) .nil),[(103,false,qB15)]⟩⟩)] (.two (.leaf) (.two (.leaf) (.two (.one (.two (.leaf) (.two (.two (.join ⟨[5,30],⟨(.cons (.own 0 103 0 0) (.cons (.p .bool) .nil)),[(103,false,qB15)]⟩⟩ false [] (.leaf)) (.two (.leaf) (.leaf))) (.two (.leaf) (.two (.reg [(3,{fn:=2})]) (.two (.leaf) (.two (.leaf) (.leaf)))))))) (.leaf)))))))))) (.two (.reg [(2,{fn:=3})]) (.leaf))))),⟨(.cons (.p (.sl qY3)) (.cons (.p (.sl (.int .i64))) .nil)),[]⟩,[⟨(.cons (.p .bool) .nil),[]⟩],[0]⟩
def lOrd_ft(fu:Nat):FnT:=⟨12,lOrd_fa.i,lOrd_fa.os,fun t=>lOrd fu t.1 t.2⟩
theorem mpZ(fu:Nat):∀t,evF Go.Proofs.Tryz.prog [lRig_ft fu,model_New_ft fu,lstanex_ft fu,lstawho_ft fu] fu Go.Proofs.Tryz.f12 lOrd_fa t=(lOrd_ft fu).spec t:=fun t=>by kernel_rfl
theorem gmZ(fu:Nat):Told Go.Proofs.Tryz.prog (lOrd_ft fu):=afZ (aaZ (dKZ fu) (aaZ (c0Z fu) (aaZ (duZ fu) (aaZ (dmZ fu) acZ)))) mixed Go.Proofs.Tryz.func12 (by kernel_rfl) (by kernel_rfl) (mpZ fu)
end
end Go.Ab.D
