/- Functions of the program as plain Lean functions: each equation is checked by the kernel; what is told of a function follows from it. -/
import Derived.Test.YtblocgeildejaaaGreatSaveCutsD2
set_option linter.all false
set_option maxRecDepth 100000
set_option maxHeartbeats 4000000
namespace Go.Ab.D
open Go.Proofs
open Go Go.Ab
noncomputable section
def creanumo14(fu:Nat)(h:List (UInt8))(h1:Int)(h2:Bool)(h3:Int)(h4:Int)(h5:Int)(h6:Int)(h7:Int)(h8:Bool)(h9:Int)(h10:Bool)(h11:Int)(h12:Int):Option ((List (UInt8)×(Int×(Bool×(Int×(Int×(Int×(Int×(Int×(Bool×(Int×(Bool×(Int×Int))))))))))))):=
 (creanum fu h h1 h2).bind fun r=>
 (creanum fu r.2.1 r.2.2.1 r.2.2.2).bind fun r1=>
 (creanum fu r1.2.1 r1.2.2.1 r1.2.2.2).bind fun r2=>
 (creanum fu r2.2.1 r2.2.2.1 r2.2.2.2).bind fun r3=>
 (creanum fu r3.2.1 r3.2.2.1 r3.2.2.2).bind fun r4=>
 some (r4.2.1,(r4.2.2.1,(r4.2.2.2,(r.1,(r1.1,(h5,(r3.1,(r4.1,(h8,(h9,(h10,(h11,r2.1))))))))))))
def creanumo14_fa:FnA:=⟨.two lf (.one (.round (.two lf (.two lf (.two (.one (.two lf (.reg [(2,{sh:=[0]})]))) lf))) (.round (.two lf (.two lf (.two (.one (.two lf (.reg [(2,{sh:=[0]})]))) lf))) (.round (.two lf (.two lf (.two (.one (.two lf (.reg [(2,{sh:=[0]})]))) lf))) (.round (.two lf (.two lf (.two (.one (.two lf (.reg [(2,{sh:=[0]})]))) lf))) (.round (.two lf (.two lf (.two (.one (.two lf (.reg [(2,{sh:=[0]})]))) lf))) (.round (.two lf (.two lf lf)) lf))))))),⟨qL45,[(0,false,(.vars qL6)),(1,false,(.vars (.cons (.own 0 2 0 0) (.cons (.own 0 2 0 1) (.cons (.own 0 3 0 0) (.cons (.own 0 2 0 3) (.cons (.own 0 2 0 4) .nil))))))),(2,false,(.vars qL8)),(3,false,(.vars qL5))]⟩,[⟨.nil,[(0,false,(.vars qL6)),(1,false,(.vars (.cons (.own 0 2 0 0) (.cons (.own 0 2 0 1) (.cons (.own 0 3 0 0) (.cons (.own 0 2 0 3) (.cons (.own 0 2 0 4) .nil))))))),(2,false,(.vars qL8)),(3,false,(.vars qL5))]⟩],[]⟩
def creanumo14_ft(fu:Nat):FnT:=⟨105,creanumo14_fa.i,creanumo14_fa.os,u13 (creanumo14 fu)⟩
theorem e2Z(fu:Nat):Told Tryz.prog (creanumo14_ft fu):=tk fu creanumo14_fa (aaZ (baZ fu) abZ) Tryz.func105 (by kernel_rfl) fun t=>by kernel_rfl
def creafla(fu:Nat)(h:List (UInt8))(h1:Int)(h2:Bool):Option ((Bool×qT44)):=
 (creanum fu h h1 h2).bind fun r=>
 Option.bind (α:=(qT44)) (
  bif r.2.2.2 then
   some (r.2.1,(r.2.2.1,true))
  else
   some (r.2.1,(r.2.2.1,(decide (r.1>1))))) fun o=>
 some ((r.1==1),(o.1,(o.2.1,o.2.2)))
def creafla_fa:FnA:=⟨.two lf (.two (.reg [(1,{sh:=[0]})]) (.two (.join ⟨[0],⟨qL24,[(0,false,(.vars qL6))]⟩⟩ false [] lf) lf)),⟨qL24,[(0,false,(.vars qL6))]⟩,[⟨(.cons (.p .bool) .nil),[(0,false,(.vars qL6))]⟩],[0]⟩
def creafla_ft(fu:Nat):FnT:=⟨106,creafla_fa.i,creafla_fa.os,u3 (creafla fu)⟩
theorem ifZ(fu:Nat):Told Tryz.prog (creafla_ft fu):=tk fu creafla_fa (aaZ (baZ fu) abZ) Tryz.func106 (by kernel_rfl) fun t=>by kernel_rfl
def creanumo12(fu:Nat)(h:List (UInt8))(h1:Int)(h2:Bool)(h3:Int)(h4:Int)(h5:Int)(h6:Int)(h7:Int)(h8:Bool)(h9:Int)(h10:Bool)(h11:Int):Option ((List (UInt8)×(Int×(Bool×(Int×(Int×(Int×(Int×(Int×(Bool×(Int×(Bool×Int)))))))))))):=
 (creanum fu h h1 h2).bind fun r=>
 some (r.2.1,(r.2.2.1,(r.2.2.2,(h3,(h4,(h5,(h6,(h7,(h8,(r.1,(h10,h11)))))))))))
def creanumo12_fa:FnA:=⟨.two lf (.one (.round (.two lf (.two lf (.two (.one (.two lf (.reg [(2,{sh:=[0]})]))) lf))) (.round (.two lf (.two lf lf)) lf))),⟨qL45,[(0,false,(.vars qL6)),(1,false,(.vars (.cons (.own 0 2 0 6) .nil))),(2,false,(.vars qL8))]⟩,[⟨.nil,[(0,false,(.vars qL6)),(1,false,(.vars (.cons (.own 0 2 0 6) .nil))),(2,false,(.vars qL8))]⟩],[]⟩
def creanumo12_ft(fu:Nat):FnT:=⟨105,creanumo12_fa.i,creanumo12_fa.os,u12 (creanumo12 fu)⟩
theorem eYZ(fu:Nat):Told Tryz.prog (creanumo12_ft fu):=tk fu creanumo12_fa (aaZ (baZ fu) abZ) Tryz.func105 (by kernel_rfl) fun t=>by kernel_rfl
def creanumo1(fu:Nat)(h:List (UInt8))(h1:Int)(h2:Bool)(h3:Int)(h4:Int)(h5:Int)(h6:Int)(h7:Int)(h8:Bool)(h9:Int)(h10:Bool)(h11:Int):Option ((List (UInt8)×(Int×(Bool×(Int×(Int×(Int×(Int×(Int×(Bool×(Int×(Bool×Int)))))))))))):=
 (creanum fu h h1 h2).bind fun r=>
 some (r.2.1,(r.2.2.1,(r.2.2.2,(h3,(h4,(h5,(h6,(h7,(h8,(h9,(h10,r.1)))))))))))
def creanumo1_fa:FnA:=⟨.two lf (.one (.round (.two lf (.two lf (.two (.one (.two lf (.reg [(2,{sh:=[0]})]))) lf))) (.round (.two lf (.two lf lf)) lf))),⟨qL45,[(0,false,(.vars qL6)),(1,false,(.vars (.cons (.own 0 2 0 10) .nil))),(2,false,(.vars qL8))]⟩,[⟨.nil,[(0,false,(.vars qL6)),(1,false,(.vars (.cons (.own 0 2 0 10) .nil))),(2,false,(.vars qL8))]⟩],[]⟩
def creanumo1_ft(fu:Nat):FnT:=⟨105,creanumo1_fa.i,creanumo1_fa.os,u12 (creanumo1 fu)⟩
theorem fNZ(fu:Nat):Told Tryz.prog (creanumo1_ft fu):=tk fu creanumo1_fa (aaZ (baZ fu) abZ) Tryz.func105 (by kernel_rfl) fun t=>by kernel_rfl
def creablo(fu:Nat)(most:Int)(h:List (UInt8))(h1:Int)(h2:Bool):Option ((List (UInt8)×(Int×(Bool×List (UInt8))))):=
 bif h2 then
  some (h,(h1,(h2,[])))
 else
  (bGetBlo fu h h1 most).bind fun r=>
  bif (!(r.2.1==0)) then
   some (h,(h1,(true,[])))
  else
   some (h,(r.1,(h2,r.2.2)))
def creablo_fa:FnA:=⟨.two lf (.two (.two lf (.two lf lf)) (.two (.reg [(9,{ids:=[100]})]) (.two (.two lf (.two (.two lf lf) lf)) (.two lf lf)))),⟨(.cons (.own 0 0 0 0) qL5),[(0,false,(.vars qL6))]⟩,[⟨(.cons (.slf 1 1) .nil),[(0,false,(.vars qL6)),(1,false,(.rows 5 .byte))]⟩],[15]⟩
def creablo_ft(fu:Nat):FnT:=⟨107,creablo_fa.i,creablo_fa.os,u4 (creablo fu)⟩
theorem dKZ(fu:Nat):Told Tryz.prog (creablo_ft fu):=tk fu creablo_fa (aaZ (dMZ fu) abZ) Tryz.func107 (by kernel_rfl) fun t=>by kernel_rfl
def cGetRep_l0(fu:Nat)(n:Int)(h:Int)(h1:Int)(h2:Int)(h3:Int)(h4:Int)(h5:Bool)(h6:Int)(h7:Bool)(h8:Int)(h9:List (UInt8))(h10:Int)(h11:Bool)(h12:Int)(h13:Int)(h14:Int)(h15:Int)(h16:Int)(h17:Bool)(h18:Int)(h19:Bool)(h20:Int)(h21:List (UInt8))(h22:List ((List UInt8×Int))):Option ((Int×qT28)⊕((Int×qT28))):=
 Option.bind (α:=((Bool×qT28))) (
  bif (decide (n>0)) then
   bif (decide (n<=100)) then
    some ((!h11),(h,(h1,(h2,(h3,(h4,(h5,(h6,(h7,(h8,(h9,(h10,(h11,(h12,(h13,(h14,(h15,(h16,(h17,(h18,(h19,(h20,(h21,h22)))))))))))))))))))))))
   else
    some (false,(h,(h1,(h2,(h3,(h4,(h5,(h6,(h7,(h8,(h9,(h10,(h11,(h12,(h13,(h14,(h15,(h16,(h17,(h18,(h19,(h20,(h21,h22)))))))))))))))))))))))
  else
   some (false,(h,(h1,(h2,(h3,(h4,(h5,(h6,(h7,(h8,(h9,(h10,(h11,(h12,(h13,(h14,(h15,(h16,(h17,(h18,(h19,(h20,(h21,h22)))))))))))))))))))))))) fun o=>
 bif o.1 then
  (creablo fu 100 o.2.2.2.2.2.2.2.2.2.2.1 o.2.2.2.2.2.2.2.2.2.2.2.1 o.2.2.2.2.2.2.2.2.2.2.2.2.1).bind fun r11=>
  (creanum fu r11.1 r11.2.1 r11.2.2.1).bind fun r12=>
  need ((Nat.ble ((o.2.2.2.2.2.2.2.2.2.2.2.2.2.2.2.2.2.2.2.2.2.2.2.length+1)*24) room)&&(Nat.ble (o.2.2.2.2.2.2.2.2.2.2.2.2.2.2.2.2.2.2.2.2.2.2.2.length+1) room))<|
  some (.inl ((IntKind.wrap .i64 (n-1)),(o.2.1,(o.2.2.1,(o.2.2.2.1,(o.2.2.2.2.1,(o.2.2.2.2.2.1,(o.2.2.2.2.2.2.1,(o.2.2.2.2.2.2.2.1,(o.2.2.2.2.2.2.2.2.1,(o.2.2.2.2.2.2.2.2.2.1,(r12.2.1,(r12.2.2.1,(r12.2.2.2,(o.2.2.2.2.2.2.2.2.2.2.2.2.2.1,(o.2.2.2.2.2.2.2.2.2.2.2.2.2.2.1,(o.2.2.2.2.2.2.2.2.2.2.2.2.2.2.2.1,(o.2.2.2.2.2.2.2.2.2.2.2.2.2.2.2.2.1,(o.2.2.2.2.2.2.2.2.2.2.2.2.2.2.2.2.2.1,(o.2.2.2.2.2.2.2.2.2.2.2.2.2.2.2.2.2.2.1,(o.2.2.2.2.2.2.2.2.2.2.2.2.2.2.2.2.2.2.2.1,(o.2.2.2.2.2.2.2.2.2.2.2.2.2.2.2.2.2.2.2.2.1,(o.2.2.2.2.2.2.2.2.2.2.2.2.2.2.2.2.2.2.2.2.2.1,(o.2.2.2.2.2.2.2.2.2.2.2.2.2.2.2.2.2.2.2.2.2.2.1,(o.2.2.2.2.2.2.2.2.2.2.2.2.2.2.2.2.2.2.2.2.2.2.2++[(r11.2.2.2,r12.1)])))))))))))))))))))))))))
 else
  some (.inr (n,(o.2.1,(o.2.2.1,(o.2.2.2.1,(o.2.2.2.2.1,(o.2.2.2.2.2.1,(o.2.2.2.2.2.2.1,(o.2.2.2.2.2.2.2.1,(o.2.2.2.2.2.2.2.2.1,(o.2.2.2.2.2.2.2.2.2.1,(o.2.2.2.2.2.2.2.2.2.2.1,(o.2.2.2.2.2.2.2.2.2.2.2.1,(o.2.2.2.2.2.2.2.2.2.2.2.2.1,(o.2.2.2.2.2.2.2.2.2.2.2.2.2.1,(o.2.2.2.2.2.2.2.2.2.2.2.2.2.2.1,(o.2.2.2.2.2.2.2.2.2.2.2.2.2.2.2.1,(o.2.2.2.2.2.2.2.2.2.2.2.2.2.2.2.2.1,(o.2.2.2.2.2.2.2.2.2.2.2.2.2.2.2.2.2.1,(o.2.2.2.2.2.2.2.2.2.2.2.2.2.2.2.2.2.2.1,(o.2.2.2.2.2.2.2.2.2.2.2.2.2.2.2.2.2.2.2.1,(o.2.2.2.2.2.2.2.2.2.2.2.2.2.2.2.2.2.2.2.2.1,(o.2.2.2.2.2.2.2.2.2.2.2.2.2.2.2.2.2.2.2.2.2.1,(o.2.2.2.2.2.2.2.2.2.2.2.2.2.2.2.2.2.2.2.2.2.2.1,o.2.2.2.2.2.2.2.2.2.2.2.2.2.2.2.2.2.2.2.2.2.2.2))))))))))))))))))))))))
def cGetRep_l0_it(fu:Nat)(tt:(Int×qT28)):Option ((Int×qT28)):=
 iter fu (fun tt=>cGetRep_l0 fu tt.1 tt.2.1 tt.2.2.1 tt.2.2.2.1 tt.2.2.2.2.1 tt.2.2.2.2.2.1 tt.2.2.2.2.2.2.1 tt.2.2.2.2.2.2.2.1 tt.2.2.2.2.2.2.2.2.1 tt.2.2.2.2.2.2.2.2.2.1 tt.2.2.2.2.2.2.2.2.2.2.1 tt.2.2.2.2.2.2.2.2.2.2.2.1 tt.2.2.2.2.2.2.2.2.2.2.2.2.1 tt.2.2.2.2.2.2.2.2.2.2.2.2.2.1 tt.2.2.2.2.2.2.2.2.2.2.2.2.2.2.1 tt.2.2.2.2.2.2.2.2.2.2.2.2.2.2.2.1 tt.2.2.2.2.2.2.2.2.2.2.2.2.2.2.2.2.1 tt.2.2.2.2.2.2.2.2.2.2.2.2.2.2.2.2.2.1 tt.2.2.2.2.2.2.2.2.2.2.2.2.2.2.2.2.2.2.1 tt.2.2.2.2.2.2.2.2.2.2.2.2.2.2.2.2.2.2.2.1 tt.2.2.2.2.2.2.2.2.2.2.2.2.2.2.2.2.2.2.2.2.1 tt.2.2.2.2.2.2.2.2.2.2.2.2.2.2.2.2.2.2.2.2.2.1 tt.2.2.2.2.2.2.2.2.2.2.2.2.2.2.2.2.2.2.2.2.2.2.1 tt.2.2.2.2.2.2.2.2.2.2.2.2.2.2.2.2.2.2.2.2.2.2.2) tt
def cGetRep(fu:Nat)(t:List (Int))(b:List (UInt8)):Option ((Int×(Int×(Int×(Int×(Int×(Bool×(Int×(List (UInt8)×(List ((List UInt8×Int))×(Bool×(Int×Int)))))))))))):=
 (cbeg fu t b 4).bind fun r=>
 match r with
 |.inl r1=>
  bif (!(r1==0)) then
   some (0,(0,(0,(0,(0,(false,(0,([],([],(false,(0,r1)))))))))))
  else
   (creanumn0 fu 0 0 0 0 0 false 0 false 0 0).bind fun r3=>
   Empty.elim r3
 |.inr r2=>
  bif (!(r2.1==0)) then
   some (0,(0,(0,(0,(0,(false,(0,([],([],(false,(0,r2.1)))))))))))
  else
   (creanumo14 fu r2.2.1 r2.2.2.1 r2.2.2.2 0 0 0 0 0 false 0 false 0 0).bind fun r4=>
   (creafla fu r4.1 r4.2.1 r4.2.2.1).bind fun r5=>
   (creanumo12 fu r5.2.1 r5.2.2.1 r5.2.2.2 r4.2.2.2.1 r4.2.2.2.2.1 r4.2.2.2.2.2.2.2.2.2.2.2.2 r4.2.2.2.2.2.2.1 r4.2.2.2.2.2.2.2.1 r5.1 r4.2.2.2.2.2.2.2.2.2.1 r4.2.2.2.2.2.2.2.2.2.2.1 r4.2.2.2.2.2.2.2.2.2.2.2.1).bind fun r6=>
   (creafla fu r6.1 r6.2.1 r6.2.2.1).bind fun r7=>
   (creanumo1 fu r7.2.1 r7.2.2.1 r7.2.2.2 r6.2.2.2.1 r6.2.2.2.2.1 r6.2.2.2.2.2.1 r6.2.2.2.2.2.2.1 r6.2.2.2.2.2.2.2.1 r6.2.2.2.2.2.2.2.2.1 r6.2.2.2.2.2.2.2.2.2.1 r7.1 r6.2.2.2.2.2.2.2.2.2.2.2).bind fun r8=>
   (creablo fu 4096 r8.1 r8.2.1 r8.2.2.1).bind fun r9=>
   (creanum fu r9.1 r9.2.1 r9.2.2.1).bind fun r10=>
   (cGetRep_l0_it fu (r10.1,(0,(0,(0,(0,(0,(false,(0,(false,(0,(r10.2.1,(r10.2.2.1,(r10.2.2.2,(r8.2.2.2.1,(r8.2.2.2.2.1,(r8.2.2.2.2.2.1,(r8.2.2.2.2.2.2.1,(r8.2.2.2.2.2.2.2.1,(r8.2.2.2.2.2.2.2.2.1,(r8.2.2.2.2.2.2.2.2.2.1,(r8.2.2.2.2.2.2.2.2.2.2.1,(r8.2.2.2.2.2.2.2.2.2.2.2,(r9.2.2.2,[])))))))))))))))))))))))).bind fun o1=>
   Option.bind (α:=((Bool×(Int×(Int×(Int×(Int×(Int×(Bool×(Int×(Bool×(Int×(Int×(Int×(Int×(Int×(Int×(Bool×(Int×(Bool×(Int×(List (UInt8)×List ((List UInt8×Int)))))))))))))))))))))))) (
    bif o1.2.2.2.2.2.2.2.2.2.2.2.2.1 then
     some (true,(o1.2.1,(o1.2.2.1,(o1.2.2.2.1,(o1.2.2.2.2.1,(o1.2.2.2.2.2.1,(o1.2.2.2.2.2.2.1,(o1.2.2.2.2.2.2.2.1,(o1.2.2.2.2.2.2.2.2.1,(o1.2.2.2.2.2.2.2.2.2.1,(o1.2.2.2.2.2.2.2.2.2.2.2.2.2.1,(o1.2.2.2.2.2.2.2.2.2.2.2.2.2.2.1,(o1.2.2.2.2.2.2.2.2.2.2.2.2.2.2.2.1,(o1.2.2.2.2.2.2.2.2.2.2.2.2.2.2.2.2.1,(o1.2.2.2.2.2.2.2.2.2.2.2.2.2.2.2.2.2.1,(o1.2.2.2.2.2.2.2.2.2.2.2.2.2.2.2.2.2.2.1,(o1.2.2.2.2.2.2.2.2.2.2.2.2.2.2.2.2.2.2.2.1,(o1.2.2.2.2.2.2.2.2.2.2.2.2.2.2.2.2.2.2.2.2.1,(o1.2.2.2.2.2.2.2.2.2.2.2.2.2.2.2.2.2.2.2.2.2.1,(o1.2.2.2.2.2.2.2.2.2.2.2.2.2.2.2.2.2.2.2.2.2.2.1,o1.2.2.2.2.2.2.2.2.2.2.2.2.2.2.2.2.2.2.2.2.2.2.2))))))))))))))))))))
    else
     bif (decide (o1.1>0)) then
      some (true,(o1.2.1,(o1.2.2.1,(o1.2.2.2.1,(o1.2.2.2.2.1,(o1.2.2.2.2.2.1,(o1.2.2.2.2.2.2.1,(o1.2.2.2.2.2.2.2.1,(o1.2.2.2.2.2.2.2.2.1,(o1.2.2.2.2.2.2.2.2.2.1,(o1.2.2.2.2.2.2.2.2.2.2.2.2.2.1,(o1.2.2.2.2.2.2.2.2.2.2.2.2.2.2.1,(o1.2.2.2.2.2.2.2.2.2.2.2.2.2.2.2.1,(o1.2.2.2.2.2.2.2.2.2.2.2.2.2.2.2.2.1,(o1.2.2.2.2.2.2.2.2.2.2.2.2.2.2.2.2.2.1,(o1.2.2.2.2.2.2.2.2.2.2.2.2.2.2.2.2.2.2.1,(o1.2.2.2.2.2.2.2.2.2.2.2.2.2.2.2.2.2.2.2.1,(o1.2.2.2.2.2.2.2.2.2.2.2.2.2.2.2.2.2.2.2.2.1,(o1.2.2.2.2.2.2.2.2.2.2.2.2.2.2.2.2.2.2.2.2.2.1,(o1.2.2.2.2.2.2.2.2.2.2.2.2.2.2.2.2.2.2.2.2.2.2.1,o1.2.2.2.2.2.2.2.2.2.2.2.2.2.2.2.2.2.2.2.2.2.2.2))))))))))))))))))))
     else
      bif (!(o1.2.2.2.2.2.2.2.2.2.2.2.1==((o1.2.2.2.2.2.2.2.2.2.2.1.length:Nat):Int))) then
       some (true,(o1.2.1,(o1.2.2.1,(o1.2.2.2.1,(o1.2.2.2.2.1,(o1.2.2.2.2.2.1,(o1.2.2.2.2.2.2.1,(o1.2.2.2.2.2.2.2.1,(o1.2.2.2.2.2.2.2.2.1,(o1.2.2.2.2.2.2.2.2.2.1,(o1.2.2.2.2.2.2.2.2.2.2.2.2.2.1,(o1.2.2.2.2.2.2.2.2.2.2.2.2.2.2.1,(o1.2.2.2.2.2.2.2.2.2.2.2.2.2.2.2.1,(o1.2.2.2.2.2.2.2.2.2.2.2.2.2.2.2.2.1,(o1.2.2.2.2.2.2.2.2.2.2.2.2.2.2.2.2.2.1,(o1.2.2.2.2.2.2.2.2.2.2.2.2.2.2.2.2.2.2.1,(o1.2.2.2.2.2.2.2.2.2.2.2.2.2.2.2.2.2.2.2.1,(o1.2.2.2.2.2.2.2.2.2.2.2.2.2.2.2.2.2.2.2.2.1,(o1.2.2.2.2.2.2.2.2.2.2.2.2.2.2.2.2.2.2.2.2.2.1,(o1.2.2.2.2.2.2.2.2.2.2.2.2.2.2.2.2.2.2.2.2.2.2.1,o1.2.2.2.2.2.2.2.2.2.2.2.2.2.2.2.2.2.2.2.2.2.2.2))))))))))))))))))))
      else
       (cRigRep fu (o1.2.2.2.2.2.2.2.2.2.2.2.2.2.1,(o1.2.2.2.2.2.2.2.2.2.2.2.2.2.2.1,(o1.2.2.2.2.2.2.2.2.2.2.2.2.2.2.2.1,((o1.2.2.2.2.2.2.2.2.2.2.2.2.2.2.2.2.1,o1.2.2.2.2.2.2.2.2.2.2.2.2.2.2.2.2.2.1),(o1.2.2.2.2.2.2.2.2.2.2.2.2.2.2.2.2.2.2.1,(o1.2.2.2.2.2.2.2.2.2.2.2.2.2.2.2.2.2.2.2.1,(o1.2.2.2.2.2.2.2.2.2.2.2.2.2.2.2.2.2.2.2.2.2.2.1,(o1.2.2.2.2.2.2.2.2.2.2.2.2.2.2.2.2.2.2.2.2.2.2.2,(o1.2.2.2.2.2.2.2.2.2.2.2.2.2.2.2.2.2.2.2.2.1,o1.2.2.2.2.2.2.2.2.2.2.2.2.2.2.2.2.2.2.2.2.2.1)))))))))).bind fun r13=>
       some ((!r13),(o1.2.1,(o1.2.2.1,(o1.2.2.2.1,(o1.2.2.2.2.1,(o1.2.2.2.2.2.1,(o1.2.2.2.2.2.2.1,(o1.2.2.2.2.2.2.2.1,(o1.2.2.2.2.2.2.2.2.1,(o1.2.2.2.2.2.2.2.2.2.1,(o1.2.2.2.2.2.2.2.2.2.2.2.2.2.1,(o1.2.2.2.2.2.2.2.2.2.2.2.2.2.2.1,(o1.2.2.2.2.2.2.2.2.2.2.2.2.2.2.2.1,(o1.2.2.2.2.2.2.2.2.2.2.2.2.2.2.2.2.1,(o1.2.2.2.2.2.2.2.2.2.2.2.2.2.2.2.2.2.1,(o1.2.2.2.2.2.2.2.2.2.2.2.2.2.2.2.2.2.2.1,(o1.2.2.2.2.2.2.2.2.2.2.2.2.2.2.2.2.2.2.2.1,(o1.2.2.2.2.2.2.2.2.2.2.2.2.2.2.2.2.2.2.2.2.1,(o1.2.2.2.2.2.2.2.2.2.2.2.2.2.2.2.2.2.2.2.2.2.1,(o1.2.2.2.2.2.2.2.2.2.2.2.2.2.2.2.2.2.2.2.2.2.2.1,o1.2.2.2.2.2.2.2.2.2.2.2.2.2.2.2.2.2.2.2.2.2.2.2))))))))))))))))))))) fun o2=>
   bif o2.1 then
    some (0,(0,(0,(0,(0,(false,(0,([],([],(false,(0,179)))))))))))
   else
    some (o2.2.2.2.2.2.2.2.2.2.2.1,(o2.2.2.2.2.2.2.2.2.2.2.2.1,(o2.2.2.2.2.2.2.2.2.2.2.2.2.1,(o2.2.2.2.2.2.2.2.2.2.2.2.2.2.1,(o2.2.2.2.2.2.2.2.2.2.2.2.2.2.2.1,(o2.2.2.2.2.2.2.2.2.2.2.2.2.2.2.2.1,(o2.2.2.2.2.2.2.2.2.2.2.2.2.2.2.2.2.1,(o2.2.2.2.2.2.2.2.2.2.2.2.2.2.2.2.2.2.2.2.1,(o2.2.2.2.2.2.2.2.2.2.2.2.2.2.2.2.2.2.2.2.2,(o2.2.2.2.2.2.2.2.2.2.2.2.2.2.2.2.2.2.1,(o2.2.2.2.2.2.2.2.2.2.2.2.2.2.2.2.2.2.2.1,0)))))))))))
def cGetRep_fa:FnA:=⟨.two (.reg [(0,{ids:=[100]})]) (.two (.reg [(2,{ids:=[101]})]) (.sel (.slot 6 (.nilp (.pointer none))) (.two (.two lf (.two lf lf)) (.two (.reg [(0,{ids:=[103]})]) (.two (.reg [(0,{ids:=[104]})]) (.two (.reg [(7,{ids:=[105],md:=[1]}),(8,{sh:=[105,103,104],fn:=1})]) lf)))) (.two (.two lf (.two lf lf)) (.two (.reg [(0,{ids:=[103]})]) (.two (.reg [(0,{ids:=[104]})]) (.two (.reg [(7,{ids:=[105],md:=[1]}),(8,{sh:=[101,105,103,104],fn:=2})]) (.two lf (.two (.reg [(1,{sh:=[101],fn:=3})]) (.two (.reg [(2,{ids:=[106],md:=[1]}),(3,{sh:=[101,106,103],fn:=4})]) (.two (.reg [(1,{sh:=[101],fn:=3})]) (.two (.reg [(2,{ids:=[107],md:=[1]}),(3,{sh:=[101,107,103],fn:=5})]) (.two (.reg [(1,{ids:=[108],sh:=[101],fn:=6})]) (.two (.reg [(1,{sh:=[101],fn:=7})]) (.two (.one (.pre (.ownCell 103 8 142 109) (.loop ⟨[4,6,8,10],⟨(.cons (.own 0 100 0 0) (.cons (.own 0 101 0 0) (.cons (.own 0 103 0 0) qL5))),[(100,false,(.vars qL8)),(101,false,(.vars qL6)),(103,false,qB36),(108,false,(.rows 5 .byte)),(109,false,(.rows 142 (.pair .str (.int .i64))))]⟩⟩ false [(0,⟨[4,6,8,10],⟨(.cons (.own 0 100 0 0) (.cons (.own 0 101 0 0) (.cons (.own 0 103 0 0) qL5))),[(100,false,(.vars qL8)),(101,false,(.vars qL6)),(103,false,qB36),(108,false,(.rows 5 .byte)),(109,false,(.rows 142 (.pair .str (.int .i64))))]⟩⟩)] (.two (.two (.join ⟨[4,6,8,64],⟨(.cons (.own 0 100 0 0) (.cons (.own 0 101 0 0) (.cons (.own 0 103 0 0) (.cons (.p .bool) .nil)))),[(100,false,(.vars qL8)),(101,false,(.vars qL6)),(103,false,qB36),(108,false,(.rows 5 .byte)),(109,false,(.rows 142 (.pair .str (.int .i64))))]⟩⟩ false [] lf) lf) (.two (.one (.two (.reg [(0,{ids:=[110]})]) (.two (.reg [(1,{ids:=[111],sh:=[101],fn:=6})]) (.two (.reg [(1,{sh:=[101],fn:=7})]) (.reg [(3,{ids:=[112]}),(4,{ids:=[113]})]))))) lf))))) (.two (.two (.join ⟨[4,8,104],⟨(.cons (.own 0 100 0 0) (.cons (.own 0 103 0 0) (.cons (.p .bool) .nil))),[(100,false,(.vars qL8)),(103,false,qB36),(108,false,(.rows 5 .byte)),(109,false,(.rows 142 (.pair .str (.int .i64))))]⟩⟩ false [] (.reg [(22,{md:=[2],fn:=8})])) (.two lf lf)) lf))))))))))))))),⟨(.cons (.pt (.int .u32)) qL47),[]⟩,[⟨(.cons (.agg qL12) qL5),[]⟩],[1,0]⟩
def cGetRep_ft(fu:Nat):FnT:=⟨49,cGetRep_fa.i,cGetRep_fa.os,fun t=>cGetRep fu t.1 t.2⟩
theorem imZ(fu:Nat):Told Tryz.prog (cGetRep_ft fu):=tk fu cGetRep_fa (aaZ (igZ fu) (aaZ (fUZ fu) (aaZ (e2Z fu) (aaZ (ifZ fu) (aaZ (eYZ fu) (aaZ (fNZ fu) (aaZ (dKZ fu) (aaZ (baZ fu) (aaZ (c0Z fu) abZ))))))))) Tryz.func49 (by kernel_rfl) fun t=>by kernel_rfl
def sGetGat11(fu:Nat)(h:Int)(h1:Int)(h2:Int)(h3:Int)(h4:Int)(h5:Bool)(h6:Int)(h7:Bool)(h8:Int)(h9:List (Int))(h10:List (Int))(h11:List (UInt8))(h12:Int)(h13:Bool):Option ((Int×(Int×(Int×(Int×(Int×(Bool×(Int×(List (UInt8)×(List ((List UInt8×Int))×(Bool×(Int×(List (Int)×(List (Int)×qT44)))))))))))))):=
 (sreablo fu 16777216 h10 h11 h12 h13).bind fun r=>
 (cGetRep fu h9 r.2.2.2.2).bind fun r1=>
 bif r.2.2.2.1 then
  some (r1.1,(r1.2.1,(r1.2.2.1,(r1.2.2.2.1,(r1.2.2.2.2.1,(r1.2.2.2.2.2.1,(r1.2.2.2.2.2.2.1,(r1.2.2.2.2.2.2.2.1,(r1.2.2.2.2.2.2.2.2.1,(r1.2.2.2.2.2.2.2.2.2.1,(r1.2.2.2.2.2.2.2.2.2.2.1,(h9,(r.1,(r.2.1,(r.2.2.1,true)))))))))))))))
 else
  some (r1.1,(r1.2.1,(r1.2.2.1,(r1.2.2.2.1,(r1.2.2.2.2.1,(r1.2.2.2.2.2.1,(r1.2.2.2.2.2.2.1,(r1.2.2.2.2.2.2.2.1,(r1.2.2.2.2.2.2.2.2.1,(r1.2.2.2.2.2.2.2.2.2.1,(r1.2.2.2.2.2.2.2.2.2.2.1,(h9,(r.1,(r.2.1,(r.2.2.1,(!(r1.2.2.2.2.2.2.2.2.2.2.2==0)))))))))))))))))
def sGetGat11_fa:FnA:=⟨.two (.reg [(2,{ids:=[100],sh:=[3]}),(3,{md:=[0,1],fn:=1}),(7,{ids:=[101]})]) lf,⟨(.cons (.own 0 0 0 0) qL23),[(0,false,(.vars qL8)),(1,false,(.vars (.cons (.pt (.int .u32)) .nil))),(2,false,(.vars (.cons (.own 0 3 0 0) .nil))),(3,false,(.vars (.cons (.pt (.int .u32)) qL6)))]⟩,[⟨.nil,[(0,false,(.vars qL12)),(1,false,(.vars (.cons (.pt (.int .u32)) .nil))),(2,false,(.vars (.cons (.own 0 3 0 0) .nil))),(3,false,(.vars (.cons (.pt (.int .u32)) qL6)))]⟩],[]⟩
def sGetGat11_ft(fu:Nat):FnT:=⟨48,sGetGat11_fa.i,sGetGat11_fa.os,u14 (sGetGat11 fu)⟩
theorem fEZ(fu:Nat):Told Tryz.prog (sGetGat11_ft fu):=tk fu sGetGat11_fa (aaZ (bCZ fu) (aaZ (imZ fu) abZ)) Tryz.func48 (by kernel_rfl) fun t=>by kernel_rfl
def slisapiRe_l0(fu:Nat)(n:Int)(h5:List (Int))(h6:List (UInt8))(h7:Int)(h8:Bool)(h9:List (Int))(h10:List (qT32)):Option ((Int×qT48)⊕(qT48)):=
 Option.bind (α:=((Bool×qT48))) (
  bif (decide (n>0)) then
   some ((!h8),(h5,(h6,(h7,(h8,(h9,h10))))))
  else
   some (false,(h5,(h6,(h7,(h8,(h9,h10))))))) fun o1=>
 bif o1.1 then
  (sGetGat11 fu 0 0 0 0 0 false 0 false 0 o1.2.2.2.2.2.1 o1.2.1 o1.2.2.1 o1.2.2.2.1 o1.2.2.2.2.1).bind fun r1=>
  need ((Nat.ble ((o1.2.2.2.2.2.2.length+1)*120) room)&&(Nat.ble (o1.2.2.2.2.2.2.length+1) room))<|
  some (.inl ((IntKind.wrap .i64 (n-1)),(r1.2.2.2.2.2.2.2.2.2.2.2.2.1,(r1.2.2.2.2.2.2.2.2.2.2.2.2.2.1,(r1.2.2.2.2.2.2.2.2.2.2.2.2.2.2.1,(r1.2.2.2.2.2.2.2.2.2.2.2.2.2.2.2,(r1.2.2.2.2.2.2.2.2.2.2.2.1,(o1.2.2.2.2.2.2++[(r1.1,(r1.2.1,(r1.2.2.1,((r1.2.2.2.1,r1.2.2.2.2.1),(r1.2.2.2.2.2.1,(r1.2.2.2.2.2.2.1,(r1.2.2.2.2.2.2.2.1,(r1.2.2.2.2.2.2.2.2.1,(r1.2.2.2.2.2.2.2.2.2.1,r1.2.2.2.2.2.2.2.2.2.2.1)))))))))]))))))))
 else
  some (.inr o1.2)
def slisapiRe_l0_it(fu:Nat)(tt:(Int×qT48)):Option (qT48):=
 iter fu (fun tt=>slisapiRe_l0 fu tt.1 tt.2.1 tt.2.2.1 tt.2.2.2.1 tt.2.2.2.2.1 tt.2.2.2.2.2.1 tt.2.2.2.2.2.2) tt
def slisapiRe(fu:Nat)(h:List (Int))(h1:List (UInt8))(h2:Int)(h3:Bool)(h4:List (Int)):Option (qT48):=
 (sreanum fu h h1 h2 h3).bind fun r=>
 Option.bind (α:=(qT50)) (
  bif (decide (r.1>((r.2.2.1.length:Nat):Int))) then
   some (r.2.1,(r.2.2.1,(r.2.2.2.1,(true,h4))))
  else
   some (r.2.1,(r.2.2.1,(r.2.2.2.1,(r.2.2.2.2,h4))))) fun o=>
 (slisapiRe_l0_it fu (r.1,(o.1,(o.2.1,(o.2.2.1,(o.2.2.2.1,(o.2.2.2.2,[]))))))).bind fun o2=>
 some o2
def slisapiRe_fa:FnA:=⟨.two lf (.two (.reg [(1,{sh:=[0]})]) (.two (.two lf (.join ⟨[0,1],⟨(.cons (.own 0 0 0 0) (.cons (.fn 48 .nil qL23) .nil)),[(0,false,(.vars (.cons (.pt (.int .u32)) qL6))),(1,false,(.vars (.cons (.pt (.int .u32)) .nil))),(2,false,(.vars qL24))]⟩⟩ false [] lf)) (.two lf (.two (.one (.pre (.ownNil 6 43 100) (.loop ⟨[0,1,5,6],⟨(.cons (.own 0 0 0 0) (.cons (.fn 48 .nil qL23) (.cons (.p (.int .i64)) (.cons (.slf 11 100) .nil)))),[(0,false,(.vars (.cons (.pt (.int .u32)) qL6))),(1,false,(.vars (.cons (.pt (.int .u32)) .nil))),(2,false,(.vars qL24)),(100,false,(.rows 43 qY4))]⟩⟩ false [(0,⟨[0,1,6],⟨(.cons (.own 0 0 0 0) (.cons (.fn 48 .nil qL23) (.cons (.slf 11 100) .nil))),[(0,false,(.vars (.cons (.pt (.int .u32)) qL6))),(1,false,(.vars (.cons (.pt (.int .u32)) .nil))),(2,false,(.vars qL24)),(100,false,(.rows 43 qY4))]⟩⟩)] (.two (.two (.join ⟨[0,1,6,28],⟨(.cons (.own 0 0 0 0) (.cons (.fn 48 .nil qL23) (.cons (.slf 11 100) (.cons (.p .bool) .nil)))),[(0,false,(.vars (.cons (.pt (.int .u32)) qL6))),(1,false,(.vars (.cons (.pt (.int .u32)) .nil))),(2,false,(.vars qL24)),(100,false,(.rows 43 qY4))]⟩⟩ false [] lf) lf) (.two (.one (.two (.reg [(0,{ids:=[101]})]) (.two (.reg [(1,{sh:=[101,1,2,0],fn:=1})]) (.reg [(2,{ids:=[102]}),(3,{ids:=[103]})])))) lf))))) lf)))),⟨(.cons (.own 0 0 0 0) (.cons (.fn 48 .nil qL23) .nil)),[(0,false,(.vars (.cons (.pt (.int .u32)) qL6))),(1,false,(.vars (.cons (.pt (.int .u32)) .nil))),(2,false,(.vars qL24))]⟩,[⟨(.cons (.slf 11 3) .nil),[(0,false,(.vars (.cons (.pt (.int .u32)) qL6))),(1,false,(.vars (.cons (.pt (.int .u32)) .nil))),(2,false,(.vars qL24)),(3,false,(.rows 43 qY4))]⟩],[0]⟩
def slisapiRe_ft(fu:Nat):FnT:=⟨47,slisapiRe_fa.i,slisapiRe_fa.os,u5 (slisapiRe fu)⟩
theorem fKZ(fu:Nat):Told Tryz.prog (slisapiRe_ft fu):=tk fu slisapiRe_fa (aaZ (avZ fu) (aaZ (fEZ fu) abZ)) Tryz.func47 (by kernel_rfl) fun t=>by kernel_rfl
def sGetGat1(fu:Nat)(h:Int)(h1:Int)(h2:List (Int))(h3:List (UInt8))(h4:Int)(h5:Bool)(h6:List (Int)):Option ((Int×(Int×qT48))):=
 (sreanumo15 fu h2 h3 h4 h5 h h1).bind fun r=>
 (slisapiRe fu r.1 r.2.1 r.2.2.1 r.2.2.2.1 h6).bind fun r1=>
 some (r.2.2.2.2.1,(r.2.2.2.2.2,r1))
def sGetGat1_fa:FnA:=⟨.two (.reg [(7,{ids:=[100],md:=[1]}),(8,{sh:=[2,100,0]})]) (.reg [(3,{ids:=[101],sh:=[2,3,1],fn:=1})]),⟨(.cons (.own 0 0 0 0) (.cons (.own 0 1 0 0) (.cons (.own 0 3 0 0) .nil))),[(0,false,(.vars (.cons (.p (.int .i64)) (.cons (.p (.int .i64)) (.cons (.nilp (.slice none 0 0)) .nil))))),(1,false,(.vars (.cons (.own 0 2 0 0) .nil))),(2,false,(.vars (.cons (.pt (.int .u32)) qL6))),(3,false,(.vars (.cons (.pt (.int .u32)) .nil)))]⟩,[⟨.nil,[(0,false,(.vars (.cons (.p (.int .i64)) (.cons (.p (.int .i64)) (.cons (.slf 11 4) .nil))))),(1,false,(.vars (.cons (.own 0 2 0 0) .nil))),(2,false,(.vars (.cons (.pt (.int .u32)) qL6))),(3,false,(.vars (.cons (.pt (.int .u32)) .nil))),(4,false,(.rows 43 qY4))]⟩],[]⟩
def sGetGat1_ft(fu:Nat):FnT:=⟨46,sGetGat1_fa.i,sGetGat1_fa.os,u7 (sGetGat1 fu)⟩
theorem g5Z(fu:Nat):Told Tryz.prog (sGetGat1_ft fu):=tk fu sGetGat1_fa (aaZ (fbZ fu) (aaZ (fKZ fu) abZ)) Tryz.func46 (by kernel_rfl) fun t=>by kernel_rfl
def slisapiKe_l0(fu:Nat)(n:Int)(h5:List (Int))(h6:List (UInt8))(h7:Int)(h8:Bool)(h9:List (Int))(h10:List (qT1)):Option ((Int×qT57)⊕(qT57)):=
 Option.bind (α:=((Bool×qT57))) (
  bif (decide (n>0)) then
   some ((!h8),(h5,(h6,(h7,(h8,(h9,h10))))))
  else
   some (false,(h5,(h6,(h7,(h8,(h9,h10))))))) fun o1=>
 bif o1.1 then
  (sGetGat1 fu 0 0 o1.2.1 o1.2.2.1 o1.2.2.2.1 o1.2.2.2.2.1 o1.2.2.2.2.2.1).bind fun r1=>
  need ((Nat.ble ((o1.2.2.2.2.2.2.length+1)*40) room)&&(Nat.ble (o1.2.2.2.2.2.2.length+1) room))<|
  some (.inl ((IntKind.wrap .i64 (n-1)),(r1.2.2.1,(r1.2.2.2.1,(r1.2.2.2.2.1,(r1.2.2.2.2.2.1,(r1.2.2.2.2.2.2.1,(o1.2.2.2.2.2.2++[(r1.1,(r1.2.1,r1.2.2.2.2.2.2.2))]))))))))
 else
  some (.inr o1.2)
def slisapiKe_l0_it(fu:Nat)(tt:(Int×qT57)):Option (qT57):=
 iter fu (fun tt=>slisapiKe_l0 fu tt.1 tt.2.1 tt.2.2.1 tt.2.2.2.1 tt.2.2.2.2.1 tt.2.2.2.2.2.1 tt.2.2.2.2.2.2) tt
def slisapiKe(fu:Nat)(h:List (Int))(h1:List (UInt8))(h2:Int)(h3:Bool)(h4:List (Int)):Option (qT57):=
 (sreanum fu h h1 h2 h3).bind fun r=>
 Option.bind (α:=(qT50)) (
  bif (decide (r.1>((r.2.2.1.length:Nat):Int))) then
   some (r.2.1,(r.2.2.1,(r.2.2.2.1,(true,h4))))
  else
   some (r.2.1,(r.2.2.1,(r.2.2.2.1,(r.2.2.2.2,h4))))) fun o=>
 (slisapiKe_l0_it fu (r.1,(o.1,(o.2.1,(o.2.2.1,(o.2.2.2.1,(o.2.2.2.2,[]))))))).bind fun o2=>
 some o2
def slisapiKe_fa:FnA:=⟨.two lf (.two (.reg [(1,{sh:=[0]})]) (.two (.two lf (.join ⟨[0,1],⟨(.cons (.own 0 0 0 0) (.cons (.fn 46 .nil qL23) .nil)),[(0,false,(.vars (.cons (.pt (.int .u32)) qL6))),(1,false,(.vars qL24)),(2,false,(.vars (.cons (.pt (.int .u32)) .nil)))]⟩⟩ false [] lf)) (.two lf (.two (.one (.pre (.ownNil 6 103 100) (.loop ⟨[0,1,5,6],⟨(.cons (.own 0 0 0 0) (.cons (.fn 46 .nil qL23) (.cons (.p (.int .i64)) (.cons (.slf 3 100) .nil)))),[(0,false,(.vars (.cons (.pt (.int .u32)) qL6))),(1,false,(.vars qL24)),(2,false,(.vars (.cons (.pt (.int .u32)) .nil))),(100,false,(.rows 103 qY25))]⟩⟩ false [(0,⟨[0,1,6],⟨(.cons (.own 0 0 0 0) (.cons (.fn 46 .nil qL23) (.cons (.slf 3 100) .nil))),[(0,false,(.vars (.cons (.pt (.int .u32)) qL6))),(1,false,(.vars qL24)),(2,false,(.vars (.cons (.pt (.int .u32)) .nil))),(100,false,(.rows 103 qY25))]⟩⟩)] (.two (.two (.join ⟨[0,1,6,28],⟨(.cons (.own 0 0 0 0) (.cons (.fn 46 .nil qL23) (.cons (.slf 3 100) (.cons (.p .bool) .nil)))),[(0,false,(.vars (.cons (.pt (.int .u32)) qL6))),(1,false,(.vars qL24)),(2,false,(.vars (.cons (.pt (.int .u32)) .nil))),(100,false,(.rows 103 qY25))]⟩⟩ false [] lf) lf) (.two (.one (.two (.reg [(0,{ids:=[101]})]) (.two (.reg [(1,{ids:=[102],sh:=[101,1,0,2],fn:=1})]) (.reg [(2,{ids:=[103]}),(3,{ids:=[104]})])))) lf))))) lf)))),⟨(.cons (.own 0 0 0 0) (.cons (.fn 46 .nil qL23) .nil)),[(0,false,(.vars (.cons (.pt (.int .u32)) qL6))),(1,false,(.vars qL24)),(2,false,(.vars (.cons (.pt (.int .u32)) .nil)))]⟩,[⟨(.cons (.slf 3 3) .nil),[(0,false,(.vars (.cons (.pt (.int .u32)) qL6))),(1,false,(.vars qL24)),(2,false,(.vars (.cons (.pt (.int .u32)) .nil))),(3,false,(.rows 103 qY25))]⟩],[0]⟩
def slisapiKe_ft(fu:Nat):FnT:=⟨45,slisapiKe_fa.i,slisapiKe_fa.os,u5 (slisapiKe fu)⟩
theorem fCZ(fu:Nat):Told Tryz.prog (slisapiKe_ft fu):=tk fu slisapiKe_fa (aaZ (avZ fu) (aaZ (g5Z fu) abZ)) Tryz.func45 (by kernel_rfl) fun t=>by kernel_rfl
def pRea1(fu:Nat)(most:Int)(h:List (UInt8))(h1:Int)(h2:Bool):Option ((Int×qT44)):=
 (bGetUin fu h h1).bind fun r=>
 Option.bind (α:=(qT44)) (
  bif h2 then
   some (h,(h1,true))
  else
   bif (!(r.2.2==0)) then
    some (h,(h1,true))
   else
    some (h,(h1,(decide (r.1>(IntKind.wrap .u64 most)))))) fun o=>
 bif o.2.2 then
  some (0,o)
 else
  some ((IntKind.wrap .i64 r.1),(o.1,(r.2.1,o.2.2)))
def pRea1_fa:FnA:=⟨.two lf (.two (.reg [(2,{})]) (.two (.two (.join ⟨[1,2,3],⟨(.cons (.own 0 0 0 0) qL23),[(0,false,(.vars qL47)),(1,false,(.vars qL5)),(2,false,(.vars (.cons (.p .bool) .nil)))]⟩⟩ false [] lf) (.two lf (.two lf lf))) (.two lf lf))),⟨(.cons (.p (.int .i64)) (.cons (.own 0 0 0 0) qL23)),[(0,false,(.vars qL47)),(1,false,(.vars qL5)),(2,false,(.vars (.cons (.p .bool) .nil)))]⟩,[⟨qL5,[(0,false,(.vars qL47)),(1,false,(.vars qL5)),(2,false,(.vars (.cons (.p .bool) .nil)))]⟩],[0]⟩
def pRea1_ft(fu:Nat):FnT:=⟨110,pRea1_fa.i,pRea1_fa.os,u4 (pRea1 fu)⟩
theorem lsZ(fu:Nat):Told Tryz.prog (pRea1_ft fu):=tk fu pRea1_fa (aaZ (bLZ fu) abZ) Tryz.func110 (by kernel_rfl) fun t=>by kernel_rfl
def pRea_l0(fu:Nat)(r2:(Int×qT44))(x1:Int)(h4:List (UInt8))(h5:Int)(h6:Bool)(h7:List ((Int×List (Int))))(h8:Int)(h9:List (Int)):Option ((Int×(List (UInt8)×(Int×(Bool×(List ((Int×List (Int)))×(Int×List (Int)))))))⊕((List (UInt8)×(Int×(Bool×(List ((Int×List (Int)))×(Int×List (Int)))))))):=
 bif (decide (x1<r2.1)) then
  (pRea1 fu 256 h4 h5 h6).bind fun r3=>
  need ((Nat.ble ((h9.length+1)*8) room)&&(Nat.ble (h9.length+1) room))<|
  some (.inl ((IntKind.wrap .i64 (x1+1)),(r3.2.1,(r3.2.2.1,(r3.2.2.2,(h7,(h8,(h9++[r3.1]))))))))
 else
  some (.inr (h4,(h5,(h6,(h7,(h8,h9))))))
def pRea_l0_it(fu:Nat)(r2:(Int×qT44))(tt:(Int×(List (UInt8)×(Int×(Bool×(List ((Int×List (Int)))×(Int×List (Int)))))))):Option ((List (UInt8)×(Int×(Bool×(List ((Int×List (Int)))×(Int×List (Int))))))):=
 iter fu (fun tt=>pRea_l0 fu r2 tt.1 tt.2.1 tt.2.2.1 tt.2.2.2.1 tt.2.2.2.2.1 tt.2.2.2.2.2.1 tt.2.2.2.2.2.2) tt
def pRea_l1(fu:Nat)(r:(Int×qT44))(x:Int)(h:List (UInt8))(h1:Int)(h2:Bool)(h3:List ((Int×List (Int)))):Option ((Int×(List (UInt8)×(Int×(Bool×List ((Int×List (Int)))))))⊕((List (UInt8)×(Int×(Bool×List ((Int×List (Int)))))))):=
 bif (decide (x<r.1)) then
  (pRea1 fu 1099511627776 h h1 h2).bind fun r1=>
  (pRea1 fu 255 r1.2.1 r1.2.2.1 r1.2.2.2).bind fun r2=>
  (pRea_l0_it fu r2 (0,(r2.2.1,(r2.2.2.1,(r2.2.2.2,(h3,(r1.1,[]))))))).bind fun o=>
  need ((Nat.ble ((o.2.2.2.1.length+1)*32) room)&&(Nat.ble (o.2.2.2.1.length+1) room))<|
  bif o.2.2.1 then
   some (.inr (o.1,(o.2.1,(o.2.2.1,(o.2.2.2.1++[o.2.2.2.2])))))
  else
   some (.inl ((IntKind.wrap .i64 (x+1)),(o.1,(o.2.1,(o.2.2.1,(o.2.2.2.1++[o.2.2.2.2]))))))
 else
  some (.inr (h,(h1,(h2,h3))))
def pRea_l1_it(fu:Nat)(r:(Int×qT44))(tt:(Int×(List (UInt8)×(Int×(Bool×List ((Int×List (Int)))))))):Option ((List (UInt8)×(Int×(Bool×List ((Int×List (Int))))))):=
 iter fu (fun tt=>pRea_l1 fu r tt.1 tt.2.1 tt.2.2.1 tt.2.2.2.1 tt.2.2.2.2) tt
def pRea(fu:Nat)(b:List (UInt8)):Option ((Int×List ((Int×List (Int))))):=
 (pRea1 fu 1000 b 0 false).bind fun r=>
 (pRea_l1_it fu r (0,(r.2.1,(r.2.2.1,(r.2.2.2,[]))))).bind fun o1=>
 Option.bind (α:=((Bool×List ((Int×List (Int)))))) (
  bif o1.2.2.1 then
   some (true,o1.2.2.2)
  else
   bif (!(o1.2.1==((o1.1.length:Nat):Int))) then
    some (true,o1.2.2.2)
   else
    (place_all fu o1.2.2.2).bind fun r4=>
    some ((!r4),o1.2.2.2)) fun o2=>
 bif o2.1 then
  some (100,[])
 else
  some (0,o2.2)
def pRea_fa:FnA:=⟨.two (.reg [(0,{ids:=[100]})]) (.two (.reg [(0,{ids:=[101]}),(1,{ids:=[102]})]) (.two lf (.two lf (.two (.two (.reg [(1,{sh:=[100,101,102]})]) (.one (.pre (.ownNil 7 37 103) (.loop ⟨[1,4,5,6,7,12],⟨(.cons (.own 0 100 0 0) (.cons (.own 0 101 0 0) (.cons (.own 0 102 0 0) (.cons (.fn 110 .nil (.cons (.own 0 100 0 0) (.cons (.own 0 101 0 0) (.cons (.own 0 102 0 0) .nil)))) (.cons (.slf 2 103) qL5))))),[(100,false,(.vars qL47)),(101,false,(.vars qL5)),(102,false,(.vars (.cons (.p .bool) .nil))),(103,false,(.rows 37 qY22))]⟩⟩ false [(0,⟨[1,4,5,7],⟨(.cons (.own 0 100 0 0) (.cons (.own 0 101 0 0) (.cons (.own 0 102 0 0) (.cons (.slf 2 109) .nil)))),[(100,false,(.vars qL47)),(101,false,(.vars qL5)),(102,false,(.vars (.cons (.p .bool) .nil))),(109,false,(.rows 37 qY22))]⟩⟩)] (.two lf (.two lf (.two (.one (.two (.reg [(1,{sh:=[100,101,102]}),(3,{ids:=[104]})]) (.two (.two (.reg [(1,{sh:=[100,101,102]})]) (.one (.pre (.ownCell 104 1 3 105) (.loop ⟨[1,4,5,6,7,8,19],⟨(.cons (.own 0 100 0 0) (.cons (.own 0 101 0 0) (.cons (.own 0 102 0 0) (.cons (.fn 110 .nil (.cons (.own 0 100 0 0) (.cons (.own 0 101 0 0) (.cons (.own 0 102 0 0) .nil)))) (.cons (.slf 2 103) (.cons (.own 0 104 0 0) qL5)))))),[(100,false,(.vars qL47)),(101,false,(.vars qL5)),(102,false,(.vars (.cons (.p .bool) .nil))),(103,false,(.rows 37 qY22)),(104,false,(.vars (.cons (.p (.int .i64)) (.cons (.slf 1 105) .nil)))),(105,false,(.rows 3 (.int .i64)))]⟩⟩ false [(2,⟨[1,4,5,6,7,8],⟨(.cons (.own 0 100 0 0) (.cons (.own 0 101 0 0) (.cons (.own 0 102 0 0) (.cons (.fn 110 .nil (.cons (.own 0 100 0 0) (.cons (.own 0 101 0 0) (.cons (.own 0 102 0 0) .nil)))) (.cons (.slf 2 103) (.cons (.own 0 104 0 0) .nil)))))),[(100,false,(.vars qL47)),(101,false,(.vars qL5)),(102,false,(.vars (.cons (.p .bool) .nil))),(103,false,(.rows 37 qY22)),(104,false,(.vars (.cons (.p (.int .i64)) (.cons (.slf 1 105) .nil)))),(105,false,(.rows 3 (.int .i64)))]⟩⟩)] (.two lf (.two lf (.two (.one (.reg [(3,{sh:=[100,101,102]}),(4,{ids:=[106]}),(5,{ids:=[107]})])) lf))))))) (.two (.reg [(2,{ids:=[108]}),(3,{ids:=[109]})]) (.two lf lf))))) lf))))))) (.two (.two (.join ⟨[7,46],⟨(.cons (.slf 2 109) (.cons (.p .bool) .nil)),[(109,false,(.rows 37 qY22))]⟩⟩ false [] (.reg [(9,{md:=[2],fn:=1})])) (.two lf lf)) lf))))),⟨qL47,[]⟩,[⟨(.cons (.slf 2 0) qL5),[(0,false,(.rows 37 qY22))]⟩],[47,0]⟩
def pRea_ft(fu:Nat):FnT:=⟨51,pRea_fa.i,pRea_fa.os,fun t=>pRea fu t⟩
theorem mOZ(fu:Nat):Told Tryz.prog (pRea_ft fu):=tk fu pRea_fa (aaZ (lsZ fu) (aaZ (bTZ fu) abZ)) Tryz.func51 (by kernel_rfl) fun t=>by kernel_rfl
def sGetGat(fu:Nat)(t:List (Int))(b:List (UInt8)):Option ((Int×(List (qT0)×(Int×(Int×(List (qT1)×(List ((Int×List (Int)))×(List ((Int×Int))×Int)))))))):=
 (sreanumo12 fu t b 0 false 0 0 0).bind fun r=>
 (sreaino fu r.1 r.2.1 r.2.2.1 r.2.2.2.1).bind fun r1=>
 (sreanumo13 fu r1.1 r1.2.1 r1.2.2.1 r1.2.2.2.1 r.2.2.2.2.1 r.2.2.2.2.2.1 r.2.2.2.2.2.2 r1.2.2.2.2).bind fun r2=>
 (slisapiKe fu r2.1 r2.2.1 r2.2.2.1 r2.2.2.2.1 t).bind fun r3=>
 (sreablo fu 16777216 r3.1 r3.2.1 r3.2.2.1 r3.2.2.2.1).bind fun r4=>
 (pRea fu r4.2.2.2.2).bind fun r5=>
 Option.bind (α:=((Int×(Int×(Int×(List (Int)×(List (UInt8)×(Int×(Bool×(Int×(Int×(Int×(List (qT0)×(List (qT1)×List ((Int×List (Int))))))))))))))))) (
  bif r4.2.2.2.1 then
   some (0,(0,(0,(r4.1,(r4.2.1,(r4.2.2.1,(true,(r2.2.2.2.2.1,(r2.2.2.2.2.2.1,(r2.2.2.2.2.2.2.1,(r2.2.2.2.2.2.2.2,(r3.2.2.2.2.2,r5.2))))))))))))
  else
   some (0,(0,(0,(r4.1,(r4.2.1,(r4.2.2.1,((!(r5.1==0)),(r2.2.2.2.2.1,(r2.2.2.2.2.2.1,(r2.2.2.2.2.2.2.1,(r2.2.2.2.2.2.2.2,(r3.2.2.2.2.2,r5.2))))))))))))) fun o=>
 (sreapar fu o.2.2.2.1 o.2.2.2.2.1 o.2.2.2.2.2.1 o.2.2.2.2.2.2.1).bind fun r6=>
 Option.bind (α:=((Bool×(Int×(Int×(Int×(Int×(Int×(Int×(List (qT0)×(List (qT1)×(List ((Int×List (Int)))×List ((Int×Int)))))))))))))) (
  bif r6.2.2.2.1 then
   some (true,(o.1,(o.2.1,(o.2.2.1,(o.2.2.2.2.2.2.2.1,(o.2.2.2.2.2.2.2.2.1,(o.2.2.2.2.2.2.2.2.2.1,(o.2.2.2.2.2.2.2.2.2.2.1,(o.2.2.2.2.2.2.2.2.2.2.2.1,(o.2.2.2.2.2.2.2.2.2.2.2.2,r6.2.2.2.2))))))))))
  else
   some ((!(r6.2.2.1==((b.length:Nat):Int))),(o.1,(o.2.1,(o.2.2.1,(o.2.2.2.2.2.2.2.1,(o.2.2.2.2.2.2.2.2.1,(o.2.2.2.2.2.2.2.2.2.1,(o.2.2.2.2.2.2.2.2.2.2.1,(o.2.2.2.2.2.2.2.2.2.2.2.1,(o.2.2.2.2.2.2.2.2.2.2.2.2,r6.2.2.2.2))))))))))) fun o1=>
 bif o1.1 then
  some (0,([],(0,(0,([],([],([],10)))))))
 else
  some (o1.2.2.2.2.1,(o1.2.2.2.2.2.2.2.1,(o1.2.2.2.2.2.1,(o1.2.2.2.2.2.2.1,(o1.2.2.2.2.2.2.2.2.1,(o1.2.2.2.2.2.2.2.2.2.1,(o1.2.2.2.2.2.2.2.2.2.2,0)))))))
def sGetGat_fa:FnA:=⟨.two (.reg [(0,{ids:=[100]}),(1,{ids:=[101]})]) (.two (.reg [(3,{ids:=[102]}),(4,{ids:=[103]})]) (.two (.reg [(0,{ids:=[104]})]) (.two (.reg [(4,{ids:=[105],md:=[1]}),(5,{sh:=[102,105,104]})]) (.two (.reg [(1,{ids:=[106],sh:=[102],fn:=1})]) (.two (.reg [(3,{ids:=[107],md:=[1]}),(4,{sh:=[102,107,104,106],fn:=2})]) (.two (.reg [(2,{ids:=[108],sh:=[102,103,100],fn:=3})]) (.two (.reg [(1,{ids:=[109],sh:=[102],fn:=4}),(2,{ids:=[110],md:=[1],fn:=5})]) (.two (.join ⟨[4,6,7],⟨(.cons (.own 0 101 0 0) (.cons (.own 0 103 0 0) (.cons (.own 0 104 0 0) .nil))),[(101,false,qB16),(103,false,(.vars (.cons (.own 0 102 0 0) .nil))),(102,false,(.vars (.cons (.pt (.int .u32)) qL6))),(104,false,(.vars (.cons (.p (.int .i64)) (.cons (.slf 8 106) (.cons (.p (.int .i64)) (.cons (.p (.int .i64)) (.cons (.slf 3 108) (.cons (.slf 2 110) (.cons (.nilp (.slice none 0 0)) .nil))))))))),(106,false,(.rows 93 qY3)),(108,false,(.rows 103 qY25)),(110,false,(.rows 37 qY22))]⟩⟩ false [] lf) (.two (.reg [(1,{ids:=[111],sh:=[102],fn:=6})]) (.two (.two (.join ⟨[4,7,68],⟨(.cons (.own 0 101 0 0) (.cons (.own 0 104 0 0) (.cons (.p .bool) .nil))),[(101,false,qB16),(104,false,(.vars (.cons (.p (.int .i64)) (.cons (.slf 8 106) (.cons (.p (.int .i64)) (.cons (.p (.int .i64)) (.cons (.slf 3 108) (.cons (.slf 2 110) (.cons (.slf 2 111) .nil))))))))),(106,false,(.rows 93 qY3)),(108,false,(.rows 103 qY25)),(110,false,(.rows 37 qY22)),(111,false,(.rows 145 qY34))]⟩⟩ false [] lf) (.two lf lf)) lf)))))))))),⟨(.cons (.pt (.int .u32)) qL47),[]⟩,[⟨(.cons (.agg qL2) qL5),[]⟩],[1,0]⟩
def sGetGat_ft(fu:Nat):FnT:=⟨13,sGetGat_fa.i,sGetGat_fa.os,fun t=>sGetGat fu t.1 t.2⟩
theorem icZ(fu:Nat):Told Tryz.prog (sGetGat_ft fu):=tk fu sGetGat_fa (aaZ (fqZ fu) (aaZ (i7Z fu) (aaZ (e4Z fu) (aaZ (fCZ fu) (aaZ (bCZ fu) (aaZ (mOZ fu) (aaZ (dNZ fu) abZ))))))) Tryz.func13 (by kernel_rfl) fun t=>by kernel_rfl
def lCopByt(fu:Nat)(l:List (UInt8)):Option (List (UInt8)):=
 need ((Nat.ble (l.length*1) room)&&(Nat.ble l.length room))<|
 some l
def lCopByt_fa:FnA:=⟨.two lf (.two lf (.two (.reg [(2,{ids:=[100]})]) lf)),⟨qL47,[]⟩,[⟨(.cons (.slf 1 0) .nil),[(0,false,(.rows 5 .byte))]⟩],[0]⟩
def lCopByt_ft(fu:Nat):FnT:=⟨15,lCopByt_fa.i,lCopByt_fa.os,fun t=>lCopByt fu t⟩
theorem irZ(fu:Nat):Told Tryz.prog (lCopByt_ft fu):=tk fu lCopByt_fa abZ Tryz.func15 (by kernel_rfl) fun t=>by kernel_rfl
def sreanumo1(fu:Nat)(h:List (Int))(h1:List (UInt8))(h2:Int)(h3:Bool)(h4:Int)(h5:Int)(h6:Int)(h7:Int)(h8:Int)(h9:Int)(h10:Int)(h11:List UInt8)(h12:Int)(h13:Int)(h14:List UInt8)(h15:Int)(h16:Int)(h17:Int)(h18:Int)(h19:Int)(h20:Int):Option ((List (Int)×(List (UInt8)×(Int×(Bool×(Int×(Int×(Int×(Int×(Int×(Int×(Int×(List UInt8×(Int×(Int×(List UInt8×(Int×(Int×(Int×(Int×(Int×Int))))))))))))))))))))):=
 (sreanum fu h h1 h2 h3).bind fun r=>
 (sreanum fu r.2.1 r.2.2.1 r.2.2.2.1 r.2.2.2.2).bind fun r1=>
 (sreanum fu r1.2.1 r1.2.2.1 r1.2.2.2.1 r1.2.2.2.2).bind fun r2=>
 (sreanum fu r2.2.1 r2.2.2.1 r2.2.2.2.1 r2.2.2.2.2).bind fun r3=>
 (sreanum fu r3.2.1 r3.2.2.1 r3.2.2.2.1 r3.2.2.2.2).bind fun r4=>
 some (r4.2.1,(r4.2.2.1,(r4.2.2.2.1,(r4.2.2.2.2,(r.1,(r1.1,(h6,(h7,(h8,(h9,(h10,(h11,(h12,(h13,(h14,(h15,(h16,(h17,(r3.1,(r4.1,r2.1))))))))))))))))))))
def sreanumo1_fa:FnA:=⟨.two lf (.one (.round (.two lf (.two lf (.two (.one (.two lf (.reg [(2,{sh:=[0]})]))) lf))) (.round (.two lf (.two lf (.two (.one (.two lf (.reg [(2,{sh:=[0]})]))) lf))) (.round (.two lf (.two lf (.two (.one (.two lf (.reg [(2,{sh:=[0]})]))) lf))) (.round (.two lf (.two lf (.two (.one (.two lf (.reg [(2,{sh:=[0]})]))) lf))) (.round (.two lf (.two lf (.two (.one (.two lf (.reg [(2,{sh:=[0]})]))) lf))) (.round (.two lf (.two lf lf)) lf))))))),⟨qL45,[(0,false,(.vars (.cons (.pt (.int .u32)) qL6))),(1,false,(.vars (.cons (.own 0 2 0 0) (.cons (.own 0 2 0 1) (.cons (.own 0 3 0 0) (.cons (.own 0 2 0 16) (.cons (.own 0 2 0 17) .nil))))))),(2,false,qB17),(3,false,(.vars qL5))]⟩,[⟨.nil,[(0,false,(.vars (.cons (.pt (.int .u32)) qL6))),(1,false,(.vars (.cons (.own 0 2 0 0) (.cons (.own 0 2 0 1) (.cons (.own 0 3 0 0) (.cons (.own 0 2 0 16) (.cons (.own 0 2 0 17) .nil))))))),(2,false,qB17),(3,false,(.vars qL5))]⟩],[]⟩
def sreanumo1_ft(fu:Nat):FnT:=⟨43,sreanumo1_fa.i,sreanumo1_fa.os,u21 (sreanumo1 fu)⟩
theorem f9Z(fu:Nat):Told Tryz.prog (sreanumo1_ft fu):=tk fu sreanumo1_fa (aaZ (avZ fu) abZ) Tryz.func43 (by kernel_rfl) fun t=>by kernel_rfl
def sreanumo17(fu:Nat)(h:List (Int))(h1:List (UInt8))(h2:Int)(h3:Bool)(h4:Int):Option ((List (Int)×(List (UInt8)×(Int×(Bool×Int))))):=
 (sreanum fu h h1 h2 h3).bind fun r=>
 some (r.2.1,(r.2.2.1,(r.2.2.2.1,(r.2.2.2.2,r.1))))
def sreanumo17_fa:FnA:=⟨.two lf (.one (.round (.two lf (.two lf (.two (.one (.two lf (.reg [(2,{sh:=[0]})]))) lf))) (.round (.two lf (.two lf lf)) lf))),⟨qL45,[(0,false,(.vars (.cons (.pt (.int .u32)) qL6))),(1,false,(.vars (.cons (.own 0 2 0 0) .nil))),(2,false,(.vars qL5))]⟩,[⟨.nil,[(0,false,(.vars (.cons (.pt (.int .u32)) qL6))),(1,false,(.vars (.cons (.own 0 2 0 0) .nil))),(2,false,(.vars qL5))]⟩],[]⟩
def sreanumo17_ft(fu:Nat):FnT:=⟨43,sreanumo17_fa.i,sreanumo17_fa.os,u5 (sreanumo17 fu)⟩
theorem erZ(fu:Nat):Told Tryz.prog (sreanumo17_ft fu):=tk fu sreanumo17_fa (aaZ (avZ fu) abZ) Tryz.func43 (by kernel_rfl) fun t=>by kernel_rfl
def sGetCha1(fu:Nat)(h:Int)(h1:List (Int))(h2:List (UInt8))(h3:Int)(h4:Bool):Option ((Int×(List (Int)×qT44))):=
 (sreanumo17 fu h1 h2 h3 h4 h).bind fun r=>
 some (r.2.2.2.2,(r.1,(r.2.1,(r.2.2.1,r.2.2.2.1))))
def sGetCha1_fa:FnA:=⟨.reg [(2,{ids:=[100],md:=[1]}),(3,{sh:=[2,100,0]})],⟨qL35,[(0,false,(.vars qL5)),(1,false,(.vars (.cons (.own 0 2 0 0) .nil))),(2,false,(.vars (.cons (.pt (.int .u32)) qL6)))]⟩,[⟨.nil,[(0,false,(.vars qL5)),(1,false,(.vars (.cons (.own 0 2 0 0) .nil))),(2,false,(.vars (.cons (.pt (.int .u32)) qL6)))]⟩],[]⟩
def sGetCha1_ft(fu:Nat):FnT:=⟨55,sGetCha1_fa.i,sGetCha1_fa.os,u5 (sGetCha1 fu)⟩
theorem h0Z(fu:Nat):Told Tryz.prog (sGetCha1_ft fu):=tk fu sGetCha1_fa (aaZ (erZ fu) abZ) Tryz.func55 (by kernel_rfl) fun t=>by kernel_rfl
def slisintf1_l0(fu:Nat)(n:Int)(h4:List (Int))(h5:List (UInt8))(h6:Int)(h7:Bool)(h8:List (Int)):Option ((Int×qT50)⊕(qT50)):=
 Option.bind (α:=((Bool×qT50))) (
  bif (decide (n>0)) then
   some ((!h7),(h4,(h5,(h6,(h7,h8)))))
  else
   some (false,(h4,(h5,(h6,(h7,h8)))))) fun o1=>
 bif o1.1 then
  (sGetCha1 fu 0 o1.2.1 o1.2.2.1 o1.2.2.2.1 o1.2.2.2.2.1).bind fun r1=>
  need ((Nat.ble ((o1.2.2.2.2.2.length+1)*8) room)&&(Nat.ble (o1.2.2.2.2.2.length+1) room))<|
  some (.inl ((IntKind.wrap .i64 (n-1)),(r1.2.1,(r1.2.2.1,(r1.2.2.2.1,(r1.2.2.2.2,(o1.2.2.2.2.2++[r1.1])))))))
 else
  some (.inr o1.2)
def slisintf1_l0_it(fu:Nat)(tt:(Int×qT50)):Option (qT50):=
 iter fu (fun tt=>slisintf1_l0 fu tt.1 tt.2.1 tt.2.2.1 tt.2.2.2.1 tt.2.2.2.2.1 tt.2.2.2.2.2) tt
def slisintf1(fu:Nat)(h:List (Int))(h1:List (UInt8))(h2:Int)(h3:Bool):Option (qT50):=
 (sreanum fu h h1 h2 h3).bind fun r=>
 Option.bind (α:=((List (Int)×qT44))) (
  bif (decide (r.1>((r.2.2.1.length:Nat):Int))) then
   some (r.2.1,(r.2.2.1,(r.2.2.2.1,true)))
  else
   some r.2) fun o=>
 (slisintf1_l0_it fu (r.1,(o.1,(o.2.1,(o.2.2.1,(o.2.2.2,[])))))).bind fun o2=>
 some o2
def slisintf1_fa:FnA:=⟨.two lf (.two (.reg [(1,{sh:=[0]})]) (.two (.two lf (.join ⟨[0,1],⟨(.cons (.own 0 0 0 0) (.cons (.fn 55 .nil (.cons (.own 0 1 0 0) .nil)) .nil)),[(0,false,(.vars (.cons (.pt (.int .u32)) qL6))),(1,false,(.vars qL24))]⟩⟩ false [] lf)) (.two lf (.two (.one (.pre (.ownNil 6 3 100) (.loop ⟨[0,1,5,6],⟨(.cons (.own 0 0 0 0) (.cons (.fn 55 .nil (.cons (.own 0 1 0 0) .nil)) (.cons (.p (.int .i64)) (.cons (.slf 1 100) .nil)))),[(0,false,(.vars (.cons (.pt (.int .u32)) qL6))),(1,false,(.vars qL24)),(100,false,(.rows 3 (.int .i64)))]⟩⟩ false [(0,⟨[0,1,6],⟨(.cons (.own 0 0 0 0) (.cons (.fn 55 .nil (.cons (.own 0 1 0 0) .nil)) (.cons (.slf 1 100) .nil))),[(0,false,(.vars (.cons (.pt (.int .u32)) qL6))),(1,false,(.vars qL24)),(100,false,(.rows 3 (.int .i64)))]⟩⟩)] (.two (.two (.join ⟨[0,1,6,28],⟨(.cons (.own 0 0 0 0) (.cons (.fn 55 .nil (.cons (.own 0 1 0 0) .nil)) (.cons (.slf 1 100) (.cons (.p .bool) .nil)))),[(0,false,(.vars (.cons (.pt (.int .u32)) qL6))),(1,false,(.vars qL24)),(100,false,(.rows 3 (.int .i64)))]⟩⟩ false [] lf) lf) (.two (.one (.two (.reg [(0,{ids:=[101]})]) (.two (.reg [(1,{sh:=[101,1,0],fn:=1})]) (.reg [(2,{ids:=[102]}),(3,{ids:=[103]})])))) lf))))) lf)))),⟨(.cons (.own 0 0 0 0) (.cons (.fn 55 .nil (.cons (.own 0 1 0 0) .nil)) .nil)),[(0,false,(.vars (.cons (.pt (.int .u32)) qL6))),(1,false,(.vars qL24))]⟩,[⟨(.cons (.slf 1 2) .nil),[(0,false,(.vars (.cons (.pt (.int .u32)) qL6))),(1,false,(.vars qL24)),(2,false,(.rows 3 (.int .i64)))]⟩],[0]⟩
def slisintf1_ft(fu:Nat):FnT:=⟨54,slisintf1_fa.i,slisintf1_fa.os,u4 (slisintf1 fu)⟩
theorem fRZ(fu:Nat):Told Tryz.prog (slisintf1_ft fu):=tk fu slisintf1_fa (aaZ (avZ fu) (aaZ (h0Z fu) abZ)) Tryz.func54 (by kernel_rfl) fun t=>by kernel_rfl
def creanumn02(fu:Nat)(h:Int)(h1:Int)(h2:Int)(h3:Int)(h4:Int)(h5:List UInt8)(h6:Int)(h7:Int)(h8:List UInt8)(h9:Int)(h10:Int)(h11:Int):Option (Empty):=
 (creanumn03 fu).bind fun r=>
 Empty.elim r
def creanumn02_fa:FnA:=⟨.two lf (.one (.round (.two lf (.two lf (.two (.one (.two lf (.reg [(2,{})]))) lf))) lf)),⟨(.cons (.nilp (.pointer none)) (.cons (.slf 1 0) .nil)),[(0,false,(.vars (.cons (.own 0 1 0 0) (.cons (.own 0 1 0 1) (.cons (.own 0 2 0 0) (.cons (.own 0 1 0 3) (.cons (.own 0 1 0 4) (.cons (.own 0 1 0 6) (.cons (.own 0 1 0 7) (.cons (.own 0 1 0 9) (.cons (.own 0 1 0 10) .nil))))))))))),(1,false,qB26),(2,false,(.vars qL5))]⟩,[],[]⟩
def creanumn02_ft(fu:Nat):FnT:=⟨105,creanumn02_fa.i,creanumn02_fa.os,u12 (creanumn02 fu)⟩
theorem fsZ(fu:Nat):Told Tryz.prog (creanumn02_ft fu):=tk fu creanumn02_fa (aaZ (cvZ fu) abZ) Tryz.func105 (by kernel_rfl) fun t=>by kernel_rfl
def creanumo13(fu:Nat)(h:List (UInt8))(h1:Int)(h2:Bool)(h3:Int)(h4:Int)(h5:Int)(h6:Int)(h7:Int)(h8:List UInt8)(h9:Int)(h10:Int)(h11:List UInt8)(h12:Int)(h13:Int)(h14:Int):Option ((List (UInt8)×(Int×(Bool×(Int×(Int×(Int×(Int×(Int×(List UInt8×(Int×(Int×(List UInt8×(Int×(Int×Int))))))))))))))):=
 (creanum fu h h1 h2).bind fun r=>
 (creanum fu r.2.1 r.2.2.1 r.2.2.2).bind fun r1=>
 (creanum fu r1.2.1 r1.2.2.1 r1.2.2.2).bind fun r2=>
 (creanum fu r2.2.1 r2.2.2.1 r2.2.2.2).bind fun r3=>
 (creanum fu r3.2.1 r3.2.2.1 r3.2.2.2).bind fun r4=>
 (creanum fu r4.2.1 r4.2.2.1 r4.2.2.2).bind fun r5=>
 (creanum fu r5.2.1 r5.2.2.1 r5.2.2.2).bind fun r6=>
 (creanum fu r6.2.1 r6.2.2.1 r6.2.2.2).bind fun r7=>
 (creanum fu r7.2.1 r7.2.2.1 r7.2.2.2).bind fun r8=>
 some (r8.2.1,(r8.2.2.1,(r8.2.2.2,(r.1,(r1.1,(h5,(r3.1,(r4.1,(h8,(r5.1,(r6.1,(h11,(r7.1,(r8.1,r2.1))))))))))))))
def creanumo13_fa:FnA:=⟨.two lf (.one (.round (.two lf (.two lf (.two (.one (.two lf (.reg [(2,{sh:=[0]})]))) lf))) (.round (.two lf (.two lf (.two (.one (.two lf (.reg [(2,{sh:=[0]})]))) lf))) (.round (.two lf (.two lf (.two (.one (.two lf (.reg [(2,{sh:=[0]})]))) lf))) (.round (.two lf (.two lf (.two (.one (.two lf (.reg [(2,{sh:=[0]})]))) lf))) (.round (.two lf (.two lf (.two (.one (.two lf (.reg [(2,{sh:=[0]})]))) lf))) (.round (.two lf (.two lf (.two (.one (.two lf (.reg [(2,{sh:=[0]})]))) lf))) (.round (.two lf (.two lf (.two (.one (.two lf (.reg [(2,{sh:=[0]})]))) lf))) (.round (.two lf (.two lf (.two (.one (.two lf (.reg [(2,{sh:=[0]})]))) lf))) (.round (.two lf (.two lf (.two (.one (.two lf (.reg [(2,{sh:=[0]})]))) lf))) (.round (.two lf (.two lf lf)) lf))))))))))),⟨qL45,[(0,false,(.vars qL6)),(1,false,(.vars (.cons (.own 0 2 0 0) (.cons (.own 0 2 0 1) (.cons (.own 0 3 0 0) (.cons (.own 0 2 0 3) (.cons (.own 0 2 0 4) (.cons (.own 0 2 0 6) (.cons (.own 0 2 0 7) (.cons (.own 0 2 0 9) (.cons (.own 0 2 0 10) .nil))))))))))),(2,false,qB26),(3,false,(.vars qL5))]⟩,[⟨.nil,[(0,false,(.vars qL6)),(1,false,(.vars (.cons (.own 0 2 0 0) (.cons (.own 0 2 0 1) (.cons (.own 0 3 0 0) (.cons (.own 0 2 0 3) (.cons (.own 0 2 0 4) (.cons (.own 0 2 0 6) (.cons (.own 0 2 0 7) (.cons (.own 0 2 0 9) (.cons (.own 0 2 0 10) .nil))))))))))),(2,false,qB26),(3,false,(.vars qL5))]⟩],[]⟩
def creanumo13_ft(fu:Nat):FnT:=⟨105,creanumo13_fa.i,creanumo13_fa.os,u15 (creanumo13 fu)⟩
theorem frZ(fu:Nat):Told Tryz.prog (creanumo13_ft fu):=tk fu creanumo13_fa (aaZ (baZ fu) abZ) Tryz.func105 (by kernel_rfl) fun t=>by kernel_rfl
def cGetCal(fu:Nat)(t:List (Int))(b:List (UInt8)):Option ((Int×(Int×(Int×(Int×(Int×(List UInt8×(Int×(Int×(List UInt8×(Int×(Int×(List (UInt8)×Int))))))))))))):=
 (cbeg fu t b 3).bind fun r=>
 match r with
 |.inl r1=>
  bif (!(r1==0)) then
   some (0,(0,(0,(0,(0,([],(0,(0,([],(0,(0,([],r1))))))))))))
  else
   (creanumn02 fu 0 0 0 0 0 [] 0 0 [] 0 0 0).bind fun r3=>
   Empty.elim r3
 |.inr r2=>
  bif (!(r2.1==0)) then
   some (0,(0,(0,(0,(0,([],(0,(0,([],(0,(0,([],r2.1))))))))))))
  else
   (creanumo13 fu r2.2.1 r2.2.2.1 r2.2.2.2 0 0 0 0 0 [] 0 0 [] 0 0 0).bind fun r4=>
   (creablo fu 100 r4.1 r4.2.1 r4.2.2.1).bind fun r5=>
   (creablo fu 100 r5.1 r5.2.1 r5.2.2.1).bind fun r6=>
   (creablo fu 4096 r6.1 r6.2.1 r6.2.2.1).bind fun r7=>
   Option.bind (α:=((Bool×(Int×(Int×(Int×(Int×(Int×(List UInt8×(Int×(Int×(List UInt8×(Int×(Int×(Int×(Int×(Int×(Int×(Int×(List UInt8×(Int×(Int×(List UInt8×(Int×(Int×List (UInt8)))))))))))))))))))))))))) (
    bif r7.2.2.1 then
     some (true,(0,(0,(0,(0,(0,([],(0,(0,([],(0,(0,(r4.2.2.2.1,(r4.2.2.2.2.1,((IntKind.wrap .u8 r4.2.2.2.2.2.2.2.2.2.2.2.2.2.2),(r4.2.2.2.2.2.2.1,(r4.2.2.2.2.2.2.2.1,(r5.2.2.2,(r4.2.2.2.2.2.2.2.2.2.1,(r4.2.2.2.2.2.2.2.2.2.2.1,(r6.2.2.2,(r4.2.2.2.2.2.2.2.2.2.2.2.2.1,(r4.2.2.2.2.2.2.2.2.2.2.2.2.2.1,r7.2.2.2)))))))))))))))))))))))
    else
     bif (decide (r4.2.2.2.2.2.2.2.2.2.2.2.2.2.2>255)) then
      some (true,(0,(0,(0,(0,(0,([],(0,(0,([],(0,(0,(r4.2.2.2.1,(r4.2.2.2.2.1,((IntKind.wrap .u8 r4.2.2.2.2.2.2.2.2.2.2.2.2.2.2),(r4.2.2.2.2.2.2.1,(r4.2.2.2.2.2.2.2.1,(r5.2.2.2,(r4.2.2.2.2.2.2.2.2.2.1,(r4.2.2.2.2.2.2.2.2.2.2.1,(r6.2.2.2,(r4.2.2.2.2.2.2.2.2.2.2.2.2.1,(r4.2.2.2.2.2.2.2.2.2.2.2.2.2.1,r7.2.2.2)))))))))))))))))))))))
     else
      bif (!(r7.2.1==((r7.1.length:Nat):Int))) then
       some (true,(0,(0,(0,(0,(0,([],(0,(0,([],(0,(0,(r4.2.2.2.1,(r4.2.2.2.2.1,((IntKind.wrap .u8 r4.2.2.2.2.2.2.2.2.2.2.2.2.2.2),(r4.2.2.2.2.2.2.1,(r4.2.2.2.2.2.2.2.1,(r5.2.2.2,(r4.2.2.2.2.2.2.2.2.2.1,(r4.2.2.2.2.2.2.2.2.2.2.1,(r6.2.2.2,(r4.2.2.2.2.2.2.2.2.2.2.2.2.1,(r4.2.2.2.2.2.2.2.2.2.2.2.2.2.1,r7.2.2.2)))))))))))))))))))))))
      else
       (byte? (IntKind.wrap .u8 r4.2.2.2.2.2.2.2.2.2.2.2.2.2.2)).bind fun c=>
       (cRigCal fu (r4.2.2.2.1,(r4.2.2.2.2.1,(c,((r4.2.2.2.2.2.2.1,r4.2.2.2.2.2.2.2.1),(r5.2.2.2,((r4.2.2.2.2.2.2.2.2.2.1,r4.2.2.2.2.2.2.2.2.2.2.1),(r6.2.2.2,(r4.2.2.2.2.2.2.2.2.2.2.2.2.1,(r4.2.2.2.2.2.2.2.2.2.2.2.2.2.1,r7.2.2.2)))))))))).bind fun r8=>
       some ((!r8),(0,(0,(0,(0,(0,([],(0,(0,([],(0,(0,(r4.2.2.2.1,(r4.2.2.2.2.1,((IntKind.wrap .u8 r4.2.2.2.2.2.2.2.2.2.2.2.2.2.2),(r4.2.2.2.2.2.2.1,(r4.2.2.2.2.2.2.2.1,(r5.2.2.2,(r4.2.2.2.2.2.2.2.2.2.1,(r4.2.2.2.2.2.2.2.2.2.2.1,(r6.2.2.2,(r4.2.2.2.2.2.2.2.2.2.2.2.2.1,(r4.2.2.2.2.2.2.2.2.2.2.2.2.2.1,r7.2.2.2)))))))))))))))))))))))) fun o=>
   bif o.1 then
    some (0,(0,(0,(0,(0,([],(0,(0,([],(0,(0,([],179))))))))))))
   else
    some (o.2.2.2.2.2.2.2.2.2.2.2.2.1,(o.2.2.2.2.2.2.2.2.2.2.2.2.2.1,(o.2.2.2.2.2.2.2.2.2.2.2.2.2.2.1,(o.2.2.2.2.2.2.2.2.2.2.2.2.2.2.2.1,(o.2.2.2.2.2.2.2.2.2.2.2.2.2.2.2.2.1,(o.2.2.2.2.2.2.2.2.2.2.2.2.2.2.2.2.2.1,(o.2.2.2.2.2.2.2.2.2.2.2.2.2.2.2.2.2.2.1,(o.2.2.2.2.2.2.2.2.2.2.2.2.2.2.2.2.2.2.2.1,(o.2.2.2.2.2.2.2.2.2.2.2.2.2.2.2.2.2.2.2.2.1,(o.2.2.2.2.2.2.2.2.2.2.2.2.2.2.2.2.2.2.2.2.2.1,(o.2.2.2.2.2.2.2.2.2.2.2.2.2.2.2.2.2.2.2.2.2.2.1,(o.2.2.2.2.2.2.2.2.2.2.2.2.2.2.2.2.2.2.2.2.2.2.2,0))))))))))))
def cGetCal_fa:FnA:=⟨.two (.reg [(0,{ids:=[100]})]) (.two (.reg [(2,{ids:=[101]})]) (.sel (.slot 6 (.nilp (.pointer none))) (.two (.two lf (.two lf lf)) (.two (.reg [(0,{ids:=[103]})]) (.two (.reg [(0,{ids:=[104]})]) (.two (.reg [(13,{ids:=[105],md:=[1]}),(14,{sh:=[105,103,104],fn:=1})]) lf)))) (.two (.two lf (.two lf lf)) (.two (.reg [(0,{ids:=[103]})]) (.two (.reg [(0,{ids:=[104]})]) (.two (.reg [(13,{ids:=[105],md:=[1]}),(14,{sh:=[101,105,103,104],fn:=2})]) (.two (.reg [(1,{ids:=[106],sh:=[101],fn:=3}),(4,{ids:=[107],sh:=[101],fn:=3})]) (.two (.reg [(1,{ids:=[108],sh:=[101],fn:=3})]) (.two lf (.two (.two (.join ⟨[4,8,73],⟨(.cons (.own 0 100 0 0) (.cons (.own 0 103 0 0) (.cons (.p .bool) .nil))),[(100,false,qB26),(103,false,(.vars (.cons (.p (.int .i64)) (.cons (.p (.int .i64)) (.cons (.p (.int .u8)) (.cons (.p (.int .i64)) (.cons (.p (.int .i64)) (.cons (.p .str) (.cons (.p (.int .i64)) (.cons (.p (.int .i64)) (.cons (.p .str) (.cons (.p (.int .i64)) (.cons (.p (.int .i64)) (.cons (.slf 1 108) .nil)))))))))))))),(108,false,(.rows 5 .byte))]⟩⟩ false [] (.reg [(22,{md:=[2],fn:=4})])) (.two lf lf)) lf)))))))))),⟨(.cons (.pt (.int .u32)) qL47),[]⟩,[⟨(.cons (.agg qL29) qL5),[]⟩],[1,0]⟩
def cGetCal_ft(fu:Nat):FnT:=⟨56,cGetCal_fa.i,cGetCal_fa.os,fun t=>cGetCal fu t.1 t.2⟩
theorem i9Z(fu:Nat):Told Tryz.prog (cGetCal_ft fu):=tk fu cGetCal_fa (aaZ (igZ fu) (aaZ (fsZ fu) (aaZ (frZ fu) (aaZ (dKZ fu) (aaZ (c2Z fu) abZ))))) Tryz.func56 (by kernel_rfl) fun t=>by kernel_rfl
def sGetCha(fu:Nat)(t:List (Int))(b:List (UInt8)):Option ((Int×(Int×(Int×(Int×(Int×(Int×(Int×(List UInt8×(Int×(Int×(List UInt8×(Int×(Int×(List (UInt8)×(List (Int)×(Int×(Int×(Int×Int))))))))))))))))))):=
 (sreanumo1 fu t b 0 false 0 0 0 0 0 0 0 [] 0 0 [] 0 0 0 0 0 0).bind fun r=>
 (slisintf1 fu r.1 r.2.1 r.2.2.1 r.2.2.2.1).bind fun r1=>
 Option.bind (α:=qT54) (
  bif (r.2.2.2.2.1==2) then
   (sreablo fu 16777216 r1.1 r1.2.1 r1.2.2.1 r1.2.2.2.1).bind fun r2=>
   (cGetCal fu t r2.2.2.2.2).bind fun r3=>
   Option.bind (α:=qT54) (
    bif r2.2.2.2.1 then
     some (0,(0,(0,(0,(0,(0,(0,([],(0,(0,([],(0,(0,(0,(0,(0,(r2.1,(r2.2.1,(r2.2.2.1,(true,(r.2.2.2.2.1,(r.2.2.2.2.2.1,(r3.1,(r3.2.1,(r3.2.2.1,(r3.2.2.2.1,(r3.2.2.2.2.1,(r3.2.2.2.2.2.1,(r3.2.2.2.2.2.2.1,(r3.2.2.2.2.2.2.2.1,(r3.2.2.2.2.2.2.2.2.1,(r3.2.2.2.2.2.2.2.2.2.1,(r3.2.2.2.2.2.2.2.2.2.2.1,(r3.2.2.2.2.2.2.2.2.2.2.2.1,(r.2.2.2.2.2.2.2.2.2.2.2.2.2.2.2.2.2.2.2.2,(r.2.2.2.2.2.2.2.2.2.2.2.2.2.2.2.2.2.2.1,(r.2.2.2.2.2.2.2.2.2.2.2.2.2.2.2.2.2.2.2.1,r1.2.2.2.2)))))))))))))))))))))))))))))))))))))
    else
     some (0,(0,(0,(0,(0,(0,(0,([],(0,(0,([],(0,(0,(0,(0,(0,(r2.1,(r2.2.1,(r2.2.2.1,((!(r3.2.2.2.2.2.2.2.2.2.2.2.2==0)),(r.2.2.2.2.1,(r.2.2.2.2.2.1,(r3.1,(r3.2.1,(r3.2.2.1,(r3.2.2.2.1,(r3.2.2.2.2.1,(r3.2.2.2.2.2.1,(r3.2.2.2.2.2.2.1,(r3.2.2.2.2.2.2.2.1,(r3.2.2.2.2.2.2.2.2.1,(r3.2.2.2.2.2.2.2.2.2.1,(r3.2.2.2.2.2.2.2.2.2.2.1,(r3.2.2.2.2.2.2.2.2.2.2.2.1,(r.2.2.2.2.2.2.2.2.2.2.2.2.2.2.2.2.2.2.2.2,(r.2.2.2.2.2.2.2.2.2.2.2.2.2.2.2.2.2.2.1,(r.2.2.2.2.2.2.2.2.2.2.2.2.2.2.2.2.2.2.2.1,r1.2.2.2.2)))))))))))))))))))))))))))))))))))))) fun o=>
   some o
  else
   some (0,(0,(0,(0,(0,(0,(0,([],(0,(0,([],(0,(0,(0,(0,(0,(r1.1,(r1.2.1,(r1.2.2.1,(r1.2.2.2.1,(r.2.2.2.2.1,(r.2.2.2.2.2.1,(r.2.2.2.2.2.2.1,(r.2.2.2.2.2.2.2.1,(r.2.2.2.2.2.2.2.2.1,(r.2.2.2.2.2.2.2.2.2.1,(r.2.2.2.2.2.2.2.2.2.2.1,(r.2.2.2.2.2.2.2.2.2.2.2.1,(r.2.2.2.2.2.2.2.2.2.2.2.2.1,(r.2.2.2.2.2.2.2.2.2.2.2.2.2.1,(r.2.2.2.2.2.2.2.2.2.2.2.2.2.2.1,(r.2.2.2.2.2.2.2.2.2.2.2.2.2.2.2.1,(r.2.2.2.2.2.2.2.2.2.2.2.2.2.2.2.2.1,([],(r.2.2.2.2.2.2.2.2.2.2.2.2.2.2.2.2.2.2.2.2,(r.2.2.2.2.2.2.2.2.2.2.2.2.2.2.2.2.2.2.1,(r.2.2.2.2.2.2.2.2.2.2.2.2.2.2.2.2.2.2.2.1,r1.2.2.2.2)))))))))))))))))))))))))))))))))))))) fun o1=>
 Option.bind (α:=((Bool×(Int×(Int×(Int×(Int×(Int×(Int×(Int×(List UInt8×(Int×(Int×(List UInt8×(Int×(Int×(Int×(Int×(Int×(Int×(Int×(Int×(Int×(Int×(Int×(Int×(List UInt8×(Int×(Int×(List UInt8×(Int×(Int×(List (UInt8)×(Int×(Int×(Int×List (Int))))))))))))))))))))))))))))))))))))) (
  bif o1.2.2.2.2.2.2.2.2.2.2.2.2.2.2.2.2.2.2.2.1 then
   some (true,(o1.1,(o1.2.1,(o1.2.2.1,(o1.2.2.2.1,(o1.2.2.2.2.1,(o1.2.2.2.2.2.1,(o1.2.2.2.2.2.2.1,(o1.2.2.2.2.2.2.2.1,(o1.2.2.2.2.2.2.2.2.1,(o1.2.2.2.2.2.2.2.2.2.1,(o1.2.2.2.2.2.2.2.2.2.2.1,(o1.2.2.2.2.2.2.2.2.2.2.2.1,(o1.2.2.2.2.2.2.2.2.2.2.2.2.1,(o1.2.2.2.2.2.2.2.2.2.2.2.2.2.1,(o1.2.2.2.2.2.2.2.2.2.2.2.2.2.2.1,(o1.2.2.2.2.2.2.2.2.2.2.2.2.2.2.2.1,o1.2.2.2.2.2.2.2.2.2.2.2.2.2.2.2.2.2.2.2.2)))))))))))))))))
  else
   bif (!(o1.2.2.2.2.2.2.2.2.2.2.2.2.2.2.2.2.2.2.1==((b.length:Nat):Int))) then
    some (true,(o1.1,(o1.2.1,(o1.2.2.1,(o1.2.2.2.1,(o1.2.2.2.2.1,(o1.2.2.2.2.2.1,(o1.2.2.2.2.2.2.1,(o1.2.2.2.2.2.2.2.1,(o1.2.2.2.2.2.2.2.2.1,(o1.2.2.2.2.2.2.2.2.2.1,(o1.2.2.2.2.2.2.2.2.2.2.1,(o1.2.2.2.2.2.2.2.2.2.2.2.1,(o1.2.2.2.2.2.2.2.2.2.2.2.2.1,(o1.2.2.2.2.2.2.2.2.2.2.2.2.2.1,(o1.2.2.2.2.2.2.2.2.2.2.2.2.2.2.1,(o1.2.2.2.2.2.2.2.2.2.2.2.2.2.2.2.1,o1.2.2.2.2.2.2.2.2.2.2.2.2.2.2.2.2.2.2.2.2)))))))))))))))))
   else
    (byte? o1.2.2.2.2.2.2.2.2.2.2.2.2.2.2.2.2.2.2.2.2.2.2.2.2.1).bind fun c=>
    (srig fu (o1.2.2.2.2.2.2.2.2.2.2.2.2.2.2.2.2.2.2.2.2.1,(o1.2.2.2.2.2.2.2.2.2.2.2.2.2.2.2.2.2.2.2.2.2.1,((o1.2.2.2.2.2.2.2.2.2.2.2.2.2.2.2.2.2.2.2.2.2.2.1,(o1.2.2.2.2.2.2.2.2.2.2.2.2.2.2.2.2.2.2.2.2.2.2.2.1,(c,((o1.2.2.2.2.2.2.2.2.2.2.2.2.2.2.2.2.2.2.2.2.2.2.2.2.2.1,o1.2.2.2.2.2.2.2.2.2.2.2.2.2.2.2.2.2.2.2.2.2.2.2.2.2.2.1),(o1.2.2.2.2.2.2.2.2.2.2.2.2.2.2.2.2.2.2.2.2.2.2.2.2.2.2.2.1,((o1.2.2.2.2.2.2.2.2.2.2.2.2.2.2.2.2.2.2.2.2.2.2.2.2.2.2.2.2.1,o1.2.2.2.2.2.2.2.2.2.2.2.2.2.2.2.2.2.2.2.2.2.2.2.2.2.2.2.2.2.1),(o1.2.2.2.2.2.2.2.2.2.2.2.2.2.2.2.2.2.2.2.2.2.2.2.2.2.2.2.2.2.2.1,(o1.2.2.2.2.2.2.2.2.2.2.2.2.2.2.2.2.2.2.2.2.2.2.2.2.2.2.2.2.2.2.2.1,(o1.2.2.2.2.2.2.2.2.2.2.2.2.2.2.2.2.2.2.2.2.2.2.2.2.2.2.2.2.2.2.2.2.1,o1.2.2.2.2.2.2.2.2.2.2.2.2.2.2.2.2.2.2.2.2.2.2.2.2.2.2.2.2.2.2.2.2.2.1))))))))),(o1.2.2.2.2.2.2.2.2.2.2.2.2.2.2.2.2.2.2.2.2.2.2.2.2.2.2.2.2.2.2.2.2.2.2.2.2.2,(o1.2.2.2.2.2.2.2.2.2.2.2.2.2.2.2.2.2.2.2.2.2.2.2.2.2.2.2.2.2.2.2.2.2.2.1,(o1.2.2.2.2.2.2.2.2.2.2.2.2.2.2.2.2.2.2.2.2.2.2.2.2.2.2.2.2.2.2.2.2.2.2.2.1,o1.2.2.2.2.2.2.2.2.2.2.2.2.2.2.2.2.2.2.2.2.2.2.2.2.2.2.2.2.2.2.2.2.2.2.2.2.1))))))).bind fun r4=>
    some ((!r4),(o1.1,(o1.2.1,(o1.2.2.1,(o1.2.2.2.1,(o1.2.2.2.2.1,(o1.2.2.2.2.2.1,(o1.2.2.2.2.2.2.1,(o1.2.2.2.2.2.2.2.1,(o1.2.2.2.2.2.2.2.2.1,(o1.2.2.2.2.2.2.2.2.2.1,(o1.2.2.2.2.2.2.2.2.2.2.1,(o1.2.2.2.2.2.2.2.2.2.2.2.1,(o1.2.2.2.2.2.2.2.2.2.2.2.2.1,(o1.2.2.2.2.2.2.2.2.2.2.2.2.2.1,(o1.2.2.2.2.2.2.2.2.2.2.2.2.2.2.1,(o1.2.2.2.2.2.2.2.2.2.2.2.2.2.2.2.1,o1.2.2.2.2.2.2.2.2.2.2.2.2.2.2.2.2.2.2.2.2)))))))))))))))))) fun o2=>
 bif o2.1 then
  some (0,(0,(0,(0,(0,(0,(0,([],(0,(0,([],(0,(0,([],([],(0,(0,(0,10))))))))))))))))))
 else
  some (o2.2.2.2.2.2.2.2.2.2.2.2.2.2.2.2.2.2.1,(o2.2.2.2.2.2.2.2.2.2.2.2.2.2.2.2.2.2.2.1,(o2.2.2.2.2.2.2.2.2.2.2.2.2.2.2.2.2.2.2.2.1,(o2.2.2.2.2.2.2.2.2.2.2.2.2.2.2.2.2.2.2.2.2.1,(o2.2.2.2.2.2.2.2.2.2.2.2.2.2.2.2.2.2.2.2.2.2.1,(o2.2.2.2.2.2.2.2.2.2.2.2.2.2.2.2.2.2.2.2.2.2.2.1,(o2.2.2.2.2.2.2.2.2.2.2.2.2.2.2.2.2.2.2.2.2.2.2.2.1,(o2.2.2.2.2.2.2.2.2.2.2.2.2.2.2.2.2.2.2.2.2.2.2.2.2.1,(o2.2.2.2.2.2.2.2.2.2.2.2.2.2.2.2.2.2.2.2.2.2.2.2.2.2.1,(o2.2.2.2.2.2.2.2.2.2.2.2.2.2.2.2.2.2.2.2.2.2.2.2.2.2.2.1,(o2.2.2.2.2.2.2.2.2.2.2.2.2.2.2.2.2.2.2.2.2.2.2.2.2.2.2.2.1,(o2.2.2.2.2.2.2.2.2.2.2.2.2.2.2.2.2.2.2.2.2.2.2.2.2.2.2.2.2.1,(o2.2.2.2.2.2.2.2.2.2.2.2.2.2.2.2.2.2.2.2.2.2.2.2.2.2.2.2.2.2.1,(o2.2.2.2.2.2.2.2.2.2.2.2.2.2.2.2.2.2.2.2.2.2.2.2.2.2.2.2.2.2.2.1,(o2.2.2.2.2.2.2.2.2.2.2.2.2.2.2.2.2.2.2.2.2.2.2.2.2.2.2.2.2.2.2.2.2.2.2,(o2.2.2.2.2.2.2.2.2.2.2.2.2.2.2.2.2.2.2.2.2.2.2.2.2.2.2.2.2.2.2.2.1,(o2.2.2.2.2.2.2.2.2.2.2.2.2.2.2.2.2.2.2.2.2.2.2.2.2.2.2.2.2.2.2.2.2.1,(o2.2.2.2.2.2.2.2.2.2.2.2.2.2.2.2.2.2.2.2.2.2.2.2.2.2.2.2.2.2.2.2.2.2.1,0))))))))))))))))))
def sGetCha_fa:FnA:=⟨.two (.reg [(0,{ids:=[100]})]) (.two (.reg [(3,{ids:=[101]}),(4,{ids:=[102]})]) (.two (.reg [(0,{ids:=[103]})]) (.two (.reg [(0,{ids:=[104]})]) (.two (.reg [(5,{ids:=[105],md:=[1]}),(6,{sh:=[101,105,103,104]})]) (.two lf (.two (.reg [(2,{ids:=[106],sh:=[101,102],fn:=1})]) (.two (.two lf (.join ⟨[4,6,7],⟨(.cons (.own 0 100 0 0) (.cons (.own 0 102 0 0) (.cons (.own 0 103 0 0) .nil))),[(100,false,qB17),(102,false,(.vars (.cons (.own 0 101 0 0) .nil))),(101,false,(.vars (.cons (.pt (.int .u32)) qL6))),(103,false,qB31),(106,false,(.rows 3 (.int .i64)))]⟩⟩ false [] (.two (.two (.reg [(2,{ids:=[107],sh:=[101],fn:=2}),(3,{md:=[0,1],fn:=3}),(7,{ids:=[108]})]) (.join ⟨[4,6,7],⟨(.cons (.own 0 100 0 0) (.cons (.own 0 102 0 0) (.cons (.own 0 103 0 0) .nil))),[(100,false,qB17),(102,false,(.vars (.cons (.own 0 101 0 0) .nil))),(101,false,(.vars (.cons (.pt (.int .u32)) qL6))),(103,false,qB31),(106,false,(.rows 3 (.int .i64)))]⟩⟩ false [] lf)) lf))) (.two (.two (.join ⟨[4,7,68],⟨(.cons (.own 0 100 0 0) (.cons (.own 0 103 0 0) (.cons (.p .bool) .nil))),[(100,false,qB17),(103,false,qB31),(106,false,(.rows 3 (.int .i64)))]⟩⟩ false [] (.reg [(15,{md:=[2],fn:=4})])) (.two lf lf)) lf)))))))),⟨(.cons (.pt (.int .u32)) qL47),[]⟩,[⟨(.cons (.agg qL9) qL5),[]⟩],[1,0]⟩
def sGetCha_ft(fu:Nat):FnT:=⟨17,sGetCha_fa.i,sGetCha_fa.os,fun t=>sGetCha fu t.1 t.2⟩
theorem hAZ(fu:Nat):Told Tryz.prog (sGetCha_ft fu):=tk fu sGetCha_fa (aaZ (f9Z fu) (aaZ (fRZ fu) (aaZ (bCZ fu) (aaZ (i9Z fu) (aaZ (ePZ fu) abZ))))) Tryz.func17 (by kernel_rfl) fun t=>by kernel_rfl
def law26_SaveCuts(fu:Nat)(s:qT21)(c:(Int×(Int×(qT20×(List (Int)×(Int×(Int×Int)))))))(x:(Int×UInt8)):Option (Bool):=
 Option.bind (α:=((Bool×(Int×(List (qT0)×(Int×(Int×(List (qT1)×(List ((Int×List (Int)))×(List ((Int×Int))×(Int×(Int×(Int×(Int×(Int×(Int×(Int×(List UInt8×(Int×(Int×(List UInt8×(Int×(Int×(List (UInt8)×(List (Int)×(Int×(Int×(Int×(Int×Int))))))))))))))))))))))))))))) (
  (law25_Great fu s).bind fun r=>
  bif r then
   some (true,(s.1,(s.2.1.1,(s.2.1.2,(s.2.2.1.1,(s.2.2.1.2,(s.2.2.2.1,(s.2.2.2.2,(c.1,(c.2.1,(c.2.2.1.1,(c.2.2.1.2.1,(((c.2.2.1.2.2.1.toNat:Nat):Int),(c.2.2.1.2.2.2.1.1,(c.2.2.1.2.2.2.1.2,(c.2.2.1.2.2.2.2.1,(c.2.2.1.2.2.2.2.2.1.1,(c.2.2.1.2.2.2.2.2.1.2,(c.2.2.1.2.2.2.2.2.2.1,(c.2.2.1.2.2.2.2.2.2.2.1,(c.2.2.1.2.2.2.2.2.2.2.2.1,(c.2.2.1.2.2.2.2.2.2.2.2.2,(c.2.2.2.1,(c.2.2.2.2.1,(c.2.2.2.2.2.1,(c.2.2.2.2.2.2,(x.1,((x.2.toNat:Nat):Int))))))))))))))))))))))))))))
  else
   (byte? ((c.2.2.1.2.2.1.toNat:Nat):Int)).bind fun c1=>
   (law26_Huge fu (c.1,(c.2.1,((c.2.2.1.1,(c.2.2.1.2.1,(c1,c.2.2.1.2.2.2))),c.2.2.2)))).bind fun r1=>
   some (r1,(s.1,(s.2.1.1,(s.2.1.2,(s.2.2.1.1,(s.2.2.1.2,(s.2.2.2.1,(s.2.2.2.2,(c.1,(c.2.1,(c.2.2.1.1,(c.2.2.1.2.1,(((c.2.2.1.2.2.1.toNat:Nat):Int),(c.2.2.1.2.2.2.1.1,(c.2.2.1.2.2.2.1.2,(c.2.2.1.2.2.2.2.1,(c.2.2.1.2.2.2.2.2.1.1,(c.2.2.1.2.2.2.2.2.1.2,(c.2.2.1.2.2.2.2.2.2.1,(c.2.2.1.2.2.2.2.2.2.2.1,(c.2.2.1.2.2.2.2.2.2.2.2.1,(c.2.2.1.2.2.2.2.2.2.2.2.2,(c.2.2.2.1,(c.2.2.2.2.1,(c.2.2.2.2.2.1,(c.2.2.2.2.2.2,(x.1,((x.2.toNat:Nat):Int))))))))))))))))))))))))))))) fun o=>
 bif o.1 then
  (law26_awake fu).bind fun r2=>
  some r2
 else
  (bTab fu).bind fun r3=>
  need (Nat.beq (List.replicate (α:=Int) 256 0).length 256)<|
  need (Nat.beq r3.length 256)<|
  (sPutGat fu r3 (o.2.1,((o.2.2.1,o.2.2.2.1),((o.2.2.2.2.1,o.2.2.2.2.2.1),(o.2.2.2.2.2.2.1,o.2.2.2.2.2.2.2.1))))).bind fun r4=>
  Option.bind (α:=((Int×(Int×(Int×(Int×(Int×(Int×(Int×(List UInt8×(Int×(Int×(List UInt8×(Int×(Int×(List (UInt8)×(List (Int)×(Int×(Int×(Int×(Int×(Int×List (Int)))))))))))))))))))))⊕Bool)) (
   bif (r4.2==0) then
    bif (((r4.1.length:Nat):Int)==0) then
     some (.inr false)
    else
     (kit_Pick fu o.2.2.2.2.2.2.2.2.2.2.2.2.2.2.2.2.2.2.2.2.2.2.2.2.2.2.1 ((r4.1.length:Nat):Int)).bind fun r5=>
     (upto? r5 r4.1.length).bind fun q=>
     (sGetGat fu r3 (List.take q r4.1)).bind fun r6=>
     (lCopByt fu r4.1).bind fun r7=>
     (byte? o.2.2.2.2.2.2.2.2.2.2.2.2.2.2.2.2.2.2.2.2.2.2.2.2.2.2.2).bind fun c2=>
     need ((Nat.ble ((r7.length+1)*1) room)&&(Nat.ble (r7.length+1) room))<|
     (sGetGat fu r3 (r7++[c2])).bind fun r8=>
     Option.bind (α:=((Bool×(Int×(Int×(Int×(Int×(Int×(Int×(Int×(List UInt8×(Int×(Int×(List UInt8×(Int×(Int×(List (UInt8)×(List (Int)×(Int×(Int×(Int×(Int×(Int×List (Int)))))))))))))))))))))))) (
      bif (!(r6.2.2.2.2.2.2.2==10)) then
       some (true,(o.2.2.2.2.2.2.2.2.1,(o.2.2.2.2.2.2.2.2.2.1,(o.2.2.2.2.2.2.2.2.2.2.1,(o.2.2.2.2.2.2.2.2.2.2.2.1,(o.2.2.2.2.2.2.2.2.2.2.2.2.1,(o.2.2.2.2.2.2.2.2.2.2.2.2.2.1,(o.2.2.2.2.2.2.2.2.2.2.2.2.2.2.1,(o.2.2.2.2.2.2.2.2.2.2.2.2.2.2.2.1,(o.2.2.2.2.2.2.2.2.2.2.2.2.2.2.2.2.1,(o.2.2.2.2.2.2.2.2.2.2.2.2.2.2.2.2.2.1,(o.2.2.2.2.2.2.2.2.2.2.2.2.2.2.2.2.2.2.1,(o.2.2.2.2.2.2.2.2.2.2.2.2.2.2.2.2.2.2.2.1,(o.2.2.2.2.2.2.2.2.2.2.2.2.2.2.2.2.2.2.2.2.1,(o.2.2.2.2.2.2.2.2.2.2.2.2.2.2.2.2.2.2.2.2.2.1,(o.2.2.2.2.2.2.2.2.2.2.2.2.2.2.2.2.2.2.2.2.2.2.1,(o.2.2.2.2.2.2.2.2.2.2.2.2.2.2.2.2.2.2.2.2.2.2.2.1,(o.2.2.2.2.2.2.2.2.2.2.2.2.2.2.2.2.2.2.2.2.2.2.2.2.1,(o.2.2.2.2.2.2.2.2.2.2.2.2.2.2.2.2.2.2.2.2.2.2.2.2.2.1,(o.2.2.2.2.2.2.2.2.2.2.2.2.2.2.2.2.2.2.2.2.2.2.2.2.2.2.1,(o.2.2.2.2.2.2.2.2.2.2.2.2.2.2.2.2.2.2.2.2.2.2.2.2.2.2.2,r3)))))))))))))))))))))
      else
       some ((!(r8.2.2.2.2.2.2.2==10)),(o.2.2.2.2.2.2.2.2.1,(o.2.2.2.2.2.2.2.2.2.1,(o.2.2.2.2.2.2.2.2.2.2.1,(o.2.2.2.2.2.2.2.2.2.2.2.1,(o.2.2.2.2.2.2.2.2.2.2.2.2.1,(o.2.2.2.2.2.2.2.2.2.2.2.2.2.1,(o.2.2.2.2.2.2.2.2.2.2.2.2.2.2.1,(o.2.2.2.2.2.2.2.2.2.2.2.2.2.2.2.1,(o.2.2.2.2.2.2.2.2.2.2.2.2.2.2.2.2.1,(o.2.2.2.2.2.2.2.2.2.2.2.2.2.2.2.2.2.1,(o.2.2.2.2.2.2.2.2.2.2.2.2.2.2.2.2.2.2.1,(o.2.2.2.2.2.2.2.2.2.2.2.2.2.2.2.2.2.2.2.1,(o.2.2.2.2.2.2.2.2.2.2.2.2.2.2.2.2.2.2.2.2.1,(o.2.2.2.2.2.2.2.2.2.2.2.2.2.2.2.2.2.2.2.2.2.1,(o.2.2.2.2.2.2.2.2.2.2.2.2.2.2.2.2.2.2.2.2.2.2.1,(o.2.2.2.2.2.2.2.2.2.2.2.2.2.2.2.2.2.2.2.2.2.2.2.1,(o.2.2.2.2.2.2.2.2.2.2.2.2.2.2.2.2.2.2.2.2.2.2.2.2.1,(o.2.2.2.2.2.2.2.2.2.2.2.2.2.2.2.2.2.2.2.2.2.2.2.2.2.1,(o.2.2.2.2.2.2.2.2.2.2.2.2.2.2.2.2.2.2.2.2.2.2.2.2.2.2.1,(o.2.2.2.2.2.2.2.2.2.2.2.2.2.2.2.2.2.2.2.2.2.2.2.2.2.2.2,r3)))))))))))))))))))))) fun o1=>
     bif o1.1 then
      some (.inr false)
     else
      some (.inl o1.2)
   else
    some (.inl (o.2.2.2.2.2.2.2.2.1,(o.2.2.2.2.2.2.2.2.2.1,(o.2.2.2.2.2.2.2.2.2.2.1,(o.2.2.2.2.2.2.2.2.2.2.2.1,(o.2.2.2.2.2.2.2.2.2.2.2.2.1,(o.2.2.2.2.2.2.2.2.2.2.2.2.2.1,(o.2.2.2.2.2.2.2.2.2.2.2.2.2.2.1,(o.2.2.2.2.2.2.2.2.2.2.2.2.2.2.2.1,(o.2.2.2.2.2.2.2.2.2.2.2.2.2.2.2.2.1,(o.2.2.2.2.2.2.2.2.2.2.2.2.2.2.2.2.2.1,(o.2.2.2.2.2.2.2.2.2.2.2.2.2.2.2.2.2.2.1,(o.2.2.2.2.2.2.2.2.2.2.2.2.2.2.2.2.2.2.2.1,(o.2.2.2.2.2.2.2.2.2.2.2.2.2.2.2.2.2.2.2.2.1,(o.2.2.2.2.2.2.2.2.2.2.2.2.2.2.2.2.2.2.2.2.2.1,(o.2.2.2.2.2.2.2.2.2.2.2.2.2.2.2.2.2.2.2.2.2.2.1,(o.2.2.2.2.2.2.2.2.2.2.2.2.2.2.2.2.2.2.2.2.2.2.2.1,(o.2.2.2.2.2.2.2.2.2.2.2.2.2.2.2.2.2.2.2.2.2.2.2.2.1,(o.2.2.2.2.2.2.2.2.2.2.2.2.2.2.2.2.2.2.2.2.2.2.2.2.2.1,(o.2.2.2.2.2.2.2.2.2.2.2.2.2.2.2.2.2.2.2.2.2.2.2.2.2.2.1,(o.2.2.2.2.2.2.2.2.2.2.2.2.2.2.2.2.2.2.2.2.2.2.2.2.2.2.2,r3)))))))))))))))))))))) fun o2=>
  match o2 with
  |.inl s1=>
   (byte? s1.2.2.2.2.1).bind fun c3=>
   (sPutCha fu s1.2.2.2.2.2.2.2.2.2.2.2.2.2.2.2.2.2.2.2.2 (s1.1,(s1.2.1,((s1.2.2.1,(s1.2.2.2.1,(c3,((s1.2.2.2.2.2.1,s1.2.2.2.2.2.2.1),(s1.2.2.2.2.2.2.2.1,((s1.2.2.2.2.2.2.2.2.1,s1.2.2.2.2.2.2.2.2.2.1),(s1.2.2.2.2.2.2.2.2.2.2.1,(s1.2.2.2.2.2.2.2.2.2.2.2.1,(s1.2.2.2.2.2.2.2.2.2.2.2.2.1,s1.2.2.2.2.2.2.2.2.2.2.2.2.2.1))))))))),(s1.2.2.2.2.2.2.2.2.2.2.2.2.2.2.1,(s1.2.2.2.2.2.2.2.2.2.2.2.2.2.2.2.1,(s1.2.2.2.2.2.2.2.2.2.2.2.2.2.2.2.2.1,s1.2.2.2.2.2.2.2.2.2.2.2.2.2.2.2.2.2.1))))))).bind fun r9=>
   bif (r9.2==0) then
    bif (((r9.1.length:Nat):Int)==0) then
     some false
    else
     (kit_Pick fu s1.2.2.2.2.2.2.2.2.2.2.2.2.2.2.2.2.2.2.1 ((r9.1.length:Nat):Int)).bind fun r10=>
     (upto? r10 r9.1.length).bind fun q1=>
     (sGetCha fu s1.2.2.2.2.2.2.2.2.2.2.2.2.2.2.2.2.2.2.2.2 (List.take q1 r9.1)).bind fun r11=>
     (lCopByt fu r9.1).bind fun r12=>
     (byte? s1.2.2.2.2.2.2.2.2.2.2.2.2.2.2.2.2.2.2.2.1).bind fun c4=>
     need ((Nat.ble ((r12.length+1)*1) room)&&(Nat.ble (r12.length+1) room))<|
     (sGetCha fu s1.2.2.2.2.2.2.2.2.2.2.2.2.2.2.2.2.2.2.2.2 (r12++[c4])).bind fun r13=>
     Option.bind (α:=(Bool)) (
      bif (!(r11.2.2.2.2.2.2.2.2.2.2.2.2.2.2.2.2.2.2==10)) then
       some true
      else
       some (!(r13.2.2.2.2.2.2.2.2.2.2.2.2.2.2.2.2.2.2==10))) fun o4=>
     bif o4 then
      some false
     else
      (law26_awake fu).bind fun r14=>
      some r14
   else
    (law26_awake fu).bind fun r15=>
    some r15
  |.inr o3=>
   some o3
def law26_SaveCuts_fa:FnA:=⟨.two (.reg [(0,{ids:=[100]}),(1,{ids:=[101]}),(2,{ids:=[102]})]) (.two (.two (.join ⟨[3,4,5,25],⟨(.cons (.own 0 100 0 0) (.cons (.own 0 101 0 0) (.cons (.own 0 102 0 0) (.cons (.p .bool) .nil)))),[(100,false,(.vars qL2)),(101,false,(.vars qL9)),(102,false,(.vars (.cons (.p (.int .i64)) (.cons (.p (.int .u8)) .nil))))]⟩⟩ false [] (.reg [(1,{}),(4,{fn:=1})])) (.two (.two (.reg [(0,{fn:=2})]) lf) lf)) (.two (.reg [(0,{fn:=3}),(1,{ids:=[103]})]) (.two (.two (.reg [(1,{md:=[1,0],fn:=4})]) (.two lf (.join ⟨[4,5,7],⟨(.cons (.own 0 101 0 0) (.cons (.own 0 102 0 0) (.cons (.own 1 103 0 0) .nil))),[(101,false,(.vars qL9)),(102,false,(.vars (.cons (.p (.int .i64)) (.cons (.p (.int .u8)) .nil)))),(103,true,(.rows 60 (.int .u32)))]⟩⟩ true [] (.two (.two (.two lf (.two lf lf)) (.two (.reg [(5,{fn:=5}),(7,{md:=[1,0],fn:=6}),(11,{ids:=[104]})]) (.two (.reg [(1,{ids:=[105],fn:=7}),(4,{ids:=[106]}),(5,{ids:=[107]}),(6,{md:=[1,1],fn:=6}),(10,{ids:=[108]})]) (.two (.join ⟨[4,5,7,64],⟨(.cons (.own 0 101 0 0) (.cons (.own 0 102 0 0) (.cons (.own 1 103 0 0) (.cons (.p .bool) .nil)))),[(101,false,(.vars qL9)),(102,false,(.vars (.cons (.p (.int .i64)) (.cons (.p (.int .u8)) .nil)))),(103,true,(.rows 60 (.int .u32)))]⟩⟩ false [] lf) (.two lf lf))))) lf)))) (.two (.two (.reg [(1,{md:=[1,0],fn:=8})]) (.two lf (.two (.two (.two lf (.two lf lf)) (.two (.reg [(5,{fn:=5}),(7,{md:=[1,0],fn:=9}),(11,{ids:=[109]})]) (.two (.reg [(1,{ids:=[110],fn:=7}),(4,{ids:=[111]}),(5,{ids:=[112]}),(6,{md:=[1,1],fn:=9}),(10,{ids:=[113]})]) (.two (.join ⟨[101],⟨(.cons (.p .bool) .nil),[]⟩⟩ false [] lf) (.two lf lf))))) lf))) (.two (.reg [(0,{fn:=2})]) lf))))),⟨(.cons (.p qY14) (.cons (.p qY43) (.cons (.p (.pair (.int .i64) .byte)) .nil))),[]⟩,[⟨(.cons (.p .bool) .nil),[]⟩],[0]⟩
def law26_SaveCuts_ft(fu:Nat):FnT:=⟨4,law26_SaveCuts_fa.i,law26_SaveCuts_fa.os,u3 (law26_SaveCuts fu)⟩
theorem law26_SaveCuts_told(fu:Nat):Told Tryz.prog (law26_SaveCuts_ft fu):=tk fu law26_SaveCuts_fa (aaZ (eaZ fu) (aaZ (eJZ fu) (aaZ (ecZ fu) (aaZ (ipZ fu) (aaZ (hVZ fu) (aaZ (huZ fu) (aaZ (icZ fu) (aaZ (irZ fu) (aaZ (dQZ fu) (aaZ (hAZ fu) abZ)))))))))) Tryz.func4 (by kernel_rfl) fun t=>by kernel_rfl
end
end Go.Ab.D
