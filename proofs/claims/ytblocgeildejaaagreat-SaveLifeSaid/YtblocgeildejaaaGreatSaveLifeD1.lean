/- Functions of the program as plain Lean functions: each equation is checked by the kernel; what is told of a function follows from it. -/
import Derived.Test.YtblocgeildejaaaGreatE4
import Derived.Test.YtblocgeildejaaaGreatProg
import Derived.KernelRfl
namespace Go.Proofs
open Go.Shelf
def Tryz.ca174_ren:Go.Shelf.Ren:=⟨fun|150=>174|153=>210|152=>235|226=>236|227=>237|228=>238|137=>258|119=>259|224=>260|225=>261|217=>267|266=>270|n=>n,fun|9=>9|4=>4|3=>3|5=>5|21=>21|117=>318|116=>317|0=>0|46=>173|124=>338|n=>n,fun|n=>n⟩
theorem Tryz.ca174:Go.Proofs.Lays.n150 Tryz.prog Tryz.ca174_ren:={
 mixed:=by kernel_rfl
 f119:=Tryz.func259.trans (congrArg some (by kernel_rfl))
 f137:=Tryz.func258.trans (congrArg some (by kernel_rfl))
 f150:=Tryz.func174.trans (congrArg some (by kernel_rfl))
 f152:=Tryz.func235.trans (congrArg some (by kernel_rfl))
 f153:=Tryz.func210.trans (congrArg some (by kernel_rfl))
 f217:=Tryz.func267.trans (congrArg some (by kernel_rfl))
 f224:=Tryz.func260.trans (congrArg some (by kernel_rfl))
 f225:=Tryz.func261.trans (congrArg some (by kernel_rfl))
 f226:=Tryz.func236.trans (congrArg some (by kernel_rfl))
 f227:=Tryz.func237.trans (congrArg some (by kernel_rfl))
 f228:=Tryz.func238.trans (congrArg some (by kernel_rfl))
 f266:=Tryz.func270.trans (congrArg some (by kernel_rfl))
 t0:=Tryz.underlying0
 a0:=Tryz.isAgg0
 z0:=Tryz.sizeOf0
 v0:=Tryz.zeroValue0
 t3:=Tryz.underlying3
 a3:=Tryz.isAgg3
 z3:=Tryz.sizeOf3
 v3:=Tryz.zeroValue3
 t4:=Tryz.underlying4
 a4:=Tryz.isAgg4
 z4:=Tryz.sizeOf4
 v4:=Tryz.zeroValue4
 t5:=Tryz.underlying5
 a5:=Tryz.isAgg5
 z5:=Tryz.sizeOf5
 v5:=Tryz.zeroValue5
 t9:=Tryz.underlying9
 a9:=Tryz.isAgg9
 z9:=Tryz.sizeOf9
 v9:=Tryz.zeroValue9
 t21:=Tryz.underlying21
 a21:=Tryz.isAgg21
 z21:=Tryz.sizeOf21
 v21:=Tryz.zeroValue21
 t46:=Tryz.underlying173
 a46:=Tryz.isAgg173
 z46:=Tryz.sizeOf173
 v46:=Tryz.zeroValue173
 t116:=Tryz.underlying317
 a116:=Tryz.isAgg317
 z116:=Tryz.sizeOf317
 t117:=Tryz.underlying318
 a117:=Tryz.isAgg318
 z117:=Tryz.sizeOf318
 v117:=Tryz.zeroValue318
 t124:=Tryz.underlying338
 a124:=Tryz.isAgg338
 z124:=Tryz.sizeOf338
 v124:=Tryz.zeroValue338}
end Go.Proofs
set_option linter.all false
set_option maxRecDepth 100000
set_option maxHeartbeats 4000000
namespace Go.Ab.D
open Go Go.Ab
noncomputable section
abbrev qT0:Type:=(Int×(Int×List ((Int×(Int×(Int×((Int×Int)×(Bool×(Int×(List (UInt8)×(List ((List UInt8×Int))×(Bool×Int))))))))))))
abbrev qT1:Type:=(Int×(Int×(Bool×(Bool×(Int×(List ((Int×Int))×(Int×List ((List UInt8×Int)))))))))
abbrev qL2:KdL:=(.cons (.p (.int .i64)) (.cons (.p (.sl (.pair (.int .i64) (.pair (.int .i64) (.pair .bool (.pair .bool (.pair (.int .i64) (.pair (.sl (.pair (.int .i64) (.int .i64))) (.pair (.int .i64) (.sl (.pair .str (.int .i64)))))))))))) (.cons (.p (.int .i64)) (.cons (.p (.int .i64)) (.cons (.p (.sl (.pair (.int .i64) (.pair (.int .i64) (.sl (.pair (.int .i64) (.pair (.int .i64) (.pair (.int .i64) (.pair (.pair (.int .i64) (.int .i64)) (.pair .bool (.pair (.int .i64) (.pair (.sl .byte) (.pair (.sl (.pair .str (.int .i64))) (.pair .bool (.int .i64))))))))))))))) (.cons (.p (.sl (.pair (.int .i64) (.sl (.int .i64))))) (.cons (.p (.sl (.pair (.int .i64) (.int .i64)))) .nil)))))))
abbrev qY3:Ty:=(.pair (.int .i64) (.pair (.int .i64) (.pair (.int .i64) (.pair (.pair (.int .i64) (.int .i64)) (.pair .bool (.pair (.int .i64) (.pair (.sl .byte) (.pair (.sl (.pair .str (.int .i64))) (.pair .bool (.int .i64))))))))))
abbrev qY4:Ty:=(.pair (.int .i64) (.pair (.int .i64) (.pair .bool (.pair .bool (.pair (.int .i64) (.pair (.sl (.pair (.int .i64) (.int .i64))) (.pair (.int .i64) (.sl (.pair .str (.int .i64))))))))))
abbrev qL5:KdL:=(.cons (.p (.int .i64)) .nil)
abbrev qB6:BKd:=(.vars (.cons (.p (.int .i64)) (.cons (.p (.int .i64)) (.cons (.p .bool) (.cons (.p .bool) (.cons (.p (.int .i64)) (.cons (.p (.sl (.pair (.int .i64) (.int .i64)))) (.cons (.p (.int .i64)) (.cons (.p (.sl (.pair .str (.int .i64)))) .nil)))))))))
abbrev qT7:Type:=(Int×(List (qT1)×(Int×(Int×(List (qT0)×(List ((Int×List (Int)))×(List ((Int×Int))×(List (((Int×Int)×Nat))×Nat))))))))
abbrev qT8:Type:=(Int×(Int×(Int×((Int×Int)×(Bool×(Int×(List (UInt8)×(List ((List UInt8×Int))×(Bool×Int)))))))))
abbrev qT9:Type:=(Int×(List (qT1)×(Int×(Int×(List (qT0)×(List ((Int×List (Int)))×List ((Int×Int))))))))
abbrev qY10:Ty:=(.pair (.int .i64) (.pair (.int .i64) (.sl qY3)))
abbrev qY11:Ty:=(.pair (.int .i64) (.sl (.int .i64)))
abbrev qB12:BKd:=(.vars (.cons (.p (.int .i64)) (.cons (.p (.int .i64)) (.cons (.p (.int .i64)) (.cons (.p (.int .i64)) (.cons (.p (.int .i64)) (.cons (.p .bool) (.cons (.p (.int .i64)) (.cons (.p (.sl .byte)) (.cons (.p (.sl (.pair .str (.int .i64)))) (.cons (.p .bool) qL5)))))))))))
abbrev qB13:BKd:=(.vars (.cons (.p (.int .i64)) (.cons (.p (.int .i64)) (.cons (.p (.sl qY3)) .nil))))
abbrev qT14:Type:=(List (((Int×Int)×Nat))×Nat)
abbrev qY15:Ty:=(.pair (.int .i64) (.pair (.pair (.sl qY4) (.int .i64)) (.pair (.pair (.int .i64) (.sl qY10)) (.pair (.sl qY11) (.sl (.pair (.int .i64) (.int .i64)))))))
abbrev qT16:Type:=(Int×(Int×(Int×(Int×(Int×(Bool×(Int×(List (UInt8)×(List ((List UInt8×Int))×(Bool×Int))))))))))
abbrev qB17:BKd:=(.vars (.cons (.p (.int .i64)) (.cons (.nilp (.slice none 0 0)) (.cons (.p (.int .i64)) (.cons (.p (.int .i64)) (.cons (.nilp (.slice none 0 0)) (.cons (.nilp (.slice none 0 0)) (.cons (.nilp (.slice none 0 0)) .nil))))))))
abbrev qT18:Type:=(Int×((List (qT1)×Int)×((Int×List (qT0))×(List ((Int×List (Int)))×List ((Int×Int))))))
abbrev qB19:BKd:=(.vars (.cons (.p (.int .i64)) (.cons (.p (.int .i64)) (.cons (.p (.int .i64)) (.cons (.p (.int .i64)) (.cons (.p (.int .u8)) (.cons (.p (.int .i64)) (.cons (.p (.int .i64)) (.cons (.p .str) (.cons (.p (.int .i64)) (.cons (.p (.int .i64)) (.cons (.p .str) (.cons (.p (.int .i64)) (.cons (.p (.int .i64)) (.cons (.p (.sl .byte)) (.cons (.p (.sl (.int .i64))) (.cons (.p (.int .i64)) (.cons (.p (.int .i64)) qL5))))))))))))))))))
abbrev qT20:Type:=(Int×(Int×(Int×(List (qT0)×(List ((Int×Int))×(List (qT1)×(List ((Int×List (Int)))×(Int×(Int×Int)))))))))
abbrev qT21:Type:=(Int×(List (qT1)×(Int×(Int×(List (qT0)×(List ((Int×List (Int)))×(List ((Int×Int))×qT9)))))))
abbrev qY22:Ty:=(.pair (.int .i64) (.int .i64))
abbrev qB23:BKd:=(.map (.int .i64) (.int .i64))
abbrev qB24:BKd:=(.vars (.cons (.p (.int .i64)) (.cons (.p (.sl qY10)) .nil)))
abbrev qL25:KdL:=(.cons (.own 0 0 0 0) (.cons (.own 0 1 0 0) .nil))
abbrev qB26:BKd:=(.vars (.cons (.p (.sl qY4)) qL5))
abbrev qL27:KdL:=(.cons (.p (.pair (.int .i64) (.pair (.int .i64) (.pair (.pair (.int .i64) (.pair (.int .i64) (.pair .byte (.pair qY22 (.pair .str (.pair qY22 (.pair .str (.pair (.int .i64) (.pair (.int .i64) (.sl .byte)))))))))) (.pair (.sl (.int .i64)) (.pair (.int .i64) qY22)))))) .nil)
abbrev qT28:Type:=(Int×(Int×((Int×(Int×(UInt8×((Int×Int)×(List UInt8×((Int×Int)×(List UInt8×(Int×(Int×List (UInt8))))))))))×(List (Int)×(Int×(Int×Int))))))
abbrev qL29:KdL:=(.cons (.own 0 100 0 0) (.cons (.p .bool) .nil))
abbrev qT30:Type:=(List (Int)×(Bool×List (UInt8)))
abbrev qT31:Type:=(Int×(Int×(Int×(List ((Int×Int))×(List (qT1)×(List (qT0)×(List ((Int×List (Int)))×(Int×(Int×Int)))))))))
abbrev qT32:Type:=(Int×(Int×(Int×(Int×(List (qT1)×(List (qT0)×(List ((Int×List (Int)))×(List ((Int×Int))×List (Int)))))))))
abbrev qT33:Type:=((Bool×(Int×(Int×(Int×(Int×(Int×(Int×(Int×(List UInt8×(Int×(Int×(List UInt8×(Int×(Int×(List (UInt8)×(List (Int)×(Int×(Int×Int)))))))))))))))))))
abbrev qL34:KdL:=(.cons (.own 0 100 0 0) (.cons (.own 0 101 0 0) (.cons (.p .bool) .nil)))
theorem mixed:Go.Proofs.Tryz.prog.follows .mixedOrders=true:=by kernel_rfl
def rNew(fu:Nat)(window:Int):Option ((Int×Int)):=
 Option.bind (α:=((Bool×Int))) (
  bif (decide (window<1)) then
   some (true,0)
  else
   some ((decide (window>100)),0)) fun o=>
 bif o.1 then
  some (0,2)
 else
  some (window,0)
def rNew_fa:FnA:=⟨.two (.reg [(0,{ids:=[100]})]) (.two (.two (.join ⟨[2,9],⟨qL29,[(100,false,(.vars (.cons (.p (.int .i64)) (.cons (.nilp (.slice none 0 0)) .nil))))]⟩⟩ false [] (.leaf)) (.two (.leaf) (.leaf))) (.leaf)),⟨qL5,[]⟩,[⟨(.cons (.agg (.cons (.p (.int .i64)) (.cons (.nilp (.slice none 0 0)) .nil))) qL5),[]⟩],[0,0]⟩
def rNew_ft(fu:Nat):FnT:=⟨18,rNew_fa.i,rNew_fa.os,fun t=>rNew fu t⟩
theorem lXZ(fu:Nat):∀t,evF Go.Proofs.Tryz.prog [] fu Go.Proofs.Tryz.f18 rNew_fa t=(rNew_ft fu).spec t:=fun t=>by kernel_rfl
theorem j3Z(fu:Nat):Told Go.Proofs.Tryz.prog (rNew_ft fu):=afZ adZ mixed Go.Proofs.Tryz.func18 (by kernel_rfl) (by kernel_rfl) (lXZ fu)
def sInd_l0(fu:Nat)(s:List (Int))(v:Int)(x:Int):Option (Int⊕(Unit⊕Int)):=
 bif (decide (x<((s.length:Nat):Int))) then
  (idx? x s.length).bind fun q=>
  (s)[q]?.bind fun r=>
  bif (v==r) then
   some (.inr (.inr x))
  else
   some (.inl (IntKind.wrap .i64 (x+1)))
 else
  some (.inr (.inl ()))
def sInd_l0_it(fu:Nat)(s:List (Int))(v:Int)(tt:Int):Option (Unit⊕Int):=
 iter fu (fun tt=>sInd_l0 fu s v tt) tt
def sInd(fu:Nat)(s:List (Int))(v:Int):Option (Int):=
 (sInd_l0_it fu s v 0).bind fun o=>
 match o with
 |.inl s1=>
  some (-1)
 |.inr o1=>
  some o1
def sInd_fa:FnA:=⟨.two (.leaf) (.two (.two (.leaf) (.one (.loop ⟨[8],⟨qL5,[]⟩⟩ true [(0,⟨[],⟨.nil,[]⟩⟩)] (.two (.leaf) (.two (.leaf) (.two (.one (.two (.leaf) (.two (.leaf) (.two (.leaf) (.leaf))))) (.leaf))))))) (.leaf)),⟨(.cons (.p (.sl (.int .i64))) qL5),[]⟩,[⟨qL5,[]⟩],[0]⟩
def sInd_ft(fu:Nat):FnT:=⟨170,sInd_fa.i,sInd_fa.os,fun t=>sInd fu t.1 t.2⟩
theorem l2Z(fu:Nat):∀t,evF Go.Proofs.Tryz.prog [] fu Go.Proofs.Tryz.f170 sInd_fa t=(sInd_ft fu).spec t:=fun t=>by kernel_rfl
theorem f8Z(fu:Nat):Told Go.Proofs.Tryz.prog (sInd_ft fu):=afZ adZ mixed Go.Proofs.Tryz.func170 (by kernel_rfl) (by kernel_rfl) (l2Z fu)
def sCon(fu:Nat)(s:List (Int))(v:Int):Option (Bool):=
 (sInd fu s v).bind fun r=>
 some (decide (r>=0))
def sCon_fa:FnA:=⟨.two (.leaf) (.two (.reg [(2,{})]) (.leaf)),⟨(.cons (.p (.sl (.int .i64))) qL5),[]⟩,[⟨(.cons (.p .bool) .nil),[]⟩],[0]⟩
def sCon_ft(fu:Nat):FnT:=⟨114,sCon_fa.i,sCon_fa.os,fun t=>sCon fu t.1 t.2⟩
theorem lxZ(fu:Nat):∀t,evF Go.Proofs.Tryz.prog [sInd_ft fu] fu Go.Proofs.Tryz.f114 sCon_fa t=(sCon_ft fu).spec t:=fun t=>by kernel_rfl
theorem jkZ(fu:Nat):Told Go.Proofs.Tryz.prog (sCon_ft fu):=afZ (aaZ (f8Z fu) adZ) mixed Go.Proofs.Tryz.func114 (by kernel_rfl) (by kernel_rfl) (lxZ fu)
def pRig_l0(fu:Nat)(o:(Bool×(Int×List (Int))))(nodes:Int)(x:Int)(h:Int)(h1:List (Int)):Option ((Int×(Int×List (Int)))⊕(Unit⊕Bool)):=
 bif (decide (x<((o.2.2.length:Nat):Int))) then
  (idx? x o.2.2.length).bind fun q=>
  (o.2.2)[q]?.bind fun r=>
  Option.bind (α:=((Bool×(Int×List (Int))))) (
   bif (decide (r<0)) then
    some (true,(h,h1))
   else
    bif (decide (r>=nodes)) then
     some (true,(h,h1))
    else
     (upto? x h1.length).bind fun q1=>
     (sCon fu (List.take q1 h1) r).bind fun r1=>
     some (r1,(h,h1))) fun o1=>
  bif o1.1 then
   some (.inr (.inr false))
  else
   some (.inl ((IntKind.wrap .i64 (x+1)),(o1.2.1,o1.2.2)))
 else
  some (.inr (.inl ()))
def pRig_l0_it(fu:Nat)(o:(Bool×(Int×List (Int))))(nodes:Int)(tt:(Int×(Int×List (Int)))):Option (Unit⊕Bool):=
 iter fu (fun tt=>pRig_l0 fu o nodes tt.1 tt.2.1 tt.2.2) tt
def pRig(fu:Nat)(p:(Int×List (Int)))(nodes:Int):Option (Bool):=
 Option.bind (α:=((Bool×(Int×List (Int))))) (
  bif (decide (nodes<1)) then
   some (true,(p.1,p.2))
  else
   bif (decide (nodes>256)) then
    some (true,(p.1,p.2))
   else
    bif (decide (p.1<1)) then
     some (true,(p.1,p.2))
    else
     bif (decide (p.1>1099511627776)) then
      some (true,(p.1,p.2))
     else
      bif (decide (((p.2.length:Nat):Int)<1)) then
       some (true,(p.1,p.2))
      else
       some ((decide (((p.2.length:Nat):Int)>255)),(p.1,p.2))) fun o=>
 bif o.1 then
  some false
 else
  (pRig_l0_it fu o nodes (0,(o.2.1,o.2.2))).bind fun o2=>
  match o2 with
  |.inl s=>
   some true
  |.inr o3=>
   some o3
def pRig_fa:FnA:=⟨.two (.reg [(0,{ids:=[100]})]) (.two (.two (.join ⟨[2,34],⟨qL29,[(100,false,(.vars (.cons (.p (.int .i64)) (.cons (.p (.sl (.int .i64))) .nil))))]⟩⟩ false [] (.leaf)) (.two (.leaf) (.leaf))) (.two (.two (.leaf) (.one (.loop ⟨[2,38],⟨(.cons (.own 0 100 0 0) qL5),[(100,false,(.vars (.cons (.p (.int .i64)) (.cons (.p (.sl (.int .i64))) .nil))))]⟩⟩ true [(0,⟨[],⟨.nil,[]⟩⟩)] (.two (.leaf) (.two (.leaf) (.two (.one (.two (.leaf) (.two (.join ⟨[2,57],⟨qL29,[(100,false,(.vars (.cons (.p (.int .i64)) (.cons (.p (.sl (.int .i64))) .nil))))]⟩⟩ false [] (.reg [(13,{})])) (.two (.leaf) (.leaf))))) (.leaf))))))) (.leaf))),⟨(.cons (.p qY11) qL5),[]⟩,[⟨(.cons (.p .bool) .nil),[]⟩],[0]⟩
def pRig_ft(fu:Nat):FnT:=⟨58,pRig_fa.i,pRig_fa.os,fun t=>pRig fu t.1 t.2⟩
theorem lcZ(fu:Nat):∀t,evF Go.Proofs.Tryz.prog [sCon_ft fu] fu Go.Proofs.Tryz.f58 pRig_fa t=(pRig_ft fu).spec t:=fun t=>by kernel_rfl
theorem fFZ(fu:Nat):Told Go.Proofs.Tryz.prog (pRig_ft fu):=afZ (aaZ (jkZ fu) adZ) mixed Go.Proofs.Tryz.func58 (by kernel_rfl) (by kernel_rfl) (lcZ fu)
def spla1(fu:Nat)(p:(Int×List (Int))):Option (Bool):=
 (pRig fu (p.1,p.2) 256).bind fun r=>
 some (!r)
def spla1_fa:FnA:=⟨.two (.reg [(0,{ids:=[100]})]) (.two (.reg [(1,{})]) (.leaf)),⟨(.cons (.p qY11) .nil),[]⟩,[⟨(.cons (.p .bool) .nil),[]⟩],[0]⟩
def spla1_ft(fu:Nat):FnT:=⟨57,spla1_fa.i,spla1_fa.os,fun t=>spla1 fu t⟩
theorem kaZ(fu:Nat):∀t,evF Go.Proofs.Tryz.prog [pRig_ft fu] fu Go.Proofs.Tryz.f57 spla1_fa t=(spla1_ft fu).spec t:=fun t=>by kernel_rfl
theorem i0Z(fu:Nat):Told Go.Proofs.Tryz.prog (spla1_ft fu):=afZ (aaZ (fFZ fu) adZ) mixed Go.Proofs.Tryz.func57 (by kernel_rfl) (by kernel_rfl) (kaZ fu)
def sIndFun5_l0(fu:Nat)(s:List ((Int×List (Int))))(x:Int):Option (Int⊕(Unit⊕Int)):=
 bif (decide (x<((s.length:Nat):Int))) then
  (idx? x s.length).bind fun q=>
  (s)[q]?.bind fun r=>
  (spla1 fu r).bind fun r1=>
  bif r1 then
   some (.inr (.inr x))
  else
   some (.inl (IntKind.wrap .i64 (x+1)))
 else
  some (.inr (.inl ()))
def sIndFun5_l0_it(fu:Nat)(s:List ((Int×List (Int))))(tt:Int):Option (Unit⊕Int):=
 iter fu (fun tt=>sIndFun5_l0 fu s tt) tt
def sIndFun5(fu:Nat)(s:List ((Int×List (Int)))):Option (Int):=
 (sIndFun5_l0_it fu s 0).bind fun o=>
 match o with
 |.inl s1=>
  some (-1)
 |.inr o1=>
  some o1
def sIndFun5_fa:FnA:=⟨.two (.leaf) (.two (.two (.leaf) (.one (.loop ⟨[8],⟨qL5,[]⟩⟩ true [(0,⟨[],⟨.nil,[]⟩⟩)] (.two (.leaf) (.two (.leaf) (.two (.one (.two (.leaf) (.two (.reg [(5,{})]) (.two (.leaf) (.leaf))))) (.leaf))))))) (.leaf)),⟨(.cons (.p (.sl qY11)) (.cons (.fn 57 .nil .nil) .nil)),[]⟩,[⟨qL5,[]⟩],[0]⟩
def sIndFun5_ft(fu:Nat):FnT:=⟨115,sIndFun5_fa.i,sIndFun5_fa.os,fun t=>sIndFun5 fu t⟩
theorem gGZ(fu:Nat):∀t,evF Go.Proofs.Tryz.prog [spla1_ft fu] fu Go.Proofs.Tryz.f115 sIndFun5_fa t=(sIndFun5_ft fu).spec t:=fun t=>by kernel_rfl
theorem f0Z(fu:Nat):Told Go.Proofs.Tryz.prog (sIndFun5_ft fu):=afZ (aaZ (i0Z fu) adZ) mixed Go.Proofs.Tryz.func115 (by kernel_rfl) (by kernel_rfl) (gGZ fu)
def sConFun7(fu:Nat)(s:List ((Int×List (Int)))):Option (Bool):=
 (sIndFun5 fu s).bind fun r=>
 some (decide (r>=0))
def sConFun7_fa:FnA:=⟨.two (.leaf) (.two (.reg [(2,{})]) (.leaf)),⟨(.cons (.p (.sl qY11)) (.cons (.fn 57 .nil .nil) .nil)),[]⟩,[⟨(.cons (.p .bool) .nil),[]⟩],[0]⟩
def sConFun7_ft(fu:Nat):FnT:=⟨59,sConFun7_fa.i,sConFun7_fa.os,fun t=>sConFun7 fu t⟩
theorem gRZ(fu:Nat):∀t,evF Go.Proofs.Tryz.prog [sIndFun5_ft fu] fu Go.Proofs.Tryz.f59 sConFun7_fa t=(sConFun7_ft fu).spec t:=fun t=>by kernel_rfl
theorem eZZ(fu:Nat):Told Go.Proofs.Tryz.prog (sConFun7_ft fu):=afZ (aaZ (f0Z fu) adZ) mixed Go.Proofs.Tryz.func59 (by kernel_rfl) (by kernel_rfl) (gRZ fu)
def spla(fu:Nat)(l:List ((Int×List (Int)))):Option (Bool):=
 bif (decide (((l.length:Nat):Int)>=1)) then
  bif (decide (((l.length:Nat):Int)<=1000)) then
   (sConFun7 fu l).bind fun r=>
   some (!r)
  else
   some false
 else
  some false
def spla_fa:FnA:=⟨.two (.leaf) (.two (.leaf) (.two (.reg [(11,{})]) (.leaf))),⟨(.cons (.p (.sl qY11)) .nil),[]⟩,[⟨(.cons (.p .bool) .nil),[]⟩],[0]⟩
def spla_ft(fu:Nat):FnT:=⟨19,spla_fa.i,spla_fa.os,fun t=>spla fu t⟩
theorem lKZ(fu:Nat):∀t,evF Go.Proofs.Tryz.prog [sConFun7_ft fu] fu Go.Proofs.Tryz.f19 spla_fa t=(spla_ft fu).spec t:=fun t=>by kernel_rfl
theorem fLZ(fu:Nat):Told Go.Proofs.Tryz.prog (spla_ft fu):=afZ (aaZ (eZZ fu) adZ) mixed Go.Proofs.Tryz.func19 (by kernel_rfl) (by kernel_rfl) (lKZ fu)
def inode_New(fu:Nat):Option ((Int×List (qT1))):=
 some (0,[(1,(1,(true,(true,(0,([],(1,[])))))))])
def inode_New_fa:FnA:=⟨.two (.reg [(0,{ids:=[100]})]) (.two (.reg [(1,{ids:=[101]})]) (.leaf)),⟨.nil,[]⟩,[⟨(.cons (.agg (.cons (.slf 8 0) qL5)) .nil),[(0,false,(.rows 93 qY4))]⟩],[0]⟩
def inode_New_ft(fu:Nat):FnT:=⟨68,inode_New_fa.i,inode_New_fa.os,fun t=>inode_New fu⟩
theorem fEZ(fu:Nat):∀t,evF Go.Proofs.Tryz.prog [] fu Go.Proofs.Tryz.f68 inode_New_fa t=(inode_New_ft fu).spec t:=fun t=>by kernel_rfl
theorem eyZ(fu:Nat):Told Go.Proofs.Tryz.prog (inode_New_ft fu):=afZ adZ mixed Go.Proofs.Tryz.func68 (by kernel_rfl) (by kernel_rfl) (fEZ fu)
def model_New(fu:Nat):Option ((Int×(List (qT1)×List (List (UInt8))))):=
 (inode_New fu).bind fun r=>
 some (r.1,(r.2,(List.replicate (α:=List (UInt8)) 1 [])))
def model_New_fa:FnA:=⟨.two (.reg [(0,{ids:=[100]})]) (.two (.reg [(0,{ids:=[101]}),(1,{ids:=[102]})]) (.leaf)),⟨.nil,[]⟩,[⟨(.cons (.agg (.cons (.slf 8 0) (.cons (.p (.int .i64)) (.cons (.slf 1 1) .nil)))) .nil),[(0,false,(.rows 93 qY4)),(1,false,(.rows 40 (.sl .byte)))]⟩],[0]⟩
def model_New_ft(fu:Nat):FnT:=⟨21,model_New_fa.i,model_New_fa.os,fun t=>model_New fu⟩
theorem fQZ(fu:Nat):∀t,evF Go.Proofs.Tryz.prog [inode_New_ft fu] fu Go.Proofs.Tryz.f21 model_New_fa t=(model_New_ft fu).spec t:=fun t=>by kernel_rfl
theorem etZ(fu:Nat):Told Go.Proofs.Tryz.prog (model_New_ft fu):=afZ (aaZ (eyZ fu) adZ) mixed Go.Proofs.Tryz.func21 (by kernel_rfl) (by kernel_rfl) (fQZ fu)
def sClo4(fu:Nat)(s:List (qT1)):Option (List (qT1)):=
 nilQ s.length fun isNil=>
 bif isNil then
  some []
 else
  need ((Nat.ble ((0+s.length)*88) room)&&(Nat.ble (0+s.length) room))<|
  some s
def sClo4_fa:FnA:=⟨.two (.leaf) (.two (.two (.leaf) (.two (.leaf) (.leaf))) (.two (.reg [(0,{ids:=[100]}),(2,{ids:=[101]})]) (.leaf))),⟨(.cons (.p (.sl qY4)) .nil),[]⟩,[⟨(.cons (.slf 8 0) .nil),[(0,false,(.rows 93 qY4))]⟩],[103]⟩
def sClo4_ft(fu:Nat):FnT:=⟨116,sClo4_fa.i,sClo4_fa.os,fun t=>sClo4 fu t⟩
theorem kwZ(fu:Nat):∀t,evF Go.Proofs.Tryz.prog [] fu Go.Proofs.Tryz.f116 sClo4_fa t=(sClo4_ft fu).spec t:=fun t=>by kernel_rfl
theorem hGZ(fu:Nat):Told Go.Proofs.Tryz.prog (sClo4_ft fu):=afZ adZ mixed Go.Proofs.Tryz.func116 (by kernel_rfl) (by kernel_rfl) (kwZ fu)
def sClo(fu:Nat)(s:List ((Int×Int))):Option (List ((Int×Int))):=
 nilQ s.length fun isNil=>
 bif isNil then
  some []
 else
  need ((Nat.ble ((0+s.length)*16) room)&&(Nat.ble (0+s.length) room))<|
  some s
def sClo_fa:FnA:=⟨.two (.leaf) (.two (.two (.leaf) (.two (.leaf) (.leaf))) (.two (.reg [(0,{ids:=[100]}),(2,{ids:=[101]})]) (.leaf))),⟨(.cons (.p (.sl qY22)) .nil),[]⟩,[⟨(.cons (.slf 2 0) .nil),[(0,false,(.rows 145 qY22))]⟩],[155]⟩
def sClo_ft(fu:Nat):FnT:=⟨67,sClo_fa.i,sClo_fa.os,fun t=>sClo fu t⟩
theorem meZ(fu:Nat):∀t,evF Go.Proofs.Tryz.prog [] fu Go.Proofs.Tryz.f67 sClo_fa t=(sClo_ft fu).spec t:=fun t=>by kernel_rfl
theorem fJZ(fu:Nat):Told Go.Proofs.Tryz.prog (sClo_ft fu):=afZ adZ mixed Go.Proofs.Tryz.func67 (by kernel_rfl) (by kernel_rfl) (meZ fu)
def sClo2(fu:Nat)(s:List ((List UInt8×Int))):Option (List ((List UInt8×Int))):=
 nilQ s.length fun isNil=>
 bif isNil then
  some []
 else
  need ((Nat.ble ((0+s.length)*24) room)&&(Nat.ble (0+s.length) room))<|
  some s
def sClo2_fa:FnA:=⟨.two (.leaf) (.two (.two (.leaf) (.two (.leaf) (.leaf))) (.two (.reg [(0,{ids:=[100]}),(2,{ids:=[101]})]) (.leaf))),⟨(.cons (.p (.sl (.pair .str (.int .i64)))) .nil),[]⟩,[⟨(.cons (.slf 2 0) .nil),[(0,false,(.rows 142 (.pair .str (.int .i64))))]⟩],[152]⟩
def sClo2_ft(fu:Nat):FnT:=⟨66,sClo2_fa.i,sClo2_fa.os,fun t=>sClo2 fu t⟩
theorem jYZ(fu:Nat):∀t,evF Go.Proofs.Tryz.prog [] fu Go.Proofs.Tryz.f66 sClo2_fa t=(sClo2_ft fu).spec t:=fun t=>by kernel_rfl
theorem hZZ(fu:Nat):Told Go.Proofs.Tryz.prog (sClo2_ft fu):=afZ adZ mixed Go.Proofs.Tryz.func66 (by kernel_rfl) (by kernel_rfl) (jYZ fu)
def scop_l0(fu:Nat)(r:List (qT1))(x:Int)(h:Int)(h1:List (qT1))(h2:Int):Option ((Int×(Int×(List (qT1)×Int)))⊕((Int×(List (qT1)×Int)))):=
 bif (decide (x<((r.length:Nat):Int))) then
  (idx? x h1.length).bind fun q=>
  (h1)[q]?.bind fun r1=>
  (sClo fu r1.2.2.2.2.2.1).bind fun r2=>
  (idx? x h1.length).bind fun q1=>
  (h1)[q1]?.bind fun r3=>
  (sClo2 fu r3.2.2.2.2.2.2.2).bind fun r4=>
  (idx? x h1.length).bind fun q2=>
  (h1)[q2]?.bind fun r5=>
  (idx? x (List.set h1 q2 (r5.1,(r5.2.1,(r5.2.2.1,(r5.2.2.2.1,(r5.2.2.2.2.1,(r2,r5.2.2.2.2.2.2))))))).length).bind fun q3=>
  ((List.set h1 q2 (r5.1,(r5.2.1,(r5.2.2.1,(r5.2.2.2.1,(r5.2.2.2.2.1,(r2,r5.2.2.2.2.2.2))))))))[q3]?.bind fun r6=>
  some (.inl ((IntKind.wrap .i64 (x+1)),(h,((List.set (List.set h1 q2 (r5.1,(r5.2.1,(r5.2.2.1,(r5.2.2.2.1,(r5.2.2.2.2.1,(r2,r5.2.2.2.2.2.2))))))) q3 (r6.1,(r6.2.1,(r6.2.2.1,(r6.2.2.2.1,(r6.2.2.2.2.1,(r6.2.2.2.2.2.1,(r6.2.2.2.2.2.2.1,r4)))))))),h2))))
 else
  some (.inr (h,(h1,h2)))
def scop_l0_it(fu:Nat)(r:List (qT1))(tt:(Int×(Int×(List (qT1)×Int)))):Option ((Int×(List (qT1)×Int))):=
 iter fu (fun tt=>scop_l0 fu r tt.1 tt.2.1 tt.2.2.1 tt.2.2.2) tt
def scop(fu:Nat)(t:(List (qT1)×Int)):Option ((Int×List (qT1))):=
 (sClo4 fu t.1).bind fun r=>
 (scop_l0_it fu r (0,(t.2,(r,0)))).bind fun o=>
 some (o.1,o.2.1)
def scop_fa:FnA:=⟨.two (.reg [(0,{ids:=[100]}),(1,{ids:=[101]})]) (.two (.reg [(2,{ids:=[102]})]) (.two (.two (.leaf) (.one (.loop ⟨[1,2,11],⟨(.cons (.own 0 100 0 0) (.cons (.own 0 101 0 0) qL5)),[(100,false,(.vars (.cons (.slf 8 102) qL5))),(102,false,(.rows 93 qY4)),(101,false,(.vars (.cons (.nilp (.slice none 0 0)) qL5)))]⟩⟩ false [(0,⟨[1,2],⟨(.cons (.own 0 100 0 0) (.cons (.own 0 101 0 0) .nil)),[(100,false,(.vars (.cons (.slf 8 102) qL5))),(102,false,(.rows 93 qY4)),(101,false,(.vars (.cons (.nilp (.slice none 0 0)) qL5)))]⟩⟩)] (.two (.leaf) (.two (.leaf) (.two (.one (.two (.leaf) (.reg [(12,{ids:=[103],fn:=1}),(19,{ids:=[104],fn:=2})]))) (.leaf))))))) (.leaf))),⟨(.cons (.p (.pair (.sl qY4) (.int .i64))) .nil),[]⟩,[⟨(.cons (.agg (.cons (.slf 8 0) qL5)) .nil),[(0,false,(.rows 93 qY4))]⟩],[0]⟩
def scop_ft(fu:Nat):FnT:=⟨60,scop_fa.i,scop_fa.os,fun t=>scop fu t⟩
theorem maZ(fu:Nat):∀t,evF Go.Proofs.Tryz.prog [sClo4_ft fu,sClo_ft fu,sClo2_ft fu] fu Go.Proofs.Tryz.f60 scop_fa t=(scop_ft fu).spec t:=fun t=>by kernel_rfl
theorem juZ(fu:Nat):Told Go.Proofs.Tryz.prog (scop_ft fu):=afZ (aaZ (hGZ fu) (aaZ (fJZ fu) (aaZ (hZZ fu) adZ))) mixed Go.Proofs.Tryz.func60 (by kernel_rfl) (by kernel_rfl) (maZ fu)
def sClo3(fu:Nat)(s:List ((Int×List (Int)))):Option (List ((Int×List (Int)))):=
 nilQ s.length fun isNil=>
 bif isNil then
  some []
 else
  need ((Nat.ble ((0+s.length)*32) room)&&(Nat.ble (0+s.length) room))<|
  some s
def sClo3_fa:FnA:=⟨.two (.leaf) (.two (.two (.leaf) (.two (.leaf) (.leaf))) (.two (.reg [(0,{ids:=[100]}),(2,{ids:=[101]})]) (.leaf))),⟨(.cons (.p (.sl qY11)) .nil),[]⟩,[⟨(.cons (.slf 2 0) .nil),[(0,false,(.rows 37 qY11))]⟩],[47]⟩
def sClo3_ft(fu:Nat):FnT:=⟨61,sClo3_fa.i,sClo3_fa.os,fun t=>sClo3 fu t⟩
theorem kBZ(fu:Nat):∀t,evF Go.Proofs.Tryz.prog [] fu Go.Proofs.Tryz.f61 sClo3_fa t=(sClo3_ft fu).spec t:=fun t=>by kernel_rfl
theorem inZ(fu:Nat):Told Go.Proofs.Tryz.prog (sClo3_ft fu):=afZ adZ mixed Go.Proofs.Tryz.func61 (by kernel_rfl) (by kernel_rfl) (kBZ fu)
def sClo6(fu:Nat)(s:List (Int)):Option (List (Int)):=
 nilQ s.length fun isNil=>
 bif isNil then
  some []
 else
  need ((Nat.ble ((0+s.length)*8) room)&&(Nat.ble (0+s.length) room))<|
  some s
def sClo6_fa:FnA:=⟨.two (.leaf) (.two (.two (.leaf) (.two (.leaf) (.leaf))) (.two (.reg [(0,{ids:=[100]}),(2,{ids:=[101]})]) (.leaf))),⟨(.cons (.p (.sl (.int .i64))) .nil),[]⟩,[⟨(.cons (.slf 1 0) .nil),[(0,false,(.rows 3 (.int .i64)))]⟩],[13]⟩
def sClo6_ft(fu:Nat):FnT:=⟨62,sClo6_fa.i,sClo6_fa.os,fun t=>sClo6 fu t⟩
theorem kuZ(fu:Nat):∀t,evF Go.Proofs.Tryz.prog [] fu Go.Proofs.Tryz.f62 sClo6_fa t=(sClo6_ft fu).spec t:=fun t=>by kernel_rfl
theorem e2Z(fu:Nat):Told Go.Proofs.Tryz.prog (sClo6_ft fu):=afZ adZ mixed Go.Proofs.Tryz.func62 (by kernel_rfl) (by kernel_rfl) (kuZ fu)
def sClo5(fu:Nat)(s:List (qT0)):Option (List (qT0)):=
 nilQ s.length fun isNil=>
 bif isNil then
  some []
 else
  need ((Nat.ble ((0+s.length)*40) room)&&(Nat.ble (0+s.length) room))<|
  some s
def sClo5_fa:FnA:=⟨.two (.leaf) (.two (.two (.leaf) (.two (.leaf) (.leaf))) (.two (.reg [(0,{ids:=[100]}),(2,{ids:=[101]})]) (.leaf))),⟨(.cons (.p (.sl qY10)) .nil),[]⟩,[⟨(.cons (.slf 3 0) .nil),[(0,false,(.rows 103 qY10))]⟩],[113]⟩
def sClo5_ft(fu:Nat):FnT:=⟨63,sClo5_fa.i,sClo5_fa.os,fun t=>sClo5 fu t⟩
theorem jWZ(fu:Nat):∀t,evF Go.Proofs.Tryz.prog [] fu Go.Proofs.Tryz.f63 sClo5_fa t=(sClo5_ft fu).spec t:=fun t=>by kernel_rfl
theorem hLZ(fu:Nat):Told Go.Proofs.Tryz.prog (sClo5_ft fu):=afZ adZ mixed Go.Proofs.Tryz.func63 (by kernel_rfl) (by kernel_rfl) (jWZ fu)
def state_own_l0(fu:Nat)(r1:List ((Int×List (Int))))(x:Int)(h:Int)(h1:Int)(h2:Int)(h3:List (qT0))(h4:List ((Int×Int)))(h5:List (qT1))(h6:List ((Int×List (Int))))(h7:Int)(h8:Int)(h9:Int):Option ((Int×qT20)⊕(qT20)):=
 bif (decide (x<((r1.length:Nat):Int))) then
  (idx? x h6.length).bind fun q=>
  (h6)[q]?.bind fun r2=>
  (sClo6 fu r2.2).bind fun r3=>
  (idx? x h6.length).bind fun q1=>
  (h6)[q1]?.bind fun r4=>
  some (.inl ((IntKind.wrap .i64 (x+1)),(h,(h1,(h2,(h3,(h4,(h5,((List.set h6 q1 (r4.1,r3)),(h7,(h8,h9)))))))))))
 else
  some (.inr (h,(h1,(h2,(h3,(h4,(h5,(h6,(h7,(h8,h9))))))))))
def state_own_l0_it(fu:Nat)(r1:List ((Int×List (Int))))(tt:(Int×qT20)):Option (qT20):=
 iter fu (fun tt=>state_own_l0 fu r1 tt.1 tt.2.1 tt.2.2.1 tt.2.2.2.1 tt.2.2.2.2.1 tt.2.2.2.2.2.1 tt.2.2.2.2.2.2.1 tt.2.2.2.2.2.2.2.1 tt.2.2.2.2.2.2.2.2.1 tt.2.2.2.2.2.2.2.2.2.1 tt.2.2.2.2.2.2.2.2.2.2) tt
def state_own_l1(fu:Nat)(r5:List (qT0))(x1:Int)(h10:Int)(h11:Int)(h12:Int)(h13:List ((Int×Int)))(h14:List (qT1))(h15:List (qT0))(h16:List ((Int×List (Int))))(h17:Int)(h18:Int)(h19:Int):Option ((Int×qT31)⊕(qT31)):=
 bif (decide (x1<((r5.length:Nat):Int))) then
  none
 else
  some (.inr (h10,(h11,(h12,(h13,(h14,(h15,(h16,(h17,(h18,h19))))))))))
def state_own_l1_it(fu:Nat)(r5:List (qT0))(tt:(Int×qT31)):Option (qT31):=
 iter fu (fun tt=>state_own_l1 fu r5 tt.1 tt.2.1 tt.2.2.1 tt.2.2.2.1 tt.2.2.2.2.1 tt.2.2.2.2.2.1 tt.2.2.2.2.2.2.1 tt.2.2.2.2.2.2.2.1 tt.2.2.2.2.2.2.2.2.1 tt.2.2.2.2.2.2.2.2.2.1 tt.2.2.2.2.2.2.2.2.2.2) tt
def state_own(fu:Nat)(s:qT18):Option ((Int×(Int×(Int×(List (qT1)×(List (qT0)×(List ((Int×List (Int)))×List ((Int×Int))))))))):=
 (scop fu (s.2.1.1,s.2.1.2)).bind fun r=>
 (sClo3 fu s.2.2.2.1).bind fun r1=>
 (state_own_l0_it fu r1 (0,(s.1,(r.1,(s.2.2.1.1,(s.2.2.1.2,(s.2.2.2.2,(r.2,(r1,(0,(0,0))))))))))).bind fun o=>
 (sClo5 fu o.2.2.2.1).bind fun r5=>
 (state_own_l1_it fu r5 (0,(o.1,(o.2.1,(o.2.2.1,(o.2.2.2.2.1,(o.2.2.2.2.2.1,(r5,(o.2.2.2.2.2.2.1,(o.2.2.2.2.2.2.2.1,(o.2.2.2.2.2.2.2.2.1,o.2.2.2.2.2.2.2.2.2))))))))))).bind fun o1=>
 (sClo fu o1.2.2.2.1).bind fun r6=>
 some (o1.1,(o1.2.1,(o1.2.2.1,(o1.2.2.2.2.1,(o1.2.2.2.2.2.1,(o1.2.2.2.2.2.2.1,r6))))))
def state_own_fa:FnA:=⟨.two (.reg [(0,{ids:=[100]}),(1,{ids:=[101]})]) (.two (.reg [(2,{ids:=[102]})]) (.two (.reg [(2,{ids:=[103],fn:=1})]) (.two (.two (.leaf) (.one (.loop ⟨[1,2,18],⟨(.cons (.own 0 100 0 0) (.cons (.own 0 101 0 0) qL5)),[(100,false,(.vars (.cons (.p (.int .i64)) (.cons (.slf 8 102) (.cons (.p (.int .i64)) (.cons (.p (.int .i64)) (.cons (.p (.sl qY10)) (.cons (.slf 2 103) (.cons (.p (.sl qY22)) .nil))))))))),(102,false,(.rows 93 qY4)),(103,false,(.rows 37 qY11)),(101,false,qB17)]⟩⟩ false [(0,⟨[1,2],⟨(.cons (.own 0 100 0 0) (.cons (.own 0 101 0 0) .nil)),[(100,false,(.vars (.cons (.p (.int .i64)) (.cons (.slf 8 102) (.cons (.p (.int .i64)) (.cons (.p (.int .i64)) (.cons (.p (.sl qY10)) (.cons (.slf 2 103) (.cons (.p (.sl qY22)) .nil))))))))),(102,false,(.rows 93 qY4)),(103,false,(.rows 37 qY11)),(101,false,qB17)]⟩⟩)] (.two (.leaf) (.two (.leaf) (.two (.one (.two (.leaf) (.reg [(9,{ids:=[104],fn:=2})]))) (.leaf))))))) (.two (.reg [(3,{ids:=[105],fn:=3})]) (.two (.two (.leaf) (.one (.loop ⟨[1,2,44],⟨(.cons (.own 0 100 0 0) (.cons (.own 0 101 0 0) qL5)),[(100,false,(.vars (.cons (.p (.int .i64)) (.cons (.slf 8 102) (.cons (.p (.int .i64)) (.cons (.p (.int .i64)) (.cons (.slf 3 105) (.cons (.slf 2 103) (.cons (.p (.sl qY22)) .nil))))))))),(102,false,(.rows 93 qY4)),(105,false,(.rows 103 qY10)),(103,false,(.rows 37 qY11)),(101,false,qB17)]⟩⟩ false [(2,⟨[1,2],⟨(.cons (.own 0 100 0 0) (.cons (.own 0 101 0 0) .nil)),[(100,false,(.vars (.cons (.p (.int .i64)) (.cons (.slf 8 102) (.cons (.p (.int .i64)) (.cons (.p (.int .i64)) (.cons (.slf 3 105) (.cons (.slf 2 103) (.cons (.p (.sl qY22)) .nil))))))))),(102,false,(.rows 93 qY4)),(105,false,(.rows 103 qY10)),(103,false,(.rows 37 qY11)),(101,false,qB17)]⟩⟩)] (.two (.leaf) (.two (.leaf) (.two (.one (.two (.leaf) (.two (.pre (.mem 0 15) (.leaf)) (.leaf)))) (.leaf))))))) (.two (.reg [(2,{ids:=[106],fn:=4})]) (.leaf))))))),⟨(.cons (.p qY15) .nil),[]⟩,[⟨(.cons (.agg (.cons (.p (.int .i64)) (.cons (.slf 8 0) (.cons (.p (.int .i64)) (.cons (.p (.int .i64)) (.cons (.slf 3 1) (.cons (.slf 2 2) (.cons (.slf 2 3) .nil)))))))) .nil),[(0,false,(.rows 93 qY4)),(1,false,(.rows 103 qY10)),(2,false,(.rows 37 qY11)),(3,false,(.rows 145 qY22))]⟩],[0]⟩
def state_own_ft(fu:Nat):FnT:=⟨20,state_own_fa.i,state_own_fa.os,fun t=>state_own fu t⟩
theorem gqZ(fu:Nat):∀t,evF Go.Proofs.Tryz.prog [scop_ft fu,sClo3_ft fu,sClo6_ft fu,sClo5_ft fu,sClo_ft fu] fu Go.Proofs.Tryz.f20 state_own_fa t=(state_own_ft fu).spec t:=fun t=>by kernel_rfl
theorem cmZ(fu:Nat):Told Go.Proofs.Tryz.prog (state_own_ft fu):=afZ (aaZ (juZ fu) (aaZ (inZ fu) (aaZ (e2Z fu) (aaZ (hLZ fu) (aaZ (fJZ fu) adZ))))) mixed Go.Proofs.Tryz.func20 (by kernel_rfl) (by kernel_rfl) (gqZ fu)
def state_New(fu:Nat)(window:Int)(l:List ((Int×List (Int)))):Option ((Int×(List (qT1)×(Int×(Int×(List (qT0)×(List ((Int×List (Int)))×(List ((Int×Int))×Int)))))))):=
 (rNew fu window).bind fun r=>
 bif (!(r.2==0)) then
  some (0,([],(0,(0,([],([],([],r.2)))))))
 else
  (spla fu l).bind fun r1=>
  bif (!r1) then
   some (0,([],(0,(0,([],([],([],2)))))))
  else
   (model_New fu).bind fun r2=>
   (state_own fu (0,((r2.2.1,r2.1),((r.1,[]),(l,[]))))).bind fun r3=>
   some (r3.1,(r3.2.2.2.1,(r3.2.1,(r3.2.2.1,(r3.2.2.2.2.1,(r3.2.2.2.2.2.1,(r3.2.2.2.2.2.2,0)))))))
def state_New_fa:FnA:=⟨.two (.reg [(0,{ids:=[100]})]) (.two (.reg [(1,{}),(5,{ids:=[101]})]) (.two (.two (.leaf) (.two (.leaf) (.leaf))) (.two (.two (.reg [(1,{fn:=1})]) (.two (.leaf) (.leaf))) (.two (.reg [(0,{ids:=[102,103],fn:=2}),(5,{ids:=[104,105,106,107],md:=[1],fn:=3})]) (.leaf))))),⟨(.cons (.p (.int .i64)) (.cons (.p (.sl qY11)) .nil)),[]⟩,[⟨(.cons (.agg qL2) qL5),[]⟩],[1,0]⟩
def state_New_ft(fu:Nat):FnT:=⟨5,state_New_fa.i,state_New_fa.os,fun t=>state_New fu t.1 t.2⟩
theorem goZ(fu:Nat):∀t,evF Go.Proofs.Tryz.prog [rNew_ft fu,spla_ft fu,model_New_ft fu,state_own_ft fu] fu Go.Proofs.Tryz.f5 state_New_fa t=(state_New_ft fu).spec t:=fun t=>by kernel_rfl
theorem ckZ(fu:Nat):Told Go.Proofs.Tryz.prog (state_New_ft fu):=afZ (aaZ (j3Z fu) (aaZ (fLZ fu) (aaZ (etZ fu) (aaZ (cmZ fu) adZ)))) mixed Go.Proofs.Tryz.func5 (by kernel_rfl) (by kernel_rfl) (goZ fu)
def pall1(fu:Nat)(p:(Int×List (Int))):Option (Bool):=
 (pRig fu (p.1,p.2) 256).bind fun r=>
 some (!r)
def pall1_fa:FnA:=⟨.two (.reg [(0,{ids:=[100]})]) (.two (.reg [(1,{})]) (.leaf)),⟨(.cons (.p qY11) .nil),[]⟩,[⟨(.cons (.p .bool) .nil),[]⟩],[0]⟩
def pall1_ft(fu:Nat):FnT:=⟨168,pall1_fa.i,pall1_fa.os,fun t=>pall1 fu t⟩
theorem kmZ(fu:Nat):∀t,evF Go.Proofs.Tryz.prog [pRig_ft fu] fu Go.Proofs.Tryz.f168 pall1_fa t=(pall1_ft fu).spec t:=fun t=>by kernel_rfl
theorem hQZ(fu:Nat):Told Go.Proofs.Tryz.prog (pall1_ft fu):=afZ (aaZ (fFZ fu) adZ) mixed Go.Proofs.Tryz.func168 (by kernel_rfl) (by kernel_rfl) (kmZ fu)
def sIndFun2_l0(fu:Nat)(s:List ((Int×List (Int))))(x:Int):Option (Int⊕(Unit⊕Int)):=
 bif (decide (x<((s.length:Nat):Int))) then
  (idx? x s.length).bind fun q=>
  (s)[q]?.bind fun r=>
  (pall1 fu r).bind fun r1=>
  bif r1 then
   some (.inr (.inr x))
  else
   some (.inl (IntKind.wrap .i64 (x+1)))
 else
  some (.inr (.inl ()))
def sIndFun2_l0_it(fu:Nat)(s:List ((Int×List (Int))))(tt:Int):Option (Unit⊕Int):=
 iter fu (fun tt=>sIndFun2_l0 fu s tt) tt
def sIndFun2(fu:Nat)(s:List ((Int×List (Int)))):Option (Int):=
 (sIndFun2_l0_it fu s 0).bind fun o=>
 match o with
 |.inl s1=>
  some (-1)
 |.inr o1=>
  some o1
def sIndFun2_fa:FnA:=⟨.two (.leaf) (.two (.two (.leaf) (.one (.loop ⟨[8],⟨qL5,[]⟩⟩ true [(0,⟨[],⟨.nil,[]⟩⟩)] (.two (.leaf) (.two (.leaf) (.two (.one (.two (.leaf) (.two (.reg [(5,{})]) (.two (.leaf) (.leaf))))) (.leaf))))))) (.leaf)),⟨(.cons (.p (.sl qY11)) (.cons (.fn 168 .nil .nil) .nil)),[]⟩,[⟨qL5,[]⟩],[0]⟩
def sIndFun2_ft(fu:Nat):FnT:=⟨115,sIndFun2_fa.i,sIndFun2_fa.os,fun t=>sIndFun2 fu t⟩
theorem heZ(fu:Nat):∀t,evF Go.Proofs.Tryz.prog [pall1_ft fu] fu Go.Proofs.Tryz.f115 sIndFun2_fa t=(sIndFun2_ft fu).spec t:=fun t=>by kernel_rfl
theorem fvZ(fu:Nat):Told Go.Proofs.Tryz.prog (sIndFun2_ft fu):=afZ (aaZ (hQZ fu) adZ) mixed Go.Proofs.Tryz.func115 (by kernel_rfl) (by kernel_rfl) (heZ fu)
def sConFun4(fu:Nat)(s:List ((Int×List (Int)))):Option (Bool):=
 (sIndFun2 fu s).bind fun r=>
 some (decide (r>=0))
def sConFun4_fa:FnA:=⟨.two (.leaf) (.two (.reg [(2,{})]) (.leaf)),⟨(.cons (.p (.sl qY11)) (.cons (.fn 168 .nil .nil) .nil)),[]⟩,[⟨(.cons (.p .bool) .nil),[]⟩],[0]⟩
def sConFun4_ft(fu:Nat):FnT:=⟨59,sConFun4_fa.i,sConFun4_fa.os,fun t=>sConFun4 fu t⟩
theorem g8Z(fu:Nat):∀t,evF Go.Proofs.Tryz.prog [sIndFun2_ft fu] fu Go.Proofs.Tryz.f59 sConFun4_fa t=(sConFun4_ft fu).spec t:=fun t=>by kernel_rfl
theorem eJZ(fu:Nat):Told Go.Proofs.Tryz.prog (sConFun4_ft fu):=afZ (aaZ (fvZ fu) adZ) mixed Go.Proofs.Tryz.func59 (by kernel_rfl) (by kernel_rfl) (g8Z fu)
def place_all(fu:Nat)(l:List ((Int×List (Int)))):Option (Bool):=
 bif (decide (((l.length:Nat):Int)>=1)) then
  bif (decide (((l.length:Nat):Int)<=1000)) then
   (sConFun4 fu l).bind fun r=>
   some (!r)
  else
   some false
 else
  some false
def place_all_fa:FnA:=⟨.two (.leaf) (.two (.reg [(10,{})]) (.leaf)),⟨(.cons (.p (.sl qY11)) .nil),[]⟩,[⟨(.cons (.p .bool) .nil),[]⟩],[0]⟩
def place_all_ft(fu:Nat):FnT:=⟨98,place_all_fa.i,place_all_fa.os,fun t=>place_all fu t⟩
theorem fGZ(fu:Nat):∀t,evF Go.Proofs.Tryz.prog [sConFun4_ft fu] fu Go.Proofs.Tryz.f98 place_all_fa t=(place_all_ft fu).spec t:=fun t=>by kernel_rfl
theorem elZ(fu:Nat):Told Go.Proofs.Tryz.prog (place_all_ft fu):=afZ (aaZ (eJZ fu) adZ) mixed Go.Proofs.Tryz.func98 (by kernel_rfl) (by kernel_rfl) (fGZ fu)
def pMov1(fu:Nat)(n:Int):Option (Bool):=
 bif (decide (n>=0)) then
  some (decide (n<256))
 else
  some false
def pMov1_fa:FnA:=⟨.two (.leaf) (.leaf),⟨qL5,[]⟩,[⟨(.cons (.p .bool) .nil),[]⟩],[0]⟩
def pMov1_ft(fu:Nat):FnT:=⟨117,pMov1_fa.i,pMov1_fa.os,fun t=>pMov1 fu t⟩
theorem keZ(fu:Nat):∀t,evF Go.Proofs.Tryz.prog [] fu Go.Proofs.Tryz.f117 pMov1_fa t=(pMov1_ft fu).spec t:=fun t=>by kernel_rfl
theorem i1Z(fu:Nat):Told Go.Proofs.Tryz.prog (pMov1_ft fu):=afZ adZ mixed Go.Proofs.Tryz.func117 (by kernel_rfl) (by kernel_rfl) (keZ fu)
def pInd(fu:Nat)(p:(Int×List (Int)))(node:Int):Option (Int):=
 (sInd fu p.2 node).bind fun r=>
 some r
def pInd_fa:FnA:=⟨.two (.reg [(0,{ids:=[100]})]) (.two (.reg [(3,{})]) (.leaf)),⟨(.cons (.p qY11) qL5),[]⟩,[⟨qL5,[]⟩],[0]⟩
def pInd_ft(fu:Nat):FnT:=⟨119,pInd_fa.i,pInd_fa.os,fun t=>pInd fu t.1 t.2⟩
theorem lOZ(fu:Nat):∀t,evF Go.Proofs.Tryz.prog [sInd_ft fu] fu Go.Proofs.Tryz.f119 pInd_fa t=(pInd_ft fu).spec t:=fun t=>by kernel_rfl
theorem ggZ(fu:Nat):Told Go.Proofs.Tryz.prog (pInd_ft fu):=afZ (aaZ (f8Z fu) adZ) mixed Go.Proofs.Tryz.func119 (by kernel_rfl) (by kernel_rfl) (lOZ fu)
def pMov2(fu:Nat)(p:(Int×List (Int)))(h:Int)(h1:Int):Option ((Bool×(Int×Int))):=
 (pInd fu (p.1,p.2) h).bind fun r=>
 bif (decide (r>=0)) then
  (pInd fu (p.1,p.2) h1).bind fun r1=>
  bif (decide (r1>=0)) then
   some (true,(h,h1))
  else
   some ((decide (p.1>=1099511627776)),(h,h1))
 else
  some (false,(h,h1))
def pMov2_fa:FnA:=⟨.two (.reg [(0,{ids:=[100]})]) (.two (.reg [(2,{}),(7,{})]) (.leaf)),⟨(.cons (.p qY11) qL25),[(0,false,(.vars qL5)),(1,false,(.vars qL5))]⟩,[⟨(.cons (.p .bool) .nil),[(0,false,(.vars qL5)),(1,false,(.vars qL5))]⟩],[0]⟩
def pMov2_ft(fu:Nat):FnT:=⟨118,pMov2_fa.i,pMov2_fa.os,fun t=>pMov2 fu t.1 t.2.1 t.2.2⟩
theorem kpZ(fu:Nat):∀t,evF Go.Proofs.Tryz.prog [pInd_ft fu] fu Go.Proofs.Tryz.f118 pMov2_fa t=(pMov2_ft fu).spec t:=fun t=>by kernel_rfl
theorem iyZ(fu:Nat):Told Go.Proofs.Tryz.prog (pMov2_ft fu):=afZ (aaZ (ggZ fu) adZ) mixed Go.Proofs.Tryz.func118 (by kernel_rfl) (by kernel_rfl) (kpZ fu)
def sIndFun8_l0(fu:Nat)(s:List ((Int×List (Int))))(x:Int)(h2:Int)(h3:Int):Option ((Int×(Int×Int))⊕((Int×Int)⊕(Int×(Int×Int)))):=
 bif (decide (x<((s.length:Nat):Int))) then
  (idx? x s.length).bind fun q=>
  (s)[q]?.bind fun r=>
  (pMov2 fu r h2 h3).bind fun r1=>
  bif r1.1 then
   some (.inr (.inr (x,(r1.2.1,r1.2.2))))
  else
   some (.inl ((IntKind.wrap .i64 (x+1)),(r1.2.1,r1.2.2)))
 else
  some (.inr (.inl (h2,h3)))
def sIndFun8_l0_it(fu:Nat)(s:List ((Int×List (Int))))(tt:(Int×(Int×Int))):Option ((Int×Int)⊕(Int×(Int×Int))):=
 iter fu (fun tt=>sIndFun8_l0 fu s tt.1 tt.2.1 tt.2.2) tt
def sIndFun8(fu:Nat)(s:List ((Int×List (Int))))(h:Int)(h1:Int):Option ((Int×(Int×Int))):=
 (sIndFun8_l0_it fu s (0,(h,h1))).bind fun o=>
 match o with
 |.inl s1=>
  some ((-1),(s1.1,s1.2))
 |.inr o1=>
  some o1
def sIndFun8_fa:FnA:=⟨.two (.leaf) (.two (.two (.leaf) (.one (.loop ⟨[1,8],⟨(.cons (.fn 118 .nil qL25) qL5),[(0,false,(.vars qL5)),(1,false,(.vars qL5))]⟩⟩ true [(0,⟨[1],⟨(.cons (.fn 118 .nil qL25) .nil),[(0,false,(.vars qL5)),(1,false,(.vars qL5))]⟩⟩)] (.two (.leaf) (.two (.leaf) (.two (.one (.two (.leaf) (.two (.reg [(5,{sh:=[0,1]})]) (.two (.leaf) (.leaf))))) (.leaf))))))) (.leaf)),⟨(.cons (.p (.sl qY11)) (.cons (.fn 118 .nil qL25) .nil)),[(0,false,(.vars qL5)),(1,false,(.vars qL5))]⟩,[⟨qL5,[(0,false,(.vars qL5)),(1,false,(.vars qL5))]⟩],[0]⟩
def sIndFun8_ft(fu:Nat):FnT:=⟨115,sIndFun8_fa.i,sIndFun8_fa.os,fun t=>sIndFun8 fu t.1 t.2.1 t.2.2⟩
theorem gMZ(fu:Nat):∀t,evF Go.Proofs.Tryz.prog [pMov2_ft fu] fu Go.Proofs.Tryz.f115 sIndFun8_fa t=(sIndFun8_ft fu).spec t:=fun t=>by kernel_rfl
theorem fcZ(fu:Nat):Told Go.Proofs.Tryz.prog (sIndFun8_ft fu):=afZ (aaZ (iyZ fu) adZ) mixed Go.Proofs.Tryz.func115 (by kernel_rfl) (by kernel_rfl) (gMZ fu)
def sConFun2(fu:Nat)(s:List ((Int×List (Int))))(h:Int)(h1:Int):Option ((Bool×(Int×Int))):=
 (sIndFun8 fu s h h1).bind fun r=>
 some ((decide (r.1>=0)),(r.2.1,r.2.2))
def sConFun2_fa:FnA:=⟨.two (.leaf) (.two (.reg [(2,{sh:=[0,1]})]) (.leaf)),⟨(.cons (.p (.sl qY11)) (.cons (.fn 118 .nil qL25) .nil)),[(0,false,(.vars qL5)),(1,false,(.vars qL5))]⟩,[⟨(.cons (.p .bool) .nil),[(0,false,(.vars qL5)),(1,false,(.vars qL5))]⟩],[0]⟩
def sConFun2_ft(fu:Nat):FnT:=⟨59,sConFun2_fa.i,sConFun2_fa.os,fun t=>sConFun2 fu t.1 t.2.1 t.2.2⟩
theorem gxZ(fu:Nat):∀t,evF Go.Proofs.Tryz.prog [sIndFun8_ft fu] fu Go.Proofs.Tryz.f59 sConFun2_fa t=(sConFun2_ft fu).spec t:=fun t=>by kernel_rfl
theorem eIZ(fu:Nat):Told Go.Proofs.Tryz.prog (sConFun2_ft fu):=afZ (aaZ (fcZ fu) adZ) mixed Go.Proofs.Tryz.func59 (by kernel_rfl) (by kernel_rfl) (gxZ fu)
def place_own(fu:Nat)(p:(Int×List (Int))):Option ((Int×List (Int))):=
 (sClo6 fu p.2).bind fun r=>
 some (p.1,r)
def place_own_fa:FnA:=⟨.two (.reg [(0,{ids:=[100]}),(1,{ids:=[101]})]) (.two (.reg [(2,{ids:=[102]})]) (.leaf)),⟨(.cons (.p qY11) .nil),[]⟩,[⟨(.cons (.agg (.cons (.p (.int .i64)) (.cons (.slf 1 0) .nil))) .nil),[(0,false,(.rows 3 (.int .i64)))]⟩],[0]⟩
def place_own_ft(fu:Nat):FnT:=⟨120,place_own_fa.i,place_own_fa.os,fun t=>place_own fu t⟩
theorem fVZ(fu:Nat):∀t,evF Go.Proofs.Tryz.prog [sClo6_ft fu] fu Go.Proofs.Tryz.f120 place_own_fa t=(place_own_ft fu).spec t:=fun t=>by kernel_rfl
theorem euZ(fu:Nat):Told Go.Proofs.Tryz.prog (place_own_ft fu):=afZ (aaZ (e2Z fu) adZ) mixed Go.Proofs.Tryz.func120 (by kernel_rfl) (by kernel_rfl) (fVZ fu)
def pMov_l0(fu:Nat)(l:List ((Int×List (Int))))(x:Int)(h:Int)(h1:Int)(h2:List ((Int×List (Int))))(h3:List (Int)):Option ((Int×(Int×(Int×(List ((Int×List (Int)))×List (Int)))))⊕((List ((Int×List (Int)))×List (Int)))):=
 bif (decide (x<((l.length:Nat):Int))) then
  (idx? x l.length).bind fun q=>
  (l)[q]?.bind fun r4=>
  (place_own fu (r4.1,r4.2)).bind fun r5=>
  (pInd fu (r5.1,r5.2) h).bind fun r6=>
  Option.bind (α:=((Int×(Int×(List ((Int×List (Int)))×(List (Int)×(Int×List (Int)))))))) (
   bif (decide (r6>=0)) then
    (idx? r6 r5.2.length).bind fun q1=>
    (r5.2)[q1]?.bind fun r7=>
    need ((Nat.ble ((h3.length+1)*8) room)&&(Nat.ble (h3.length+1) room))<|
    some (h,(h1,(h2,((h3++[x]),((IntKind.wrap .i64 (r5.1+1)),(List.set r5.2 q1 h1))))))
   else
    some (h,(h1,(h2,(h3,(r5.1,r5.2)))))) fun o1=>
  need ((Nat.ble ((o1.2.2.1.length+1)*32) room)&&(Nat.ble (o1.2.2.1.length+1) room))<|
  some (.inl ((IntKind.wrap .i64 (x+1)),(o1.1,(o1.2.1,((o1.2.2.1++[(o1.2.2.2.2.1,o1.2.2.2.2.2)]),o1.2.2.2.1)))))
 else
  some (.inr (h2,h3))
def pMov_l0_it(fu:Nat)(l:List ((Int×List (Int))))(tt:(Int×(Int×(Int×(List ((Int×List (Int)))×List (Int)))))):Option ((List ((Int×List (Int)))×List (Int))):=
 iter fu (fun tt=>pMov_l0 fu l tt.1 tt.2.1 tt.2.2.1 tt.2.2.2.1 tt.2.2.2.2) tt
def pMov(fu:Nat)(l:List ((Int×List (Int))))(from_:Int)(to_:Int):Option ((Int×(List ((Int×List (Int)))×List (Int)))):=
 (place_all fu l).bind fun r=>
 bif (!r) then
  some (2,([],[]))
 else
  Option.bind (α:=((Bool×(Int×Int)))) (
   (pMov1 fu from_).bind fun r1=>
   bif (!r1) then
    some (true,(from_,to_))
   else
    (pMov1 fu to_).bind fun r2=>
    bif (!r2) then
     some (true,(from_,to_))
    else
     bif (from_==to_) then
      some (true,(from_,to_))
     else
      (sConFun2 fu l from_ to_).bind fun r3=>
      some (r3.1,(r3.2.1,r3.2.2))) fun o=>
  bif o.1 then
   some (100,([],[]))
  else
   (pMov_l0_it fu l (0,(o.2.1,(o.2.2,([],[]))))).bind fun o2=>
   some (0,(o2.1,o2.2))
def pMov_fa:FnA:=⟨.two (.reg [(0,{ids:=[100]}),(1,{ids:=[101]})]) (.two (.leaf) (.two (.leaf) (.two (.one (.two (.reg [(1,{})]) (.two (.leaf) (.two (.join ⟨[4,5,21],⟨qL34,[(100,false,(.vars qL5)),(101,false,(.vars qL5))]⟩⟩ false [] (.reg [(2,{fn:=1}),(7,{fn:=1}),(18,{sh:=[100,101],fn:=2})])) (.two (.leaf) (.leaf)))))) (.two (.leaf) (.two (.leaf) (.two (.two (.leaf) (.one (.pre (.ownNil 11 37 102) (.pre (.ownNil 12 3 103) (.loop ⟨[4,5,11,12,44],⟨(.cons (.own 0 100 0 0) (.cons (.own 0 101 0 0) (.cons (.slf 2 102) (.cons (.slf 1 103) qL5)))),[(100,false,(.vars qL5)),(101,false,(.vars qL5)),(102,false,(.rows 37 qY11)),(103,false,(.rows 3 (.int .i64)))]⟩⟩ false [(1,⟨[11,12],⟨(.cons (.slf 2 102) (.cons (.slf 1 103) .nil)),[(102,false,(.rows 37 qY11)),(103,false,(.rows 3 (.int .i64)))]⟩⟩)] (.two (.leaf) (.two (.leaf) (.two (.one (.two (.reg [(3,{ids:=[104]})]) (.two (.reg [(1,{ids:=[105],fn:=3})]) (.two (.two (.reg [(2,{md:=[2,0],fn:=4})]) (.two (.leaf) (.join ⟨[4,5,11,12,14],⟨(.cons (.own 0 100 0 0) (.cons (.own 0 101 0 0) (.cons (.slf 2 102) (.cons (.slf 1 107) (.cons (.own 0 104 0 0) .nil))))),[(100,false,(.vars qL5)),(101,false,(.vars qL5)),(102,false,(.rows 37 qY11)),(107,false,(.rows 3 (.int .i64))),(104,false,(.vars (.cons (.p (.int .i64)) (.cons (.slf 1 105) .nil)))),(105,false,(.rows 3 (.int .i64)))]⟩⟩ false [] (.two (.two (.leaf) (.two (.leaf) (.reg [(2,{ids:=[106]}),(3,{ids:=[107]})]))) (.leaf))))) (.reg [(2,{ids:=[108]}),(3,{ids:=[109]})]))))) (.leaf))))))))) (.leaf))))))),⟨(.cons (.p (.sl qY11)) (.cons (.p (.int .i64)) qL5)),[]⟩,[⟨(.cons (.slf 2 0) (.cons (.slf 1 1) qL5)),[(0,false,(.rows 37 qY11)),(1,false,(.rows 3 (.int .i64)))]⟩],[47,13,0]⟩
def pMov_ft(fu:Nat):FnT:=⟨69,pMov_fa.i,pMov_fa.os,fun t=>pMov fu t.1 t.2.1 t.2.2⟩
theorem lgZ(fu:Nat):∀t,evF Go.Proofs.Tryz.prog [place_all_ft fu,pMov1_ft fu,sConFun2_ft fu,place_own_ft fu,pInd_ft fu] fu Go.Proofs.Tryz.f69 pMov_fa t=(pMov_ft fu).spec t:=fun t=>by kernel_rfl
theorem j6Z(fu:Nat):Told Go.Proofs.Tryz.prog (pMov_ft fu):=afZ (aaZ (elZ fu) (aaZ (i1Z fu) (aaZ (eIZ fu) (aaZ (euZ fu) (aaZ (ggZ fu) adZ))))) mixed Go.Proofs.Tryz.func69 (by kernel_rfl) (by kernel_rfl) (lgZ fu)
def sMov(fu:Nat)(s:qT18)(from_:Int)(to_:Int):Option (qT32):=
 (state_own fu (s.1,((s.2.1.1,s.2.1.2),((s.2.2.1.1,s.2.2.1.2),(s.2.2.2.1,s.2.2.2.2))))).bind fun r=>
 (pMov fu s.2.2.2.1 from_ to_).bind fun r1=>
 Option.bind (α:=((Int×(Int×qT32)))) (
  bif (r1.1==0) then
   some (0,(0,(0,(r.1,(r.2.1,(r.2.2.1,(r.2.2.2.1,(r.2.2.2.2.1,(r1.2.1,(r.2.2.2.2.2.2,r1.2.2))))))))))
  else
   some (0,(0,(0,(r.1,(r.2.1,(r.2.2.1,(r.2.2.2.1,(r.2.2.2.2.1,(r.2.2.2.2.2.1,(r.2.2.2.2.2.2,r1.2.2))))))))))) fun o=>
 some (o.2.2.2.1,(o.2.2.2.2.1,(o.2.2.2.2.2.1,(r1.1,(o.2.2.2.2.2.2.1,(o.2.2.2.2.2.2.2.1,(o.2.2.2.2.2.2.2.2.1,(o.2.2.2.2.2.2.2.2.2.1,o.2.2.2.2.2.2.2.2.2.2))))))))
def sMov_fa:FnA:=⟨.two (.reg [(0,{ids:=[100]}),(1,{ids:=[101]})]) (.two (.reg [(1,{ids:=[102,103,104,105]}),(2,{ids:=[106]})]) (.two (.reg [(4,{ids:=[107,108],fn:=1})]) (.two (.two (.leaf) (.join ⟨[6,9,11],⟨(.cons (.own 0 101 0 0) (.cons (.own 0 106 0 0) (.cons (.slf 1 108) .nil))),[(101,false,qB17),(106,false,(.vars (.cons (.p (.int .i64)) (.cons (.slf 8 102) (.cons (.p (.int .i64)) (.cons (.p (.int .i64)) (.cons (.slf 3 103) (.cons (.slf 2 107) (.cons (.slf 2 105) .nil))))))))),(102,false,(.rows 93 qY4)),(103,false,(.rows 103 qY10)),(107,false,(.rows 37 qY11)),(105,false,(.rows 145 qY22)),(108,false,(.rows 3 (.int .i64)))]⟩⟩ false [] (.leaf))) (.leaf)))),⟨(.cons (.p qY15) (.cons (.p (.int .i64)) qL5)),[]⟩,[⟨(.cons (.agg (.cons (.p (.int .i64)) (.cons (.slf 8 0) (.cons (.p (.int .i64)) (.cons (.p (.int .i64)) (.cons (.slf 3 1) (.cons (.slf 2 2) (.cons (.slf 2 3) .nil)))))))) (.cons (.slf 1 4) qL5)),[(0,false,(.rows 93 qY4)),(1,false,(.rows 103 qY10)),(2,false,(.rows 37 qY11)),(3,false,(.rows 145 qY22)),(4,false,(.rows 3 (.int .i64)))]⟩],[0,0,0]⟩
def sMov_ft(fu:Nat):FnT:=⟨22,sMov_fa.i,sMov_fa.os,fun t=>sMov fu t.1 t.2.1 t.2.2⟩
theorem lhZ(fu:Nat):∀t,evF Go.Proofs.Tryz.prog [state_own_ft fu,pMov_ft fu] fu Go.Proofs.Tryz.f22 sMov_fa t=(sMov_ft fu).spec t:=fun t=>by kernel_rfl
theorem jQZ(fu:Nat):Told Go.Proofs.Tryz.prog (sMov_ft fu):=afZ (aaZ (cmZ fu) (aaZ (j6Z fu) adZ)) mixed Go.Proofs.Tryz.func22 (by kernel_rfl) (by kernel_rfl) (lhZ fu)
def ssiz(fu:Nat)(n:Int):Option (Bool):=
 bif (decide (n>=16)) then
  some (decide (n<=65536))
 else
  some false
def ssiz_fa:FnA:=⟨.two (.leaf) (.leaf),⟨qL5,[]⟩,[⟨(.cons (.p .bool) .nil),[]⟩],[0]⟩
def ssiz_ft(fu:Nat):FnT:=⟨70,ssiz_fa.i,ssiz_fa.os,fun t=>ssiz fu t⟩
theorem lfZ(fu:Nat):∀t,evF Go.Proofs.Tryz.prog [] fu Go.Proofs.Tryz.f70 ssiz_fa t=(ssiz_ft fu).spec t:=fun t=>by kernel_rfl
theorem jNZ(fu:Nat):Told Go.Proofs.Tryz.prog (ssiz_ft fu):=afZ adZ mixed Go.Proofs.Tryz.func70 (by kernel_rfl) (by kernel_rfl) (lfZ fu)
def ibar(fu:Nat)(n:qT1):Option (Bool):=
 bif (!n.2.2.1) then
  bif (!n.2.2.2.1) then
   bif (n.2.2.2.2.1==0) then
    bif (n.2.2.2.2.2.2.1==0) then
     some ((IntKind.wrap .i64 (((n.2.2.2.2.2.1.length:Nat):Int)+((n.2.2.2.2.2.2.2.length:Nat):Int)))==0)
    else
     some false
   else
    some false
  else
   some false
 else
  some false
def ibar_fa:FnA:=⟨.two (.reg [(0,{ids:=[100]})]) (.leaf),⟨(.cons (.p qY4) .nil),[]⟩,[⟨(.cons (.p .bool) .nil),[]⟩],[0]⟩
def ibar_ft(fu:Nat):FnT:=⟨171,ibar_fa.i,ibar_fa.os,fun t=>ibar fu t⟩
theorem lnZ(fu:Nat):∀t,evF Go.Proofs.Tryz.prog [] fu Go.Proofs.Tryz.f171 ibar_fa t=(ibar_ft fu).spec t:=fun t=>by kernel_rfl
theorem iFZ(fu:Nat):Told Go.Proofs.Tryz.prog (ibar_ft fu):=afZ adZ mixed Go.Proofs.Tryz.func171 (by kernel_rfl) (by kernel_rfl) (lnZ fu)
def idir1(fu:Nat)(e:(List UInt8×Int))(h:List UInt8)(h1:Int):Option ((Bool×(List UInt8×Int))):=
 bif (decide (((e.1.length:Nat):Int)<1)) then
  some (true,(e.1,h1))
 else
  bif (decide (((e.1.length:Nat):Int)>30)) then
   some (true,(e.1,h1))
  else
   bif ((Op.bytesLess e.1 h)||(e.1==h)) then
    some (true,(e.1,h1))
   else
    bif (decide (e.2<1)) then
     some (true,(e.1,h1))
    else
     some ((decide (e.2>h1)),(e.1,h1))
def idir1_fa:FnA:=⟨.two (.reg [(0,{ids:=[100]})]) (.two (.leaf) (.two (.leaf) (.leaf))),⟨(.cons (.p (.pair .str (.int .i64))) qL25),[(0,false,(.vars (.cons (.p .str) .nil))),(1,false,(.vars qL5))]⟩,[⟨(.cons (.p .bool) .nil),[(0,false,(.vars (.cons (.p .str) .nil))),(1,false,(.vars qL5))]⟩],[0]⟩
def idir1_ft(fu:Nat):FnT:=⟨208,idir1_fa.i,idir1_fa.os,fun t=>idir1 fu t.1 t.2.1 t.2.2⟩
theorem kvZ(fu:Nat):∀t,evF Go.Proofs.Tryz.prog [] fu Go.Proofs.Tryz.f208 idir1_fa t=(idir1_ft fu).spec t:=fun t=>by kernel_rfl
theorem iAZ(fu:Nat):Told Go.Proofs.Tryz.prog (idir1_ft fu):=afZ adZ mixed Go.Proofs.Tryz.func208 (by kernel_rfl) (by kernel_rfl) (kvZ fu)
def sIndFun7_l0(fu:Nat)(s:List ((List UInt8×Int)))(x:Int)(h2:List UInt8)(h3:Int):Option ((Int×(List UInt8×Int))⊕((List UInt8×Int)⊕(Int×(List UInt8×Int)))):=
 bif (decide (x<((s.length:Nat):Int))) then
  (idx? x s.length).bind fun q=>
  (s)[q]?.bind fun r=>
  (idir1 fu r h2 h3).bind fun r1=>
  bif r1.1 then
   some (.inr (.inr (x,(r1.2.1,r1.2.2))))
  else
   some (.inl ((IntKind.wrap .i64 (x+1)),(r1.2.1,r1.2.2)))
 else
  some (.inr (.inl (h2,h3)))
def sIndFun7_l0_it(fu:Nat)(s:List ((List UInt8×Int)))(tt:(Int×(List UInt8×Int))):Option ((List UInt8×Int)⊕(Int×(List UInt8×Int))):=
 iter fu (fun tt=>sIndFun7_l0 fu s tt.1 tt.2.1 tt.2.2) tt
def sIndFun7(fu:Nat)(s:List ((List UInt8×Int)))(h:List UInt8)(h1:Int):Option ((Int×(List UInt8×Int))):=
 (sIndFun7_l0_it fu s (0,(h,h1))).bind fun o=>
 match o with
 |.inl s1=>
  some ((-1),(s1.1,s1.2))
 |.inr o1=>
  some o1
def sIndFun7_fa:FnA:=⟨.two (.leaf) (.two (.two (.leaf) (.one (.loop ⟨[1,8],⟨(.cons (.fn 208 .nil qL25) qL5),[(0,false,(.vars (.cons (.p .str) .nil))),(1,false,(.vars qL5))]⟩⟩ true [(0,⟨[1],⟨(.cons (.fn 208 .nil qL25) .nil),[(0,false,(.vars (.cons (.p .str) .nil))),(1,false,(.vars qL5))]⟩⟩)] (.two (.leaf) (.two (.leaf) (.two (.one (.two (.leaf) (.two (.reg [(5,{sh:=[0,1]})]) (.two (.leaf) (.leaf))))) (.leaf))))))) (.leaf)),⟨(.cons (.p (.sl (.pair .str (.int .i64)))) (.cons (.fn 208 .nil qL25) .nil)),[(0,false,(.vars (.cons (.p .str) .nil))),(1,false,(.vars qL5))]⟩,[⟨qL5,[(0,false,(.vars (.cons (.p .str) .nil))),(1,false,(.vars qL5))]⟩],[0]⟩
def sIndFun7_ft(fu:Nat):FnT:=⟨175,sIndFun7_fa.i,sIndFun7_fa.os,fun t=>sIndFun7 fu t.1 t.2.1 t.2.2⟩
theorem hhZ(fu:Nat):∀t,evF Go.Proofs.Tryz.prog [idir1_ft fu] fu Go.Proofs.Tryz.f175 sIndFun7_fa t=(sIndFun7_ft fu).spec t:=fun t=>by kernel_rfl
theorem eMZ(fu:Nat):Told Go.Proofs.Tryz.prog (sIndFun7_ft fu):=afZ (aaZ (iAZ fu) adZ) mixed Go.Proofs.Tryz.func175 (by kernel_rfl) (by kernel_rfl) (hhZ fu)
def sConFun6(fu:Nat)(s:List ((List UInt8×Int)))(h:List UInt8)(h1:Int):Option ((Bool×(List UInt8×Int))):=
 (sIndFun7 fu s h h1).bind fun r=>
 some ((decide (r.1>=0)),(r.2.1,r.2.2))
def sConFun6_fa:FnA:=⟨.two (.leaf) (.two (.reg [(2,{sh:=[0,1]})]) (.leaf)),⟨(.cons (.p (.sl (.pair .str (.int .i64)))) (.cons (.fn 208 .nil qL25) .nil)),[(0,false,(.vars (.cons (.p .str) .nil))),(1,false,(.vars qL5))]⟩,[⟨(.cons (.p .bool) .nil),[(0,false,(.vars (.cons (.p .str) .nil))),(1,false,(.vars qL5))]⟩],[0]⟩
def sConFun6_ft(fu:Nat):FnT:=⟨124,sConFun6_fa.i,sConFun6_fa.os,fun t=>sConFun6 fu t.1 t.2.1 t.2.2⟩
theorem hgZ(fu:Nat):∀t,evF Go.Proofs.Tryz.prog [sIndFun7_ft fu] fu Go.Proofs.Tryz.f124 sConFun6_fa t=(sConFun6_ft fu).spec t:=fun t=>by kernel_rfl
theorem eNZ(fu:Nat):Told Go.Proofs.Tryz.prog (sConFun6_ft fu):=afZ (aaZ (eMZ fu) adZ) mixed Go.Proofs.Tryz.func124 (by kernel_rfl) (by kernel_rfl) (hgZ fu)
def idir(fu:Nat)(n:qT1)(many:Int):Option (Bool):=
 bif (n.2.2.2.2.1==0) then
  bif (((n.2.2.2.2.2.1.length:Nat):Int)==0) then
   bif (decide (((n.2.2.2.2.2.2.2.length:Nat):Int)<=100)) then
    (sConFun6 fu n.2.2.2.2.2.2.2 [] many).bind fun r=>
    some (!r.1)
   else
    some false
  else
   some false
 else
  some false
def idir_fa:FnA:=⟨.two (.reg [(0,{ids:=[100]}),(1,{ids:=[101]})]) (.two (.reg [(0,{ids:=[102]})]) (.two (.leaf) (.two (.reg [(19,{sh:=[102,101]})]) (.leaf)))),⟨(.cons (.p qY4) qL5),[]⟩,[⟨(.cons (.p .bool) .nil),[]⟩],[0]⟩
def idir_ft(fu:Nat):FnT:=⟨172,idir_fa.i,idir_fa.os,fun t=>idir fu t.1 t.2⟩
theorem lSZ(fu:Nat):∀t,evF Go.Proofs.Tryz.prog [sConFun6_ft fu] fu Go.Proofs.Tryz.f172 idir_fa t=(idir_ft fu).spec t:=fun t=>by kernel_rfl
theorem jbZ(fu:Nat):Told Go.Proofs.Tryz.prog (idir_ft fu):=afZ (aaZ (eNZ fu) adZ) mixed Go.Proofs.Tryz.func172 (by kernel_rfl) (by kernel_rfl) (lSZ fu)
def ifil1(fu:Nat)(p:(Int×Int))(h:qT14)(h1:Int):Option ((Bool×(qT14×Int))):=
 bif ((p.1==0)&&(p.2==0)) then
  some (false,(h,h1))
 else
  bif ((Option.getD (mget (k:=(.int .i64)) (v:=(.int .i64)) h p.1) 0)==1) then
   some (true,((mput (k:=(.int .i64)) (v:=(.int .i64)) h p.1 1),h1))
  else
   bif (decide (p.1<1)) then
    some (true,((mput (k:=(.int .i64)) (v:=(.int .i64)) h p.1 1),h1))
   else
    bif (decide (p.1>h1)) then
     some (true,((mput (k:=(.int .i64)) (v:=(.int .i64)) h p.1 1),h1))
    else
     bif (decide (p.2<1)) then
      some (true,((mput (k:=(.int .i64)) (v:=(.int .i64)) h p.1 1),h1))
     else
      some ((decide (p.2>1099511627776)),((mput (k:=(.int .i64)) (v:=(.int .i64)) h p.1 1),h1))
def ifil1_fa:FnA:=⟨.two (.reg [(0,{ids:=[100]})]) (.two (.two (.leaf) (.two (.leaf) (.leaf))) (.two (.leaf) (.two (.leaf) (.leaf)))),⟨(.cons (.p qY22) (.cons (.own 0 0 0 0) (.cons (.own 0 2 0 0) .nil))),[(0,false,(.vars (.cons (.mp 1) .nil))),(1,false,qB23),(2,false,(.vars qL5))]⟩,[⟨(.cons (.p .bool) .nil),[(0,false,(.vars (.cons (.mp 1) .nil))),(1,false,qB23),(2,false,(.vars qL5))]⟩],[0]⟩
def ifil1_ft(fu:Nat):FnT:=⟨209,ifil1_fa.i,ifil1_fa.os,fun t=>ifil1 fu t.1 t.2.1 t.2.2⟩
theorem kcZ(fu:Nat):∀t,evF Go.Proofs.Tryz.prog [] fu Go.Proofs.Tryz.f209 ifil1_fa t=(ifil1_ft fu).spec t:=fun t=>by kernel_rfl
theorem i8Z(fu:Nat):Told Go.Proofs.Tryz.prog (ifil1_ft fu):=afZ adZ mixed Go.Proofs.Tryz.func209 (by kernel_rfl) (by kernel_rfl) (kcZ fu)
def sIndFun4_l0(fu:Nat)(s:List ((Int×Int)))(x:Int)(h2:qT14)(h3:Int):Option ((Int×(qT14×Int))⊕((qT14×Int)⊕(Int×(qT14×Int)))):=
 bif (decide (x<((s.length:Nat):Int))) then
  (idx? x s.length).bind fun q=>
  (s)[q]?.bind fun r=>
  (ifil1 fu r h2 h3).bind fun r1=>
  bif r1.1 then
   some (.inr (.inr (x,(r1.2.1,r1.2.2))))
  else
   some (.inl ((IntKind.wrap .i64 (x+1)),(r1.2.1,r1.2.2)))
 else
  some (.inr (.inl (h2,h3)))
def sIndFun4_l0_it(fu:Nat)(s:List ((Int×Int)))(tt:(Int×(qT14×Int))):Option ((qT14×Int)⊕(Int×(qT14×Int))):=
 iter fu (fun tt=>sIndFun4_l0 fu s tt.1 tt.2.1 tt.2.2) tt
def sIndFun4(fu:Nat)(s:List ((Int×Int)))(h:qT14)(h1:Int):Option ((Int×(qT14×Int))):=
 (sIndFun4_l0_it fu s (0,(h,h1))).bind fun o=>
 match o with
 |.inl s1=>
  some ((-1),(s1.1,s1.2))
 |.inr o1=>
  some o1
def sIndFun4_fa:FnA:=⟨.two (.leaf) (.two (.two (.leaf) (.one (.loop ⟨[1,8],⟨(.cons (.fn 209 .nil (.cons (.own 0 0 0 0) (.cons (.own 0 2 0 0) .nil))) qL5),[(0,false,(.vars (.cons (.mp 1) .nil))),(1,false,qB23),(2,false,(.vars qL5))]⟩⟩ true [(0,⟨[1],⟨(.cons (.fn 209 .nil (.cons (.own 0 0 0 0) (.cons (.own 0 2 0 0) .nil))) .nil),[(0,false,(.vars (.cons (.mp 1) .nil))),(1,false,qB23),(2,false,(.vars qL5))]⟩⟩)] (.two (.leaf) (.two (.leaf) (.two (.one (.two (.leaf) (.two (.reg [(5,{sh:=[0,1,2]})]) (.two (.leaf) (.leaf))))) (.leaf))))))) (.leaf)),⟨(.cons (.p (.sl qY22)) (.cons (.fn 209 .nil (.cons (.own 0 0 0 0) (.cons (.own 0 2 0 0) .nil))) .nil)),[(0,false,(.vars (.cons (.mp 1) .nil))),(1,false,qB23),(2,false,(.vars qL5))]⟩,[⟨qL5,[(0,false,(.vars (.cons (.mp 1) .nil))),(1,false,qB23),(2,false,(.vars qL5))]⟩],[0]⟩
def sIndFun4_ft(fu:Nat):FnT:=⟨164,sIndFun4_fa.i,sIndFun4_fa.os,fun t=>sIndFun4 fu t.1 t.2.1 t.2.2⟩
theorem gCZ(fu:Nat):∀t,evF Go.Proofs.Tryz.prog [ifil1_ft fu] fu Go.Proofs.Tryz.f164 sIndFun4_fa t=(sIndFun4_ft fu).spec t:=fun t=>by kernel_rfl
theorem fjZ(fu:Nat):Told Go.Proofs.Tryz.prog (sIndFun4_ft fu):=afZ (aaZ (i8Z fu) adZ) mixed Go.Proofs.Tryz.func164 (by kernel_rfl) (by kernel_rfl) (gCZ fu)
def sConFun5(fu:Nat)(s:List ((Int×Int)))(h:qT14)(h1:Int):Option ((Bool×(qT14×Int))):=
 (sIndFun4 fu s h h1).bind fun r=>
 some ((decide (r.1>=0)),(r.2.1,r.2.2))
def sConFun5_fa:FnA:=⟨.two (.leaf) (.two (.reg [(2,{sh:=[0,1,2]})]) (.leaf)),⟨(.cons (.p (.sl qY22)) (.cons (.fn 209 .nil (.cons (.own 0 0 0 0) (.cons (.own 0 2 0 0) .nil))) .nil)),[(0,false,(.vars (.cons (.mp 1) .nil))),(1,false,qB23),(2,false,(.vars qL5))]⟩,[⟨(.cons (.p .bool) .nil),[(0,false,(.vars (.cons (.mp 1) .nil))),(1,false,qB23),(2,false,(.vars qL5))]⟩],[0]⟩
def sConFun5_ft(fu:Nat):FnT:=⟨128,sConFun5_fa.i,sConFun5_fa.os,fun t=>sConFun5 fu t.1 t.2.1 t.2.2⟩
theorem gJZ(fu:Nat):∀t,evF Go.Proofs.Tryz.prog [sIndFun4_ft fu] fu Go.Proofs.Tryz.f128 sConFun5_fa t=(sConFun5_ft fu).spec t:=fun t=>by kernel_rfl
theorem fgZ(fu:Nat):Told Go.Proofs.Tryz.prog (sConFun5_ft fu):=afZ (aaZ (fjZ fu) adZ) mixed Go.Proofs.Tryz.func128 (by kernel_rfl) (by kernel_rfl) (gJZ fu)
def ifilm2(fu:Nat)(n:qT1)(stripe:Int)(h:qT14):Option ((Bool×qT14)):=
 bif (decide (n.2.2.2.2.1>=0)) then
  bif (decide (n.2.2.2.2.1<=65536)) then
   bif (((n.2.2.2.2.2.2.2.length:Nat):Int)==0) then
    bif (decide (((n.2.2.2.2.2.1.length:Nat):Int)<=4096)) then
     (sConFun5 fu n.2.2.2.2.2.1 h stripe).bind fun r=>
     some ((!r.1),r.2.1)
    else
     some (false,h)
   else
    some (false,h)
  else
   some (false,h)
 else
  some (false,h)
def ifilm2_fa:FnA:=⟨.two (.reg [(0,{ids:=[100]}),(1,{ids:=[101]}),(2,{ids:=[102]})]) (.two (.leaf) (.two (.reg [(24,{sh:=[102,0,101]})]) (.leaf))),⟨(.cons (.p qY4) (.cons (.p (.int .i64)) (.cons (.mp 0) .nil))),[(0,false,qB23)]⟩,[⟨(.cons (.p .bool) .nil),[(0,false,qB23)]⟩],[0]⟩
def ifilm2_ft(fu:Nat):FnT:=⟨173,ifilm2_fa.i,ifilm2_fa.os,fun t=>ifilm2 fu t.1 t.2.1 t.2.2⟩
theorem jqZ(fu:Nat):∀t,evF Go.Proofs.Tryz.prog [sConFun5_ft fu] fu Go.Proofs.Tryz.f173 ifilm2_fa t=(ifilm2_ft fu).spec t:=fun t=>by kernel_rfl
theorem gKZ(fu:Nat):Told Go.Proofs.Tryz.prog (ifilm2_ft fu):=afZ (aaZ (fgZ fu) adZ) mixed Go.Proofs.Tryz.func173 (by kernel_rfl) (by kernel_rfl) (jqZ fu)
def iRig_l0(fu:Nat)(o:(Bool×(List (qT1)×Int)))(t:(List (qT1)×Int))(x:Int)(h:List (qT1))(h1:Int)(h2:qT14):Option ((Int×(List (qT1)×(Int×qT14)))⊕((List (qT1)×Int)⊕Bool)):=
 bif (decide (x<((o.2.1.length:Nat):Int))) then
  (idx? x o.2.1.length).bind fun q=>
  (o.2.1)[q]?.bind fun r=>
  (ibar fu (r.1,(r.2.1,(r.2.2.1,(r.2.2.2.1,(r.2.2.2.2.1,(r.2.2.2.2.2.1,(r.2.2.2.2.2.2.1,r.2.2.2.2.2.2.2)))))))).bind fun r1=>
  Option.bind (α:=((Bool×(List (qT1)×(Int×(qT14×qT1)))))) (
   bif r.2.2.1 then
    some (r.2.2.2.1,(h,(h1,(h2,(r.1,(r.2.1,(r.2.2.1,(r.2.2.2.1,(r.2.2.2.2.1,(r.2.2.2.2.2.1,(r.2.2.2.2.2.2.1,r.2.2.2.2.2.2.2)))))))))))
   else
    some (false,(h,(h1,(h2,(r.1,(r.2.1,(r.2.2.1,(r.2.2.2.1,(r.2.2.2.2.1,(r.2.2.2.2.2.1,(r.2.2.2.2.2.2.1,r.2.2.2.2.2.2.2)))))))))))) fun o1=>
  Option.bind (α:=((Bool×(List (qT1)×(Int×(qT14×qT1)))))) (
   bif o1.1 then
    (idir fu (o1.2.2.2.2.1,(o1.2.2.2.2.2.1,(o1.2.2.2.2.2.2.1,(o1.2.2.2.2.2.2.2.1,(o1.2.2.2.2.2.2.2.2.1,(o1.2.2.2.2.2.2.2.2.2.1,(o1.2.2.2.2.2.2.2.2.2.2.1,o1.2.2.2.2.2.2.2.2.2.2.2))))))) ((t.1.length:Nat):Int)).bind fun r2=>
    some (r2,(o1.2.1,(o1.2.2.1,(o1.2.2.2.1,(o1.2.2.2.2.1,(o1.2.2.2.2.2.1,(o1.2.2.2.2.2.2.1,(o1.2.2.2.2.2.2.2.1,(o1.2.2.2.2.2.2.2.2.1,(o1.2.2.2.2.2.2.2.2.2.1,(o1.2.2.2.2.2.2.2.2.2.2.1,o1.2.2.2.2.2.2.2.2.2.2.2)))))))))))
   else
    Option.bind (α:=((Bool×(List (qT1)×(Int×(qT14×qT1)))))) (
     bif o1.2.2.2.2.2.2.1 then
      (ifilm2 fu (o1.2.2.2.2.1,(o1.2.2.2.2.2.1,(o1.2.2.2.2.2.2.1,(o1.2.2.2.2.2.2.2.1,(o1.2.2.2.2.2.2.2.2.1,(o1.2.2.2.2.2.2.2.2.2.1,(o1.2.2.2.2.2.2.2.2.2.2.1,o1.2.2.2.2.2.2.2.2.2.2.2))))))) o1.2.2.1 o1.2.2.2.1).bind fun r3=>
      some (r3.1,(o1.2.1,(o1.2.2.1,(r3.2,(o1.2.2.2.2.1,(o1.2.2.2.2.2.1,(o1.2.2.2.2.2.2.1,(o1.2.2.2.2.2.2.2.1,(o1.2.2.2.2.2.2.2.2.1,(o1.2.2.2.2.2.2.2.2.2.1,(o1.2.2.2.2.2.2.2.2.2.2.1,o1.2.2.2.2.2.2.2.2.2.2.2)))))))))))
     else
      some (r1,(o1.2.1,(o1.2.2.1,(o1.2.2.2.1,(o1.2.2.2.2.1,(o1.2.2.2.2.2.1,(o1.2.2.2.2.2.2.1,(o1.2.2.2.2.2.2.2.1,(o1.2.2.2.2.2.2.2.2.1,(o1.2.2.2.2.2.2.2.2.2.1,(o1.2.2.2.2.2.2.2.2.2.2.1,o1.2.2.2.2.2.2.2.2.2.2.2)))))))))))) fun o2=>
    some (o2.1,(o2.2.1,(o2.2.2.1,(o2.2.2.2.1,(o2.2.2.2.2.1,(o2.2.2.2.2.2.1,(o2.2.2.2.2.2.2.1,(o2.2.2.2.2.2.2.2.1,(o2.2.2.2.2.2.2.2.2.1,(o2.2.2.2.2.2.2.2.2.2.1,(o2.2.2.2.2.2.2.2.2.2.2.1,o2.2.2.2.2.2.2.2.2.2.2.2)))))))))))) fun o3=>
  Option.bind (α:=((Bool×(List (qT1)×(Int×qT14))))) (
   bif (!o3.1) then
    some (true,(o3.2.1,(o3.2.2.1,o3.2.2.2.1)))
   else
    bif (!(o3.2.2.2.2.1==(IntKind.wrap .i64 (x+1)))) then
     some (true,(o3.2.1,(o3.2.2.1,o3.2.2.2.1)))
    else
     bif (decide (o3.2.2.2.2.2.1<1)) then
      some (true,(o3.2.1,(o3.2.2.1,o3.2.2.2.1)))
     else
      bif (decide (o3.2.2.2.2.2.1>1099511627776)) then
       some (true,(o3.2.1,(o3.2.2.1,o3.2.2.2.1)))
      else
       bif o3.2.2.2.2.2.2.1 then
        bif (decide (o3.2.2.2.2.2.2.2.2.2.2.1<1)) then
         some (true,(o3.2.1,(o3.2.2.1,o3.2.2.2.1)))
        else
         some ((decide (o3.2.2.2.2.2.2.2.2.2.2.1>((t.1.length:Nat):Int))),(o3.2.1,(o3.2.2.1,o3.2.2.2.1)))
       else
        some (false,(o3.2.1,(o3.2.2.1,o3.2.2.2.1)))) fun o4=>
  bif o4.1 then
   some (.inr (.inr false))
  else
   some (.inl ((IntKind.wrap .i64 (x+1)),(o4.2.1,(o4.2.2.1,o4.2.2.2))))
 else
  some (.inr (.inl (h,h1)))
def iRig_l0_it(fu:Nat)(o:(Bool×(List (qT1)×Int)))(t:(List (qT1)×Int))(tt:(Int×(List (qT1)×(Int×qT14)))):Option ((List (qT1)×Int)⊕Bool):=
 iter fu (fun tt=>iRig_l0 fu o t tt.1 tt.2.1 tt.2.2.1 tt.2.2.2) tt
def iRig(fu:Nat)(t:(List (qT1)×Int)):Option (Bool):=
 Option.bind (α:=((Bool×(List (qT1)×Int)))) (
  bif (decide (((t.1.length:Nat):Int)<1)) then
   some (true,(t.1,t.2))
  else
   bif (decide (((t.1.length:Nat):Int)>500)) then
    some (true,(t.1,t.2))
   else
    bif (decide (t.2<0)) then
     some (true,(t.1,t.2))
    else
     some ((decide (t.2>1099511627776)),(t.1,t.2))) fun o=>
 bif o.1 then
  some false
 else
  (iRig_l0_it fu o t (0,(o.2.1,(o.2.2,([],0))))).bind fun o5=>
  match o5 with
  |.inl s=>
   (idx? 0 s.1.length).bind fun q1=>
   (s.1)[q1]?.bind fun r4=>
   bif r4.2.2.1 then
    bif r4.2.2.2.1 then
     some (r4.2.2.2.2.2.2.1==1)
    else
     some false
   else
    some false
  |.inr o6=>
   some o6
def iRig_fa:FnA:=⟨.two (.reg [(0,{ids:=[100]})]) (.two (.leaf) (.two (.two (.join ⟨[1,27],⟨qL29,[(100,false,qB26)]⟩⟩ false [] (.leaf)) (.two (.leaf) (.leaf))) (.two (.reg [(0,{ids:=[101]})]) (.two (.two (.leaf) (.one (.loop ⟨[1,4,32],⟨(.cons (.own 0 100 0 0) (.cons (.mp 101) qL5)),[(100,false,qB26),(101,false,qB23)]⟩⟩ true [(0,⟨[1],⟨(.cons (.own 0 100 0 0) .nil),[(100,false,qB26)]⟩⟩)] (.two (.leaf) (.two (.leaf) (.two (.one (.two (.reg [(3,{ids:=[102]})]) (.two (.reg [(1,{})]) (.two (.one (.two (.join ⟨[1,4,6,39],⟨(.cons (.own 0 100 0 0) (.cons (.mp 101) (.cons (.own 0 102 0 0) (.cons (.p .bool) .nil)))),[(100,false,qB26),(101,false,qB23),(102,false,qB6)]⟩⟩ false [] (.leaf)) (.join ⟨[1,4,6,7],⟨(.cons (.own 0 100 0 0) (.cons (.mp 101) (.cons (.own 0 102 0 0) (.cons (.p .bool) .nil)))),[(100,false,qB26),(101,false,qB23),(102,false,qB6)]⟩⟩ false [] (.two (.reg [(2,{fn:=1})]) (.two (.leaf) (.join ⟨[1,4,6,7],⟨(.cons (.own 0 100 0 0) (.cons (.mp 101) (.cons (.own 0 102 0 0) (.cons (.p .bool) .nil)))),[(100,false,qB26),(101,false,qB23),(102,false,qB6)]⟩⟩ false [] (.two (.reg [(4,{sh:=[101],fn:=2})]) (.leaf)))))))) (.two (.join ⟨[1,4,90],⟨(.cons (.own 0 100 0 0) (.cons (.mp 101) (.cons (.p .bool) .nil))),[(100,false,qB26),(101,false,qB23)]⟩⟩ false [] (.leaf)) (.two (.leaf) (.leaf))))))) (.leaf))))))) (.two (.reg [(4,{ids:=[103]})]) (.leaf)))))),⟨(.cons (.p (.pair (.sl qY4) (.int .i64))) .nil),[]⟩,[⟨(.cons (.p .bool) .nil),[]⟩],[0]⟩
def iRig_ft(fu:Nat):FnT:=⟨121,iRig_fa.i,iRig_fa.os,fun t=>iRig fu t⟩
theorem lMZ(fu:Nat):∀t,evF Go.Proofs.Tryz.prog [ibar_ft fu,idir_ft fu,ifilm2_ft fu] fu Go.Proofs.Tryz.f121 iRig_fa t=(iRig_ft fu).spec t:=fun t=>by kernel_rfl
theorem iQZ(fu:Nat):Told Go.Proofs.Tryz.prog (iRig_ft fu):=afZ (aaZ (iFZ fu) (aaZ (jbZ fu) (aaZ (gKZ fu) adZ))) mixed Go.Proofs.Tryz.func121 (by kernel_rfl) (by kernel_rfl) (lMZ fu)
def sConAny(fu:Nat)(s chars:List UInt8):Option Bool:=
 need (Nat.beq chars.length 2&&chars.all (fun b=>Nat.blt b.toNat 128)&&Nat.blt s.length 4294967281) (some (Go.Lib.containsAny s chars))
def sConAny_ft(fu:Nat):FnT:=⟨174,⟨(.cons (.p .str) (.cons (.p .str) .nil)),[]⟩,[⟨(.cons (.p .bool) .nil),[]⟩],fun t=>sConAny fu t.1 t.2⟩
theorem fMZ(fu:Nat):Told Go.Proofs.Tryz.prog (sConAny_ft fu):=
 dkZ Go.Proofs.Tryz.ca174 (by kernel_rfl) ⟨_,_,Go.Proofs.Tryz.func174,rfl,by kernel_rfl⟩
def tNam(fu:Nat)(s:List UInt8):Option (Bool):=
 bif (decide (((s.length:Nat):Int)>=1)) then
  bif (decide (((s.length:Nat):Int)<=30)) then
   bif (!(s==[46])) then
    bif (!(s==[46,46])) then
     (sConAny fu s [0,47]).bind fun r=>
     some (!r)
    else
     some false
   else
    some false
  else
   some false
 else
  some false
def tNam_fa:FnA:=⟨.two (.leaf) (.two (.reg [(18,{})]) (.leaf)),⟨(.cons (.p .str) .nil),[]⟩,[⟨(.cons (.p .bool) .nil),[]⟩],[0]⟩
def tNam_ft(fu:Nat):FnT:=⟨123,tNam_fa.i,tNam_fa.os,fun t=>tNam fu t⟩
theorem ldZ(fu:Nat):∀t,evF Go.Proofs.Tryz.prog [sConAny_ft fu] fu Go.Proofs.Tryz.f123 tNam_fa t=(tNam_ft fu).spec t:=fun t=>by kernel_rfl
theorem jCZ(fu:Nat):Told Go.Proofs.Tryz.prog (tNam_ft fu):=afZ (aaZ (fMZ fu) adZ) mixed Go.Proofs.Tryz.func123 (by kernel_rfl) (by kernel_rfl) (ldZ fu)
def tRig1(fu:Nat)(e:(List UInt8×Int))(h:List (Int))(h1:List (qT1))(h2:Int)(h3:Int)(h4:Int)(h5:Bool)(h6:Bool)(h7:Int)(h8:List ((Int×Int)))(h9:Int)(h10:List ((List UInt8×Int))):Option ((Bool×(List (Int)×(List (qT1)×(Int×qT1))))):=
 (idx? e.2 h.length).bind fun q=>
 (h)[q]?.bind fun r=>
 (idx? e.2 h.length).bind fun q1=>
 (h)[q1]?.bind fun r1=>
 (idx? (IntKind.wrap .i64 (e.2-1)) h1.length).bind fun q2=>
 (h1)[q2]?.bind fun r2=>
 (tNam fu e.1).bind fun r3=>
 bif (!r3) then
  some (true,((List.set h q1 (IntKind.wrap .i64 (r+1))),(h1,(h2,(h3,(h4,(h5,(h6,(h7,(h8,(h9,h10)))))))))))
 else
  bif (!r2.2.2.1) then
   some (true,((List.set h q1 (IntKind.wrap .i64 (r+1))),(h1,(h2,(h3,(h4,(h5,(h6,(h7,(h8,(h9,h10)))))))))))
  else
   some ((!(r2.2.2.2.2.2.2.1==h3)),((List.set h q1 (IntKind.wrap .i64 (r+1))),(h1,(h2,(h3,(h4,(h5,(h6,(h7,(h8,(h9,h10)))))))))))
def tRig1_fa:FnA:=⟨.two (.reg [(0,{ids:=[100]})]) (.two (.leaf) (.two (.reg [(7,{ids:=[101]})]) (.two (.reg [(2,{})]) (.leaf)))),⟨(.cons (.p (.pair .str (.int .i64))) (.cons (.own 0 0 0 0) (.cons (.own 0 2 0 0) (.cons (.own 0 3 0 0) .nil)))),[(0,false,(.vars (.cons (.slf 1 1) .nil))),(1,false,(.rows 3 (.int .i64))),(2,false,qB26),(3,false,qB6)]⟩,[⟨(.cons (.p .bool) .nil),[(0,false,(.vars (.cons (.slf 1 1) .nil))),(1,false,(.rows 3 (.int .i64))),(2,false,qB26),(3,false,qB6)]⟩],[0]⟩
def tRig1_ft(fu:Nat):FnT:=⟨122,tRig1_fa.i,tRig1_fa.os,fun t=>tRig1 fu t.1 t.2.1 t.2.2.1 t.2.2.2.1 t.2.2.2.2.1 t.2.2.2.2.2.1 t.2.2.2.2.2.2.1 t.2.2.2.2.2.2.2.1 t.2.2.2.2.2.2.2.2.1 t.2.2.2.2.2.2.2.2.2.1 t.2.2.2.2.2.2.2.2.2.2.1 t.2.2.2.2.2.2.2.2.2.2.2⟩
theorem jTZ(fu:Nat):∀t,evF Go.Proofs.Tryz.prog [tNam_ft fu] fu Go.Proofs.Tryz.f122 tRig1_fa t=(tRig1_ft fu).spec t:=fun t=>by kernel_rfl
theorem izZ(fu:Nat):Told Go.Proofs.Tryz.prog (tRig1_ft fu):=afZ (aaZ (jCZ fu) adZ) mixed Go.Proofs.Tryz.func122 (by kernel_rfl) (by kernel_rfl) (jTZ fu)
def sIndFun3_l0(fu:Nat)(s:List ((List UInt8×Int)))(x:Int)(h11:List (Int))(h12:List (qT1))(h13:Int)(h14:Int)(h15:Int)(h16:Bool)(h17:Bool)(h18:Int)(h19:List ((Int×Int)))(h20:Int)(h21:List ((List UInt8×Int))):Option ((Int×(List (Int)×(List (qT1)×(Int×qT1))))⊕((List (Int)×(List (qT1)×(Int×qT1)))⊕(Int×(List (Int)×(List (qT1)×(Int×qT1)))))):=
 bif (decide (x<((s.length:Nat):Int))) then
  (idx? x s.length).bind fun q=>
  (s)[q]?.bind fun r=>
  (tRig1 fu r h11 h12 h13 h14 h15 h16 h17 h18 h19 h20 h21).bind fun r1=>
  bif r1.1 then
   some (.inr (.inr (x,(r1.2.1,(r1.2.2.1,(r1.2.2.2.1,(r1.2.2.2.2.1,(r1.2.2.2.2.2.1,(r1.2.2.2.2.2.2.1,(r1.2.2.2.2.2.2.2.1,(r1.2.2.2.2.2.2.2.2.1,(r1.2.2.2.2.2.2.2.2.2.1,(r1.2.2.2.2.2.2.2.2.2.2.1,r1.2.2.2.2.2.2.2.2.2.2.2)))))))))))))
  else
   some (.inl ((IntKind.wrap .i64 (x+1)),(r1.2.1,(r1.2.2.1,(r1.2.2.2.1,(r1.2.2.2.2.1,(r1.2.2.2.2.2.1,(r1.2.2.2.2.2.2.1,(r1.2.2.2.2.2.2.2.1,(r1.2.2.2.2.2.2.2.2.1,(r1.2.2.2.2.2.2.2.2.2.1,(r1.2.2.2.2.2.2.2.2.2.2.1,r1.2.2.2.2.2.2.2.2.2.2.2))))))))))))
 else
  some (.inr (.inl (h11,(h12,(h13,(h14,(h15,(h16,(h17,(h18,(h19,(h20,h21))))))))))))
def sIndFun3_l0_it(fu:Nat)(s:List ((List UInt8×Int)))(tt:(Int×(List (Int)×(List (qT1)×(Int×qT1))))):Option ((List (Int)×(List (qT1)×(Int×qT1)))⊕(Int×(List (Int)×(List (qT1)×(Int×qT1))))):=
 iter fu (fun tt=>sIndFun3_l0 fu s tt.1 tt.2.1 tt.2.2.1 tt.2.2.2.1 tt.2.2.2.2.1 tt.2.2.2.2.2.1 tt.2.2.2.2.2.2.1 tt.2.2.2.2.2.2.2.1 tt.2.2.2.2.2.2.2.2.1 tt.2.2.2.2.2.2.2.2.2.1 tt.2.2.2.2.2.2.2.2.2.2.1 tt.2.2.2.2.2.2.2.2.2.2.2) tt
def sIndFun3(fu:Nat)(s:List ((List UInt8×Int)))(h:List (Int))(h1:List (qT1))(h2:Int)(h3:Int)(h4:Int)(h5:Bool)(h6:Bool)(h7:Int)(h8:List ((Int×Int)))(h9:Int)(h10:List ((List UInt8×Int))):Option ((Int×(List (Int)×(List (qT1)×(Int×qT1))))):=
 (sIndFun3_l0_it fu s (0,(h,(h1,(h2,(h3,(h4,(h5,(h6,(h7,(h8,(h9,h10)))))))))))).bind fun o=>
 match o with
 |.inl s1=>
  some ((-1),(s1.1,(s1.2.1,(s1.2.2.1,(s1.2.2.2.1,(s1.2.2.2.2.1,(s1.2.2.2.2.2.1,(s1.2.2.2.2.2.2.1,(s1.2.2.2.2.2.2.2.1,(s1.2.2.2.2.2.2.2.2.1,(s1.2.2.2.2.2.2.2.2.2.1,s1.2.2.2.2.2.2.2.2.2.2)))))))))))
 |.inr o1=>
  some o1
def sIndFun3_fa:FnA:=⟨.two (.leaf) (.two (.two (.leaf) (.one (.loop ⟨[1,8],⟨(.cons (.fn 122 .nil (.cons (.own 0 0 0 0) (.cons (.own 0 2 0 0) (.cons (.own 0 3 0 0) .nil)))) qL5),[(0,false,(.vars (.cons (.slf 1 1) .nil))),(1,false,(.rows 3 (.int .i64))),(2,false,qB26),(3,false,qB6)]⟩⟩ true [(0,⟨[1],⟨(.cons (.fn 122 .nil (.cons (.own 0 0 0 0) (.cons (.own 0 2 0 0) (.cons (.own 0 3 0 0) .nil)))) .nil),[(0,false,(.vars (.cons (.slf 1 1) .nil))),(1,false,(.rows 3 (.int .i64))),(2,false,qB26),(3,false,qB6)]⟩⟩)] (.two (.leaf) (.two (.leaf) (.two (.one (.two (.leaf) (.two (.reg [(5,{sh:=[0,1,2,3]})]) (.two (.leaf) (.leaf))))) (.leaf))))))) (.leaf)),⟨(.cons (.p (.sl (.pair .str (.int .i64)))) (.cons (.fn 122 .nil (.cons (.own 0 0 0 0) (.cons (.own 0 2 0 0) (.cons (.own 0 3 0 0) .nil)))) .nil)),[(0,false,(.vars (.cons (.slf 1 1) .nil))),(1,false,(.rows 3 (.int .i64))),(2,false,qB26),(3,false,qB6)]⟩,[⟨qL5,[(0,false,(.vars (.cons (.slf 1 1) .nil))),(1,false,(.rows 3 (.int .i64))),(2,false,qB26),(3,false,qB6)]⟩],[0]⟩
def sIndFun3_ft(fu:Nat):FnT:=⟨175,sIndFun3_fa.i,sIndFun3_fa.os,fun t=>sIndFun3 fu t.1 t.2.1 t.2.2.1 t.2.2.2.1 t.2.2.2.2.1 t.2.2.2.2.2.1 t.2.2.2.2.2.2.1 t.2.2.2.2.2.2.2.1 t.2.2.2.2.2.2.2.2.1 t.2.2.2.2.2.2.2.2.2.1 t.2.2.2.2.2.2.2.2.2.2.1 t.2.2.2.2.2.2.2.2.2.2.2⟩
theorem gBZ(fu:Nat):∀t,evF Go.Proofs.Tryz.prog [tRig1_ft fu] fu Go.Proofs.Tryz.f175 sIndFun3_fa t=(sIndFun3_ft fu).spec t:=fun t=>by kernel_rfl
theorem flZ(fu:Nat):Told Go.Proofs.Tryz.prog (sIndFun3_ft fu):=afZ (aaZ (izZ fu) adZ) mixed Go.Proofs.Tryz.func175 (by kernel_rfl) (by kernel_rfl) (gBZ fu)
def sConFun3(fu:Nat)(s:List ((List UInt8×Int)))(h:List (Int))(h1:List (qT1))(h2:Int)(h3:Int)(h4:Int)(h5:Bool)(h6:Bool)(h7:Int)(h8:List ((Int×Int)))(h9:Int)(h10:List ((List UInt8×Int))):Option ((Bool×(List (Int)×(List (qT1)×(Int×qT1))))):=
 (sIndFun3 fu s h h1 h2 h3 h4 h5 h6 h7 h8 h9 h10).bind fun r=>
 some ((decide (r.1>=0)),(r.2.1,(r.2.2.1,(r.2.2.2.1,(r.2.2.2.2.1,(r.2.2.2.2.2.1,(r.2.2.2.2.2.2.1,(r.2.2.2.2.2.2.2.1,(r.2.2.2.2.2.2.2.2.1,(r.2.2.2.2.2.2.2.2.2.1,(r.2.2.2.2.2.2.2.2.2.2.1,r.2.2.2.2.2.2.2.2.2.2.2)))))))))))
def sConFun3_fa:FnA:=⟨.two (.leaf) (.two (.reg [(2,{sh:=[0,1,2,3]})]) (.leaf)),⟨(.cons (.p (.sl (.pair .str (.int .i64)))) (.cons (.fn 122 .nil (.cons (.own 0 0 0 0) (.cons (.own 0 2 0 0) (.cons (.own 0 3 0 0) .nil)))) .nil)),[(0,false,(.vars (.cons (.slf 1 1) .nil))),(1,false,(.rows 3 (.int .i64))),(2,false,qB26),(3,false,qB6)]⟩,[⟨(.cons (.p .bool) .nil),[(0,false,(.vars (.cons (.slf 1 1) .nil))),(1,false,(.rows 3 (.int .i64))),(2,false,qB26),(3,false,qB6)]⟩],[0]⟩
def sConFun3_ft(fu:Nat):FnT:=⟨124,sConFun3_fa.i,sConFun3_fa.os,fun t=>sConFun3 fu t.1 t.2.1 t.2.2.1 t.2.2.2.1 t.2.2.2.2.1 t.2.2.2.2.2.1 t.2.2.2.2.2.2.1 t.2.2.2.2.2.2.2.1 t.2.2.2.2.2.2.2.2.1 t.2.2.2.2.2.2.2.2.2.1 t.2.2.2.2.2.2.2.2.2.2.1 t.2.2.2.2.2.2.2.2.2.2.2⟩
theorem gPZ(fu:Nat):∀t,evF Go.Proofs.Tryz.prog [sIndFun3_ft fu] fu Go.Proofs.Tryz.f124 sConFun3_fa t=(sConFun3_ft fu).spec t:=fun t=>by kernel_rfl
theorem ftZ(fu:Nat):Told Go.Proofs.Tryz.prog (sConFun3_ft fu):=afZ (aaZ (flZ fu) adZ) mixed Go.Proofs.Tryz.func124 (by kernel_rfl) (by kernel_rfl) (gPZ fu)
def trea_l0(fu:Nat)(t:(List (qT1)×Int))(id1:Int)(x:Int)(h:List (qT1))(h1:Int):Option ((Int×(Int×(List (qT1)×Int)))⊕(Int⊕Bool)):=
 bif (decide (x<((t.1.length:Nat):Int))) then
  bif (id1==1) then
   some (.inr (.inr true))
  else
   (idx? (IntKind.wrap .i64 (id1-1)) h.length).bind fun q=>
   (h)[q]?.bind fun r=>
   bif (!r.2.2.1) then
    some (.inr (.inr false))
   else
    (idx? (IntKind.wrap .i64 (id1-1)) h.length).bind fun q1=>
    (h)[q1]?.bind fun r1=>
    some (.inl (r1.2.2.2.2.2.2.1,((IntKind.wrap .i64 (x+1)),(h,h1))))
 else
  some (.inr (.inl id1))
def trea_l0_it(fu:Nat)(t:(List (qT1)×Int))(tt:(Int×(Int×(List (qT1)×Int)))):Option (Int⊕Bool):=
 iter fu (fun tt=>trea_l0 fu t tt.1 tt.2.1 tt.2.2.1 tt.2.2.2) tt
def trea(fu:Nat)(t:(List (qT1)×Int))(id:Int):Option (Bool):=
 (trea_l0_it fu t (id,(0,(t.1,t.2)))).bind fun o=>
 match o with
 |.inl s=>
  some (s==1)
 |.inr o1=>
  some o1
def trea_fa:FnA:=⟨.two (.reg [(0,{ids:=[100]})]) (.two (.two (.leaf) (.one (.loop ⟨[1,2,8],⟨(.cons (.p (.int .i64)) (.cons (.own 0 100 0 0) qL5)),[(100,false,qB26)]⟩⟩ true [(0,⟨[1],⟨qL5,[]⟩⟩)] (.two (.leaf) (.two (.leaf) (.two (.one (.two (.two (.leaf) (.two (.leaf) (.leaf))) (.two (.two (.leaf) (.two (.leaf) (.leaf))) (.leaf)))) (.leaf))))))) (.leaf)),⟨(.cons (.p (.pair (.sl qY4) (.int .i64))) qL5),[]⟩,[⟨(.cons (.p .bool) .nil),[]⟩],[0]⟩
def trea_ft(fu:Nat):FnT:=⟨125,trea_fa.i,trea_fa.os,fun t=>trea fu t.1 t.2⟩
theorem lLZ(fu:Nat):∀t,evF Go.Proofs.Tryz.prog [] fu Go.Proofs.Tryz.f125 trea_fa t=(trea_ft fu).spec t:=fun t=>by kernel_rfl
theorem iYZ(fu:Nat):Told Go.Proofs.Tryz.prog (trea_ft fu):=afZ adZ mixed Go.Proofs.Tryz.func125 (by kernel_rfl) (by kernel_rfl) (lLZ fu)
def tRig_l0(fu:Nat)(t:(List (qT1)×Int))(x:Int)(h:List (qT1))(h1:Int)(h2:List (Int)):Option ((Int×(List (qT1)×(Int×List (Int))))⊕((List (qT1)×(Int×List (Int)))⊕Bool)):=
 bif (decide (x<((t.1.length:Nat):Int))) then
  (idx? x t.1.length).bind fun q1=>
  (t.1)[q1]?.bind fun r1=>
  Option.bind (α:=((Bool×(List (qT1)×(Int×List (Int)))))) (
   (sConFun3 fu r1.2.2.2.2.2.2.2 h2 h h1 r1.1 r1.2.1 r1.2.2.1 r1.2.2.2.1 r1.2.2.2.2.1 r1.2.2.2.2.2.1 r1.2.2.2.2.2.2.1 r1.2.2.2.2.2.2.2).bind fun r2=>
   bif r2.1 then
    some (true,(r2.2.2.1,(r2.2.2.2.1,r2.2.1)))
   else
    bif r2.2.2.2.2.2.2.1 then
     (trea fu (r2.2.2.1,r2.2.2.2.1) r2.2.2.2.2.1).bind fun r3=>
     some ((!r3),(r2.2.2.1,(r2.2.2.2.1,r2.2.1)))
    else
     some (false,(r2.2.2.1,(r2.2.2.2.1,r2.2.1)))) fun o=>
  bif o.1 then
   some (.inr (.inr false))
  else
   some (.inl ((IntKind.wrap .i64 (x+1)),(o.2.1,(o.2.2.1,o.2.2.2))))
 else
  some (.inr (.inl (h,(h1,h2))))
def tRig_l0_it(fu:Nat)(t:(List (qT1)×Int))(tt:(Int×(List (qT1)×(Int×List (Int))))):Option ((List (qT1)×(Int×List (Int)))⊕Bool):=
 iter fu (fun tt=>tRig_l0 fu t tt.1 tt.2.1 tt.2.2.1 tt.2.2.2) tt
def tRig_l1(fu:Nat)(s:(List (qT1)×(Int×List (Int))))(x1:Int)(h3:List (Int)):Option ((Int×List (Int))⊕(Unit⊕Bool)):=
 bif (decide (x1<((s.1.length:Nat):Int))) then
  (idx? x1 s.1.length).bind fun q2=>
  (s.1)[q2]?.bind fun r4=>
  Option.bind (α:=((Bool×(List (Int)×qT1)))) (
   bif (r4.1==1) then
    some (true,(h3,(r4.1,(r4.2.1,(r4.2.2.1,(r4.2.2.2.1,(r4.2.2.2.2.1,(r4.2.2.2.2.2.1,(r4.2.2.2.2.2.2.1,r4.2.2.2.2.2.2.2)))))))))
   else
    some ((!r4.2.2.1),(h3,(r4.1,(r4.2.1,(r4.2.2.1,(r4.2.2.2.1,(r4.2.2.2.2.1,(r4.2.2.2.2.2.1,(r4.2.2.2.2.2.2.1,r4.2.2.2.2.2.2.2)))))))))) fun o3=>
  Option.bind (α:=((Int×(List (Int)×qT1)))) (
   bif o3.1 then
    some (0,(o3.2.1,(o3.2.2.1,(o3.2.2.2.1,(o3.2.2.2.2.1,(o3.2.2.2.2.2.1,(o3.2.2.2.2.2.2.1,(o3.2.2.2.2.2.2.2.1,(o3.2.2.2.2.2.2.2.2.1,o3.2.2.2.2.2.2.2.2.2)))))))))
   else
    some (1,(o3.2.1,(o3.2.2.1,(o3.2.2.2.1,(o3.2.2.2.2.1,(o3.2.2.2.2.2.1,(o3.2.2.2.2.2.2.1,(o3.2.2.2.2.2.2.2.1,(o3.2.2.2.2.2.2.2.2.1,o3.2.2.2.2.2.2.2.2.2)))))))))) fun o4=>
  (idx? o4.2.2.1 o4.2.1.length).bind fun q3=>
  (o4.2.1)[q3]?.bind fun r5=>
  bif (!(r5==o4.1)) then
   some (.inr (.inr false))
  else
   some (.inl ((IntKind.wrap .i64 (x1+1)),o4.2.1))
 else
  some (.inr (.inl ()))
def tRig_l1_it(fu:Nat)(s:(List (qT1)×(Int×List (Int))))(tt:(Int×List (Int))):Option (Unit⊕Bool):=
 iter fu (fun tt=>tRig_l1 fu s tt.1 tt.2) tt
def tRig(fu:Nat)(t:(List (qT1)×Int)):Option (Bool):=
 (iRig fu (t.1,t.2)).bind fun r=>
 bif (!r) then
  some false
 else
  (upto? (IntKind.wrap .i64 (((t.1.length:Nat):Int)+1)) room).bind fun m=>
  (upto? (IntKind.wrap .i64 (((t.1.length:Nat):Int)+1)) m).bind fun q=>
  need (Nat.ble (m*8) room)<|
  (tRig_l0_it fu t (0,(t.1,(t.2,(List.replicate (α:=Int) q 0))))).bind fun o1=>
  match o1 with
  |.inl s=>
   (tRig_l1_it fu s (0,s.2.2)).bind fun o5=>
   match o5 with
   |.inl s1=>
    some true
   |.inr o6=>
    some o6
  |.inr o2=>
   some o2
def tRig_fa:FnA:=⟨.two (.reg [(0,{ids:=[100]})]) (.two (.two (.reg [(1,{})]) (.two (.leaf) (.leaf))) (.two (.reg [(4,{ids:=[101]}),(5,{ids:=[102]})]) (.two (.two (.leaf) (.one (.loop ⟨[1,3,21],⟨(.cons (.own 0 100 0 0) (.cons (.own 0 102 0 0) qL5)),[(100,false,qB26),(102,false,(.vars (.cons (.slf 1 101) .nil))),(101,false,(.rows 3 (.int .i64)))]⟩⟩ true [(0,⟨[1,3],⟨(.cons (.own 0 100 0 0) (.cons (.own 0 102 0 0) .nil)),[(100,false,qB26),(102,false,(.vars (.cons (.slf 1 101) .nil))),(101,false,(.rows 3 (.int .i64)))]⟩⟩)] (.two (.leaf) (.two (.leaf) (.two (.one (.two (.reg [(2,{ids:=[103]})]) (.two (.leaf) (.two (.join ⟨[1,3,40],⟨(.cons (.own 0 100 0 0) (.cons (.own 0 102 0 0) (.cons (.p .bool) .nil))),[(100,false,qB26),(102,false,(.vars (.cons (.slf 1 101) .nil))),(101,false,(.rows 3 (.int .i64)))]⟩⟩ false [] (.reg [(3,{sh:=[102,101,100,103],fn:=1}),(11,{fn:=2})])) (.two (.leaf) (.leaf)))))) (.leaf))))))) (.two (.two (.leaf) (.one (.loop ⟨[3,45],⟨(.cons (.own 0 102 0 0) qL5),[(102,false,(.vars (.cons (.slf 1 101) .nil))),(101,false,(.rows 3 (.int .i64)))]⟩⟩ true [(2,⟨[],⟨.nil,[]⟩⟩)] (.two (.leaf) (.two (.leaf) (.two (.one (.two (.reg [(2,{ids:=[104]})]) (.two (.leaf) (.two (.two (.join ⟨[3,8,56],⟨(.cons (.own 0 102 0 0) (.cons (.own 0 104 0 0) (.cons (.p .bool) .nil))),[(102,false,(.vars (.cons (.slf 1 101) .nil))),(101,false,(.rows 3 (.int .i64))),(104,false,qB6)]⟩⟩ false [] (.leaf)) (.join ⟨[3,8,9],⟨(.cons (.own 0 102 0 0) (.cons (.own 0 104 0 0) qL5)),[(102,false,(.vars (.cons (.slf 1 101) .nil))),(101,false,(.rows 3 (.int .i64))),(104,false,qB6)]⟩⟩ false [] (.leaf))) (.two (.leaf) (.two (.leaf) (.leaf))))))) (.leaf))))))) (.leaf))))),⟨(.cons (.p (.pair (.sl qY4) (.int .i64))) .nil),[]⟩,[⟨(.cons (.p .bool) .nil),[]⟩],[0]⟩
def tRig_ft(fu:Nat):FnT:=⟨71,tRig_fa.i,tRig_fa.os,fun t=>tRig fu t⟩
theorem mbZ(fu:Nat):∀t,evF Go.Proofs.Tryz.prog [iRig_ft fu,sConFun3_ft fu,trea_ft fu] fu Go.Proofs.Tryz.f71 tRig_fa t=(tRig_ft fu).spec t:=fun t=>by kernel_rfl
theorem jmZ(fu:Nat):Told Go.Proofs.Tryz.prog (tRig_ft fu):=afZ (aaZ (iQZ fu) (aaZ (ftZ fu) (aaZ (iYZ fu) adZ))) mixed Go.Proofs.Tryz.func71 (by kernel_rfl) (by kernel_rfl) (mbZ fu)
def cwho(fu:Nat)(client:Int)(xid:Int):Option (Bool):=
 bif (decide (client>=0)) then
  bif (decide (client<16)) then
   bif (decide (xid>=1)) then
    some (decide (xid<=1099511627776))
   else
    some false
  else
   some false
 else
  some false
def cwho_fa:FnA:=⟨.two (.leaf) (.leaf),⟨(.cons (.p (.int .i64)) qL5),[]⟩,[⟨(.cons (.p .bool) .nil),[]⟩],[0]⟩
def cwho_ft(fu:Nat):FnT:=⟨131,cwho_fa.i,cwho_fa.os,fun t=>cwho fu t.1 t.2⟩
theorem kYZ(fu:Nat):∀t,evF Go.Proofs.Tryz.prog [] fu Go.Proofs.Tryz.f131 cwho_fa t=(cwho_ft fu).spec t:=fun t=>by kernel_rfl
theorem iEZ(fu:Nat):Told Go.Proofs.Tryz.prog (cwho_ft fu):=afZ adZ mixed Go.Proofs.Tryz.func131 (by kernel_rfl) (by kernel_rfl) (kYZ fu)
def hRig(fu:Nat)(h:(Int×Int)):Option (Bool):=
 bif (decide (h.1>=1)) then
  bif (decide (h.1<=500)) then
   bif (decide (h.2>=1)) then
    some (decide (h.2<=1099511627776))
   else
    some false
  else
   some false
 else
  some false
def hRig_fa:FnA:=⟨.two (.reg [(0,{ids:=[100]})]) (.leaf),⟨(.cons (.p qY22) .nil),[]⟩,[⟨(.cons (.p .bool) .nil),[]⟩],[0]⟩
def hRig_ft(fu:Nat):FnT:=⟨133,hRig_fa.i,hRig_fa.os,fun t=>hRig fu t⟩
theorem lsZ(fu:Nat):∀t,evF Go.Proofs.Tryz.prog [] fu Go.Proofs.Tryz.f133 hRig_fa t=(hRig_ft fu).spec t:=fun t=>by kernel_rfl
theorem j5Z(fu:Nat):Told Go.Proofs.Tryz.prog (hRig_ft fu):=afZ adZ mixed Go.Proofs.Tryz.func133 (by kernel_rfl) (by kernel_rfl) (lsZ fu)
def cRigRep_l0(fu:Nat)(o2:(Bool×qT16))(x:Int)(h:Int)(h1:Int)(h2:Int)(h3:Int)(h4:Int)(h5:Bool)(h6:Int)(h7:List (UInt8))(h8:List ((List UInt8×Int)))(h9:Bool)(h10:Int):Option ((Int×qT16)⊕(qT16⊕Bool)):=
 bif (decide (x<((o2.2.2.2.2.2.2.2.2.2.1.length:Nat):Int))) then
  (idx? x o2.2.2.2.2.2.2.2.2.2.1.length).bind fun q=>
  (o2.2.2.2.2.2.2.2.2.2.1)[q]?.bind fun r3=>
  Option.bind (α:=((Bool×qT16))) (
   bif (decide (((r3.1.length:Nat):Int)<1)) then
    some (true,(h,(h1,(h2,(h3,(h4,(h5,(h6,(h7,(h8,(h9,h10)))))))))))
   else
    bif (decide (((r3.1.length:Nat):Int)>100)) then
     some (true,(h,(h1,(h2,(h3,(h4,(h5,(h6,(h7,(h8,(h9,h10)))))))))))
    else
     bif (decide (r3.2<1)) then
      some (true,(h,(h1,(h2,(h3,(h4,(h5,(h6,(h7,(h8,(h9,h10)))))))))))
     else
      some ((decide (r3.2>500)),(h,(h1,(h2,(h3,(h4,(h5,(h6,(h7,(h8,(h9,h10)))))))))))) fun o3=>
  bif o3.1 then
   some (.inr (.inr false))
  else
   some (.inl ((IntKind.wrap .i64 (x+1)),(o3.2.1,(o3.2.2.1,(o3.2.2.2.1,(o3.2.2.2.2.1,(o3.2.2.2.2.2.1,(o3.2.2.2.2.2.2.1,(o3.2.2.2.2.2.2.2.1,(o3.2.2.2.2.2.2.2.2.1,(o3.2.2.2.2.2.2.2.2.2.1,(o3.2.2.2.2.2.2.2.2.2.2.1,o3.2.2.2.2.2.2.2.2.2.2.2))))))))))))
 else
  some (.inr (.inl (h,(h1,(h2,(h3,(h4,(h5,(h6,(h7,(h8,(h9,h10))))))))))))
def cRigRep_l0_it(fu:Nat)(o2:(Bool×qT16))(tt:(Int×qT16)):Option (qT16⊕Bool):=
 iter fu (fun tt=>cRigRep_l0 fu o2 tt.1 tt.2.1 tt.2.2.1 tt.2.2.2.1 tt.2.2.2.2.1 tt.2.2.2.2.2.1 tt.2.2.2.2.2.2.1 tt.2.2.2.2.2.2.2.1 tt.2.2.2.2.2.2.2.2.1 tt.2.2.2.2.2.2.2.2.2.1 tt.2.2.2.2.2.2.2.2.2.2.1 tt.2.2.2.2.2.2.2.2.2.2.2) tt
def cRigRep(fu:Nat)(r:qT8):Option (Bool):=
 Option.bind (α:=((Bool×qT16))) (
  (cwho fu r.1 r.2.1).bind fun r1=>
  bif (!r1) then
   some (true,(r.1,(r.2.1,(r.2.2.1,(r.2.2.2.1.1,(r.2.2.2.1.2,(r.2.2.2.2.1,(r.2.2.2.2.2.1,(r.2.2.2.2.2.2.1,(r.2.2.2.2.2.2.2.1,(r.2.2.2.2.2.2.2.2.1,r.2.2.2.2.2.2.2.2.2)))))))))))
  else
   bif (decide (r.2.2.1<0)) then
    some (true,(r.1,(r.2.1,(r.2.2.1,(r.2.2.2.1.1,(r.2.2.2.1.2,(r.2.2.2.2.1,(r.2.2.2.2.2.1,(r.2.2.2.2.2.2.1,(r.2.2.2.2.2.2.2.1,(r.2.2.2.2.2.2.2.2.1,r.2.2.2.2.2.2.2.2.2)))))))))))
   else
    some ((decide (r.2.2.1>1000)),(r.1,(r.2.1,(r.2.2.1,(r.2.2.2.1.1,(r.2.2.2.1.2,(r.2.2.2.2.1,(r.2.2.2.2.2.1,(r.2.2.2.2.2.2.1,(r.2.2.2.2.2.2.2.1,(r.2.2.2.2.2.2.2.2.1,r.2.2.2.2.2.2.2.2.2)))))))))))) fun o=>
 bif o.1 then
  some false
 else
  bif (!(o.2.2.2.1==0)) then
   Option.bind (α:=(Bool)) (
    bif ((r.2.2.2.1.1==0)&&(r.2.2.2.1.2==0)) then
     bif (!o.2.2.2.2.2.2.1) then
      bif (!o.2.2.2.2.2.2.2.2.2.2.1) then
       bif (o.2.2.2.2.2.2.2.1==0) then
        bif (o.2.2.2.2.2.2.2.2.2.2.2==0) then
         some ((IntKind.wrap .i64 (((o.2.2.2.2.2.2.2.2.1.length:Nat):Int)+((o.2.2.2.2.2.2.2.2.2.1.length:Nat):Int)))==0)
        else
         some false
       else
        some false
      else
       some false
     else
      some false
    else
     some false) fun o1=>
   some o1
  else
   Option.bind (α:=((Bool×qT16))) (
    bif (!((r.2.2.2.1.1==0)&&(r.2.2.2.1.2==0))) then
     (hRig fu (o.2.2.2.2.1,o.2.2.2.2.2.1)).bind fun r2=>
     bif (!r2) then
      some (true,(o.2.1,(o.2.2.1,(o.2.2.2.1,(o.2.2.2.2.1,(o.2.2.2.2.2.1,(o.2.2.2.2.2.2.1,(o.2.2.2.2.2.2.2.1,(o.2.2.2.2.2.2.2.2.1,(o.2.2.2.2.2.2.2.2.2.1,(o.2.2.2.2.2.2.2.2.2.2.1,o.2.2.2.2.2.2.2.2.2.2.2)))))))))))
     else
      bif (decide (o.2.2.2.2.2.2.2.1<0)) then
       some (true,(o.2.1,(o.2.2.1,(o.2.2.2.1,(o.2.2.2.2.1,(o.2.2.2.2.2.1,(o.2.2.2.2.2.2.1,(o.2.2.2.2.2.2.2.1,(o.2.2.2.2.2.2.2.2.1,(o.2.2.2.2.2.2.2.2.2.1,(o.2.2.2.2.2.2.2.2.2.2.1,o.2.2.2.2.2.2.2.2.2.2.2)))))))))))
      else
       bif (decide (o.2.2.2.2.2.2.2.1>65536)) then
        some (true,(o.2.1,(o.2.2.1,(o.2.2.2.1,(o.2.2.2.2.1,(o.2.2.2.2.2.1,(o.2.2.2.2.2.2.1,(o.2.2.2.2.2.2.2.1,(o.2.2.2.2.2.2.2.2.1,(o.2.2.2.2.2.2.2.2.2.1,(o.2.2.2.2.2.2.2.2.2.2.1,o.2.2.2.2.2.2.2.2.2.2.2)))))))))))
       else
        bif (decide (o.2.2.2.2.2.2.2.2.2.2.2<0)) then
         some (true,(o.2.1,(o.2.2.1,(o.2.2.2.1,(o.2.2.2.2.1,(o.2.2.2.2.2.1,(o.2.2.2.2.2.2.1,(o.2.2.2.2.2.2.2.1,(o.2.2.2.2.2.2.2.2.1,(o.2.2.2.2.2.2.2.2.2.1,(o.2.2.2.2.2.2.2.2.2.2.1,o.2.2.2.2.2.2.2.2.2.2.2)))))))))))
        else
         some ((decide (o.2.2.2.2.2.2.2.2.2.2.2>1099511627776)),(o.2.1,(o.2.2.1,(o.2.2.2.1,(o.2.2.2.2.1,(o.2.2.2.2.2.1,(o.2.2.2.2.2.2.1,(o.2.2.2.2.2.2.2.1,(o.2.2.2.2.2.2.2.2.1,(o.2.2.2.2.2.2.2.2.2.1,(o.2.2.2.2.2.2.2.2.2.2.1,o.2.2.2.2.2.2.2.2.2.2.2)))))))))))
    else
     bif (decide (o.2.2.2.2.2.2.2.1<0)) then
      some (true,(o.2.1,(o.2.2.1,(o.2.2.2.1,(o.2.2.2.2.1,(o.2.2.2.2.2.1,(o.2.2.2.2.2.2.1,(o.2.2.2.2.2.2.2.1,(o.2.2.2.2.2.2.2.2.1,(o.2.2.2.2.2.2.2.2.2.1,(o.2.2.2.2.2.2.2.2.2.2.1,o.2.2.2.2.2.2.2.2.2.2.2)))))))))))
     else
      bif (decide (o.2.2.2.2.2.2.2.1>65536)) then
       some (true,(o.2.1,(o.2.2.1,(o.2.2.2.1,(o.2.2.2.2.1,(o.2.2.2.2.2.1,(o.2.2.2.2.2.2.1,(o.2.2.2.2.2.2.2.1,(o.2.2.2.2.2.2.2.2.1,(o.2.2.2.2.2.2.2.2.2.1,(o.2.2.2.2.2.2.2.2.2.2.1,o.2.2.2.2.2.2.2.2.2.2.2)))))))))))
      else
       bif (decide (o.2.2.2.2.2.2.2.2.2.2.2<0)) then
        some (true,(o.2.1,(o.2.2.1,(o.2.2.2.1,(o.2.2.2.2.1,(o.2.2.2.2.2.1,(o.2.2.2.2.2.2.1,(o.2.2.2.2.2.2.2.1,(o.2.2.2.2.2.2.2.2.1,(o.2.2.2.2.2.2.2.2.2.1,(o.2.2.2.2.2.2.2.2.2.2.1,o.2.2.2.2.2.2.2.2.2.2.2)))))))))))
       else
        some ((decide (o.2.2.2.2.2.2.2.2.2.2.2>1099511627776)),(o.2.1,(o.2.2.1,(o.2.2.2.1,(o.2.2.2.2.1,(o.2.2.2.2.2.1,(o.2.2.2.2.2.2.1,(o.2.2.2.2.2.2.2.1,(o.2.2.2.2.2.2.2.2.1,(o.2.2.2.2.2.2.2.2.2.1,(o.2.2.2.2.2.2.2.2.2.2.1,o.2.2.2.2.2.2.2.2.2.2.2)))))))))))) fun o2=>
   bif o2.1 then
    some false
   else
    (cRigRep_l0_it fu o2 (0,(o2.2.1,(o2.2.2.1,(o2.2.2.2.1,(o2.2.2.2.2.1,(o2.2.2.2.2.2.1,(o2.2.2.2.2.2.2.1,(o2.2.2.2.2.2.2.2.1,(o2.2.2.2.2.2.2.2.2.1,(o2.2.2.2.2.2.2.2.2.2.1,(o2.2.2.2.2.2.2.2.2.2.2.1,o2.2.2.2.2.2.2.2.2.2.2.2)))))))))))).bind fun o4=>
    match o4 with
    |.inl s=>
     bif (decide (((s.2.2.2.2.2.2.2.1.length:Nat):Int)<=4096)) then
      some (decide (((s.2.2.2.2.2.2.2.2.1.length:Nat):Int)<=100))
     else
      some false
    |.inr o5=>
     some o5
def cRigRep_fa:FnA:=⟨.two (.reg [(0,{ids:=[100]})]) (.two (.leaf) (.two (.one (.two (.join ⟨[1,10],⟨qL29,[(100,false,qB12)]⟩⟩ false [] (.reg [(4,{})])) (.two (.leaf) (.two (.leaf) (.two (.two (.join ⟨[2],⟨(.cons (.p .bool) .nil),[]⟩⟩ false [] (.leaf)) (.leaf)) (.two (.join ⟨[1,62],⟨qL29,[(100,false,qB12)]⟩⟩ false [] (.reg [(5,{fn:=1})])) (.two (.leaf) (.leaf)))))))) (.two (.two (.leaf) (.one (.loop ⟨[1,94],⟨(.cons (.own 0 100 0 0) qL5),[(100,false,qB12)]⟩⟩ true [(1,⟨[1],⟨(.cons (.own 0 100 0 0) .nil),[(100,false,qB12)]⟩⟩)] (.two (.leaf) (.two (.leaf) (.two (.one (.two (.reg [(2,{ids:=[101]})]) (.two (.join ⟨[1,117],⟨qL29,[(100,false,qB12)]⟩⟩ false [] (.leaf)) (.two (.leaf) (.leaf))))) (.leaf))))))) (.leaf)))),⟨(.cons (.p qY3) .nil),[]⟩,[⟨(.cons (.p .bool) .nil),[]⟩],[0]⟩
def cRigRep_ft(fu:Nat):FnT:=⟨94,cRigRep_fa.i,cRigRep_fa.os,fun t=>cRigRep fu t⟩
theorem hJZ(fu:Nat):∀t,evF Go.Proofs.Tryz.prog [cwho_ft fu,hRig_ft fu] fu Go.Proofs.Tryz.f94 cRigRep_fa t=(cRigRep_ft fu).spec t:=fun t=>by kernel_rfl
theorem fPZ(fu:Nat):Told Go.Proofs.Tryz.prog (cRigRep_ft fu):=afZ (aaZ (iEZ fu) (aaZ (j5Z fu) adZ)) mixed Go.Proofs.Tryz.func94 (by kernel_rfl) (by kernel_rfl) (hJZ fu)
def rkep1(fu:Nat)(r:qT8)(h:Int)(h1:Int)(h2:Int)(h3:List (qT8)):Option ((Bool×(Int×qT0))):=
 bif (!(r.1==h1)) then
  some (true,(r.2.1,(h1,(h2,h3))))
 else
  bif (decide (r.2.1<=h)) then
   some (true,(r.2.1,(h1,(h2,h3))))
  else
   (cRigRep fu (r.1,(r.2.1,(r.2.2.1,((r.2.2.2.1.1,r.2.2.2.1.2),(r.2.2.2.2.1,(r.2.2.2.2.2.1,(r.2.2.2.2.2.2.1,(r.2.2.2.2.2.2.2.1,(r.2.2.2.2.2.2.2.2.1,r.2.2.2.2.2.2.2.2.2)))))))))).bind fun r1=>
   some ((!r1),(r.2.1,(h1,(h2,h3))))
def rkep1_fa:FnA:=⟨.two (.reg [(0,{ids:=[100]})]) (.two (.leaf) (.two (.leaf) (.two (.reg [(13,{})]) (.leaf)))),⟨(.cons (.p qY3) qL25),[(0,false,(.vars qL5)),(1,false,qB13)]⟩,[⟨(.cons (.p .bool) .nil),[(0,false,(.vars qL5)),(1,false,qB13)]⟩],[0]⟩
def rkep1_ft(fu:Nat):FnT:=⟨176,rkep1_fa.i,rkep1_fa.os,fun t=>rkep1 fu t.1 t.2.1 t.2.2.1 t.2.2.2.1 t.2.2.2.2⟩
theorem kiZ(fu:Nat):∀t,evF Go.Proofs.Tryz.prog [cRigRep_ft fu] fu Go.Proofs.Tryz.f176 rkep1_fa t=(rkep1_ft fu).spec t:=fun t=>by kernel_rfl
theorem ibZ(fu:Nat):Told Go.Proofs.Tryz.prog (rkep1_ft fu):=afZ (aaZ (fPZ fu) adZ) mixed Go.Proofs.Tryz.func176 (by kernel_rfl) (by kernel_rfl) (kiZ fu)
def sIndFun6_l0(fu:Nat)(s:List (qT8))(x:Int)(h4:Int)(h5:Int)(h6:Int)(h7:List (qT8)):Option ((Int×(Int×qT0))⊕((Int×qT0)⊕(Int×(Int×qT0)))):=
 bif (decide (x<((s.length:Nat):Int))) then
  (idx? x s.length).bind fun q=>
  (s)[q]?.bind fun r=>
  (rkep1 fu r h4 h5 h6 h7).bind fun r1=>
  bif r1.1 then
   some (.inr (.inr (x,(r1.2.1,(r1.2.2.1,(r1.2.2.2.1,r1.2.2.2.2))))))
  else
   some (.inl ((IntKind.wrap .i64 (x+1)),(r1.2.1,(r1.2.2.1,(r1.2.2.2.1,r1.2.2.2.2)))))
 else
  some (.inr (.inl (h4,(h5,(h6,h7)))))
def sIndFun6_l0_it(fu:Nat)(s:List (qT8))(tt:(Int×(Int×qT0))):Option ((Int×qT0)⊕(Int×(Int×qT0))):=
 iter fu (fun tt=>sIndFun6_l0 fu s tt.1 tt.2.1 tt.2.2.1 tt.2.2.2.1 tt.2.2.2.2) tt
def sIndFun6(fu:Nat)(s:List (qT8))(h:Int)(h1:Int)(h2:Int)(h3:List (qT8)):Option ((Int×(Int×qT0))):=
 (sIndFun6_l0_it fu s (0,(h,(h1,(h2,h3))))).bind fun o=>
 match o with
 |.inl s1=>
  some ((-1),(s1.1,(s1.2.1,(s1.2.2.1,s1.2.2.2))))
 |.inr o1=>
  some o1
def sIndFun6_fa:FnA:=⟨.two (.leaf) (.two (.two (.leaf) (.one (.loop ⟨[1,8],⟨(.cons (.fn 176 .nil qL25) qL5),[(0,false,(.vars qL5)),(1,false,qB13)]⟩⟩ true [(0,⟨[1],⟨(.cons (.fn 176 .nil qL25) .nil),[(0,false,(.vars qL5)),(1,false,qB13)]⟩⟩)] (.two (.leaf) (.two (.leaf) (.two (.one (.two (.leaf) (.two (.reg [(5,{sh:=[0,1]})]) (.two (.leaf) (.leaf))))) (.leaf))))))) (.leaf)),⟨(.cons (.p (.sl qY3)) (.cons (.fn 176 .nil qL25) .nil)),[(0,false,(.vars qL5)),(1,false,qB13)]⟩,[⟨qL5,[(0,false,(.vars qL5)),(1,false,qB13)]⟩],[0]⟩
def sIndFun6_ft(fu:Nat):FnT:=⟨211,sIndFun6_fa.i,sIndFun6_fa.os,fun t=>sIndFun6 fu t.1 t.2.1 t.2.2.1 t.2.2.2.1 t.2.2.2.2⟩
theorem gyZ(fu:Nat):∀t,evF Go.Proofs.Tryz.prog [rkep1_ft fu] fu Go.Proofs.Tryz.f211 sIndFun6_fa t=(sIndFun6_ft fu).spec t:=fun t=>by kernel_rfl
theorem faZ(fu:Nat):Told Go.Proofs.Tryz.prog (sIndFun6_ft fu):=afZ (aaZ (ibZ fu) adZ) mixed Go.Proofs.Tryz.func211 (by kernel_rfl) (by kernel_rfl) (gyZ fu)
def sConFun8(fu:Nat)(s:List (qT8))(h:Int)(h1:Int)(h2:Int)(h3:List (qT8)):Option ((Bool×(Int×qT0))):=
 (sIndFun6 fu s h h1 h2 h3).bind fun r=>
 some ((decide (r.1>=0)),(r.2.1,(r.2.2.1,(r.2.2.2.1,r.2.2.2.2))))
def sConFun8_fa:FnA:=⟨.two (.leaf) (.two (.reg [(2,{sh:=[0,1]})]) (.leaf)),⟨(.cons (.p (.sl qY3)) (.cons (.fn 176 .nil qL25) .nil)),[(0,false,(.vars qL5)),(1,false,qB13)]⟩,[⟨(.cons (.p .bool) .nil),[(0,false,(.vars qL5)),(1,false,qB13)]⟩],[0]⟩
def sConFun8_ft(fu:Nat):FnT:=⟨177,sConFun8_fa.i,sConFun8_fa.os,fun t=>sConFun8 fu t.1 t.2.1 t.2.2.1 t.2.2.2.1 t.2.2.2.2⟩
theorem gDZ(fu:Nat):∀t,evF Go.Proofs.Tryz.prog [sIndFun6_ft fu] fu Go.Proofs.Tryz.f177 sConFun8_fa t=(sConFun8_ft fu).spec t:=fun t=>by kernel_rfl
theorem f2Z(fu:Nat):Told Go.Proofs.Tryz.prog (sConFun8_ft fu):=afZ (aaZ (faZ fu) adZ) mixed Go.Proofs.Tryz.func177 (by kernel_rfl) (by kernel_rfl) (gDZ fu)
def rkep(fu:Nat)(k:qT0)(window:Int):Option (Bool):=
 bif (decide (k.2.1>=0)) then
  bif (decide (k.2.1<=1099511627776)) then
   bif (decide (((k.2.2.length:Nat):Int)<=window)) then
    (sConFun8 fu k.2.2 k.2.1 k.1 k.2.1 k.2.2).bind fun r=>
    some (!r.1)
   else
    some false
  else
   some false
 else
  some false
def rkep_fa:FnA:=⟨.two (.reg [(0,{ids:=[100]})]) (.two (.reg [(2,{ids:=[101]})]) (.two (.leaf) (.two (.reg [(19,{sh:=[101,100]})]) (.leaf)))),⟨(.cons (.p qY10) qL5),[]⟩,[⟨(.cons (.p .bool) .nil),[]⟩],[0]⟩
def rkep_ft(fu:Nat):FnT:=⟨126,rkep_fa.i,rkep_fa.os,fun t=>rkep fu t.1 t.2⟩
theorem kWZ(fu:Nat):∀t,evF Go.Proofs.Tryz.prog [sConFun8_ft fu] fu Go.Proofs.Tryz.f126 rkep_fa t=(rkep_ft fu).spec t:=fun t=>by kernel_rfl
theorem iPZ(fu:Nat):Told Go.Proofs.Tryz.prog (rkep_ft fu):=afZ (aaZ (f2Z fu) adZ) mixed Go.Proofs.Tryz.func126 (by kernel_rfl) (by kernel_rfl) (kWZ fu)
def rRig_l0(fu:Nat)(c:(Int×List (qT0)))(last:Int)(x:Int)(h:Int)(h1:List (qT0)):Option ((Int×(Int×(Int×List (qT0))))⊕((Int×List (qT0))⊕Bool)):=
 bif (decide (x<((c.2.length:Nat):Int))) then
  (idx? x c.2.length).bind fun q=>
  (c.2)[q]?.bind fun r=>
  Option.bind (α:=((Bool×(Int×(List (qT0)×qT0))))) (
   bif (decide (r.1<=last)) then
    some (true,(h,(h1,(r.1,(r.2.1,r.2.2)))))
   else
    bif (decide (r.1>=16)) then
     some (true,(h,(h1,(r.1,(r.2.1,r.2.2)))))
    else
     (rkep fu (r.1,(r.2.1,r.2.2)) h).bind fun r1=>
     some ((!r1),(h,(h1,(r.1,(r.2.1,r.2.2)))))) fun o=>
  bif o.1 then
   some (.inr (.inr false))
  else
   some (.inl (o.2.2.2.1,((IntKind.wrap .i64 (x+1)),(o.2.1,o.2.2.1))))
 else
  some (.inr (.inl (h,h1)))
def rRig_l0_it(fu:Nat)(c:(Int×List (qT0)))(tt:(Int×(Int×(Int×List (qT0))))):Option ((Int×List (qT0))⊕Bool):=
 iter fu (fun tt=>rRig_l0 fu c tt.1 tt.2.1 tt.2.2.1 tt.2.2.2) tt
def rRig(fu:Nat)(c:(Int×List (qT0))):Option (Bool):=
 (rRig_l0_it fu c ((-1),(0,(c.1,c.2)))).bind fun o1=>
 match o1 with
 |.inl s=>
  bif (decide (s.1>=1)) then
   some (decide (s.1<=100))
  else
   some false
 |.inr o2=>
  some o2
def rRig_fa:FnA:=⟨.two (.reg [(0,{ids:=[100]})]) (.two (.leaf) (.two (.two (.leaf) (.one (.loop ⟨[1,3,9],⟨(.cons (.own 0 100 0 0) (.cons (.p (.int .i64)) qL5)),[(100,false,qB24)]⟩⟩ true [(0,⟨[1],⟨(.cons (.own 0 100 0 0) .nil),[(100,false,qB24)]⟩⟩)] (.two (.leaf) (.two (.leaf) (.two (.one (.two (.reg [(2,{ids:=[101]})]) (.two (.two (.join ⟨[1,5,28],⟨qL34,[(100,false,qB24),(101,false,qB13)]⟩⟩ false [] (.reg [(13,{})])) (.two (.leaf) (.leaf))) (.leaf)))) (.leaf))))))) (.leaf))),⟨(.cons (.p (.pair (.int .i64) (.sl qY10))) .nil),[]⟩,[⟨(.cons (.p .bool) .nil),[]⟩],[0]⟩
def rRig_ft(fu:Nat):FnT:=⟨72,rRig_fa.i,rRig_fa.os,fun t=>rRig fu t⟩
theorem lwZ(fu:Nat):∀t,evF Go.Proofs.Tryz.prog [rkep_ft fu] fu Go.Proofs.Tryz.f72 rRig_fa t=(rRig_ft fu).spec t:=fun t=>by kernel_rfl
theorem jnZ(fu:Nat):Told Go.Proofs.Tryz.prog (rRig_ft fu):=afZ (aaZ (iPZ fu) adZ) mixed Go.Proofs.Tryz.func72 (by kernel_rfl) (by kernel_rfl) (lwZ fu)
def spie(fu:Nat)(n:Int)(size:Int):Option (Int):=
 need (!(decide (size=0)))<|
 some (IntKind.wrap .i64 (Int.tdiv (IntKind.wrap .i64 ((IntKind.wrap .i64 (n+size))-1)) size))
def spie_fa:FnA:=⟨.two (.leaf) (.leaf),⟨(.cons (.p (.int .i64)) qL5),[]⟩,[⟨qL5,[]⟩],[0]⟩
def spie_ft(fu:Nat):FnT:=⟨73,spie_fa.i,spie_fa.os,fun t=>spie fu t.1 t.2⟩
theorem lJZ(fu:Nat):∀t,evF Go.Proofs.Tryz.prog [] fu Go.Proofs.Tryz.f73 spie_fa t=(spie_ft fu).spec t:=fun t=>by kernel_rfl
theorem iUZ(fu:Nat):Told Go.Proofs.Tryz.prog (spie_ft fu):=afZ adZ mixed Go.Proofs.Tryz.func73 (by kernel_rfl) (by kernel_rfl) (lJZ fu)
def sdro1(fu:Nat)(d:(Int×Int))(h:Int)(h1:Int)(h2:List (qT1))(h3:Int)(h4:Int)(h5:List (qT0))(h6:List ((Int×List (Int))))(h7:List ((Int×Int)))(h8:qT14):Option ((Bool×(Int×qT7))):=
 bif (decide (d.1<=h)) then
  some (true,(d.1,(h1,(h2,(h3,(h4,(h5,(h6,(h7,h8)))))))))
 else
  bif (decide (d.1>h3)) then
   some (true,(d.1,(h1,(h2,(h3,(h4,(h5,(h6,(h7,h8)))))))))
  else
   bif ((Option.getD (mget (k:=(.int .i64)) (v:=(.int .i64)) h8 d.1) 0)==1) then
    some (true,(d.1,(h1,(h2,(h3,(h4,(h5,(h6,(h7,h8)))))))))
   else
    bif (decide (d.2<1)) then
     some (true,(d.1,(h1,(h2,(h3,(h4,(h5,(h6,(h7,h8)))))))))
    else
     some ((decide (d.2>1099511627776)),(d.1,(h1,(h2,(h3,(h4,(h5,(h6,(h7,h8)))))))))
def sdro1_fa:FnA:=⟨.two (.reg [(0,{ids:=[100]})]) (.two (.leaf) (.two (.leaf) (.leaf))),⟨(.cons (.p qY22) (.cons (.own 0 0 0 0) (.cons (.own 0 1 0 0) (.cons (.own 0 2 0 0) .nil)))),[(0,false,(.vars qL5)),(1,false,(.vars qL2)),(2,false,(.vars (.cons (.mp 3) .nil))),(3,false,qB23)]⟩,[⟨(.cons (.p .bool) .nil),[(0,false,(.vars qL5)),(1,false,(.vars qL2)),(2,false,(.vars (.cons (.mp 3) .nil))),(3,false,qB23)]⟩],[0]⟩
def sdro1_ft(fu:Nat):FnT:=⟨127,sdro1_fa.i,sdro1_fa.os,fun t=>sdro1 fu t.1 t.2.1 t.2.2.1 t.2.2.2.1 t.2.2.2.2.1 t.2.2.2.2.2.1 t.2.2.2.2.2.2.1 t.2.2.2.2.2.2.2.1 t.2.2.2.2.2.2.2.2.1 t.2.2.2.2.2.2.2.2.2⟩
theorem kdZ(fu:Nat):∀t,evF Go.Proofs.Tryz.prog [] fu Go.Proofs.Tryz.f127 sdro1_fa t=(sdro1_ft fu).spec t:=fun t=>by kernel_rfl
theorem hMZ(fu:Nat):Told Go.Proofs.Tryz.prog (sdro1_ft fu):=afZ adZ mixed Go.Proofs.Tryz.func127 (by kernel_rfl) (by kernel_rfl) (kdZ fu)
def sIndFun_l0(fu:Nat)(s:List ((Int×Int)))(x:Int)(h9:Int)(h10:Int)(h11:List (qT1))(h12:Int)(h13:Int)(h14:List (qT0))(h15:List ((Int×List (Int))))(h16:List ((Int×Int)))(h17:qT14):Option ((Int×(Int×qT7))⊕((Int×qT7)⊕(Int×(Int×qT7)))):=
 bif (decide (x<((s.length:Nat):Int))) then
  (idx? x s.length).bind fun q=>
  (s)[q]?.bind fun r=>
  (sdro1 fu r h9 h10 h11 h12 h13 h14 h15 h16 h17).bind fun r1=>
  bif r1.1 then
   some (.inr (.inr (x,(r1.2.1,(r1.2.2.1,(r1.2.2.2.1,(r1.2.2.2.2.1,(r1.2.2.2.2.2.1,(r1.2.2.2.2.2.2.1,(r1.2.2.2.2.2.2.2.1,(r1.2.2.2.2.2.2.2.2.1,r1.2.2.2.2.2.2.2.2.2)))))))))))
  else
   some (.inl ((IntKind.wrap .i64 (x+1)),(r1.2.1,(r1.2.2.1,(r1.2.2.2.1,(r1.2.2.2.2.1,(r1.2.2.2.2.2.1,(r1.2.2.2.2.2.2.1,(r1.2.2.2.2.2.2.2.1,(r1.2.2.2.2.2.2.2.2.1,r1.2.2.2.2.2.2.2.2.2))))))))))
 else
  some (.inr (.inl (h9,(h10,(h11,(h12,(h13,(h14,(h15,(h16,h17))))))))))
def sIndFun_l0_it(fu:Nat)(s:List ((Int×Int)))(tt:(Int×(Int×qT7))):Option ((Int×qT7)⊕(Int×(Int×qT7))):=
 iter fu (fun tt=>sIndFun_l0 fu s tt.1 tt.2.1 tt.2.2.1 tt.2.2.2.1 tt.2.2.2.2.1 tt.2.2.2.2.2.1 tt.2.2.2.2.2.2.1 tt.2.2.2.2.2.2.2.1 tt.2.2.2.2.2.2.2.2.1 tt.2.2.2.2.2.2.2.2.2) tt
def sIndFun(fu:Nat)(s:List ((Int×Int)))(h:Int)(h1:Int)(h2:List (qT1))(h3:Int)(h4:Int)(h5:List (qT0))(h6:List ((Int×List (Int))))(h7:List ((Int×Int)))(h8:qT14):Option ((Int×(Int×qT7))):=
 (sIndFun_l0_it fu s (0,(h,(h1,(h2,(h3,(h4,(h5,(h6,(h7,h8)))))))))).bind fun o=>
 match o with
 |.inl s1=>
  some ((-1),(s1.1,(s1.2.1,(s1.2.2.1,(s1.2.2.2.1,(s1.2.2.2.2.1,(s1.2.2.2.2.2.1,(s1.2.2.2.2.2.2.1,(s1.2.2.2.2.2.2.2.1,s1.2.2.2.2.2.2.2.2)))))))))
 |.inr o1=>
  some o1
def sIndFun_fa:FnA:=⟨.two (.leaf) (.two (.two (.leaf) (.one (.loop ⟨[1,8],⟨(.cons (.fn 127 .nil (.cons (.own 0 0 0 0) (.cons (.own 0 1 0 0) (.cons (.own 0 2 0 0) .nil)))) qL5),[(0,false,(.vars qL5)),(1,false,(.vars qL2)),(2,false,(.vars (.cons (.mp 3) .nil))),(3,false,qB23)]⟩⟩ true [(0,⟨[1],⟨(.cons (.fn 127 .nil (.cons (.own 0 0 0 0) (.cons (.own 0 1 0 0) (.cons (.own 0 2 0 0) .nil)))) .nil),[(0,false,(.vars qL5)),(1,false,(.vars qL2)),(2,false,(.vars (.cons (.mp 3) .nil))),(3,false,qB23)]⟩⟩)] (.two (.leaf) (.two (.leaf) (.two (.one (.two (.leaf) (.two (.reg [(5,{sh:=[0,1,2,3]})]) (.two (.leaf) (.leaf))))) (.leaf))))))) (.leaf)),⟨(.cons (.p (.sl qY22)) (.cons (.fn 127 .nil (.cons (.own 0 0 0 0) (.cons (.own 0 1 0 0) (.cons (.own 0 2 0 0) .nil)))) .nil)),[(0,false,(.vars qL5)),(1,false,(.vars qL2)),(2,false,(.vars (.cons (.mp 3) .nil))),(3,false,qB23)]⟩,[⟨qL5,[(0,false,(.vars qL5)),(1,false,(.vars qL2)),(2,false,(.vars (.cons (.mp 3) .nil))),(3,false,qB23)]⟩],[0]⟩
def sIndFun_ft(fu:Nat):FnT:=⟨164,sIndFun_fa.i,sIndFun_fa.os,fun t=>sIndFun fu t.1 t.2.1 t.2.2.1 t.2.2.2.1 t.2.2.2.2.1 t.2.2.2.2.2.1 t.2.2.2.2.2.2.1 t.2.2.2.2.2.2.2.1 t.2.2.2.2.2.2.2.2.1 t.2.2.2.2.2.2.2.2.2⟩
theorem iiZ(fu:Nat):∀t,evF Go.Proofs.Tryz.prog [sdro1_ft fu] fu Go.Proofs.Tryz.f164 sIndFun_fa t=(sIndFun_ft fu).spec t:=fun t=>by kernel_rfl
theorem gbZ(fu:Nat):Told Go.Proofs.Tryz.prog (sIndFun_ft fu):=afZ (aaZ (hMZ fu) adZ) mixed Go.Proofs.Tryz.func164 (by kernel_rfl) (by kernel_rfl) (iiZ fu)
def sConFun(fu:Nat)(s:List ((Int×Int)))(h:Int)(h1:Int)(h2:List (qT1))(h3:Int)(h4:Int)(h5:List (qT0))(h6:List ((Int×List (Int))))(h7:List ((Int×Int)))(h8:qT14):Option ((Bool×(Int×qT7))):=
 (sIndFun fu s h h1 h2 h3 h4 h5 h6 h7 h8).bind fun r=>
 some ((decide (r.1>=0)),(r.2.1,(r.2.2.1,(r.2.2.2.1,(r.2.2.2.2.1,(r.2.2.2.2.2.1,(r.2.2.2.2.2.2.1,(r.2.2.2.2.2.2.2.1,(r.2.2.2.2.2.2.2.2.1,r.2.2.2.2.2.2.2.2.2)))))))))
def sConFun_fa:FnA:=⟨.two (.leaf) (.two (.reg [(2,{sh:=[0,1,2,3]})]) (.leaf)),⟨(.cons (.p (.sl qY22)) (.cons (.fn 127 .nil (.cons (.own 0 0 0 0) (.cons (.own 0 1 0 0) (.cons (.own 0 2 0 0) .nil)))) .nil)),[(0,false,(.vars qL5)),(1,false,(.vars qL2)),(2,false,(.vars (.cons (.mp 3) .nil))),(3,false,qB23)]⟩,[⟨(.cons (.p .bool) .nil),[(0,false,(.vars qL5)),(1,false,(.vars qL2)),(2,false,(.vars (.cons (.mp 3) .nil))),(3,false,qB23)]⟩],[0]⟩
def sConFun_ft(fu:Nat):FnT:=⟨128,sConFun_fa.i,sConFun_fa.os,fun t=>sConFun fu t.1 t.2.1 t.2.2.1 t.2.2.2.1 t.2.2.2.2.1 t.2.2.2.2.2.1 t.2.2.2.2.2.2.1 t.2.2.2.2.2.2.2.1 t.2.2.2.2.2.2.2.2.1 t.2.2.2.2.2.2.2.2.2⟩
theorem ioZ(fu:Nat):∀t,evF Go.Proofs.Tryz.prog [sIndFun_ft fu] fu Go.Proofs.Tryz.f128 sConFun_fa t=(sConFun_ft fu).spec t:=fun t=>by kernel_rfl
theorem guZ(fu:Nat):Told Go.Proofs.Tryz.prog (sConFun_ft fu):=afZ (aaZ (gbZ fu) adZ) mixed Go.Proofs.Tryz.func128 (by kernel_rfl) (by kernel_rfl) (ioZ fu)
def sdrom1(fu:Nat)(s:qT18)(h:qT14):Option ((Bool×qT14)):=
 bif (decide (((s.2.2.2.2.length:Nat):Int)<=65536)) then
  (sConFun fu s.2.2.2.2 0 s.1 s.2.1.1 s.2.1.2 s.2.2.1.1 s.2.2.1.2 s.2.2.2.1 s.2.2.2.2 h).bind fun r=>
  some ((!r.1),r.2.2.2.2.2.2.2.2.2)
 else
  some (false,h)
def sdrom1_fa:FnA:=⟨.two (.reg [(0,{ids:=[100]}),(1,{ids:=[101]})]) (.two (.reg [(0,{ids:=[102]})]) (.two (.leaf) (.two (.reg [(8,{sh:=[102,100,101,0]})]) (.leaf)))),⟨(.cons (.p qY15) (.cons (.mp 0) .nil)),[(0,false,qB23)]⟩,[⟨(.cons (.p .bool) .nil),[(0,false,qB23)]⟩],[0]⟩
def sdrom1_ft(fu:Nat):FnT:=⟨74,sdrom1_fa.i,sdrom1_fa.os,fun t=>sdrom1 fu t.1 t.2⟩
theorem iVZ(fu:Nat):∀t,evF Go.Proofs.Tryz.prog [sConFun_ft fu] fu Go.Proofs.Tryz.f74 sdrom1_fa t=(sdrom1_ft fu).spec t:=fun t=>by kernel_rfl
theorem gNZ(fu:Nat):Told Go.Proofs.Tryz.prog (sdrom1_ft fu):=afZ (aaZ (guZ fu) adZ) mixed Go.Proofs.Tryz.func74 (by kernel_rfl) (by kernel_rfl) (iVZ fu)
def sRig_l0(fu:Nat)(o1:(Bool×(Int×(List (qT1)×(Int×(Int×(List (qT0)×(List ((Int×List (Int)))×(List ((Int×Int))×(qT14×qT1))))))))))(x1:Int)(h8:Int)(h9:List (qT1))(h10:Int)(h11:Int)(h12:List (qT0))(h13:List ((Int×List (Int))))(h14:List ((Int×Int)))(h15:qT14):Option ((Int×qT7)⊕(qT7)):=
 bif (decide (x1<((o1.2.2.2.2.2.2.2.2.2.2.2.2.2.2.1.length:Nat):Int))) then
  (idx? x1 o1.2.2.2.2.2.2.2.2.2.2.2.2.2.2.1.length).bind fun q1=>
  (o1.2.2.2.2.2.2.2.2.2.2.2.2.2.2.1)[q1]?.bind fun r6=>
  some (.inl ((IntKind.wrap .i64 (x1+1)),(h8,(h9,(h10,(h11,(h12,(h13,(h14,(mput (k:=(.int .i64)) (v:=(.int .i64)) h15 r6.1 1))))))))))
 else
  some (.inr (h8,(h9,(h10,(h11,(h12,(h13,(h14,h15))))))))
def sRig_l0_it(fu:Nat)(o1:(Bool×(Int×(List (qT1)×(Int×(Int×(List (qT0)×(List ((Int×List (Int)))×(List ((Int×Int))×(qT14×qT1))))))))))(tt:(Int×qT7)):Option (qT7):=
 iter fu (fun tt=>sRig_l0 fu o1 tt.1 tt.2.1 tt.2.2.1 tt.2.2.2.1 tt.2.2.2.2.1 tt.2.2.2.2.2.1 tt.2.2.2.2.2.2.1 tt.2.2.2.2.2.2.2.1 tt.2.2.2.2.2.2.2.2) tt
def sRig_l1(fu:Nat)(o:(Bool×qT9))(size:Int)(x:Int)(h:Int)(h1:List (qT1))(h2:Int)(h3:Int)(h4:List (qT0))(h5:List ((Int×List (Int))))(h6:List ((Int×Int)))(h7:qT14):Option ((Int×qT7)⊕(qT7⊕Bool)):=
 bif (decide (x<((o.2.2.1.length:Nat):Int))) then
  (idx? x o.2.2.1.length).bind fun q=>
  (o.2.2.1)[q]?.bind fun r4=>
  Option.bind (α:=((Bool×(Int×(List (qT1)×(Int×(Int×(List (qT0)×(List ((Int×List (Int)))×(List ((Int×Int))×(qT14×qT1))))))))))) (
   bif r4.2.2.1 then
    bif (!r4.2.2.2.1) then
     (spie fu r4.2.2.2.2.1 size).bind fun r5=>
     some ((!(((r4.2.2.2.2.2.1.length:Nat):Int)==r5)),(h,(h1,(h2,(h3,(h4,(h5,(h6,(h7,(r4.1,(r4.2.1,(r4.2.2.1,(r4.2.2.2.1,(r4.2.2.2.2.1,(r4.2.2.2.2.2.1,(r4.2.2.2.2.2.2.1,r4.2.2.2.2.2.2.2))))))))))))))))
    else
     some (false,(h,(h1,(h2,(h3,(h4,(h5,(h6,(h7,(r4.1,(r4.2.1,(r4.2.2.1,(r4.2.2.2.1,(r4.2.2.2.2.1,(r4.2.2.2.2.2.1,(r4.2.2.2.2.2.2.1,r4.2.2.2.2.2.2.2))))))))))))))))
   else
    some (false,(h,(h1,(h2,(h3,(h4,(h5,(h6,(h7,(r4.1,(r4.2.1,(r4.2.2.1,(r4.2.2.2.1,(r4.2.2.2.2.1,(r4.2.2.2.2.2.1,(r4.2.2.2.2.2.2.1,r4.2.2.2.2.2.2.2))))))))))))))))) fun o1=>
  bif o1.1 then
   some (.inr (.inr false))
  else
   (sRig_l0_it fu o1 (0,(o1.2.1,(o1.2.2.1,(o1.2.2.2.1,(o1.2.2.2.2.1,(o1.2.2.2.2.2.1,(o1.2.2.2.2.2.2.1,(o1.2.2.2.2.2.2.2.1,o1.2.2.2.2.2.2.2.2.1))))))))).bind fun o2=>
   some (.inl ((IntKind.wrap .i64 (x+1)),(o2.1,(o2.2.1,(o2.2.2.1,(o2.2.2.2.1,(o2.2.2.2.2.1,(o2.2.2.2.2.2.1,(o2.2.2.2.2.2.2.1,o2.2.2.2.2.2.2.2)))))))))
 else
  some (.inr (.inl (h,(h1,(h2,(h3,(h4,(h5,(h6,h7)))))))))
def sRig_l1_it(fu:Nat)(o:(Bool×qT9))(size:Int)(tt:(Int×qT7)):Option (qT7⊕Bool):=
 iter fu (fun tt=>sRig_l1 fu o size tt.1 tt.2.1 tt.2.2.1 tt.2.2.2.1 tt.2.2.2.2.1 tt.2.2.2.2.2.1 tt.2.2.2.2.2.2.1 tt.2.2.2.2.2.2.2.1 tt.2.2.2.2.2.2.2.2) tt
def sRig(fu:Nat)(s:qT18)(size:Int):Option (Bool):=
 Option.bind (α:=((Bool×qT9))) (
  (ssiz fu size).bind fun r=>
  bif (!r) then
   some (true,(s.1,(s.2.1.1,(s.2.1.2,(s.2.2.1.1,(s.2.2.1.2,(s.2.2.2.1,s.2.2.2.2)))))))
  else
   bif (decide (s.1<0)) then
    some (true,(s.1,(s.2.1.1,(s.2.1.2,(s.2.2.1.1,(s.2.2.1.2,(s.2.2.2.1,s.2.2.2.2)))))))
   else
    bif (decide (s.1>1099511627776)) then
     some (true,(s.1,(s.2.1.1,(s.2.1.2,(s.2.2.1.1,(s.2.2.1.2,(s.2.2.2.1,s.2.2.2.2)))))))
    else
     (tRig fu (s.2.1.1,s.2.1.2)).bind fun r1=>
     bif (!r1) then
      some (true,(s.1,(s.2.1.1,(s.2.1.2,(s.2.2.1.1,(s.2.2.1.2,(s.2.2.2.1,s.2.2.2.2)))))))
     else
      (rRig fu (s.2.2.1.1,s.2.2.1.2)).bind fun r2=>
      bif (!r2) then
       some (true,(s.1,(s.2.1.1,(s.2.1.2,(s.2.2.1.1,(s.2.2.1.2,(s.2.2.2.1,s.2.2.2.2)))))))
      else
       (spla fu s.2.2.2.1).bind fun r3=>
       some ((!r3),(s.1,(s.2.1.1,(s.2.1.2,(s.2.2.1.1,(s.2.2.1.2,(s.2.2.2.1,s.2.2.2.2)))))))) fun o=>
 bif o.1 then
  some false
 else
  (sRig_l1_it fu o size (0,(o.2.1,(o.2.2.1,(o.2.2.2.1,(o.2.2.2.2.1,(o.2.2.2.2.2.1,(o.2.2.2.2.2.2.1,(o.2.2.2.2.2.2.2,([],0)))))))))).bind fun o3=>
  match o3 with
  |.inl s1=>
   (sdrom1 fu (s1.1,((s1.2.1,s1.2.2.1),((s1.2.2.2.1,s1.2.2.2.2.1),(s1.2.2.2.2.2.1,s1.2.2.2.2.2.2.1)))) s1.2.2.2.2.2.2.2).bind fun r7=>
   some r7.1
  |.inr o4=>
   some o4
def sRig_fa:FnA:=⟨.two (.reg [(0,{ids:=[100]})]) (.two (.two (.join ⟨[2,40],⟨qL29,[(100,false,(.vars qL2))]⟩⟩ false [] (.reg [(1,{}),(16,{fn:=1}),(22,{fn:=2}),(28,{fn:=3})])) (.two (.leaf) (.leaf))) (.two (.reg [(0,{ids:=[101]})]) (.two (.two (.leaf) (.one (.loop ⟨[2,5,46],⟨(.cons (.own 0 100 0 0) (.cons (.mp 101) qL5)),[(100,false,(.vars qL2)),(101,false,qB23)]⟩⟩ true [(0,⟨[2,5],⟨(.cons (.own 0 100 0 0) (.cons (.mp 101) .nil)),[(100,false,(.vars qL2)),(101,false,qB23)]⟩⟩)] (.two (.leaf) (.two (.leaf) (.two (.one (.two (.reg [(2,{ids:=[102]})]) (.two (.two (.join ⟨[2,5,7,66],⟨(.cons (.own 0 100 0 0) (.cons (.mp 101) (.cons (.own 0 102 0 0) (.cons (.p .bool) .nil)))),[(100,false,(.vars qL2)),(101,false,qB23),(102,false,qB6)]⟩⟩ false [] (.reg [(14,{fn:=4})])) (.two (.leaf) (.leaf))) (.two (.leaf) (.one (.loop ⟨[2,5,70],⟨(.cons (.own 0 100 0 0) (.cons (.mp 101) qL5)),[(100,false,(.vars qL2)),(101,false,qB23)]⟩⟩ false [(2,⟨[2,5],⟨(.cons (.own 0 100 0 0) (.cons (.mp 101) .nil)),[(100,false,(.vars qL2)),(101,false,qB23)]⟩⟩)] (.two (.leaf) (.two (.leaf) (.two (.one (.two (.reg [(2,{ids:=[103]})]) (.leaf))) (.leaf)))))))))) (.leaf))))))) (.two (.reg [(2,{sh:=[101],fn:=5})]) (.leaf))))),⟨(.cons (.p qY15) qL5),[]⟩,[⟨(.cons (.p .bool) .nil),[]⟩],[0]⟩
def sRig_ft(fu:Nat):FnT:=⟨23,sRig_fa.i,sRig_fa.os,fun t=>sRig fu t.1 t.2⟩
theorem mcZ(fu:Nat):∀t,evF Go.Proofs.Tryz.prog [ssiz_ft fu,tRig_ft fu,rRig_ft fu,spla_ft fu,spie_ft fu,sdrom1_ft fu] fu Go.Proofs.Tryz.f23 sRig_fa t=(sRig_ft fu).spec t:=fun t=>by kernel_rfl
theorem j8Z(fu:Nat):Told Go.Proofs.Tryz.prog (sRig_ft fu):=afZ (aaZ (jNZ fu) (aaZ (jmZ fu) (aaZ (jnZ fu) (aaZ (fLZ fu) (aaZ (iUZ fu) (aaZ (gNZ fu) adZ)))))) mixed Go.Proofs.Tryz.func23 (by kernel_rfl) (by kernel_rfl) (mcZ fu)
def save_none(fu:Nat)(c:(Int×(Int×(UInt8×((Int×Int)×(List UInt8×((Int×Int)×(List UInt8×(Int×(Int×List (UInt8))))))))))):Option (Bool):=
 bif (c.1==0) then
  bif (c.2.1==0) then
   bif (((c.2.2.1.toNat:Nat):Int)==0) then
    bif ((c.2.2.2.1.1==0)&&(c.2.2.2.1.2==0)) then
     bif ((c.2.2.2.2.2.1.1==0)&&(c.2.2.2.2.2.1.2==0)) then
      bif (c.2.2.2.2.1==[]) then
       bif (c.2.2.2.2.2.2.1==[]) then
        bif (c.2.2.2.2.2.2.2.1==0) then
         bif (c.2.2.2.2.2.2.2.2.1==0) then
          some (((c.2.2.2.2.2.2.2.2.2.length:Nat):Int)==0)
         else
          some false
        else
         some false
       else
        some false
      else
       some false
     else
      some false
    else
     some false
   else
    some false
  else
   some false
 else
  some false
def save_none_fa:FnA:=⟨.two (.reg [(0,{ids:=[100]})]) (.leaf),⟨(.cons (.p (.pair (.int .i64) (.pair (.int .i64) (.pair .byte (.pair qY22 (.pair .str (.pair qY22 (.pair .str (.pair (.int .i64) (.pair (.int .i64) (.sl .byte))))))))))) .nil),[]⟩,[⟨(.cons (.p .bool) .nil),[]⟩],[0]⟩
def save_none_ft(fu:Nat):FnT:=⟨75,save_none_fa.i,save_none_fa.os,fun t=>save_none fu t⟩
theorem fSZ(fu:Nat):∀t,evF Go.Proofs.Tryz.prog [] fu Go.Proofs.Tryz.f75 save_none_fa t=(save_none_ft fu).spec t:=fun t=>by kernel_rfl
theorem ekZ(fu:Nat):Told Go.Proofs.Tryz.prog (save_none_ft fu):=afZ adZ mixed Go.Proofs.Tryz.func75 (by kernel_rfl) (by kernel_rfl) (fSZ fu)
def srig1(fu:Nat)(n:Int):Option (Bool):=
 bif (decide (n>=0)) then
  some (decide (n<256))
 else
  some false
def srig1_fa:FnA:=⟨.two (.leaf) (.leaf),⟨qL5,[]⟩,[⟨(.cons (.p .bool) .nil),[]⟩],[0]⟩
def srig1_ft(fu:Nat):FnT:=⟨76,srig1_fa.i,srig1_fa.os,fun t=>srig1 fu t⟩
theorem jVZ(fu:Nat):∀t,evF Go.Proofs.Tryz.prog [] fu Go.Proofs.Tryz.f76 srig1_fa t=(srig1_ft fu).spec t:=fun t=>by kernel_rfl
theorem hWZ(fu:Nat):Told Go.Proofs.Tryz.prog (srig1_ft fu):=afZ adZ mixed Go.Proofs.Tryz.func76 (by kernel_rfl) (by kernel_rfl) (jVZ fu)
end
end Go.Ab.D
