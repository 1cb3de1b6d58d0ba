/- Functions of the program as plain Lean functions: each equation is checked by the kernel; what is told of a function follows from it. -/
import Derived.Test.YtkfgjhbbdoljiaaGreatE5
import Derived.Test.YtkfgjhbbdoljiaaGreatProg
import Derived.KernelRfl
namespace Go.Proofs
open Go.Shelf
def Tryz.ca149_ren:Go.Shelf.Ren:=⟨fun|150=>149|153=>165|152=>174|226=>175|227=>176|228=>177|137=>181|119=>182|224=>183|225=>184|217=>186|266=>187|n=>n,fun|9=>9|4=>4|3=>3|5=>5|21=>21|117=>202|116=>201|0=>0|46=>194|124=>209|n=>n,fun|n=>n⟩
theorem Tryz.ca149:Go.Proofs.Lays.n150 Tryz.prog Tryz.ca149_ren:={
 mixed:=by kernel_rfl
 f119:=Tryz.func182.trans (congrArg some (by kernel_rfl))
 f137:=Tryz.func181.trans (congrArg some (by kernel_rfl))
 f150:=Tryz.func149.trans (congrArg some (by kernel_rfl))
 f152:=Tryz.func174.trans (congrArg some (by kernel_rfl))
 f153:=Tryz.func165.trans (congrArg some (by kernel_rfl))
 f217:=Tryz.func186.trans (congrArg some (by kernel_rfl))
 f224:=Tryz.func183.trans (congrArg some (by kernel_rfl))
 f225:=Tryz.func184.trans (congrArg some (by kernel_rfl))
 f226:=Tryz.func175.trans (congrArg some (by kernel_rfl))
 f227:=Tryz.func176.trans (congrArg some (by kernel_rfl))
 f228:=Tryz.func177.trans (congrArg some (by kernel_rfl))
 f266:=Tryz.func187.trans (congrArg some (by kernel_rfl))
 t0:=Tryz.underlying0
 a0:=Tryz.isAgg0
 z0:=Tryz.sizeOf0
 v0:=Tryz.zeroValue0
 t3:=Tryz.underlying3
 a3:=Tryz.isAgg3
 z3:=Tryz.sizeOf3
 v3:=Tryz.zeroValue3
 t4:=Tryz.underlying4
 a4:=Tryz.isAgg4
 z4:=Tryz.sizeOf4
 v4:=Tryz.zeroValue4
 t5:=Tryz.underlying5
 a5:=Tryz.isAgg5
 z5:=Tryz.sizeOf5
 v5:=Tryz.zeroValue5
 t9:=Tryz.underlying9
 a9:=Tryz.isAgg9
 z9:=Tryz.sizeOf9
 v9:=Tryz.zeroValue9
 t21:=Tryz.underlying21
 a21:=Tryz.isAgg21
 z21:=Tryz.sizeOf21
 v21:=Tryz.zeroValue21
 t46:=Tryz.underlying194
 a46:=Tryz.isAgg194
 z46:=Tryz.sizeOf194
 v46:=Tryz.zeroValue194
 t116:=Tryz.underlying201
 a116:=Tryz.isAgg201
 z116:=Tryz.sizeOf201
 t117:=Tryz.underlying202
 a117:=Tryz.isAgg202
 z117:=Tryz.sizeOf202
 v117:=Tryz.zeroValue202
 t124:=Tryz.underlying209
 a124:=Tryz.isAgg209
 z124:=Tryz.sizeOf209
 v124:=Tryz.zeroValue209}
end Go.Proofs
namespace Go.Proofs
open Go.Shelf
def Tryz.ins157_ren:Go.Shelf.Ren:=⟨fun|22=>157|29=>167|30=>168|36=>179|17=>185|n=>n,fun|24=>29|9=>108|3=>3|4=>4|0=>0|n=>n,fun|n=>n⟩
theorem Tryz.ins157:Go.Proofs.InsLay Tryz.prog Tryz.ins157_ren:={
 mixed:=by kernel_rfl
 f22:=⟨Tryz.f157.name,by decide,Tryz.func157.trans (congrArg some (by kernel_rfl))⟩
 x29:=by kernel_rfl
 t0:=Tryz.underlying0
 a0:=Tryz.isAgg0
 z0:=Tryz.sizeOf0
 v0:=Tryz.zeroValue0
 t3:=Tryz.underlying3
 a3:=Tryz.isAgg3
 z3:=Tryz.sizeOf3
 v3:=Tryz.zeroValue3
 t4:=Tryz.underlying4
 a4:=Tryz.isAgg4
 z4:=Tryz.sizeOf4
 v4:=Tryz.zeroValue4
 t24:=Tryz.underlying29
 a24:=Tryz.isAgg29
 z24:=Tryz.sizeOf29
 v24:=Tryz.zeroValue29}
end Go.Proofs
set_option linter.all false
set_option maxRecDepth 100000
set_option maxHeartbeats 4000000
namespace Go.Ab.D
open Go Go.Ab
noncomputable section
abbrev qT0:Type:=(Int×(Int×(Bool×(Bool×(Int×(List ((Int×Int))×(Int×List ((List UInt8×Int)))))))))
abbrev qT1:Type:=((Int×(Int×(UInt8×((Int×Int)×(List UInt8×((Int×Int)×(List UInt8×(Int×(Int×List (UInt8))))))))))×((Int×(Int×(Int×((Int×Int)×(Bool×(Int×(List (UInt8)×(List ((List UInt8×Int))×(Bool×Int)))))))))×(Int×Int)))
abbrev qY2:Ty:=(.pair (.int .i64) (.pair (.int .i64) (.pair .bool (.pair .bool (.pair (.int .i64) (.pair (.sl (.pair (.int .i64) (.int .i64))) (.pair (.int .i64) (.sl (.pair .str (.int .i64))))))))))
abbrev qY3:Ty:=(.pair (.pair (.int .i64) (.pair (.int .i64) (.pair .byte (.pair (.pair (.int .i64) (.int .i64)) (.pair .str (.pair (.pair (.int .i64) (.int .i64)) (.pair .str (.pair (.int .i64) (.pair (.int .i64) (.sl .byte)))))))))) (.pair (.pair (.int .i64) (.pair (.int .i64) (.pair (.int .i64) (.pair (.pair (.int .i64) (.int .i64)) (.pair .bool (.pair (.int .i64) (.pair (.sl .byte) (.pair (.sl (.pair .str (.int .i64))) (.pair .bool (.int .i64)))))))))) (.pair (.int .i64) (.int .i64))))
abbrev qB4:BKd:=(.vars (.cons (.p (.sl qY2)) (.cons (.p (.int .i64)) (.cons (.p (.sl (.sl .byte))) (.cons (.p (.int .i64)) (.cons (.p (.int .i64)) (.cons (.p (.int .u8)) (.cons (.p (.int .i64)) (.cons (.p (.int .i64)) (.cons (.p .str) (.cons (.p (.int .i64)) (.cons (.p (.int .i64)) (.cons (.p .str) (.cons (.p (.int .i64)) (.cons (.p (.int .i64)) (.cons (.p (.sl .byte)) (.cons (.p (.int .i64)) (.cons (.p (.int .i64)) (.cons (.p (.int .i64)) (.cons (.p (.int .i64)) (.cons (.p (.int .i64)) (.cons (.p .bool) (.cons (.p (.int .i64)) (.cons (.nilp (.slice none 0 0)) (.cons (.nilp (.slice none 0 0)) (.cons (.p .bool) (.cons (.p (.int .i64)) .nil)))))))))))))))))))))))))))
abbrev qL5:KdL:=(.cons (.p (.int .i64)) (.cons (.p (.int .i64)) (.cons (.p (.int .u8)) (.cons (.p (.int .i64)) (.cons (.p (.int .i64)) (.cons (.p .str) (.cons (.p (.int .i64)) (.cons (.p (.int .i64)) (.cons (.p .str) (.cons (.p (.int .i64)) (.cons (.p (.int .i64)) (.cons (.nilp (.slice none 0 0)) (.cons (.p (.int .i64)) (.cons (.p (.int .i64)) (.cons (.p (.int .i64)) (.cons (.p (.int .i64)) (.cons (.p (.int .i64)) (.cons (.p .bool) (.cons (.p (.int .i64)) (.cons (.nilp (.slice none 0 0)) (.cons (.nilp (.slice none 0 0)) (.cons (.p .bool) (.cons (.p (.int .i64)) (.cons (.p (.int .i64)) (.cons (.p (.int .i64)) .nil)))))))))))))))))))))))))
abbrev qT6:Type:=(Int×(Int×(Int×(Int×(Int×(List UInt8×(Int×(Int×(List UInt8×(Int×(Int×(Int×(Int×(Int×(Int×(Int×(Bool×(Int×(Bool×(Int×(Int×Int)))))))))))))))))))))
abbrev qT7:Type:=(List (Bool)×((List (qT0)×Int)×List (List (UInt8))))
abbrev qT8:Type:=(List (qT0)×(Int×(List (List (UInt8))×(Int×(Int×(Int×(Int×(Int×(List UInt8×(Int×(Int×(List UInt8×(Int×(Int×(List (UInt8)×(Int×(Int×(Int×(Int×(Int×(Bool×(Int×(Bool×Int)))))))))))))))))))))))
abbrev qL9:KdL:=(.cons (.p (.int .i64)) .nil)
abbrev qL10:KdL:=(.cons (.p (.int .i64)) (.cons (.p (.int .i64)) (.cons (.p .bool) (.cons (.p .bool) (.cons (.p (.int .i64)) (.cons (.p (.sl (.pair (.int .i64) (.int .i64)))) (.cons (.p (.int .i64)) (.cons (.p (.sl (.pair .str (.int .i64)))) .nil))))))))
abbrev qT11:Type:=(Int×(Int×(Int×(Int×(Int×(List UInt8×(Int×(Int×(List UInt8×(Int×(Int×(List (UInt8)×(Int×(Int×(Int×(Int×(Int×(Int×(Bool×(Int×(Bool×(Int×(Int×(List (qT0)×List (List (UInt8))))))))))))))))))))))))))
abbrev qY12:Ty:=(.pair (.int .i64) (.pair (.int .i64) (.pair .bool (.pair .bool (.pair (.int .i64) (.pair (.sl (.pair (.int .i64) (.int .i64))) (.pair (.int .i64) (.ref 1 (.pair .str (.int .i64))))))))))
abbrev qT13:Type:=((Int×(Int×(Bool×(Bool×(Int×(List ((Int×Int))×(Int×(List ((List UInt8×Int))⊕Option (Nat×(Nat×Nat)))))))))))
abbrev qT14:Type:=(List (qT0)×(Int×(List (List (UInt8))×(Int×(Int×(Int×(Int×(Int×(List UInt8×(Int×(Int×(List UInt8×(Int×(Int×(List (UInt8)×(Int×(Int×(Int×(Int×(Int×(Bool×(Int×(Bool×(Int×(Int×(Int×(List (qT0)×List (List (UInt8)))))))))))))))))))))))))))))
abbrev qB15:BKd:=(.vars (.cons (.p (.sl .bool)) (.cons (.p (.sl qY2)) (.cons (.p (.int .i64)) (.cons (.p (.sl (.sl .byte))) .nil)))))
abbrev qT16:Type:=(Int×(List (qT0)×(Int×(List (List (UInt8))×(Int×(Int×(Int×(Int×(Int×(List UInt8×(Int×(Int×(List UInt8×(Int×(Int×(List (UInt8)×(Int×(Int×(Int×(Int×(Int×(Int×(Bool×(Int×(Bool×(Int×qT8))))))))))))))))))))))))))
abbrev qB17:BKd:=(.vars (.cons (.p (.int .i64)) (.cons (.p (.int .i64)) (.cons (.p (.int .u8)) (.cons (.p (.int .i64)) (.cons (.p (.int .i64)) (.cons (.p .str) (.cons (.p (.int .i64)) (.cons (.p (.int .i64)) (.cons (.p .str) (.cons (.p (.int .i64)) (.cons (.p (.int .i64)) (.cons (.p (.sl .byte)) .nil)))))))))))))
abbrev qY18:Ty:=(.pair (.sl .bool) (.pair (.pair (.sl qY2) (.int .i64)) (.sl (.sl .byte))))
abbrev qL19:KdL:=(.cons (.p .bool) (.cons (.p .bool) (.cons (.p .bool) (.cons (.p .bool) (.cons (.p (.int .i64)) (.cons (.p .bool) .nil))))))
abbrev qT20:Type:=(Int×(Int×(List (qT1)×(Int×(Int×(Int×(Int×(Int×(List UInt8×(Int×(Int×(List UInt8×(Int×(Int×(Int×(Int×(Int×(Int×(Int×(Bool×(Int×(Bool×(Int×(Int×(Int×(Int×(Int×(Int×(Int×(Int×(List UInt8×(Int×(Int×(List UInt8×(Int×(Int×(Int×(Int×(Int×(Int×(Int×(Bool×(Int×(Bool×(Int×(Int×(Int×List (qT1))))))))))))))))))))))))))))))))))))))))))))))))
abbrev qT21:Type:=(Int×(Int×(Int×(Int×(Int×(Int×(Int×(List UInt8×(Int×(Int×(List UInt8×(Int×(Int×(Int×(Int×(Int×(Int×(Int×(Bool×(Int×(Bool×(Int×(Int×(Int×List (List (qT1))))))))))))))))))))))))))
abbrev qT22:Type:=(List (Bool)×(List (qT0)×(Int×List (List (UInt8)))))
abbrev qB23:BKd:=(.vars (.cons (.p (.int .i64)) (.cons (.p (.int .i64)) (.cons (.p (.int .i64)) (.cons (.p (.int .i64)) (.cons (.p (.int .i64)) (.cons (.p .bool) (.cons (.p (.int .i64)) (.cons (.p (.sl .byte)) (.cons (.p (.sl (.pair .str (.int .i64)))) (.cons (.p .bool) qL9)))))))))))
abbrev qL24:KdL:=(.cons (.p (.int .i64)) (.cons (.p (.int .i64)) (.cons (.p (.int .i64)) (.cons (.p (.int .i64)) (.cons (.p (.int .i64)) (.cons (.p .bool) (.cons (.p (.int .i64)) (.cons (.nilp (.slice none 0 0)) (.cons (.nilp (.slice none 0 0)) (.cons (.p .bool) qL9))))))))))
abbrev qL25:KdL:=(.cons (.nilp (.slice none 0 0)) (.cons (.p (.int .i64)) (.cons (.nilp (.slice none 0 0)) .nil)))
abbrev qT26:Type:=(Int×(Int×(Int×(Int×(Int×(Bool×(Int×(List (UInt8)×(List ((List UInt8×Int))×(Bool×Int))))))))))
abbrev qY27:Ty:=(.pair (.int .i64) (.pair (.int .i64) (.pair (.int .i64) (.pair (.pair (.int .i64) (.int .i64)) (.pair .bool (.pair (.int .i64) (.pair (.sl .byte) (.pair (.sl (.pair .str (.int .i64))) (.pair .bool (.int .i64))))))))))
abbrev qT28:Type:=((Nat×List ((List UInt8×Int))))
abbrev qT29:Type:=(List (((Int×Int)×Nat))×Nat)
abbrev qB30:BKd:=(.vars (.cons (.p (.sl qY2)) qL9))
abbrev qB31:BKd:=(.vars (.cons (.p (.sl qY3)) .nil))
abbrev qY32:Ty:=(.pair (.int .i64) (.int .i64))
abbrev qT33:Type:=(List (qT1)×(List (qT7)×(List (Bool)×(List (qT0)×(Int×(List (List (UInt8))×List (qT7)))))))
abbrev qL34:KdL:=(.cons (.p (.int .i64)) qL9)
abbrev qT35:Type:=(Bool×(Bool×(Bool×(Bool×(Int×Bool)))))
abbrev qL36:KdL:=(.cons (.p (.sl qY2)) (.cons (.p (.int .i64)) (.cons (.p (.sl (.sl .byte))) .nil)))
abbrev qL37:KdL:=(.cons (.own 0 0 0 0) .nil)
abbrev qT38:Type:=(Int×(Int×(Int×(Int×(List qT13×List qT28)))))
abbrev qT39:Type:=(Int×(List (qT0)×Int))
abbrev qL40:KdL:=(.cons (.own 0 100 0 0) (.cons (.p .bool) .nil))
abbrev qB41:BKd:=(.map (.int .i64) (.int .i64))
abbrev qT42:Type:=(Int×(Int×(Int×((Int×Int)×(Bool×(Int×(List (UInt8)×(List ((List UInt8×Int))×(Bool×Int)))))))))
abbrev qY43:Ty:=(.pair (.sl qY2) (.int .i64))
theorem mixed:Go.Proofs.Tryz.prog.follows .mixedOrders=true:=by kernel_rfl
def law28_root(fu:Nat):Option ((Int×Int)):=
 some (1,1)
def law28_root_fa:FnA:=⟨.two (.reg [(0,{ids:=[100]})]) (.leaf),⟨.nil,[]⟩,[⟨(.cons (.agg qL34) .nil),[]⟩],[0]⟩
def law28_root_ft(fu:Nat):FnT:=⟨22,law28_root_fa.i,law28_root_fa.os,fun t=>law28_root fu⟩
theorem fFZ(fu:Nat):∀t,evF Go.Proofs.Tryz.prog [] fu Go.Proofs.Tryz.f22 law28_root_fa t=(law28_root_ft fu).spec t:=fun t=>by kernel_rfl
theorem efZ(fu:Nat):Told Go.Proofs.Tryz.prog (law28_root_ft fu):=afZ acZ mixed Go.Proofs.Tryz.func22 (by kernel_rfl) (by kernel_rfl) (fFZ fu)
def law28_past(fu:Nat)(client:Int)(xid:Int)(op:Int)(begin:Int)(end_:Int)(e:Int)(h:(Int×Int)):Option (qT6):=
 (law28_root fu).bind fun r=>
 bif (decide (end_>0)) then
  some (client,(xid,(op,(r.1,(r.2,([102],(0,(0,([],(0,(0,(client,(xid,(e,(h.1,(h.2,(false,(0,(false,(0,(begin,end_)))))))))))))))))))))
 else
  some (client,(xid,(op,(r.1,(r.2,([102],(0,(0,([],(0,(0,(0,(0,(0,(0,(0,(false,(0,(false,(0,(begin,end_)))))))))))))))))))))
def law28_past_fa:FnA:=⟨.two (.reg [(0,{ids:=[100]}),(1,{ids:=[101]})]) (.two (.reg [(3,{}),(8,{ids:=[102]})]) (.two (.two (.leaf) (.leaf)) (.leaf))),⟨(.cons (.p (.int .i64)) (.cons (.p (.int .i64)) (.cons (.p (.int .u8)) (.cons (.p (.int .i64)) (.cons (.p (.int .i64)) (.cons (.p (.int .i64)) (.cons (.p qY32) .nil))))))),[]⟩,[⟨(.cons (.agg qL5) .nil),[]⟩],[0]⟩
def law28_past_ft(fu:Nat):FnT:=⟨9,law28_past_fa.i,law28_past_fa.os,fun t=>law28_past fu t.1 t.2.1 t.2.2.1 t.2.2.2.1 t.2.2.2.2.1 t.2.2.2.2.2.1 t.2.2.2.2.2.2⟩
theorem fzZ(fu:Nat):∀t,evF Go.Proofs.Tryz.prog [law28_root_ft fu] fu Go.Proofs.Tryz.f9 law28_past_fa t=(law28_past_ft fu).spec t:=fun t=>by kernel_rfl
theorem cmZ(fu:Nat):Told Go.Proofs.Tryz.prog (law28_past_ft fu):=afZ (aaZ (efZ fu) acZ) mixed Go.Proofs.Tryz.func9 (by kernel_rfl) (by kernel_rfl) (fzZ fu)
def csha1(fu:Nat):Option (qT35):=
 some (true,(true,(false,(false,(0,false)))))
def csha1_fa:FnA:=⟨.two (.reg [(0,{ids:=[100]})]) (.leaf),⟨.nil,[]⟩,[⟨(.cons (.agg qL19) .nil),[]⟩],[0]⟩
def csha1_ft(fu:Nat):FnT:=⟨111,csha1_fa.i,csha1_fa.os,fun t=>csha1 fu⟩
theorem lsZ(fu:Nat):∀t,evF Go.Proofs.Tryz.prog [] fu Go.Proofs.Tryz.f111 csha1_fa t=(csha1_ft fu).spec t:=fun t=>by kernel_rfl
theorem iEZ(fu:Nat):Told Go.Proofs.Tryz.prog (csha1_ft fu):=afZ acZ mixed Go.Proofs.Tryz.func111 (by kernel_rfl) (by kernel_rfl) (lsZ fu)
def csha2(fu:Nat):Option (qT35):=
 some (true,(false,(false,(true,(4096,false)))))
def csha2_fa:FnA:=⟨.two (.reg [(0,{ids:=[100]})]) (.leaf),⟨.nil,[]⟩,[⟨(.cons (.agg qL19) .nil),[]⟩],[0]⟩
def csha2_ft(fu:Nat):FnT:=⟨112,csha2_fa.i,csha2_fa.os,fun t=>csha2 fu⟩
theorem kTZ(fu:Nat):∀t,evF Go.Proofs.Tryz.prog [] fu Go.Proofs.Tryz.f112 csha2_fa t=(csha2_ft fu).spec t:=fun t=>by kernel_rfl
theorem jhZ(fu:Nat):Told Go.Proofs.Tryz.prog (csha2_ft fu):=afZ acZ mixed Go.Proofs.Tryz.func112 (by kernel_rfl) (by kernel_rfl) (kTZ fu)
def csha3(fu:Nat):Option (qT35):=
 some (true,(false,(false,(true,(0,true)))))
def csha3_fa:FnA:=⟨.two (.reg [(0,{ids:=[100]})]) (.leaf),⟨.nil,[]⟩,[⟨(.cons (.agg qL19) .nil),[]⟩],[0]⟩
def csha3_ft(fu:Nat):FnT:=⟨113,csha3_fa.i,csha3_fa.os,fun t=>csha3 fu⟩
theorem lkZ(fu:Nat):∀t,evF Go.Proofs.Tryz.prog [] fu Go.Proofs.Tryz.f113 csha3_fa t=(csha3_ft fu).spec t:=fun t=>by kernel_rfl
theorem iBZ(fu:Nat):Told Go.Proofs.Tryz.prog (csha3_ft fu):=afZ acZ mixed Go.Proofs.Tryz.func113 (by kernel_rfl) (by kernel_rfl) (lkZ fu)
def csha4(fu:Nat):Option (qT35):=
 some (true,(false,(false,(false,(2147483648,false)))))
def csha4_fa:FnA:=⟨.two (.reg [(0,{ids:=[100]})]) (.leaf),⟨.nil,[]⟩,[⟨(.cons (.agg qL19) .nil),[]⟩],[0]⟩
def csha4_ft(fu:Nat):FnT:=⟨114,csha4_fa.i,csha4_fa.os,fun t=>csha4 fu⟩
theorem lwZ(fu:Nat):∀t,evF Go.Proofs.Tryz.prog [] fu Go.Proofs.Tryz.f114 csha4_fa t=(csha4_ft fu).spec t:=fun t=>by kernel_rfl
theorem j2Z(fu:Nat):Told Go.Proofs.Tryz.prog (csha4_ft fu):=afZ acZ mixed Go.Proofs.Tryz.func114 (by kernel_rfl) (by kernel_rfl) (lwZ fu)
def csha5(fu:Nat):Option (qT35):=
 some (true,(true,(true,(false,(0,false)))))
def csha5_fa:FnA:=⟨.two (.reg [(0,{ids:=[100]})]) (.leaf),⟨.nil,[]⟩,[⟨(.cons (.agg qL19) .nil),[]⟩],[0]⟩
def csha5_ft(fu:Nat):FnT:=⟨115,csha5_fa.i,csha5_fa.os,fun t=>csha5 fu⟩
theorem lHZ(fu:Nat):∀t,evF Go.Proofs.Tryz.prog [] fu Go.Proofs.Tryz.f115 csha5_fa t=(csha5_ft fu).spec t:=fun t=>by kernel_rfl
theorem jvZ(fu:Nat):Told Go.Proofs.Tryz.prog (csha5_ft fu):=afZ acZ mixed Go.Proofs.Tryz.func115 (by kernel_rfl) (by kernel_rfl) (lHZ fu)
def csha6(fu:Nat):Option (qT35):=
 some (true,(true,(false,(false,(4096,false)))))
def csha6_fa:FnA:=⟨.two (.reg [(0,{ids:=[100]})]) (.leaf),⟨.nil,[]⟩,[⟨(.cons (.agg qL19) .nil),[]⟩],[0]⟩
def csha6_ft(fu:Nat):FnT:=⟨116,csha6_fa.i,csha6_fa.os,fun t=>csha6 fu⟩
theorem lvZ(fu:Nat):∀t,evF Go.Proofs.Tryz.prog [] fu Go.Proofs.Tryz.f116 csha6_fa t=(csha6_ft fu).spec t:=fun t=>by kernel_rfl
theorem jcZ(fu:Nat):Told Go.Proofs.Tryz.prog (csha6_ft fu):=afZ acZ mixed Go.Proofs.Tryz.func116 (by kernel_rfl) (by kernel_rfl) (lvZ fu)
def csha7(fu:Nat):Option (qT35):=
 some (true,(false,(false,(false,(0,false)))))
def csha7_fa:FnA:=⟨.two (.reg [(0,{ids:=[100]})]) (.leaf),⟨.nil,[]⟩,[⟨(.cons (.agg qL19) .nil),[]⟩],[0]⟩
def csha7_ft(fu:Nat):FnT:=⟨117,csha7_fa.i,csha7_fa.os,fun t=>csha7 fu⟩
theorem l3Z(fu:Nat):∀t,evF Go.Proofs.Tryz.prog [] fu Go.Proofs.Tryz.f117 csha7_fa t=(csha7_ft fu).spec t:=fun t=>by kernel_rfl
theorem jbZ(fu:Nat):Told Go.Proofs.Tryz.prog (csha7_ft fu):=afZ acZ mixed Go.Proofs.Tryz.func117 (by kernel_rfl) (by kernel_rfl) (l3Z fu)
def csha8(fu:Nat):Option (qT35):=
 some (false,(false,(false,(false,(0,false)))))
def csha8_fa:FnA:=⟨.two (.reg [(0,{ids:=[100]})]) (.leaf),⟨.nil,[]⟩,[⟨(.cons (.agg qL19) .nil),[]⟩],[0]⟩
def csha8_ft(fu:Nat):FnT:=⟨118,csha8_fa.i,csha8_fa.os,fun t=>csha8 fu⟩
theorem lnZ(fu:Nat):∀t,evF Go.Proofs.Tryz.prog [] fu Go.Proofs.Tryz.f118 csha8_fa t=(csha8_ft fu).spec t:=fun t=>by kernel_rfl
theorem jmZ(fu:Nat):Told Go.Proofs.Tryz.prog (csha8_ft fu):=afZ acZ mixed Go.Proofs.Tryz.func118 (by kernel_rfl) (by kernel_rfl) (lnZ fu)
def csha(fu:Nat)(o:Int):Option ((Bool×(Bool×(Bool×(Bool×(Int×(Bool×Bool))))))):=
 need ((!((UInt8.ofNat 2)==(UInt8.ofNat 1)))&&true)<|
 need ((!((UInt8.ofNat 3)==(UInt8.ofNat 1)))&&((!((UInt8.ofNat 3)==(UInt8.ofNat 2)))&&true))<|
 need ((!((UInt8.ofNat 7)==(UInt8.ofNat 1)))&&((!((UInt8.ofNat 7)==(UInt8.ofNat 2)))&&((!((UInt8.ofNat 7)==(UInt8.ofNat 3)))&&true)))<|
 need ((!((UInt8.ofNat 8)==(UInt8.ofNat 1)))&&((!((UInt8.ofNat 8)==(UInt8.ofNat 2)))&&((!((UInt8.ofNat 8)==(UInt8.ofNat 3)))&&((!((UInt8.ofNat 8)==(UInt8.ofNat 7)))&&true))))<|
 need ((!((UInt8.ofNat 4)==(UInt8.ofNat 1)))&&((!((UInt8.ofNat 4)==(UInt8.ofNat 2)))&&((!((UInt8.ofNat 4)==(UInt8.ofNat 3)))&&((!((UInt8.ofNat 4)==(UInt8.ofNat 7)))&&((!((UInt8.ofNat 4)==(UInt8.ofNat 8)))&&true)))))<|
 need ((!((UInt8.ofNat 5)==(UInt8.ofNat 1)))&&((!((UInt8.ofNat 5)==(UInt8.ofNat 2)))&&((!((UInt8.ofNat 5)==(UInt8.ofNat 3)))&&((!((UInt8.ofNat 5)==(UInt8.ofNat 7)))&&((!((UInt8.ofNat 5)==(UInt8.ofNat 8)))&&((!((UInt8.ofNat 5)==(UInt8.ofNat 4)))&&true))))))<|
 need ((!((UInt8.ofNat 6)==(UInt8.ofNat 1)))&&((!((UInt8.ofNat 6)==(UInt8.ofNat 2)))&&((!((UInt8.ofNat 6)==(UInt8.ofNat 3)))&&((!((UInt8.ofNat 6)==(UInt8.ofNat 7)))&&((!((UInt8.ofNat 6)==(UInt8.ofNat 8)))&&((!((UInt8.ofNat 6)==(UInt8.ofNat 4)))&&((!((UInt8.ofNat 6)==(UInt8.ofNat 5)))&&true)))))))<|
 need ((!((UInt8.ofNat 9)==(UInt8.ofNat 1)))&&((!((UInt8.ofNat 9)==(UInt8.ofNat 2)))&&((!((UInt8.ofNat 9)==(UInt8.ofNat 3)))&&((!((UInt8.ofNat 9)==(UInt8.ofNat 7)))&&((!((UInt8.ofNat 9)==(UInt8.ofNat 8)))&&((!((UInt8.ofNat 9)==(UInt8.ofNat 4)))&&((!((UInt8.ofNat 9)==(UInt8.ofNat 5)))&&((!((UInt8.ofNat 9)==(UInt8.ofNat 6)))&&true))))))))<|
 need ((!((UInt8.ofNat 10)==(UInt8.ofNat 1)))&&((!((UInt8.ofNat 10)==(UInt8.ofNat 2)))&&((!((UInt8.ofNat 10)==(UInt8.ofNat 3)))&&((!((UInt8.ofNat 10)==(UInt8.ofNat 7)))&&((!((UInt8.ofNat 10)==(UInt8.ofNat 8)))&&((!((UInt8.ofNat 10)==(UInt8.ofNat 4)))&&((!((UInt8.ofNat 10)==(UInt8.ofNat 5)))&&((!((UInt8.ofNat 10)==(UInt8.ofNat 6)))&&((!((UInt8.ofNat 10)==(UInt8.ofNat 9)))&&true)))))))))<|
 need ((!((UInt8.ofNat 11)==(UInt8.ofNat 1)))&&((!((UInt8.ofNat 11)==(UInt8.ofNat 2)))&&((!((UInt8.ofNat 11)==(UInt8.ofNat 3)))&&((!((UInt8.ofNat 11)==(UInt8.ofNat 7)))&&((!((UInt8.ofNat 11)==(UInt8.ofNat 8)))&&((!((UInt8.ofNat 11)==(UInt8.ofNat 4)))&&((!((UInt8.ofNat 11)==(UInt8.ofNat 5)))&&((!((UInt8.ofNat 11)==(UInt8.ofNat 6)))&&((!((UInt8.ofNat 11)==(UInt8.ofNat 9)))&&((!((UInt8.ofNat 11)==(UInt8.ofNat 10)))&&true))))))))))<|
 need ((!((UInt8.ofNat 12)==(UInt8.ofNat 1)))&&((!((UInt8.ofNat 12)==(UInt8.ofNat 2)))&&((!((UInt8.ofNat 12)==(UInt8.ofNat 3)))&&((!((UInt8.ofNat 12)==(UInt8.ofNat 7)))&&((!((UInt8.ofNat 12)==(UInt8.ofNat 8)))&&((!((UInt8.ofNat 12)==(UInt8.ofNat 4)))&&((!((UInt8.ofNat 12)==(UInt8.ofNat 5)))&&((!((UInt8.ofNat 12)==(UInt8.ofNat 6)))&&((!((UInt8.ofNat 12)==(UInt8.ofNat 9)))&&((!((UInt8.ofNat 12)==(UInt8.ofNat 10)))&&((!((UInt8.ofNat 12)==(UInt8.ofNat 11)))&&true)))))))))))<|
 (byte? o).bind fun c=>
 bif (c==(UInt8.ofNat 1)) then
  (csha1 fu).bind fun r=>
  some (r.1,(r.2.1,(r.2.2.1,(r.2.2.2.1,(r.2.2.2.2.1,(r.2.2.2.2.2,true))))))
 else
  bif (c==(UInt8.ofNat 2)) then
   (csha1 fu).bind fun r1=>
   some (r1.1,(r1.2.1,(r1.2.2.1,(r1.2.2.2.1,(r1.2.2.2.2.1,(r1.2.2.2.2.2,true))))))
  else
   bif (c==(UInt8.ofNat 3)) then
    (csha1 fu).bind fun r2=>
    some (r2.1,(r2.2.1,(r2.2.2.1,(r2.2.2.2.1,(r2.2.2.2.2.1,(r2.2.2.2.2.2,true))))))
   else
    bif (c==(UInt8.ofNat 7)) then
     (csha1 fu).bind fun r3=>
     some (r3.1,(r3.2.1,(r3.2.2.1,(r3.2.2.2.1,(r3.2.2.2.2.1,(r3.2.2.2.2.2,true))))))
    else
     bif (c==(UInt8.ofNat 8)) then
      (csha1 fu).bind fun r4=>
      some (r4.1,(r4.2.1,(r4.2.2.1,(r4.2.2.2.1,(r4.2.2.2.2.1,(r4.2.2.2.2.2,true))))))
     else
      bif (c==(UInt8.ofNat 4)) then
       (csha2 fu).bind fun r5=>
       some (r5.1,(r5.2.1,(r5.2.2.1,(r5.2.2.2.1,(r5.2.2.2.2.1,(r5.2.2.2.2.2,true))))))
      else
       bif (c==(UInt8.ofNat 5)) then
        (csha3 fu).bind fun r6=>
        some (r6.1,(r6.2.1,(r6.2.2.1,(r6.2.2.2.1,(r6.2.2.2.2.1,(r6.2.2.2.2.2,true))))))
       else
        bif (c==(UInt8.ofNat 6)) then
         (csha4 fu).bind fun r7=>
         some (r7.1,(r7.2.1,(r7.2.2.1,(r7.2.2.2.1,(r7.2.2.2.2.1,(r7.2.2.2.2.2,true))))))
        else
         bif (c==(UInt8.ofNat 9)) then
          (csha5 fu).bind fun r8=>
          some (r8.1,(r8.2.1,(r8.2.2.1,(r8.2.2.2.1,(r8.2.2.2.2.1,(r8.2.2.2.2.2,true))))))
         else
          bif (c==(UInt8.ofNat 10)) then
           (csha6 fu).bind fun r9=>
           some (r9.1,(r9.2.1,(r9.2.2.1,(r9.2.2.2.1,(r9.2.2.2.2.1,(r9.2.2.2.2.2,true))))))
          else
           bif (c==(UInt8.ofNat 11)) then
            (csha7 fu).bind fun r10=>
            some (r10.1,(r10.2.1,(r10.2.2.1,(r10.2.2.2.1,(r10.2.2.2.2.1,(r10.2.2.2.2.2,true))))))
           else
            bif (c==(UInt8.ofNat 12)) then
             (csha8 fu).bind fun r11=>
             some (r11.1,(r11.2.1,(r11.2.2.1,(r11.2.2.2.1,(r11.2.2.2.2.1,(r11.2.2.2.2.2,true))))))
            else
             some (false,(false,(false,(false,(0,(false,false))))))
def csha_fa:FnA:=⟨.two (.reg [(0,{ids:=[100]})]) (.two (.leaf) (.two (.reg [(0,{ids:=[101]})]) (.two (.leaf) (.sel (.slot 6 (.fn 111 .nil .nil)) (.two (.two (.leaf) (.leaf)) (.two (.reg [(1,{})]) (.leaf))) (.sel (.slot 6 (.fn 112 .nil .nil)) (.two (.two (.leaf) (.leaf)) (.two (.reg [(1,{fn:=1})]) (.leaf))) (.sel (.slot 6 (.fn 113 .nil .nil)) (.two (.two (.leaf) (.leaf)) (.two (.reg [(1,{fn:=2})]) (.leaf))) (.sel (.slot 6 (.fn 114 .nil .nil)) (.two (.two (.leaf) (.leaf)) (.two (.reg [(1,{fn:=3})]) (.leaf))) (.sel (.slot 6 (.fn 115 .nil .nil)) (.two (.two (.leaf) (.leaf)) (.two (.reg [(1,{fn:=4})]) (.leaf))) (.sel (.slot 6 (.fn 116 .nil .nil)) (.two (.two (.leaf) (.leaf)) (.two (.reg [(1,{fn:=5})]) (.leaf))) (.sel (.slot 6 (.fn 117 .nil .nil)) (.two (.two (.leaf) (.leaf)) (.two (.reg [(1,{fn:=6})]) (.leaf))) (.two (.two (.leaf) (.two (.leaf) (.leaf))) (.two (.reg [(1,{fn:=7})]) (.leaf))))))))))))),⟨(.cons (.p (.int .u8)) .nil),[]⟩,[⟨(.cons (.agg qL19) (.cons (.p .bool) .nil)),[]⟩],[0,0]⟩
def csha_ft(fu:Nat):FnT:=⟨82,csha_fa.i,csha_fa.os,fun t=>csha fu t⟩
theorem nkZ(fu:Nat):∀t,evF Go.Proofs.Tryz.prog [csha1_ft fu,csha2_ft fu,csha3_ft fu,csha4_ft fu,csha5_ft fu,csha6_ft fu,csha7_ft fu,csha8_ft fu] fu Go.Proofs.Tryz.f82 csha_fa t=(csha_ft fu).spec t:=fun t=>by kernel_rfl
theorem jBZ(fu:Nat):Told Go.Proofs.Tryz.prog (csha_ft fu):=afZ (aaZ (iEZ fu) (aaZ (jhZ fu) (aaZ (iBZ fu) (aaZ (j2Z fu) (aaZ (jvZ fu) (aaZ (jcZ fu) (aaZ (jbZ fu) (aaZ (jmZ fu) acZ)))))))) mixed Go.Proofs.Tryz.func82 (by kernel_rfl) (by kernel_rfl) (nkZ fu)
def cwho(fu:Nat)(client:Int)(xid:Int):Option (Bool):=
 bif (decide (client>=0)) then
  bif (decide (client<16)) then
   bif (decide (xid>=1)) then
    some (decide (xid<=1099511627776))
   else
    some false
  else
   some false
 else
  some false
def cwho_fa:FnA:=⟨.two (.leaf) (.leaf),⟨qL34,[]⟩,[⟨(.cons (.p .bool) .nil),[]⟩],[0]⟩
def cwho_ft(fu:Nat):FnT:=⟨83,cwho_fa.i,cwho_fa.os,fun t=>cwho fu t.1 t.2⟩
theorem miZ(fu:Nat):∀t,evF Go.Proofs.Tryz.prog [] fu Go.Proofs.Tryz.f83 cwho_fa t=(cwho_ft fu).spec t:=fun t=>by kernel_rfl
theorem giZ(fu:Nat):Told Go.Proofs.Tryz.prog (cwho_ft fu):=afZ acZ mixed Go.Proofs.Tryz.func83 (by kernel_rfl) (by kernel_rfl) (miZ fu)
def hRig(fu:Nat)(h:(Int×Int)):Option (Bool):=
 bif (decide (h.1>=1)) then
  bif (decide (h.1<=500)) then
   bif (decide (h.2>=1)) then
    some (decide (h.2<=1099511627776))
   else
    some false
  else
   some false
 else
  some false
def hRig_fa:FnA:=⟨.two (.reg [(0,{ids:=[100]})]) (.leaf),⟨(.cons (.p qY32) .nil),[]⟩,[⟨(.cons (.p .bool) .nil),[]⟩],[0]⟩
def hRig_ft(fu:Nat):FnT:=⟨85,hRig_fa.i,hRig_fa.os,fun t=>hRig fu t⟩
theorem meZ(fu:Nat):∀t,evF Go.Proofs.Tryz.prog [] fu Go.Proofs.Tryz.f85 hRig_fa t=(hRig_ft fu).spec t:=fun t=>by kernel_rfl
theorem fVZ(fu:Nat):Told Go.Proofs.Tryz.prog (hRig_ft fu):=afZ acZ mixed Go.Proofs.Tryz.func85 (by kernel_rfl) (by kernel_rfl) (meZ fu)
def cRigCal1(fu:Nat)(is_:Bool)(h:(Int×Int)):Option (Bool):=
 bif is_ then
  (hRig fu (h.1,h.2)).bind fun r=>
  bif r then
   some true
  else
   bif (!is_) then
    some ((h.1==0)&&(h.2==0))
   else
    some false
 else
  bif (!is_) then
   some ((h.1==0)&&(h.2==0))
  else
   some false
def cRigCal1_fa:FnA:=⟨.two (.reg [(0,{ids:=[100]})]) (.two (.reg [(3,{})]) (.leaf)),⟨(.cons (.p .bool) (.cons (.p qY32) .nil)),[]⟩,[⟨(.cons (.p .bool) .nil),[]⟩],[0]⟩
def cRigCal1_ft(fu:Nat):FnT:=⟨84,cRigCal1_fa.i,cRigCal1_fa.os,fun t=>cRigCal1 fu t.1 t.2⟩
theorem hwZ(fu:Nat):∀t,evF Go.Proofs.Tryz.prog [hRig_ft fu] fu Go.Proofs.Tryz.f84 cRigCal1_fa t=(cRigCal1_ft fu).spec t:=fun t=>by kernel_rfl
theorem fgZ(fu:Nat):Told Go.Proofs.Tryz.prog (cRigCal1_ft fu):=afZ (aaZ (fVZ fu) acZ) mixed Go.Proofs.Tryz.func84 (by kernel_rfl) (by kernel_rfl) (hwZ fu)
def cRigCal2(fu:Nat)(is_:Bool)(l:List UInt8):Option (Bool):=
 bif (l==[]) then
  some true
 else
  bif is_ then
   some (decide (((l.length:Nat):Int)<=100))
  else
   some false
def cRigCal2_fa:FnA:=⟨.two (.leaf) (.leaf),⟨(.cons (.p .bool) (.cons (.p .str) .nil)),[]⟩,[⟨(.cons (.p .bool) .nil),[]⟩],[0]⟩
def cRigCal2_ft(fu:Nat):FnT:=⟨86,cRigCal2_fa.i,cRigCal2_fa.os,fun t=>cRigCal2 fu t.1 t.2⟩
theorem hiZ(fu:Nat):∀t,evF Go.Proofs.Tryz.prog [] fu Go.Proofs.Tryz.f86 cRigCal2_fa t=(cRigCal2_ft fu).spec t:=fun t=>by kernel_rfl
theorem f0Z(fu:Nat):Told Go.Proofs.Tryz.prog (cRigCal2_ft fu):=afZ acZ mixed Go.Proofs.Tryz.func86 (by kernel_rfl) (by kernel_rfl) (hiZ fu)
def cRigCal(fu:Nat)(c:(Int×(Int×(UInt8×((Int×Int)×(List UInt8×((Int×Int)×(List UInt8×(Int×(Int×List (UInt8))))))))))):Option (Bool):=
 (csha fu ((c.2.2.1.toNat:Nat):Int)).bind fun r=>
 Option.bind (α:=((Bool×(Int×(Int×(Int×(Int×(Int×(List UInt8×(Int×(Int×(List UInt8×(Int×(Int×(List (UInt8)×qT35))))))))))))))) (
  bif (!r.2.2.2.2.2.2) then
   some (true,(c.1,(c.2.1,(((c.2.2.1.toNat:Nat):Int),(c.2.2.2.1.1,(c.2.2.2.1.2,(c.2.2.2.2.1,(c.2.2.2.2.2.1.1,(c.2.2.2.2.2.1.2,(c.2.2.2.2.2.2.1,(c.2.2.2.2.2.2.2.1,(c.2.2.2.2.2.2.2.2.1,(c.2.2.2.2.2.2.2.2.2,(r.1,(r.2.1,(r.2.2.1,(r.2.2.2.1,(r.2.2.2.2.1,r.2.2.2.2.2.1))))))))))))))))))
  else
   (cwho fu c.1 c.2.1).bind fun r1=>
   some ((!r1),(c.1,(c.2.1,(((c.2.2.1.toNat:Nat):Int),(c.2.2.2.1.1,(c.2.2.2.1.2,(c.2.2.2.2.1,(c.2.2.2.2.2.1.1,(c.2.2.2.2.2.1.2,(c.2.2.2.2.2.2.1,(c.2.2.2.2.2.2.2.1,(c.2.2.2.2.2.2.2.2.1,(c.2.2.2.2.2.2.2.2.2,(r.1,(r.2.1,(r.2.2.1,(r.2.2.2.1,(r.2.2.2.2.1,r.2.2.2.2.2.1))))))))))))))))))) fun o=>
 bif o.1 then
  some false
 else
  Option.bind (α:=((Bool×(Int×(Int×(Int×(Int×(Int×(List UInt8×(Int×(Int×(List UInt8×(Int×(Int×(List (UInt8)×qT35))))))))))))))) (
   (cRigCal1 fu o.2.2.2.2.2.2.2.2.2.2.2.2.2.1 (o.2.2.2.2.1,o.2.2.2.2.2.1)).bind fun r2=>
   bif (!r2) then
    some (true,(o.2.1,(o.2.2.1,(o.2.2.2.1,(o.2.2.2.2.1,(o.2.2.2.2.2.1,(o.2.2.2.2.2.2.1,(o.2.2.2.2.2.2.2.1,(o.2.2.2.2.2.2.2.2.1,(o.2.2.2.2.2.2.2.2.2.1,(o.2.2.2.2.2.2.2.2.2.2.1,(o.2.2.2.2.2.2.2.2.2.2.2.1,(o.2.2.2.2.2.2.2.2.2.2.2.2.1,(o.2.2.2.2.2.2.2.2.2.2.2.2.2.1,(o.2.2.2.2.2.2.2.2.2.2.2.2.2.2.1,(o.2.2.2.2.2.2.2.2.2.2.2.2.2.2.2.1,(o.2.2.2.2.2.2.2.2.2.2.2.2.2.2.2.2.1,(o.2.2.2.2.2.2.2.2.2.2.2.2.2.2.2.2.2.1,o.2.2.2.2.2.2.2.2.2.2.2.2.2.2.2.2.2.2))))))))))))))))))
   else
    (cRigCal1 fu o.2.2.2.2.2.2.2.2.2.2.2.2.2.2.2.1 (o.2.2.2.2.2.2.2.1,o.2.2.2.2.2.2.2.2.1)).bind fun r3=>
    bif (!r3) then
     some (true,(o.2.1,(o.2.2.1,(o.2.2.2.1,(o.2.2.2.2.1,(o.2.2.2.2.2.1,(o.2.2.2.2.2.2.1,(o.2.2.2.2.2.2.2.1,(o.2.2.2.2.2.2.2.2.1,(o.2.2.2.2.2.2.2.2.2.1,(o.2.2.2.2.2.2.2.2.2.2.1,(o.2.2.2.2.2.2.2.2.2.2.2.1,(o.2.2.2.2.2.2.2.2.2.2.2.2.1,(o.2.2.2.2.2.2.2.2.2.2.2.2.2.1,(o.2.2.2.2.2.2.2.2.2.2.2.2.2.2.1,(o.2.2.2.2.2.2.2.2.2.2.2.2.2.2.2.1,(o.2.2.2.2.2.2.2.2.2.2.2.2.2.2.2.2.1,(o.2.2.2.2.2.2.2.2.2.2.2.2.2.2.2.2.2.1,o.2.2.2.2.2.2.2.2.2.2.2.2.2.2.2.2.2.2))))))))))))))))))
    else
     (cRigCal2 fu o.2.2.2.2.2.2.2.2.2.2.2.2.2.2.1 o.2.2.2.2.2.2.1).bind fun r4=>
     bif (!r4) then
      some (true,(o.2.1,(o.2.2.1,(o.2.2.2.1,(o.2.2.2.2.1,(o.2.2.2.2.2.1,(o.2.2.2.2.2.2.1,(o.2.2.2.2.2.2.2.1,(o.2.2.2.2.2.2.2.2.1,(o.2.2.2.2.2.2.2.2.2.1,(o.2.2.2.2.2.2.2.2.2.2.1,(o.2.2.2.2.2.2.2.2.2.2.2.1,(o.2.2.2.2.2.2.2.2.2.2.2.2.1,(o.2.2.2.2.2.2.2.2.2.2.2.2.2.1,(o.2.2.2.2.2.2.2.2.2.2.2.2.2.2.1,(o.2.2.2.2.2.2.2.2.2.2.2.2.2.2.2.1,(o.2.2.2.2.2.2.2.2.2.2.2.2.2.2.2.2.1,(o.2.2.2.2.2.2.2.2.2.2.2.2.2.2.2.2.2.1,o.2.2.2.2.2.2.2.2.2.2.2.2.2.2.2.2.2.2))))))))))))))))))
     else
      (cRigCal2 fu o.2.2.2.2.2.2.2.2.2.2.2.2.2.2.2.1 o.2.2.2.2.2.2.2.2.2.1).bind fun r5=>
      some ((!r5),(o.2.1,(o.2.2.1,(o.2.2.2.1,(o.2.2.2.2.1,(o.2.2.2.2.2.1,(o.2.2.2.2.2.2.1,(o.2.2.2.2.2.2.2.1,(o.2.2.2.2.2.2.2.2.1,(o.2.2.2.2.2.2.2.2.2.1,(o.2.2.2.2.2.2.2.2.2.2.1,(o.2.2.2.2.2.2.2.2.2.2.2.1,(o.2.2.2.2.2.2.2.2.2.2.2.2.1,(o.2.2.2.2.2.2.2.2.2.2.2.2.2.1,(o.2.2.2.2.2.2.2.2.2.2.2.2.2.2.1,(o.2.2.2.2.2.2.2.2.2.2.2.2.2.2.2.1,(o.2.2.2.2.2.2.2.2.2.2.2.2.2.2.2.2.1,(o.2.2.2.2.2.2.2.2.2.2.2.2.2.2.2.2.2.1,o.2.2.2.2.2.2.2.2.2.2.2.2.2.2.2.2.2.2))))))))))))))))))) fun o1=>
  bif o1.1 then
   some false
  else
   Option.bind (α:=((Bool×(Int×(Int×(Int×(Int×(Int×(List UInt8×(Int×(Int×(List UInt8×(Int×(Int×(List (UInt8)×qT35))))))))))))))) (
    bif (decide (o1.2.2.2.2.2.2.2.2.2.2.1<0)) then
     some (true,(o1.2.1,(o1.2.2.1,(o1.2.2.2.1,(o1.2.2.2.2.1,(o1.2.2.2.2.2.1,(o1.2.2.2.2.2.2.1,(o1.2.2.2.2.2.2.2.1,(o1.2.2.2.2.2.2.2.2.1,(o1.2.2.2.2.2.2.2.2.2.1,(o1.2.2.2.2.2.2.2.2.2.2.1,(o1.2.2.2.2.2.2.2.2.2.2.2.1,(o1.2.2.2.2.2.2.2.2.2.2.2.2.1,(o1.2.2.2.2.2.2.2.2.2.2.2.2.2.1,(o1.2.2.2.2.2.2.2.2.2.2.2.2.2.2.1,(o1.2.2.2.2.2.2.2.2.2.2.2.2.2.2.2.1,(o1.2.2.2.2.2.2.2.2.2.2.2.2.2.2.2.2.1,(o1.2.2.2.2.2.2.2.2.2.2.2.2.2.2.2.2.2.1,o1.2.2.2.2.2.2.2.2.2.2.2.2.2.2.2.2.2.2))))))))))))))))))
    else
     bif (decide (o1.2.2.2.2.2.2.2.2.2.2.1>2147483648)) then
      some (true,(o1.2.1,(o1.2.2.1,(o1.2.2.2.1,(o1.2.2.2.2.1,(o1.2.2.2.2.2.1,(o1.2.2.2.2.2.2.1,(o1.2.2.2.2.2.2.2.1,(o1.2.2.2.2.2.2.2.2.1,(o1.2.2.2.2.2.2.2.2.2.1,(o1.2.2.2.2.2.2.2.2.2.2.1,(o1.2.2.2.2.2.2.2.2.2.2.2.1,(o1.2.2.2.2.2.2.2.2.2.2.2.2.1,(o1.2.2.2.2.2.2.2.2.2.2.2.2.2.1,(o1.2.2.2.2.2.2.2.2.2.2.2.2.2.2.1,(o1.2.2.2.2.2.2.2.2.2.2.2.2.2.2.2.1,(o1.2.2.2.2.2.2.2.2.2.2.2.2.2.2.2.2.1,(o1.2.2.2.2.2.2.2.2.2.2.2.2.2.2.2.2.2.1,o1.2.2.2.2.2.2.2.2.2.2.2.2.2.2.2.2.2.2))))))))))))))))))
     else
      bif (!o1.2.2.2.2.2.2.2.2.2.2.2.2.2.2.2.2.1) then
       bif (!(o1.2.2.2.2.2.2.2.2.2.2.1==0)) then
        some (true,(o1.2.1,(o1.2.2.1,(o1.2.2.2.1,(o1.2.2.2.2.1,(o1.2.2.2.2.2.1,(o1.2.2.2.2.2.2.1,(o1.2.2.2.2.2.2.2.1,(o1.2.2.2.2.2.2.2.2.1,(o1.2.2.2.2.2.2.2.2.2.1,(o1.2.2.2.2.2.2.2.2.2.2.1,(o1.2.2.2.2.2.2.2.2.2.2.2.1,(o1.2.2.2.2.2.2.2.2.2.2.2.2.1,(o1.2.2.2.2.2.2.2.2.2.2.2.2.2.1,(o1.2.2.2.2.2.2.2.2.2.2.2.2.2.2.1,(o1.2.2.2.2.2.2.2.2.2.2.2.2.2.2.2.1,(o1.2.2.2.2.2.2.2.2.2.2.2.2.2.2.2.2.1,(o1.2.2.2.2.2.2.2.2.2.2.2.2.2.2.2.2.2.1,o1.2.2.2.2.2.2.2.2.2.2.2.2.2.2.2.2.2.2))))))))))))))))))
       else
        bif (decide (o1.2.2.2.2.2.2.2.2.2.2.2.1<0)) then
         some (true,(o1.2.1,(o1.2.2.1,(o1.2.2.2.1,(o1.2.2.2.2.1,(o1.2.2.2.2.2.1,(o1.2.2.2.2.2.2.1,(o1.2.2.2.2.2.2.2.1,(o1.2.2.2.2.2.2.2.2.1,(o1.2.2.2.2.2.2.2.2.2.1,(o1.2.2.2.2.2.2.2.2.2.2.1,(o1.2.2.2.2.2.2.2.2.2.2.2.1,(o1.2.2.2.2.2.2.2.2.2.2.2.2.1,(o1.2.2.2.2.2.2.2.2.2.2.2.2.2.1,(o1.2.2.2.2.2.2.2.2.2.2.2.2.2.2.1,(o1.2.2.2.2.2.2.2.2.2.2.2.2.2.2.2.1,(o1.2.2.2.2.2.2.2.2.2.2.2.2.2.2.2.2.1,(o1.2.2.2.2.2.2.2.2.2.2.2.2.2.2.2.2.2.1,o1.2.2.2.2.2.2.2.2.2.2.2.2.2.2.2.2.2.2))))))))))))))))))
        else
         some ((decide (o1.2.2.2.2.2.2.2.2.2.2.2.1>o1.2.2.2.2.2.2.2.2.2.2.2.2.2.2.2.2.2.1)),(o1.2.1,(o1.2.2.1,(o1.2.2.2.1,(o1.2.2.2.2.1,(o1.2.2.2.2.2.1,(o1.2.2.2.2.2.2.1,(o1.2.2.2.2.2.2.2.1,(o1.2.2.2.2.2.2.2.2.1,(o1.2.2.2.2.2.2.2.2.2.1,(o1.2.2.2.2.2.2.2.2.2.2.1,(o1.2.2.2.2.2.2.2.2.2.2.2.1,(o1.2.2.2.2.2.2.2.2.2.2.2.2.1,(o1.2.2.2.2.2.2.2.2.2.2.2.2.2.1,(o1.2.2.2.2.2.2.2.2.2.2.2.2.2.2.1,(o1.2.2.2.2.2.2.2.2.2.2.2.2.2.2.2.1,(o1.2.2.2.2.2.2.2.2.2.2.2.2.2.2.2.2.1,(o1.2.2.2.2.2.2.2.2.2.2.2.2.2.2.2.2.2.1,o1.2.2.2.2.2.2.2.2.2.2.2.2.2.2.2.2.2.2))))))))))))))))))
      else
       bif (decide (o1.2.2.2.2.2.2.2.2.2.2.2.1<0)) then
        some (true,(o1.2.1,(o1.2.2.1,(o1.2.2.2.1,(o1.2.2.2.2.1,(o1.2.2.2.2.2.1,(o1.2.2.2.2.2.2.1,(o1.2.2.2.2.2.2.2.1,(o1.2.2.2.2.2.2.2.2.1,(o1.2.2.2.2.2.2.2.2.2.1,(o1.2.2.2.2.2.2.2.2.2.2.1,(o1.2.2.2.2.2.2.2.2.2.2.2.1,(o1.2.2.2.2.2.2.2.2.2.2.2.2.1,(o1.2.2.2.2.2.2.2.2.2.2.2.2.2.1,(o1.2.2.2.2.2.2.2.2.2.2.2.2.2.2.1,(o1.2.2.2.2.2.2.2.2.2.2.2.2.2.2.2.1,(o1.2.2.2.2.2.2.2.2.2.2.2.2.2.2.2.2.1,(o1.2.2.2.2.2.2.2.2.2.2.2.2.2.2.2.2.2.1,o1.2.2.2.2.2.2.2.2.2.2.2.2.2.2.2.2.2.2))))))))))))))))))
       else
        some ((decide (o1.2.2.2.2.2.2.2.2.2.2.2.1>o1.2.2.2.2.2.2.2.2.2.2.2.2.2.2.2.2.2.1)),(o1.2.1,(o1.2.2.1,(o1.2.2.2.1,(o1.2.2.2.2.1,(o1.2.2.2.2.2.1,(o1.2.2.2.2.2.2.1,(o1.2.2.2.2.2.2.2.1,(o1.2.2.2.2.2.2.2.2.1,(o1.2.2.2.2.2.2.2.2.2.1,(o1.2.2.2.2.2.2.2.2.2.2.1,(o1.2.2.2.2.2.2.2.2.2.2.2.1,(o1.2.2.2.2.2.2.2.2.2.2.2.2.1,(o1.2.2.2.2.2.2.2.2.2.2.2.2.2.1,(o1.2.2.2.2.2.2.2.2.2.2.2.2.2.2.1,(o1.2.2.2.2.2.2.2.2.2.2.2.2.2.2.2.1,(o1.2.2.2.2.2.2.2.2.2.2.2.2.2.2.2.2.1,(o1.2.2.2.2.2.2.2.2.2.2.2.2.2.2.2.2.2.1,o1.2.2.2.2.2.2.2.2.2.2.2.2.2.2.2.2.2.2))))))))))))))))))) fun o2=>
   bif o2.1 then
    some false
   else
    bif (((o2.2.2.2.2.2.2.2.2.2.2.2.2.1.length:Nat):Int)==0) then
     some true
    else
     bif o2.2.2.2.2.2.2.2.2.2.2.2.2.2.2.2.2.2.2 then
      some (decide (((o2.2.2.2.2.2.2.2.2.2.2.2.2.1.length:Nat):Int)<=4096))
     else
      some false
def cRigCal_fa:FnA:=⟨.two (.reg [(0,{ids:=[100]})]) (.two (.reg [(2,{}),(6,{ids:=[101]})]) (.two (.two (.join ⟨[1,3,22],⟨(.cons (.own 0 100 0 0) (.cons (.own 0 101 0 0) (.cons (.p .bool) .nil))),[(100,false,qB17),(101,false,(.vars qL19))]⟩⟩ false [] (.reg [(7,{fn:=1})])) (.two (.leaf) (.leaf))) (.two (.leaf) (.two (.leaf) (.two (.two (.join ⟨[1,3,56],⟨(.cons (.own 0 100 0 0) (.cons (.own 0 101 0 0) (.cons (.p .bool) .nil))),[(100,false,qB17),(101,false,(.vars qL19))]⟩⟩ false [] (.reg [(5,{fn:=2}),(13,{fn:=2}),(22,{fn:=3}),(31,{fn:=3})])) (.two (.leaf) (.leaf))) (.two (.two (.join ⟨[1,3,86],⟨(.cons (.own 0 100 0 0) (.cons (.own 0 101 0 0) (.cons (.p .bool) .nil))),[(100,false,qB17),(101,false,(.vars qL19))]⟩⟩ false [] (.leaf)) (.two (.leaf) (.leaf))) (.leaf))))))),⟨(.cons (.p (.pair (.int .i64) (.pair (.int .i64) (.pair .byte (.pair qY32 (.pair .str (.pair qY32 (.pair .str (.pair (.int .i64) (.pair (.int .i64) (.sl .byte))))))))))) .nil),[]⟩,[⟨(.cons (.p .bool) .nil),[]⟩],[0]⟩
def cRigCal_ft(fu:Nat):FnT:=⟨43,cRigCal_fa.i,cRigCal_fa.os,fun t=>cRigCal fu t⟩
theorem iWZ(fu:Nat):∀t,evF Go.Proofs.Tryz.prog [csha_ft fu,cwho_ft fu,cRigCal1_ft fu,cRigCal2_ft fu] fu Go.Proofs.Tryz.f43 cRigCal_fa t=(cRigCal_ft fu).spec t:=fun t=>by kernel_rfl
theorem dtZ(fu:Nat):Told Go.Proofs.Tryz.prog (cRigCal_ft fu):=afZ (aaZ (jBZ fu) (aaZ (giZ fu) (aaZ (fgZ fu) (aaZ (f0Z fu) acZ)))) mixed Go.Proofs.Tryz.func43 (by kernel_rfl) (by kernel_rfl) (iWZ fu)
def lnot(fu:Nat)(r:qT42):Option (Bool):=
 bif (r.1==0) then
  bif (r.2.1==0) then
   bif (r.2.2.1==0) then
    bif ((r.2.2.2.1.1==0)&&(r.2.2.2.1.2==0)) then
     bif (!r.2.2.2.2.1) then
      bif (r.2.2.2.2.2.1==0) then
       bif (((r.2.2.2.2.2.2.1.length:Nat):Int)==0) then
        bif (((r.2.2.2.2.2.2.2.1.length:Nat):Int)==0) then
         bif (!r.2.2.2.2.2.2.2.2.1) then
          some (r.2.2.2.2.2.2.2.2.2==0)
         else
          some false
        else
         some false
       else
        some false
      else
       some false
     else
      some false
    else
     some false
   else
    some false
  else
   some false
 else
  some false
def lnot_fa:FnA:=⟨.two (.reg [(0,{ids:=[100]})]) (.leaf),⟨(.cons (.p qY27) .nil),[]⟩,[⟨(.cons (.p .bool) .nil),[]⟩],[0]⟩
def lnot_ft(fu:Nat):FnT:=⟨44,lnot_fa.i,lnot_fa.os,fun t=>lnot fu t⟩
theorem mHZ(fu:Nat):∀t,evF Go.Proofs.Tryz.prog [] fu Go.Proofs.Tryz.f44 lnot_fa t=(lnot_ft fu).spec t:=fun t=>by kernel_rfl
theorem k2Z(fu:Nat):Told Go.Proofs.Tryz.prog (lnot_ft fu):=afZ acZ mixed Go.Proofs.Tryz.func44 (by kernel_rfl) (by kernel_rfl) (mHZ fu)
def cRigRep_l0(fu:Nat)(o2:(Bool×qT26))(x:Int)(h:Int)(h1:Int)(h2:Int)(h3:Int)(h4:Int)(h5:Bool)(h6:Int)(h7:List (UInt8))(h8:List ((List UInt8×Int)))(h9:Bool)(h10:Int):Option ((Int×qT26)⊕(qT26⊕Bool)):=
 bif (decide (x<((o2.2.2.2.2.2.2.2.2.2.1.length:Nat):Int))) then
  (idx? x o2.2.2.2.2.2.2.2.2.2.1.length).bind fun q=>
  (o2.2.2.2.2.2.2.2.2.2.1)[q]?.bind fun r3=>
  Option.bind (α:=((Bool×qT26))) (
   bif (decide (((r3.1.length:Nat):Int)<1)) then
    some (true,(h,(h1,(h2,(h3,(h4,(h5,(h6,(h7,(h8,(h9,h10)))))))))))
   else
    bif (decide (((r3.1.length:Nat):Int)>100)) then
     some (true,(h,(h1,(h2,(h3,(h4,(h5,(h6,(h7,(h8,(h9,h10)))))))))))
    else
     bif (decide (r3.2<1)) then
      some (true,(h,(h1,(h2,(h3,(h4,(h5,(h6,(h7,(h8,(h9,h10)))))))))))
     else
      some ((decide (r3.2>500)),(h,(h1,(h2,(h3,(h4,(h5,(h6,(h7,(h8,(h9,h10)))))))))))) fun o3=>
  bif o3.1 then
   some (.inr (.inr false))
  else
   some (.inl ((IntKind.wrap .i64 (x+1)),(o3.2.1,(o3.2.2.1,(o3.2.2.2.1,(o3.2.2.2.2.1,(o3.2.2.2.2.2.1,(o3.2.2.2.2.2.2.1,(o3.2.2.2.2.2.2.2.1,(o3.2.2.2.2.2.2.2.2.1,(o3.2.2.2.2.2.2.2.2.2.1,(o3.2.2.2.2.2.2.2.2.2.2.1,o3.2.2.2.2.2.2.2.2.2.2.2))))))))))))
 else
  some (.inr (.inl (h,(h1,(h2,(h3,(h4,(h5,(h6,(h7,(h8,(h9,h10))))))))))))
def cRigRep_l0_it(fu:Nat)(o2:(Bool×qT26))(tt:(Int×qT26)):Option (qT26⊕Bool):=
 iter fu (fun tt=>cRigRep_l0 fu o2 tt.1 tt.2.1 tt.2.2.1 tt.2.2.2.1 tt.2.2.2.2.1 tt.2.2.2.2.2.1 tt.2.2.2.2.2.2.1 tt.2.2.2.2.2.2.2.1 tt.2.2.2.2.2.2.2.2.1 tt.2.2.2.2.2.2.2.2.2.1 tt.2.2.2.2.2.2.2.2.2.2.1 tt.2.2.2.2.2.2.2.2.2.2.2) tt
def cRigRep(fu:Nat)(r:qT42):Option (Bool):=
 Option.bind (α:=((Bool×qT26))) (
  (cwho fu r.1 r.2.1).bind fun r1=>
  bif (!r1) then
   some (true,(r.1,(r.2.1,(r.2.2.1,(r.2.2.2.1.1,(r.2.2.2.1.2,(r.2.2.2.2.1,(r.2.2.2.2.2.1,(r.2.2.2.2.2.2.1,(r.2.2.2.2.2.2.2.1,(r.2.2.2.2.2.2.2.2.1,r.2.2.2.2.2.2.2.2.2)))))))))))
  else
   bif (decide (r.2.2.1<0)) then
    some (true,(r.1,(r.2.1,(r.2.2.1,(r.2.2.2.1.1,(r.2.2.2.1.2,(r.2.2.2.2.1,(r.2.2.2.2.2.1,(r.2.2.2.2.2.2.1,(r.2.2.2.2.2.2.2.1,(r.2.2.2.2.2.2.2.2.1,r.2.2.2.2.2.2.2.2.2)))))))))))
   else
    some ((decide (r.2.2.1>1000)),(r.1,(r.2.1,(r.2.2.1,(r.2.2.2.1.1,(r.2.2.2.1.2,(r.2.2.2.2.1,(r.2.2.2.2.2.1,(r.2.2.2.2.2.2.1,(r.2.2.2.2.2.2.2.1,(r.2.2.2.2.2.2.2.2.1,r.2.2.2.2.2.2.2.2.2)))))))))))) fun o=>
 bif o.1 then
  some false
 else
  bif (!(o.2.2.2.1==0)) then
   Option.bind (α:=(Bool)) (
    bif ((r.2.2.2.1.1==0)&&(r.2.2.2.1.2==0)) then
     bif (!o.2.2.2.2.2.2.1) then
      bif (!o.2.2.2.2.2.2.2.2.2.2.1) then
       bif (o.2.2.2.2.2.2.2.1==0) then
        bif (o.2.2.2.2.2.2.2.2.2.2.2==0) then
         some ((IntKind.wrap .i64 (((o.2.2.2.2.2.2.2.2.1.length:Nat):Int)+((o.2.2.2.2.2.2.2.2.2.1.length:Nat):Int)))==0)
        else
         some false
       else
        some false
      else
       some false
     else
      some false
    else
     some false) fun o1=>
   some o1
  else
   Option.bind (α:=((Bool×qT26))) (
    bif (!((r.2.2.2.1.1==0)&&(r.2.2.2.1.2==0))) then
     (hRig fu (o.2.2.2.2.1,o.2.2.2.2.2.1)).bind fun r2=>
     bif (!r2) then
      some (true,(o.2.1,(o.2.2.1,(o.2.2.2.1,(o.2.2.2.2.1,(o.2.2.2.2.2.1,(o.2.2.2.2.2.2.1,(o.2.2.2.2.2.2.2.1,(o.2.2.2.2.2.2.2.2.1,(o.2.2.2.2.2.2.2.2.2.1,(o.2.2.2.2.2.2.2.2.2.2.1,o.2.2.2.2.2.2.2.2.2.2.2)))))))))))
     else
      bif (decide (o.2.2.2.2.2.2.2.1<0)) then
       some (true,(o.2.1,(o.2.2.1,(o.2.2.2.1,(o.2.2.2.2.1,(o.2.2.2.2.2.1,(o.2.2.2.2.2.2.1,(o.2.2.2.2.2.2.2.1,(o.2.2.2.2.2.2.2.2.1,(o.2.2.2.2.2.2.2.2.2.1,(o.2.2.2.2.2.2.2.2.2.2.1,o.2.2.2.2.2.2.2.2.2.2.2)))))))))))
      else
       bif (decide (o.2.2.2.2.2.2.2.1>65536)) then
        some (true,(o.2.1,(o.2.2.1,(o.2.2.2.1,(o.2.2.2.2.1,(o.2.2.2.2.2.1,(o.2.2.2.2.2.2.1,(o.2.2.2.2.2.2.2.1,(o.2.2.2.2.2.2.2.2.1,(o.2.2.2.2.2.2.2.2.2.1,(o.2.2.2.2.2.2.2.2.2.2.1,o.2.2.2.2.2.2.2.2.2.2.2)))))))))))
       else
        bif (decide (o.2.2.2.2.2.2.2.2.2.2.2<0)) then
         some (true,(o.2.1,(o.2.2.1,(o.2.2.2.1,(o.2.2.2.2.1,(o.2.2.2.2.2.1,(o.2.2.2.2.2.2.1,(o.2.2.2.2.2.2.2.1,(o.2.2.2.2.2.2.2.2.1,(o.2.2.2.2.2.2.2.2.2.1,(o.2.2.2.2.2.2.2.2.2.2.1,o.2.2.2.2.2.2.2.2.2.2.2)))))))))))
        else
         some ((decide (o.2.2.2.2.2.2.2.2.2.2.2>1099511627776)),(o.2.1,(o.2.2.1,(o.2.2.2.1,(o.2.2.2.2.1,(o.2.2.2.2.2.1,(o.2.2.2.2.2.2.1,(o.2.2.2.2.2.2.2.1,(o.2.2.2.2.2.2.2.2.1,(o.2.2.2.2.2.2.2.2.2.1,(o.2.2.2.2.2.2.2.2.2.2.1,o.2.2.2.2.2.2.2.2.2.2.2)))))))))))
    else
     bif (decide (o.2.2.2.2.2.2.2.1<0)) then
      some (true,(o.2.1,(o.2.2.1,(o.2.2.2.1,(o.2.2.2.2.1,(o.2.2.2.2.2.1,(o.2.2.2.2.2.2.1,(o.2.2.2.2.2.2.2.1,(o.2.2.2.2.2.2.2.2.1,(o.2.2.2.2.2.2.2.2.2.1,(o.2.2.2.2.2.2.2.2.2.2.1,o.2.2.2.2.2.2.2.2.2.2.2)))))))))))
     else
      bif (decide (o.2.2.2.2.2.2.2.1>65536)) then
       some (true,(o.2.1,(o.2.2.1,(o.2.2.2.1,(o.2.2.2.2.1,(o.2.2.2.2.2.1,(o.2.2.2.2.2.2.1,(o.2.2.2.2.2.2.2.1,(o.2.2.2.2.2.2.2.2.1,(o.2.2.2.2.2.2.2.2.2.1,(o.2.2.2.2.2.2.2.2.2.2.1,o.2.2.2.2.2.2.2.2.2.2.2)))))))))))
      else
       bif (decide (o.2.2.2.2.2.2.2.2.2.2.2<0)) then
        some (true,(o.2.1,(o.2.2.1,(o.2.2.2.1,(o.2.2.2.2.1,(o.2.2.2.2.2.1,(o.2.2.2.2.2.2.1,(o.2.2.2.2.2.2.2.1,(o.2.2.2.2.2.2.2.2.1,(o.2.2.2.2.2.2.2.2.2.1,(o.2.2.2.2.2.2.2.2.2.2.1,o.2.2.2.2.2.2.2.2.2.2.2)))))))))))
       else
        some ((decide (o.2.2.2.2.2.2.2.2.2.2.2>1099511627776)),(o.2.1,(o.2.2.1,(o.2.2.2.1,(o.2.2.2.2.1,(o.2.2.2.2.2.1,(o.2.2.2.2.2.2.1,(o.2.2.2.2.2.2.2.1,(o.2.2.2.2.2.2.2.2.1,(o.2.2.2.2.2.2.2.2.2.1,(o.2.2.2.2.2.2.2.2.2.2.1,o.2.2.2.2.2.2.2.2.2.2.2)))))))))))) fun o2=>
   bif o2.1 then
    some false
   else
    (cRigRep_l0_it fu o2 (0,(o2.2.1,(o2.2.2.1,(o2.2.2.2.1,(o2.2.2.2.2.1,(o2.2.2.2.2.2.1,(o2.2.2.2.2.2.2.1,(o2.2.2.2.2.2.2.2.1,(o2.2.2.2.2.2.2.2.2.1,(o2.2.2.2.2.2.2.2.2.2.1,(o2.2.2.2.2.2.2.2.2.2.2.1,o2.2.2.2.2.2.2.2.2.2.2.2)))))))))))).bind fun o4=>
    match o4 with
    |.inl s=>
     bif (decide (((s.2.2.2.2.2.2.2.1.length:Nat):Int)<=4096)) then
      some (decide (((s.2.2.2.2.2.2.2.2.1.length:Nat):Int)<=100))
     else
      some false
    |.inr o5=>
     some o5
def cRigRep_fa:FnA:=⟨.two (.reg [(0,{ids:=[100]})]) (.two (.leaf) (.two (.one (.two (.join ⟨[1,10],⟨qL40,[(100,false,qB23)]⟩⟩ false [] (.reg [(4,{})])) (.two (.leaf) (.two (.leaf) (.two (.two (.join ⟨[2],⟨(.cons (.p .bool) .nil),[]⟩⟩ false [] (.leaf)) (.leaf)) (.two (.join ⟨[1,62],⟨qL40,[(100,false,qB23)]⟩⟩ false [] (.reg [(5,{fn:=1})])) (.two (.leaf) (.leaf)))))))) (.two (.two (.leaf) (.one (.loop ⟨[1,94],⟨(.cons (.own 0 100 0 0) qL9),[(100,false,qB23)]⟩⟩ true [(1,⟨[1],⟨(.cons (.own 0 100 0 0) .nil),[(100,false,qB23)]⟩⟩)] (.two (.leaf) (.two (.leaf) (.two (.one (.two (.reg [(2,{ids:=[101]})]) (.two (.join ⟨[1,117],⟨qL40,[(100,false,qB23)]⟩⟩ false [] (.leaf)) (.two (.leaf) (.leaf))))) (.leaf))))))) (.leaf)))),⟨(.cons (.p qY27) .nil),[]⟩,[⟨(.cons (.p .bool) .nil),[]⟩],[0]⟩
def cRigRep_ft(fu:Nat):FnT:=⟨45,cRigRep_fa.i,cRigRep_fa.os,fun t=>cRigRep fu t⟩
theorem i8Z(fu:Nat):∀t,evF Go.Proofs.Tryz.prog [cwho_ft fu,hRig_ft fu] fu Go.Proofs.Tryz.f45 cRigRep_fa t=(cRigRep_ft fu).spec t:=fun t=>by kernel_rfl
theorem gwZ(fu:Nat):Told Go.Proofs.Tryz.prog (cRigRep_ft fu):=afZ (aaZ (giZ fu) (aaZ (fVZ fu) acZ)) mixed Go.Proofs.Tryz.func45 (by kernel_rfl) (by kernel_rfl) (i8Z fu)
def lone(fu:Nat)(p:qT1):Option (Bool):=
 Option.bind (α:=((Bool×(Int×(Int×(Int×(Int×(Int×(List UInt8×(Int×(Int×(List UInt8×(Int×(Int×(List (UInt8)×(Int×(Int×(Int×(Int×(Int×(Bool×(Int×(List (UInt8)×(List ((List UInt8×Int))×(Bool×(Int×(Int×Int))))))))))))))))))))))))))) (
  (byte? ((p.1.2.2.1.toNat:Nat):Int)).bind fun c=>
  (cRigCal fu (p.1.1,(p.1.2.1,(c,p.1.2.2.2)))).bind fun r=>
  bif (!r) then
   some (true,(p.1.1,(p.1.2.1,(((p.1.2.2.1.toNat:Nat):Int),(p.1.2.2.2.1.1,(p.1.2.2.2.1.2,(p.1.2.2.2.2.1,(p.1.2.2.2.2.2.1.1,(p.1.2.2.2.2.2.1.2,(p.1.2.2.2.2.2.2.1,(p.1.2.2.2.2.2.2.2.1,(p.1.2.2.2.2.2.2.2.2.1,(p.1.2.2.2.2.2.2.2.2.2,(p.2.1.1,(p.2.1.2.1,(p.2.1.2.2.1,(p.2.1.2.2.2.1.1,(p.2.1.2.2.2.1.2,(p.2.1.2.2.2.2.1,(p.2.1.2.2.2.2.2.1,(p.2.1.2.2.2.2.2.2.1,(p.2.1.2.2.2.2.2.2.2.1,(p.2.1.2.2.2.2.2.2.2.2.1,(p.2.1.2.2.2.2.2.2.2.2.2,p.2.2))))))))))))))))))))))))
  else
   bif (decide (p.2.2.1<1)) then
    some (true,(p.1.1,(p.1.2.1,(((p.1.2.2.1.toNat:Nat):Int),(p.1.2.2.2.1.1,(p.1.2.2.2.1.2,(p.1.2.2.2.2.1,(p.1.2.2.2.2.2.1.1,(p.1.2.2.2.2.2.1.2,(p.1.2.2.2.2.2.2.1,(p.1.2.2.2.2.2.2.2.1,(p.1.2.2.2.2.2.2.2.2.1,(p.1.2.2.2.2.2.2.2.2.2,(p.2.1.1,(p.2.1.2.1,(p.2.1.2.2.1,(p.2.1.2.2.2.1.1,(p.2.1.2.2.2.1.2,(p.2.1.2.2.2.2.1,(p.2.1.2.2.2.2.2.1,(p.2.1.2.2.2.2.2.2.1,(p.2.1.2.2.2.2.2.2.2.1,(p.2.1.2.2.2.2.2.2.2.2.1,(p.2.1.2.2.2.2.2.2.2.2.2,p.2.2))))))))))))))))))))))))
   else
    some ((decide (p.2.2.1>1099511627776)),(p.1.1,(p.1.2.1,(((p.1.2.2.1.toNat:Nat):Int),(p.1.2.2.2.1.1,(p.1.2.2.2.1.2,(p.1.2.2.2.2.1,(p.1.2.2.2.2.2.1.1,(p.1.2.2.2.2.2.1.2,(p.1.2.2.2.2.2.2.1,(p.1.2.2.2.2.2.2.2.1,(p.1.2.2.2.2.2.2.2.2.1,(p.1.2.2.2.2.2.2.2.2.2,(p.2.1.1,(p.2.1.2.1,(p.2.1.2.2.1,(p.2.1.2.2.2.1.1,(p.2.1.2.2.2.1.2,(p.2.1.2.2.2.2.1,(p.2.1.2.2.2.2.2.1,(p.2.1.2.2.2.2.2.2.1,(p.2.1.2.2.2.2.2.2.2.1,(p.2.1.2.2.2.2.2.2.2.2.1,(p.2.1.2.2.2.2.2.2.2.2.2,p.2.2))))))))))))))))))))))))) fun o=>
 bif o.1 then
  some false
 else
  bif (o.2.2.2.2.2.2.2.2.2.2.2.2.2.2.2.2.2.2.2.2.2.2.2.2.2==0) then
   (lnot fu (o.2.2.2.2.2.2.2.2.2.2.2.2.2.1,(o.2.2.2.2.2.2.2.2.2.2.2.2.2.2.1,(o.2.2.2.2.2.2.2.2.2.2.2.2.2.2.2.1,((o.2.2.2.2.2.2.2.2.2.2.2.2.2.2.2.2.1,o.2.2.2.2.2.2.2.2.2.2.2.2.2.2.2.2.2.1),(o.2.2.2.2.2.2.2.2.2.2.2.2.2.2.2.2.2.2.1,(o.2.2.2.2.2.2.2.2.2.2.2.2.2.2.2.2.2.2.2.1,(o.2.2.2.2.2.2.2.2.2.2.2.2.2.2.2.2.2.2.2.2.1,(o.2.2.2.2.2.2.2.2.2.2.2.2.2.2.2.2.2.2.2.2.2.1,(o.2.2.2.2.2.2.2.2.2.2.2.2.2.2.2.2.2.2.2.2.2.2.1,o.2.2.2.2.2.2.2.2.2.2.2.2.2.2.2.2.2.2.2.2.2.2.2.1)))))))))).bind fun r1=>
   some r1
  else
   bif (decide (o.2.2.2.2.2.2.2.2.2.2.2.2.2.2.2.2.2.2.2.2.2.2.2.2.2>=o.2.2.2.2.2.2.2.2.2.2.2.2.2.2.2.2.2.2.2.2.2.2.2.2.1)) then
    bif (decide (o.2.2.2.2.2.2.2.2.2.2.2.2.2.2.2.2.2.2.2.2.2.2.2.2.2<=1099511627776)) then
     (cRigRep fu (o.2.2.2.2.2.2.2.2.2.2.2.2.2.1,(o.2.2.2.2.2.2.2.2.2.2.2.2.2.2.1,(o.2.2.2.2.2.2.2.2.2.2.2.2.2.2.2.1,((o.2.2.2.2.2.2.2.2.2.2.2.2.2.2.2.2.1,o.2.2.2.2.2.2.2.2.2.2.2.2.2.2.2.2.2.1),(o.2.2.2.2.2.2.2.2.2.2.2.2.2.2.2.2.2.2.1,(o.2.2.2.2.2.2.2.2.2.2.2.2.2.2.2.2.2.2.2.1,(o.2.2.2.2.2.2.2.2.2.2.2.2.2.2.2.2.2.2.2.2.1,(o.2.2.2.2.2.2.2.2.2.2.2.2.2.2.2.2.2.2.2.2.2.1,(o.2.2.2.2.2.2.2.2.2.2.2.2.2.2.2.2.2.2.2.2.2.2.1,o.2.2.2.2.2.2.2.2.2.2.2.2.2.2.2.2.2.2.2.2.2.2.2.1)))))))))).bind fun r2=>
     bif r2 then
      bif (o.2.2.2.2.2.2.2.2.2.2.2.2.2.1==o.2.1) then
       some (o.2.2.2.2.2.2.2.2.2.2.2.2.2.2.1==o.2.2.1)
      else
       some false
     else
      some false
    else
     some false
   else
    some false
def lone_fa:FnA:=⟨.two (.reg [(0,{ids:=[100]})]) (.two (.two (.join ⟨[1,16],⟨qL40,[(100,false,(.vars (.cons (.p (.int .i64)) (.cons (.p (.int .i64)) (.cons (.p (.int .u8)) (.cons (.p (.int .i64)) (.cons (.p (.int .i64)) (.cons (.p .str) (.cons (.p (.int .i64)) (.cons (.p (.int .i64)) (.cons (.p .str) (.cons (.p (.int .i64)) (.cons (.p (.int .i64)) (.cons (.p (.sl .byte)) (.cons (.p (.int .i64)) (.cons (.p (.int .i64)) (.cons (.p (.int .i64)) (.cons (.p (.int .i64)) (.cons (.p (.int .i64)) (.cons (.p .bool) (.cons (.p (.int .i64)) (.cons (.p (.sl .byte)) (.cons (.p (.sl (.pair .str (.int .i64)))) (.cons (.p .bool) (.cons (.p (.int .i64)) qL34)))))))))))))))))))))))))]⟩⟩ false [] (.reg [(2,{})])) (.two (.leaf) (.leaf))) (.two (.two (.leaf) (.two (.two (.reg [(2,{fn:=1})]) (.leaf)) (.leaf))) (.two (.reg [(13,{fn:=2})]) (.leaf)))),⟨(.cons (.p qY3) .nil),[]⟩,[⟨(.cons (.p .bool) .nil),[]⟩],[0]⟩
def lone_ft(fu:Nat):FnT:=⟨23,lone_fa.i,lone_fa.os,fun t=>lone fu t⟩
theorem m7Z(fu:Nat):∀t,evF Go.Proofs.Tryz.prog [cRigCal_ft fu,lnot_ft fu,cRigRep_ft fu] fu Go.Proofs.Tryz.f23 lone_fa t=(lone_ft fu).spec t:=fun t=>by kernel_rfl
theorem jPZ(fu:Nat):Told Go.Proofs.Tryz.prog (lone_ft fu):=afZ (aaZ (dtZ fu) (aaZ (k2Z fu) (aaZ (gwZ fu) acZ))) mixed Go.Proofs.Tryz.func23 (by kernel_rfl) (by kernel_rfl) (m7Z fu)
def lRig_l0(fu:Nat)(l:List (qT1))(x:Int)(h:List (List (qT1))):Option ((Int×List (List (qT1)))⊕(Unit⊕Bool)):=
 bif (decide (x<((l.length:Nat):Int))) then
  (idx? x l.length).bind fun q=>
  (l)[q]?.bind fun r=>
  (lone fu r).bind fun r1=>
  bif (!r1) then
   some (.inr (.inr false))
  else
   (l)[q]?.bind fun r2=>
   (idx? r2.1.1 16).bind fun q1=>
   (h)[q1]?.bind fun r3=>
   Option.bind (α:=((Bool×List (List (qT1))))) (
    bif (!(nilL r3)) then
     need (!(nilL r3))<|
     (r3)[0]?.bind fun r4=>
     bif (r4.2.2.2==0) then
      some (true,h)
     else
      need (!(nilL r3))<|
      (r3)[0]?.bind fun r5=>
      (l)[q]?.bind fun r6=>
      bif (decide (r5.2.2.2>=r6.2.2.1)) then
       some (true,h)
      else
       need (!(nilL r3))<|
       (r3)[0]?.bind fun r7=>
       (l)[q]?.bind fun r8=>
       some ((decide (r7.1.2.1>=r8.1.2.1)),h)
    else
     some (false,h)) fun o=>
   bif o.1 then
    some (.inr (.inr false))
   else
    (l)[q]?.bind fun r9=>
    (idx? r9.1.1 16).bind fun q2=>
    (ptr? l q).bind fun r10=>
    (o.2)[q2]?.bind fun r11=>
    some (.inl ((IntKind.wrap .i64 (x+1)),(List.set o.2 q2 r10)))
 else
  some (.inr (.inl ()))
def lRig_l0_it(fu:Nat)(l:List (qT1))(tt:(Int×List (List (qT1)))):Option (Unit⊕Bool):=
 iter fu (fun tt=>lRig_l0 fu l tt.1 tt.2) tt
def lRig(fu:Nat)(l:List (qT1)):Option (Bool):=
 bif (decide (((l.length:Nat):Int)>200)) then
  some false
 else
  need (Nat.beq (List.replicate (α:=List (qT1)) 16 []).length 16)<|
  (lRig_l0_it fu l (0,[[],[],[],[],[],[],[],[],[],[],[],[],[],[],[],[]])).bind fun o1=>
  match o1 with
  |.inl s=>
   some true
  |.inr o2=>
   some o2
def lRig_fa:FnA:=⟨.two (.leaf) (.two (.two (.leaf) (.two (.leaf) (.leaf))) (.two (.reg [(1,{ids:=[100]})]) (.two (.two (.leaf) (.one (.loop ⟨[3,13],⟨(.cons (.own 1 100 0 0) qL9),[(100,false,(.rows 63 (.ptr qY3)))]⟩⟩ true [(0,⟨[],⟨.nil,[]⟩⟩)] (.two (.leaf) (.two (.leaf) (.two (.one (.two (.leaf) (.two (.leaf) (.two (.two (.reg [(3,{})]) (.two (.leaf) (.leaf))) (.two (.leaf) (.two (.two (.join ⟨[3,63],⟨(.cons (.own 1 100 0 0) (.cons (.p .bool) .nil)),[(100,false,(.rows 63 (.ptr qY3)))]⟩⟩ false [] (.leaf)) (.two (.leaf) (.leaf))) (.leaf))))))) (.leaf))))))) (.leaf)))),⟨(.cons (.p (.sl qY3)) .nil),[]⟩,[⟨(.cons (.p .bool) .nil),[]⟩],[0]⟩
def lRig_ft(fu:Nat):FnT:=⟨10,lRig_fa.i,lRig_fa.os,fun t=>lRig fu t⟩
theorem mDZ(fu:Nat):∀t,evF Go.Proofs.Tryz.prog [lone_ft fu] fu Go.Proofs.Tryz.f10 lRig_fa t=(lRig_ft fu).spec t:=fun t=>by kernel_rfl
theorem dKZ(fu:Nat):Told Go.Proofs.Tryz.prog (lRig_ft fu):=afZ (aaZ (jPZ fu) acZ) mixed Go.Proofs.Tryz.func10 (by kernel_rfl) (by kernel_rfl) (mDZ fu)
def inode_New(fu:Nat):Option ((Int×List (qT0))):=
 some (0,[(1,(1,(true,(true,(0,([],(1,[])))))))])
def inode_New_fa:FnA:=⟨.two (.reg [(0,{ids:=[100]})]) (.two (.reg [(1,{ids:=[101]})]) (.leaf)),⟨.nil,[]⟩,[⟨(.cons (.agg (.cons (.slf 8 0) qL9)) .nil),[(0,false,(.rows 103 qY2))]⟩],[0]⟩
def inode_New_ft(fu:Nat):FnT:=⟨46,inode_New_fa.i,inode_New_fa.os,fun t=>inode_New fu⟩
theorem gMZ(fu:Nat):∀t,evF Go.Proofs.Tryz.prog [] fu Go.Proofs.Tryz.f46 inode_New_fa t=(inode_New_ft fu).spec t:=fun t=>by kernel_rfl
theorem eDZ(fu:Nat):Told Go.Proofs.Tryz.prog (inode_New_ft fu):=afZ acZ mixed Go.Proofs.Tryz.func46 (by kernel_rfl) (by kernel_rfl) (gMZ fu)
def model_New(fu:Nat):Option ((Int×(List (qT0)×List (List (UInt8))))):=
 (inode_New fu).bind fun r=>
 some (r.1,(r.2,(List.replicate (α:=List (UInt8)) 1 [])))
def model_New_fa:FnA:=⟨.two (.reg [(0,{ids:=[100]})]) (.two (.reg [(0,{ids:=[101]}),(1,{ids:=[102]})]) (.leaf)),⟨.nil,[]⟩,[⟨(.cons (.agg (.cons (.slf 8 0) (.cons (.p (.int .i64)) (.cons (.slf 1 1) .nil)))) .nil),[(0,false,(.rows 103 qY2)),(1,false,(.rows 25 (.sl .byte)))]⟩],[0]⟩
def model_New_ft(fu:Nat):FnT:=⟨24,model_New_fa.i,model_New_fa.os,fun t=>model_New fu⟩
theorem gYZ(fu:Nat):∀t,evF Go.Proofs.Tryz.prog [inode_New_ft fu] fu Go.Proofs.Tryz.f24 model_New_fa t=(model_New_ft fu).spec t:=fun t=>by kernel_rfl
theorem c0Z(fu:Nat):Told Go.Proofs.Tryz.prog (model_New_ft fu):=afZ (aaZ (eDZ fu) acZ) mixed Go.Proofs.Tryz.func24 (by kernel_rfl) (by kernel_rfl) (gYZ fu)
def lfai(fu:Nat)(p:qT1):Option (Bool):=
 bif (decide (p.2.2.2>0)) then
  some (p.2.1.2.2.1==151)
 else
  some false
def lfai_fa:FnA:=⟨.two (.reg [(0,{ids:=[100]})]) (.leaf),⟨(.cons (.p qY3) .nil),[]⟩,[⟨(.cons (.p .bool) .nil),[]⟩],[0]⟩
def lfai_ft(fu:Nat):FnT:=⟨88,lfai_fa.i,lfai_fa.os,fun t=>lfai fu t⟩
theorem mzZ(fu:Nat):∀t,evF Go.Proofs.Tryz.prog [] fu Go.Proofs.Tryz.f88 lfai_fa t=(lfai_ft fu).spec t:=fun t=>by kernel_rfl
theorem gdZ(fu:Nat):Told Go.Proofs.Tryz.prog (lfai_ft fu):=afZ acZ mixed Go.Proofs.Tryz.func88 (by kernel_rfl) (by kernel_rfl) (mzZ fu)
def lwai(fu:Nat)(p:qT1):Option (Bool):=
 bif (decide (p.2.2.2>0)) then
  (byte? ((p.1.2.2.1.toNat:Nat):Int)).bind fun c=>
  (lfai fu ((p.1.1,(p.1.2.1,(c,p.1.2.2.2))),p.2)).bind fun r=>
  some (!r)
 else
  some false
def lwai_fa:FnA:=⟨.two (.reg [(0,{ids:=[100]})]) (.two (.reg [(5,{})]) (.leaf)),⟨(.cons (.p qY3) .nil),[]⟩,[⟨(.cons (.p .bool) .nil),[]⟩],[0]⟩
def lwai_ft(fu:Nat):FnT:=⟨50,lwai_fa.i,lwai_fa.os,fun t=>lwai fu t⟩
theorem nfZ(fu:Nat):∀t,evF Go.Proofs.Tryz.prog [lfai_ft fu] fu Go.Proofs.Tryz.f50 lwai_fa t=(lwai_ft fu).spec t:=fun t=>by kernel_rfl
theorem gVZ(fu:Nat):Told Go.Proofs.Tryz.prog (lwai_ft fu):=afZ (aaZ (gdZ fu) acZ) mixed Go.Proofs.Tryz.func50 (by kernel_rfl) (by kernel_rfl) (nfZ fu)
def lstawho_l0(fu:Nat)(l:List (qT1))(x:Int)(h:List (Bool))(h1:List (qT0))(h2:Int)(h3:List (List (UInt8))):Option ((Int×qT22)⊕(Unit⊕Bool)):=
 bif (decide (x<((l.length:Nat):Int))) then
  (idx? x l.length).bind fun q=>
  (l)[q]?.bind fun r=>
  Option.bind (α:=((Bool×qT22))) (
   (byte? ((r.1.2.2.1.toNat:Nat):Int)).bind fun c=>
   (lwai fu ((r.1.1,(r.1.2.1,(c,r.1.2.2.2))),r.2)).bind fun r1=>
   bif r1 then
    (idx? x h.length).bind fun q1=>
    (h)[q1]?.bind fun r2=>
    some ((!r2),(h,(h1,(h2,h3))))
   else
    some (false,(h,(h1,(h2,h3))))) fun o=>
  bif o.1 then
   some (.inr (.inr false))
  else
   some (.inl ((IntKind.wrap .i64 (x+1)),o.2))
 else
  some (.inr (.inl ()))
def lstawho_l0_it(fu:Nat)(l:List (qT1))(tt:(Int×qT22)):Option (Unit⊕Bool):=
 iter fu (fun tt=>lstawho_l0 fu l tt.1 tt.2.1 tt.2.2.1 tt.2.2.2.1 tt.2.2.2.2) tt
def lstawho(fu:Nat)(s:qT7)(l:List (qT1)):Option (Bool):=
 (lstawho_l0_it fu l (0,(s.1,(s.2.1.1,(s.2.1.2,s.2.2))))).bind fun o1=>
 match o1 with
 |.inl s1=>
  some true
 |.inr o2=>
  some o2
def lstawho_fa:FnA:=⟨.two (.reg [(0,{ids:=[100]})]) (.two (.two (.leaf) (.one (.loop ⟨[2,9],⟨(.cons (.own 0 100 0 0) qL9),[(100,false,qB15)]⟩⟩ true [(0,⟨[],⟨.nil,[]⟩⟩)] (.two (.leaf) (.two (.leaf) (.two (.one (.two (.reg [(3,{ids:=[101]})]) (.two (.join ⟨[2,23],⟨qL40,[(100,false,qB15)]⟩⟩ false [] (.reg [(1,{})])) (.two (.leaf) (.leaf))))) (.leaf))))))) (.leaf)),⟨(.cons (.p qY18) (.cons (.p (.sl qY3)) .nil)),[]⟩,[⟨(.cons (.p .bool) .nil),[]⟩],[0]⟩
def lstawho_ft(fu:Nat):FnT:=⟨26,lstawho_fa.i,lstawho_fa.os,fun t=>lstawho fu t.1 t.2⟩
theorem iCZ(fu:Nat):∀t,evF Go.Proofs.Tryz.prog [lwai_ft fu] fu Go.Proofs.Tryz.f26 lstawho_fa t=(lstawho_ft fu).spec t:=fun t=>by kernel_rfl
theorem dmZ(fu:Nat):Told Go.Proofs.Tryz.prog (lstawho_ft fu):=afZ (aaZ (gVZ fu) acZ) mixed Go.Proofs.Tryz.func26 (by kernel_rfl) (by kernel_rfl) (iCZ fu)
def lJud1(fu:Nat)(s:qT7)(h:List (qT1)):Option ((Bool×List (qT1))):=
 (lstawho fu s h).bind fun r=>
 some (r,h)
def lJud1_fa:FnA:=⟨.two (.reg [(0,{ids:=[100]})]) (.two (.reg [(2,{})]) (.leaf)),⟨(.cons (.p qY18) qL37),[(0,false,qB31)]⟩,[⟨(.cons (.p .bool) .nil),[(0,false,qB31)]⟩],[0]⟩
def lJud1_ft(fu:Nat):FnT:=⟨27,lJud1_fa.i,lJud1_fa.os,fun t=>lJud1 fu t.1 t.2⟩
theorem lLZ(fu:Nat):∀t,evF Go.Proofs.Tryz.prog [lstawho_ft fu] fu Go.Proofs.Tryz.f27 lJud1_fa t=(lJud1_ft fu).spec t:=fun t=>by kernel_rfl
theorem iMZ(fu:Nat):Told Go.Proofs.Tryz.prog (lJud1_ft fu):=afZ (aaZ (dmZ fu) acZ) mixed Go.Proofs.Tryz.func27 (by kernel_rfl) (by kernel_rfl) (lLZ fu)
def sIndFun2_l0(fu:Nat)(s:List (qT7))(x:Int)(h1:List (qT1)):Option ((Int×List (qT1))⊕(List (qT1)⊕(Int×List (qT1)))):=
 bif (decide (x<((s.length:Nat):Int))) then
  (idx? x s.length).bind fun q=>
  (s)[q]?.bind fun r=>
  (lJud1 fu r h1).bind fun r1=>
  bif r1.1 then
   some (.inr (.inr (x,r1.2)))
  else
   some (.inl ((IntKind.wrap .i64 (x+1)),r1.2))
 else
  some (.inr (.inl h1))
def sIndFun2_l0_it(fu:Nat)(s:List (qT7))(tt:(Int×List (qT1))):Option (List (qT1)⊕(Int×List (qT1))):=
 iter fu (fun tt=>sIndFun2_l0 fu s tt.1 tt.2) tt
def sIndFun2(fu:Nat)(s:List (qT7))(h:List (qT1)):Option ((Int×List (qT1))):=
 (sIndFun2_l0_it fu s (0,h)).bind fun o=>
 match o with
 |.inl s1=>
  some ((-1),s1)
 |.inr o1=>
  some o1
def sIndFun2_fa:FnA:=⟨.two (.leaf) (.two (.two (.leaf) (.one (.loop ⟨[1,8],⟨(.cons (.fn 27 .nil qL37) qL9),[(0,false,qB31)]⟩⟩ true [(0,⟨[1],⟨(.cons (.fn 27 .nil qL37) .nil),[(0,false,qB31)]⟩⟩)] (.two (.leaf) (.two (.leaf) (.two (.one (.two (.leaf) (.two (.reg [(5,{sh:=[0]})]) (.two (.leaf) (.leaf))))) (.leaf))))))) (.leaf)),⟨(.cons (.p (.sl qY18)) (.cons (.fn 27 .nil qL37) .nil)),[(0,false,qB31)]⟩,[⟨qL9,[(0,false,qB31)]⟩],[0]⟩
def sIndFun2_ft(fu:Nat):FnT:=⟨51,sIndFun2_fa.i,sIndFun2_fa.os,fun t=>sIndFun2 fu t.1 t.2⟩
theorem hGZ(fu:Nat):∀t,evF Go.Proofs.Tryz.prog [lJud1_ft fu] fu Go.Proofs.Tryz.f51 sIndFun2_fa t=(sIndFun2_ft fu).spec t:=fun t=>by kernel_rfl
theorem fsZ(fu:Nat):Told Go.Proofs.Tryz.prog (sIndFun2_ft fu):=afZ (aaZ (iMZ fu) acZ) mixed Go.Proofs.Tryz.func51 (by kernel_rfl) (by kernel_rfl) (hGZ fu)
def sConFun2(fu:Nat)(s:List (qT7))(h:List (qT1)):Option ((Bool×List (qT1))):=
 (sIndFun2 fu s h).bind fun r=>
 some ((decide (r.1>=0)),r.2)
def sConFun2_fa:FnA:=⟨.two (.leaf) (.two (.reg [(2,{sh:=[0]})]) (.leaf)),⟨(.cons (.p (.sl qY18)) (.cons (.fn 27 .nil qL37) .nil)),[(0,false,qB31)]⟩,[⟨(.cons (.p .bool) .nil),[(0,false,qB31)]⟩],[0]⟩
def sConFun2_ft(fu:Nat):FnT:=⟨28,sConFun2_fa.i,sConFun2_fa.os,fun t=>sConFun2 fu t.1 t.2⟩
theorem hAZ(fu:Nat):∀t,evF Go.Proofs.Tryz.prog [sIndFun2_ft fu] fu Go.Proofs.Tryz.f28 sConFun2_fa t=(sConFun2_ft fu).spec t:=fun t=>by kernel_rfl
theorem flZ(fu:Nat):Told Go.Proofs.Tryz.prog (sConFun2_ft fu):=afZ (aaZ (fsZ fu) acZ) mixed Go.Proofs.Tryz.func28 (by kernel_rfl) (by kernel_rfl) (hAZ fu)
def lmay1(fu:Nat)(k:Int)(h:List (Bool))(h1:List (qT1))(h2:Int):Option ((Bool×(List (Bool)×(List (qT1)×Int)))):=
 (idx? k h.length).bind fun q=>
 (h)[q]?.bind fun r=>
 bif (!r) then
  (idx? k h1.length).bind fun q1=>
  (h1)[q1]?.bind fun r1=>
  (lwai fu r1).bind fun r2=>
  bif r2 then
   (idx? k h1.length).bind fun q2=>
   (h1)[q2]?.bind fun r3=>
   (idx? h2 h1.length).bind fun q3=>
   (h1)[q3]?.bind fun r4=>
   some ((decide (r3.2.2.2<r4.2.2.1)),(h,(h1,h2)))
  else
   some (false,(h,(h1,h2)))
 else
  some (false,(h,(h1,h2)))
def lmay1_fa:FnA:=⟨.two (.leaf) (.two (.reg [(10,{})]) (.leaf)),⟨(.cons (.p (.int .i64)) (.cons (.own 0 0 0 0) (.cons (.own 0 1 0 0) (.cons (.own 0 2 0 0) .nil)))),[(0,false,(.vars (.cons (.p (.sl .bool)) .nil))),(1,false,qB31),(2,false,(.vars qL9))]⟩,[⟨(.cons (.p .bool) .nil),[(0,false,(.vars (.cons (.p (.sl .bool)) .nil))),(1,false,qB31),(2,false,(.vars qL9))]⟩],[0]⟩
def lmay1_ft(fu:Nat):FnT:=⟨87,lmay1_fa.i,lmay1_fa.os,fun t=>lmay1 fu t.1 t.2.1 t.2.2.1 t.2.2.2⟩
theorem l0Z(fu:Nat):∀t,evF Go.Proofs.Tryz.prog [lwai_ft fu] fu Go.Proofs.Tryz.f87 lmay1_fa t=(lmay1_ft fu).spec t:=fun t=>by kernel_rfl
theorem iRZ(fu:Nat):Told Go.Proofs.Tryz.prog (lmay1_ft fu):=afZ (aaZ (gVZ fu) acZ) mixed Go.Proofs.Tryz.func87 (by kernel_rfl) (by kernel_rfl) (l0Z fu)
def lmay_l0(fu:Nat)(o:(Bool×(List (qT1)×(List (Bool)×Int))))(x:Int)(h:List (Bool))(h1:List (qT1))(h2:Int):Option ((Int×(List (Bool)×(List (qT1)×Int)))⊕(Unit⊕Bool)):=
 bif (decide (x<((o.2.1.length:Nat):Int))) then
  (lmay1 fu x h h1 h2).bind fun r3=>
  bif r3.1 then
   some (.inr (.inr false))
  else
   some (.inl ((IntKind.wrap .i64 (x+1)),r3.2))
 else
  some (.inr (.inl ()))
def lmay_l0_it(fu:Nat)(o:(Bool×(List (qT1)×(List (Bool)×Int))))(tt:(Int×(List (Bool)×(List (qT1)×Int)))):Option (Unit⊕Bool):=
 iter fu (fun tt=>lmay_l0 fu o tt.1 tt.2.1 tt.2.2.1 tt.2.2.2) tt
def lmay(fu:Nat)(l:List (qT1))(placed:List (Bool))(i:Int):Option (Bool):=
 Option.bind (α:=((Bool×(List (qT1)×(List (Bool)×Int))))) (
  (idx? i placed.length).bind fun q=>
  (placed)[q]?.bind fun r=>
  bif r then
   some (true,(l,(placed,i)))
  else
   (idx? i l.length).bind fun q1=>
   (l)[q1]?.bind fun r1=>
   (lfai fu r1).bind fun r2=>
   some (r2,(l,(placed,i)))) fun o=>
 bif o.1 then
  some false
 else
  (lmay_l0_it fu o (0,(o.2.2.1,(o.2.1,o.2.2.2)))).bind fun o1=>
  match o1 with
  |.inl s=>
   some true
  |.inr o2=>
   some o2
def lmay_fa:FnA:=⟨.two (.reg [(0,{ids:=[100]}),(1,{ids:=[101]}),(2,{ids:=[102]})]) (.two (.leaf) (.two (.two (.join ⟨[3,7,20],⟨(.cons (.own 0 100 0 0) (.cons (.fn 87 .nil (.cons (.own 0 101 0 0) (.cons (.own 0 100 0 0) (.cons (.own 0 102 0 0) .nil)))) (.cons (.p .bool) .nil))),[(100,false,qB31),(101,false,(.vars (.cons (.p (.sl .bool)) .nil))),(102,false,(.vars qL9))]⟩⟩ false [] (.reg [(9,{})])) (.two (.leaf) (.leaf))) (.two (.two (.leaf) (.one (.loop ⟨[7,23],⟨(.cons (.fn 87 .nil (.cons (.own 0 101 0 0) (.cons (.own 0 100 0 0) (.cons (.own 0 102 0 0) .nil)))) qL9),[(101,false,(.vars (.cons (.p (.sl .bool)) .nil))),(100,false,qB31),(102,false,(.vars qL9))]⟩⟩ true [(0,⟨[],⟨.nil,[]⟩⟩)] (.two (.leaf) (.two (.leaf) (.two (.one (.two (.leaf) (.two (.reg [(2,{sh:=[101,100,102],fn:=1})]) (.two (.leaf) (.leaf))))) (.leaf))))))) (.leaf)))),⟨(.cons (.p (.sl qY3)) (.cons (.p (.sl .bool)) qL9)),[]⟩,[⟨(.cons (.p .bool) .nil),[]⟩],[0]⟩
def lmay_ft(fu:Nat):FnT:=⟨47,lmay_fa.i,lmay_fa.os,fun t=>lmay fu t.1 t.2.1 t.2.2⟩
theorem mEZ(fu:Nat):∀t,evF Go.Proofs.Tryz.prog [lfai_ft fu,lmay1_ft fu] fu Go.Proofs.Tryz.f47 lmay_fa t=(lmay_ft fu).spec t:=fun t=>by kernel_rfl
theorem jUZ(fu:Nat):Told Go.Proofs.Tryz.prog (lmay_ft fu):=afZ (aaZ (gdZ fu) (aaZ (iRZ fu) acZ)) mixed Go.Proofs.Tryz.func47 (by kernel_rfl) (by kernel_rfl) (mEZ fu)
def ibar(fu:Nat)(n:qT0):Option (Bool):=
 bif (!n.2.2.1) then
  bif (!n.2.2.2.1) then
   bif (n.2.2.2.2.1==0) then
    bif (n.2.2.2.2.2.2.1==0) then
     some ((IntKind.wrap .i64 (((n.2.2.2.2.2.1.length:Nat):Int)+((n.2.2.2.2.2.2.2.length:Nat):Int)))==0)
    else
     some false
   else
    some false
  else
   some false
 else
  some false
def ibar_fa:FnA:=⟨.two (.reg [(0,{ids:=[100]})]) (.leaf),⟨(.cons (.p qY2) .nil),[]⟩,[⟨(.cons (.p .bool) .nil),[]⟩],[0]⟩
def ibar_ft(fu:Nat):FnT:=⟨161,ibar_fa.i,ibar_fa.os,fun t=>ibar fu t⟩
theorem mBZ(fu:Nat):∀t,evF Go.Proofs.Tryz.prog [] fu Go.Proofs.Tryz.f161 ibar_fa t=(ibar_ft fu).spec t:=fun t=>by kernel_rfl
theorem kMZ(fu:Nat):Told Go.Proofs.Tryz.prog (ibar_ft fu):=afZ acZ mixed Go.Proofs.Tryz.func161 (by kernel_rfl) (by kernel_rfl) (mBZ fu)
def idir1(fu:Nat)(e:(List UInt8×Int))(h:List UInt8)(h1:Int):Option ((Bool×(List UInt8×Int))):=
 bif (decide (((e.1.length:Nat):Int)<1)) then
  some (true,(e.1,h1))
 else
  bif (decide (((e.1.length:Nat):Int)>30)) then
   some (true,(e.1,h1))
  else
   bif ((Op.bytesLess e.1 h)||(e.1==h)) then
    some (true,(e.1,h1))
   else
    bif (decide (e.2<1)) then
     some (true,(e.1,h1))
    else
     some ((decide (e.2>h1)),(e.1,h1))
def idir1_fa:FnA:=⟨.two (.reg [(0,{ids:=[100]})]) (.two (.leaf) (.two (.leaf) (.leaf))),⟨(.cons (.p (.pair .str (.int .i64))) (.cons (.own 0 0 0 0) (.cons (.own 0 1 0 0) .nil))),[(0,false,(.vars (.cons (.p .str) .nil))),(1,false,(.vars qL9))]⟩,[⟨(.cons (.p .bool) .nil),[(0,false,(.vars (.cons (.p .str) .nil))),(1,false,(.vars qL9))]⟩],[0]⟩
def idir1_ft(fu:Nat):FnT:=⟨171,idir1_fa.i,idir1_fa.os,fun t=>idir1 fu t.1 t.2.1 t.2.2⟩
theorem l9Z(fu:Nat):∀t,evF Go.Proofs.Tryz.prog [] fu Go.Proofs.Tryz.f171 idir1_fa t=(idir1_ft fu).spec t:=fun t=>by kernel_rfl
theorem iFZ(fu:Nat):Told Go.Proofs.Tryz.prog (idir1_ft fu):=afZ acZ mixed Go.Proofs.Tryz.func171 (by kernel_rfl) (by kernel_rfl) (l9Z fu)
def sIndFun6_l0(fu:Nat)(s:List ((List UInt8×Int)))(x:Int)(h2:List UInt8)(h3:Int):Option ((Int×(List UInt8×Int))⊕((List UInt8×Int)⊕(Int×(List UInt8×Int)))):=
 bif (decide (x<((s.length:Nat):Int))) then
  (idx? x s.length).bind fun q=>
  (s)[q]?.bind fun r=>
  (idir1 fu r h2 h3).bind fun r1=>
  bif r1.1 then
   some (.inr (.inr (x,(r1.2.1,r1.2.2))))
  else
   some (.inl ((IntKind.wrap .i64 (x+1)),(r1.2.1,r1.2.2)))
 else
  some (.inr (.inl (h2,h3)))
def sIndFun6_l0_it(fu:Nat)(s:List ((List UInt8×Int)))(tt:(Int×(List UInt8×Int))):Option ((List UInt8×Int)⊕(Int×(List UInt8×Int))):=
 iter fu (fun tt=>sIndFun6_l0 fu s tt.1 tt.2.1 tt.2.2) tt
def sIndFun6(fu:Nat)(s:List ((List UInt8×Int)))(h:List UInt8)(h1:Int):Option ((Int×(List UInt8×Int))):=
 (sIndFun6_l0_it fu s (0,(h,h1))).bind fun o=>
 match o with
 |.inl s1=>
  some ((-1),(s1.1,s1.2))
 |.inr o1=>
  some o1
def sIndFun6_fa:FnA:=⟨.two (.leaf) (.two (.two (.leaf) (.one (.loop ⟨[1,8],⟨(.cons (.fn 171 .nil (.cons (.own 0 0 0 0) (.cons (.own 0 1 0 0) .nil))) qL9),[(0,false,(.vars (.cons (.p .str) .nil))),(1,false,(.vars qL9))]⟩⟩ true [(0,⟨[1],⟨(.cons (.fn 171 .nil (.cons (.own 0 0 0 0) (.cons (.own 0 1 0 0) .nil))) .nil),[(0,false,(.vars (.cons (.p .str) .nil))),(1,false,(.vars qL9))]⟩⟩)] (.two (.leaf) (.two (.leaf) (.two (.one (.two (.leaf) (.two (.reg [(5,{sh:=[0,1]})]) (.two (.leaf) (.leaf))))) (.leaf))))))) (.leaf)),⟨(.cons (.p (.sl (.pair .str (.int .i64)))) (.cons (.fn 171 .nil (.cons (.own 0 0 0 0) (.cons (.own 0 1 0 0) .nil))) .nil)),[(0,false,(.vars (.cons (.p .str) .nil))),(1,false,(.vars qL9))]⟩,[⟨qL9,[(0,false,(.vars (.cons (.p .str) .nil))),(1,false,(.vars qL9))]⟩],[0]⟩
def sIndFun6_ft(fu:Nat):FnT:=⟨164,sIndFun6_fa.i,sIndFun6_fa.os,fun t=>sIndFun6 fu t.1 t.2.1 t.2.2⟩
theorem hsZ(fu:Nat):∀t,evF Go.Proofs.Tryz.prog [idir1_ft fu] fu Go.Proofs.Tryz.f164 sIndFun6_fa t=(sIndFun6_ft fu).spec t:=fun t=>by kernel_rfl
theorem fCZ(fu:Nat):Told Go.Proofs.Tryz.prog (sIndFun6_ft fu):=afZ (aaZ (iFZ fu) acZ) mixed Go.Proofs.Tryz.func164 (by kernel_rfl) (by kernel_rfl) (hsZ fu)
def sConFun5(fu:Nat)(s:List ((List UInt8×Int)))(h:List UInt8)(h1:Int):Option ((Bool×(List UInt8×Int))):=
 (sIndFun6 fu s h h1).bind fun r=>
 some ((decide (r.1>=0)),(r.2.1,r.2.2))
def sConFun5_fa:FnA:=⟨.two (.leaf) (.two (.reg [(2,{sh:=[0,1]})]) (.leaf)),⟨(.cons (.p (.sl (.pair .str (.int .i64)))) (.cons (.fn 171 .nil (.cons (.own 0 0 0 0) (.cons (.own 0 1 0 0) .nil))) .nil)),[(0,false,(.vars (.cons (.p .str) .nil))),(1,false,(.vars qL9))]⟩,[⟨(.cons (.p .bool) .nil),[(0,false,(.vars (.cons (.p .str) .nil))),(1,false,(.vars qL9))]⟩],[0]⟩
def sConFun5_ft(fu:Nat):FnT:=⟨144,sConFun5_fa.i,sConFun5_fa.os,fun t=>sConFun5 fu t.1 t.2.1 t.2.2⟩
theorem hcZ(fu:Nat):∀t,evF Go.Proofs.Tryz.prog [sIndFun6_ft fu] fu Go.Proofs.Tryz.f144 sConFun5_fa t=(sConFun5_ft fu).spec t:=fun t=>by kernel_rfl
theorem fJZ(fu:Nat):Told Go.Proofs.Tryz.prog (sConFun5_ft fu):=afZ (aaZ (fCZ fu) acZ) mixed Go.Proofs.Tryz.func144 (by kernel_rfl) (by kernel_rfl) (hcZ fu)
def idir(fu:Nat)(n:qT0)(many:Int):Option (Bool):=
 bif (n.2.2.2.2.1==0) then
  bif (((n.2.2.2.2.2.1.length:Nat):Int)==0) then
   bif (decide (((n.2.2.2.2.2.2.2.length:Nat):Int)<=100)) then
    (sConFun5 fu n.2.2.2.2.2.2.2 [] many).bind fun r=>
    some (!r.1)
   else
    some false
  else
   some false
 else
  some false
def idir_fa:FnA:=⟨.two (.reg [(0,{ids:=[100]}),(1,{ids:=[101]})]) (.two (.reg [(0,{ids:=[102]})]) (.two (.leaf) (.two (.reg [(19,{sh:=[102,101]})]) (.leaf)))),⟨(.cons (.p qY2) qL9),[]⟩,[⟨(.cons (.p .bool) .nil),[]⟩],[0]⟩
def idir_ft(fu:Nat):FnT:=⟨162,idir_fa.i,idir_fa.os,fun t=>idir fu t.1 t.2⟩
theorem mkZ(fu:Nat):∀t,evF Go.Proofs.Tryz.prog [sConFun5_ft fu] fu Go.Proofs.Tryz.f162 idir_fa t=(idir_ft fu).spec t:=fun t=>by kernel_rfl
theorem kAZ(fu:Nat):Told Go.Proofs.Tryz.prog (idir_ft fu):=afZ (aaZ (fJZ fu) acZ) mixed Go.Proofs.Tryz.func162 (by kernel_rfl) (by kernel_rfl) (mkZ fu)
def ifil1(fu:Nat)(p:(Int×Int))(h:qT29)(h1:Int):Option ((Bool×(qT29×Int))):=
 bif ((p.1==0)&&(p.2==0)) then
  some (false,(h,h1))
 else
  bif ((Option.getD (mget (k:=(.int .i64)) (v:=(.int .i64)) h p.1) 0)==1) then
   some (true,((mput (k:=(.int .i64)) (v:=(.int .i64)) h p.1 1),h1))
  else
   bif (decide (p.1<1)) then
    some (true,((mput (k:=(.int .i64)) (v:=(.int .i64)) h p.1 1),h1))
   else
    bif (decide (p.1>h1)) then
     some (true,((mput (k:=(.int .i64)) (v:=(.int .i64)) h p.1 1),h1))
    else
     bif (decide (p.2<1)) then
      some (true,((mput (k:=(.int .i64)) (v:=(.int .i64)) h p.1 1),h1))
     else
      some ((decide (p.2>1099511627776)),((mput (k:=(.int .i64)) (v:=(.int .i64)) h p.1 1),h1))
def ifil1_fa:FnA:=⟨.two (.reg [(0,{ids:=[100]})]) (.two (.two (.leaf) (.two (.leaf) (.leaf))) (.two (.leaf) (.two (.leaf) (.leaf)))),⟨(.cons (.p qY32) (.cons (.own 0 0 0 0) (.cons (.own 0 2 0 0) .nil))),[(0,false,(.vars (.cons (.mp 1) .nil))),(1,false,qB41),(2,false,(.vars qL9))]⟩,[⟨(.cons (.p .bool) .nil),[(0,false,(.vars (.cons (.mp 1) .nil))),(1,false,qB41),(2,false,(.vars qL9))]⟩],[0]⟩
def ifil1_ft(fu:Nat):FnT:=⟨172,ifil1_fa.i,ifil1_fa.os,fun t=>ifil1 fu t.1 t.2.1 t.2.2⟩
theorem lyZ(fu:Nat):∀t,evF Go.Proofs.Tryz.prog [] fu Go.Proofs.Tryz.f172 ifil1_fa t=(ifil1_ft fu).spec t:=fun t=>by kernel_rfl
theorem iVZ(fu:Nat):Told Go.Proofs.Tryz.prog (ifil1_ft fu):=afZ acZ mixed Go.Proofs.Tryz.func172 (by kernel_rfl) (by kernel_rfl) (lyZ fu)
def sIndFun5_l0(fu:Nat)(s:List ((Int×Int)))(x:Int)(h2:qT29)(h3:Int):Option ((Int×(qT29×Int))⊕((qT29×Int)⊕(Int×(qT29×Int)))):=
 bif (decide (x<((s.length:Nat):Int))) then
  (idx? x s.length).bind fun q=>
  (s)[q]?.bind fun r=>
  (ifil1 fu r h2 h3).bind fun r1=>
  bif r1.1 then
   some (.inr (.inr (x,(r1.2.1,r1.2.2))))
  else
   some (.inl ((IntKind.wrap .i64 (x+1)),(r1.2.1,r1.2.2)))
 else
  some (.inr (.inl (h2,h3)))
def sIndFun5_l0_it(fu:Nat)(s:List ((Int×Int)))(tt:(Int×(qT29×Int))):Option ((qT29×Int)⊕(Int×(qT29×Int))):=
 iter fu (fun tt=>sIndFun5_l0 fu s tt.1 tt.2.1 tt.2.2) tt
def sIndFun5(fu:Nat)(s:List ((Int×Int)))(h:qT29)(h1:Int):Option ((Int×(qT29×Int))):=
 (sIndFun5_l0_it fu s (0,(h,h1))).bind fun o=>
 match o with
 |.inl s1=>
  some ((-1),(s1.1,s1.2))
 |.inr o1=>
  some o1
def sIndFun5_fa:FnA:=⟨.two (.leaf) (.two (.two (.leaf) (.one (.loop ⟨[1,8],⟨(.cons (.fn 172 .nil (.cons (.own 0 0 0 0) (.cons (.own 0 2 0 0) .nil))) qL9),[(0,false,(.vars (.cons (.mp 1) .nil))),(1,false,qB41),(2,false,(.vars qL9))]⟩⟩ true [(0,⟨[1],⟨(.cons (.fn 172 .nil (.cons (.own 0 0 0 0) (.cons (.own 0 2 0 0) .nil))) .nil),[(0,false,(.vars (.cons (.mp 1) .nil))),(1,false,qB41),(2,false,(.vars qL9))]⟩⟩)] (.two (.leaf) (.two (.leaf) (.two (.one (.two (.leaf) (.two (.reg [(5,{sh:=[0,1,2]})]) (.two (.leaf) (.leaf))))) (.leaf))))))) (.leaf)),⟨(.cons (.p (.sl qY32)) (.cons (.fn 172 .nil (.cons (.own 0 0 0 0) (.cons (.own 0 2 0 0) .nil))) .nil)),[(0,false,(.vars (.cons (.mp 1) .nil))),(1,false,qB41),(2,false,(.vars qL9))]⟩,[⟨qL9,[(0,false,(.vars (.cons (.mp 1) .nil))),(1,false,qB41),(2,false,(.vars qL9))]⟩],[0]⟩
def sIndFun5_ft(fu:Nat):FnT:=⟨180,sIndFun5_fa.i,sIndFun5_fa.os,fun t=>sIndFun5 fu t.1 t.2.1 t.2.2⟩
theorem h7Z(fu:Nat):∀t,evF Go.Proofs.Tryz.prog [ifil1_ft fu] fu Go.Proofs.Tryz.f180 sIndFun5_fa t=(sIndFun5_ft fu).spec t:=fun t=>by kernel_rfl
theorem f6Z(fu:Nat):Told Go.Proofs.Tryz.prog (sIndFun5_ft fu):=afZ (aaZ (iVZ fu) acZ) mixed Go.Proofs.Tryz.func180 (by kernel_rfl) (by kernel_rfl) (h7Z fu)
def sConFun4(fu:Nat)(s:List ((Int×Int)))(h:qT29)(h1:Int):Option ((Bool×(qT29×Int))):=
 (sIndFun5 fu s h h1).bind fun r=>
 some ((decide (r.1>=0)),(r.2.1,r.2.2))
def sConFun4_fa:FnA:=⟨.two (.leaf) (.two (.reg [(2,{sh:=[0,1,2]})]) (.leaf)),⟨(.cons (.p (.sl qY32)) (.cons (.fn 172 .nil (.cons (.own 0 0 0 0) (.cons (.own 0 2 0 0) .nil))) .nil)),[(0,false,(.vars (.cons (.mp 1) .nil))),(1,false,qB41),(2,false,(.vars qL9))]⟩,[⟨(.cons (.p .bool) .nil),[(0,false,(.vars (.cons (.mp 1) .nil))),(1,false,qB41),(2,false,(.vars qL9))]⟩],[0]⟩
def sConFun4_ft(fu:Nat):FnT:=⟨173,sConFun4_fa.i,sConFun4_fa.os,fun t=>sConFun4 fu t.1 t.2.1 t.2.2⟩
theorem hNZ(fu:Nat):∀t,evF Go.Proofs.Tryz.prog [sIndFun5_ft fu] fu Go.Proofs.Tryz.f173 sConFun4_fa t=(sConFun4_ft fu).spec t:=fun t=>by kernel_rfl
theorem fpZ(fu:Nat):Told Go.Proofs.Tryz.prog (sConFun4_ft fu):=afZ (aaZ (f6Z fu) acZ) mixed Go.Proofs.Tryz.func173 (by kernel_rfl) (by kernel_rfl) (hNZ fu)
def ifilm2(fu:Nat)(n:qT0)(stripe:Int)(h:qT29):Option ((Bool×qT29)):=
 bif (decide (n.2.2.2.2.1>=0)) then
  bif (decide (n.2.2.2.2.1<=65536)) then
   bif (((n.2.2.2.2.2.2.2.length:Nat):Int)==0) then
    bif (decide (((n.2.2.2.2.2.1.length:Nat):Int)<=4096)) then
     (sConFun4 fu n.2.2.2.2.2.1 h stripe).bind fun r=>
     some ((!r.1),r.2.1)
    else
     some (false,h)
   else
    some (false,h)
  else
   some (false,h)
 else
  some (false,h)
def ifilm2_fa:FnA:=⟨.two (.reg [(0,{ids:=[100]}),(1,{ids:=[101]}),(2,{ids:=[102]})]) (.two (.leaf) (.two (.reg [(24,{sh:=[102,0,101]})]) (.leaf))),⟨(.cons (.p qY2) (.cons (.p (.int .i64)) (.cons (.mp 0) .nil))),[(0,false,qB41)]⟩,[⟨(.cons (.p .bool) .nil),[(0,false,qB41)]⟩],[0]⟩
def ifilm2_ft(fu:Nat):FnT:=⟨163,ifilm2_fa.i,ifilm2_fa.os,fun t=>ifilm2 fu t.1 t.2.1 t.2.2⟩
theorem kiZ(fu:Nat):∀t,evF Go.Proofs.Tryz.prog [sConFun4_ft fu] fu Go.Proofs.Tryz.f163 ifilm2_fa t=(ifilm2_ft fu).spec t:=fun t=>by kernel_rfl
theorem huZ(fu:Nat):Told Go.Proofs.Tryz.prog (ifilm2_ft fu):=afZ (aaZ (fpZ fu) acZ) mixed Go.Proofs.Tryz.func163 (by kernel_rfl) (by kernel_rfl) (kiZ fu)
def iRig_l0(fu:Nat)(o:(Bool×(List (qT0)×Int)))(t:(List (qT0)×Int))(x:Int)(h:List (qT0))(h1:Int)(h2:qT29):Option ((Int×(List (qT0)×(Int×qT29)))⊕((List (qT0)×Int)⊕Bool)):=
 bif (decide (x<((o.2.1.length:Nat):Int))) then
  (idx? x o.2.1.length).bind fun q=>
  (o.2.1)[q]?.bind fun r=>
  (ibar fu (r.1,(r.2.1,(r.2.2.1,(r.2.2.2.1,(r.2.2.2.2.1,(r.2.2.2.2.2.1,(r.2.2.2.2.2.2.1,r.2.2.2.2.2.2.2)))))))).bind fun r1=>
  Option.bind (α:=((Bool×(List (qT0)×(Int×(qT29×qT0)))))) (
   bif r.2.2.1 then
    some (r.2.2.2.1,(h,(h1,(h2,(r.1,(r.2.1,(r.2.2.1,(r.2.2.2.1,(r.2.2.2.2.1,(r.2.2.2.2.2.1,(r.2.2.2.2.2.2.1,r.2.2.2.2.2.2.2)))))))))))
   else
    some (false,(h,(h1,(h2,(r.1,(r.2.1,(r.2.2.1,(r.2.2.2.1,(r.2.2.2.2.1,(r.2.2.2.2.2.1,(r.2.2.2.2.2.2.1,r.2.2.2.2.2.2.2)))))))))))) fun o1=>
  Option.bind (α:=((Bool×(List (qT0)×(Int×(qT29×qT0)))))) (
   bif o1.1 then
    (idir fu (o1.2.2.2.2.1,(o1.2.2.2.2.2.1,(o1.2.2.2.2.2.2.1,(o1.2.2.2.2.2.2.2.1,(o1.2.2.2.2.2.2.2.2.1,(o1.2.2.2.2.2.2.2.2.2.1,(o1.2.2.2.2.2.2.2.2.2.2.1,o1.2.2.2.2.2.2.2.2.2.2.2))))))) ((t.1.length:Nat):Int)).bind fun r2=>
    some (r2,(o1.2.1,(o1.2.2.1,(o1.2.2.2.1,(o1.2.2.2.2.1,(o1.2.2.2.2.2.1,(o1.2.2.2.2.2.2.1,(o1.2.2.2.2.2.2.2.1,(o1.2.2.2.2.2.2.2.2.1,(o1.2.2.2.2.2.2.2.2.2.1,(o1.2.2.2.2.2.2.2.2.2.2.1,o1.2.2.2.2.2.2.2.2.2.2.2)))))))))))
   else
    Option.bind (α:=((Bool×(List (qT0)×(Int×(qT29×qT0)))))) (
     bif o1.2.2.2.2.2.2.1 then
      (ifilm2 fu (o1.2.2.2.2.1,(o1.2.2.2.2.2.1,(o1.2.2.2.2.2.2.1,(o1.2.2.2.2.2.2.2.1,(o1.2.2.2.2.2.2.2.2.1,(o1.2.2.2.2.2.2.2.2.2.1,(o1.2.2.2.2.2.2.2.2.2.2.1,o1.2.2.2.2.2.2.2.2.2.2.2))))))) o1.2.2.1 o1.2.2.2.1).bind fun r3=>
      some (r3.1,(o1.2.1,(o1.2.2.1,(r3.2,(o1.2.2.2.2.1,(o1.2.2.2.2.2.1,(o1.2.2.2.2.2.2.1,(o1.2.2.2.2.2.2.2.1,(o1.2.2.2.2.2.2.2.2.1,(o1.2.2.2.2.2.2.2.2.2.1,(o1.2.2.2.2.2.2.2.2.2.2.1,o1.2.2.2.2.2.2.2.2.2.2.2)))))))))))
     else
      some (r1,(o1.2.1,(o1.2.2.1,(o1.2.2.2.1,(o1.2.2.2.2.1,(o1.2.2.2.2.2.1,(o1.2.2.2.2.2.2.1,(o1.2.2.2.2.2.2.2.1,(o1.2.2.2.2.2.2.2.2.1,(o1.2.2.2.2.2.2.2.2.2.1,(o1.2.2.2.2.2.2.2.2.2.2.1,o1.2.2.2.2.2.2.2.2.2.2.2)))))))))))) fun o2=>
    some (o2.1,(o2.2.1,(o2.2.2.1,(o2.2.2.2.1,(o2.2.2.2.2.1,(o2.2.2.2.2.2.1,(o2.2.2.2.2.2.2.1,(o2.2.2.2.2.2.2.2.1,(o2.2.2.2.2.2.2.2.2.1,(o2.2.2.2.2.2.2.2.2.2.1,(o2.2.2.2.2.2.2.2.2.2.2.1,o2.2.2.2.2.2.2.2.2.2.2.2)))))))))))) fun o3=>
  Option.bind (α:=((Bool×(List (qT0)×(Int×qT29))))) (
   bif (!o3.1) then
    some (true,(o3.2.1,(o3.2.2.1,o3.2.2.2.1)))
   else
    bif (!(o3.2.2.2.2.1==(IntKind.wrap .i64 (x+1)))) then
     some (true,(o3.2.1,(o3.2.2.1,o3.2.2.2.1)))
    else
     bif (decide (o3.2.2.2.2.2.1<1)) then
      some (true,(o3.2.1,(o3.2.2.1,o3.2.2.2.1)))
     else
      bif (decide (o3.2.2.2.2.2.1>1099511627776)) then
       some (true,(o3.2.1,(o3.2.2.1,o3.2.2.2.1)))
      else
       bif o3.2.2.2.2.2.2.1 then
        bif (decide (o3.2.2.2.2.2.2.2.2.2.2.1<1)) then
         some (true,(o3.2.1,(o3.2.2.1,o3.2.2.2.1)))
        else
         some ((decide (o3.2.2.2.2.2.2.2.2.2.2.1>((t.1.length:Nat):Int))),(o3.2.1,(o3.2.2.1,o3.2.2.2.1)))
       else
        some (false,(o3.2.1,(o3.2.2.1,o3.2.2.2.1)))) fun o4=>
  bif o4.1 then
   some (.inr (.inr false))
  else
   some (.inl ((IntKind.wrap .i64 (x+1)),(o4.2.1,(o4.2.2.1,o4.2.2.2))))
 else
  some (.inr (.inl (h,h1)))
def iRig_l0_it(fu:Nat)(o:(Bool×(List (qT0)×Int)))(t:(List (qT0)×Int))(tt:(Int×(List (qT0)×(Int×qT29)))):Option ((List (qT0)×Int)⊕Bool):=
 iter fu (fun tt=>iRig_l0 fu o t tt.1 tt.2.1 tt.2.2.1 tt.2.2.2) tt
def iRig(fu:Nat)(t:(List (qT0)×Int)):Option (Bool):=
 Option.bind (α:=((Bool×(List (qT0)×Int)))) (
  bif (decide (((t.1.length:Nat):Int)<1)) then
   some (true,(t.1,t.2))
  else
   bif (decide (((t.1.length:Nat):Int)>500)) then
    some (true,(t.1,t.2))
   else
    bif (decide (t.2<0)) then
     some (true,(t.1,t.2))
    else
     some ((decide (t.2>1099511627776)),(t.1,t.2))) fun o=>
 bif o.1 then
  some false
 else
  (iRig_l0_it fu o t (0,(o.2.1,(o.2.2,([],0))))).bind fun o5=>
  match o5 with
  |.inl s=>
   (idx? 0 s.1.length).bind fun q1=>
   (s.1)[q1]?.bind fun r4=>
   bif r4.2.2.1 then
    bif r4.2.2.2.1 then
     some (r4.2.2.2.2.2.2.1==1)
    else
     some false
   else
    some false
  |.inr o6=>
   some o6
def iRig_fa:FnA:=⟨.two (.reg [(0,{ids:=[100]})]) (.two (.leaf) (.two (.two (.join ⟨[1,27],⟨qL40,[(100,false,qB30)]⟩⟩ false [] (.leaf)) (.two (.leaf) (.leaf))) (.two (.reg [(0,{ids:=[101]})]) (.two (.two (.leaf) (.one (.loop ⟨[1,4,32],⟨(.cons (.own 0 100 0 0) (.cons (.mp 101) qL9)),[(100,false,qB30),(101,false,qB41)]⟩⟩ true [(0,⟨[1],⟨(.cons (.own 0 100 0 0) .nil),[(100,false,qB30)]⟩⟩)] (.two (.leaf) (.two (.leaf) (.two (.one (.two (.reg [(3,{ids:=[102]})]) (.two (.reg [(1,{})]) (.two (.one (.two (.join ⟨[1,4,6,39],⟨(.cons (.own 0 100 0 0) (.cons (.mp 101) (.cons (.own 0 102 0 0) (.cons (.p .bool) .nil)))),[(100,false,qB30),(101,false,qB41),(102,false,(.vars qL10))]⟩⟩ false [] (.leaf)) (.join ⟨[1,4,6,7],⟨(.cons (.own 0 100 0 0) (.cons (.mp 101) (.cons (.own 0 102 0 0) (.cons (.p .bool) .nil)))),[(100,false,qB30),(101,false,qB41),(102,false,(.vars qL10))]⟩⟩ false [] (.two (.reg [(2,{fn:=1})]) (.two (.leaf) (.join ⟨[1,4,6,7],⟨(.cons (.own 0 100 0 0) (.cons (.mp 101) (.cons (.own 0 102 0 0) (.cons (.p .bool) .nil)))),[(100,false,qB30),(101,false,qB41),(102,false,(.vars qL10))]⟩⟩ false [] (.two (.reg [(4,{sh:=[101],fn:=2})]) (.leaf)))))))) (.two (.join ⟨[1,4,90],⟨(.cons (.own 0 100 0 0) (.cons (.mp 101) (.cons (.p .bool) .nil))),[(100,false,qB30),(101,false,qB41)]⟩⟩ false [] (.leaf)) (.two (.leaf) (.leaf))))))) (.leaf))))))) (.two (.reg [(4,{ids:=[103]})]) (.leaf)))))),⟨(.cons (.p qY43) .nil),[]⟩,[⟨(.cons (.p .bool) .nil),[]⟩],[0]⟩
def iRig_ft(fu:Nat):FnT:=⟨142,iRig_fa.i,iRig_fa.os,fun t=>iRig fu t⟩
theorem mqZ(fu:Nat):∀t,evF Go.Proofs.Tryz.prog [ibar_ft fu,idir_ft fu,ifilm2_ft fu] fu Go.Proofs.Tryz.f142 iRig_fa t=(iRig_ft fu).spec t:=fun t=>by kernel_rfl
theorem gnZ(fu:Nat):Told Go.Proofs.Tryz.prog (iRig_ft fu):=afZ (aaZ (kMZ fu) (aaZ (kAZ fu) (aaZ (huZ fu) acZ))) mixed Go.Proofs.Tryz.func142 (by kernel_rfl) (by kernel_rfl) (mqZ fu)
def sConAny(fu:Nat)(s chars:List UInt8):Option Bool:=
 need (Nat.beq chars.length 2&&chars.all (fun b=>Nat.blt b.toNat 128)&&Nat.blt s.length 4294967281) (some (Go.Lib.containsAny s chars))
def sConAny_ft(fu:Nat):FnT:=⟨149,⟨(.cons (.p .str) (.cons (.p .str) .nil)),[]⟩,[⟨(.cons (.p .bool) .nil),[]⟩],fun t=>sConAny fu t.1 t.2⟩
theorem fSZ(fu:Nat):Told Go.Proofs.Tryz.prog (sConAny_ft fu):=
 dxZ Go.Proofs.Tryz.ca149 (by kernel_rfl) ⟨_,_,Go.Proofs.Tryz.func149,rfl,by kernel_rfl⟩
def tNam(fu:Nat)(s:List UInt8):Option (Bool):=
 bif (decide (((s.length:Nat):Int)>=1)) then
  bif (decide (((s.length:Nat):Int)<=30)) then
   bif (!(s==[46])) then
    bif (!(s==[46,46])) then
     (sConAny fu s [0,47]).bind fun r=>
     some (!r)
    else
     some false
   else
    some false
  else
   some false
 else
  some false
def tNam_fa:FnA:=⟨.two (.leaf) (.two (.reg [(18,{})]) (.leaf)),⟨(.cons (.p .str) .nil),[]⟩,[⟨(.cons (.p .bool) .nil),[]⟩],[0]⟩
def tNam_ft(fu:Nat):FnT:=⟨131,tNam_fa.i,tNam_fa.os,fun t=>tNam fu t⟩
theorem m4Z(fu:Nat):∀t,evF Go.Proofs.Tryz.prog [sConAny_ft fu] fu Go.Proofs.Tryz.f131 tNam_fa t=(tNam_ft fu).spec t:=fun t=>by kernel_rfl
theorem ejZ(fu:Nat):Told Go.Proofs.Tryz.prog (tNam_ft fu):=afZ (aaZ (fSZ fu) acZ) mixed Go.Proofs.Tryz.func131 (by kernel_rfl) (by kernel_rfl) (m4Z fu)
def tRig1(fu:Nat)(e:(List UInt8×Int))(h:List (Int))(h1:List (qT0))(h2:Int)(h3:Int)(h4:Int)(h5:Bool)(h6:Bool)(h7:Int)(h8:List ((Int×Int)))(h9:Int)(h10:List ((List UInt8×Int))):Option ((Bool×(List (Int)×(List (qT0)×(Int×qT0))))):=
 (idx? e.2 h.length).bind fun q=>
 (h)[q]?.bind fun r=>
 (idx? e.2 h.length).bind fun q1=>
 (h)[q1]?.bind fun r1=>
 (idx? (IntKind.wrap .i64 (e.2-1)) h1.length).bind fun q2=>
 (h1)[q2]?.bind fun r2=>
 (tNam fu e.1).bind fun r3=>
 bif (!r3) then
  some (true,((List.set h q1 (IntKind.wrap .i64 (r+1))),(h1,(h2,(h3,(h4,(h5,(h6,(h7,(h8,(h9,h10)))))))))))
 else
  bif (!r2.2.2.1) then
   some (true,((List.set h q1 (IntKind.wrap .i64 (r+1))),(h1,(h2,(h3,(h4,(h5,(h6,(h7,(h8,(h9,h10)))))))))))
  else
   some ((!(r2.2.2.2.2.2.2.1==h3)),((List.set h q1 (IntKind.wrap .i64 (r+1))),(h1,(h2,(h3,(h4,(h5,(h6,(h7,(h8,(h9,h10)))))))))))
def tRig1_fa:FnA:=⟨.two (.reg [(0,{ids:=[100]})]) (.two (.leaf) (.two (.reg [(7,{ids:=[101]})]) (.two (.reg [(2,{})]) (.leaf)))),⟨(.cons (.p (.pair .str (.int .i64))) (.cons (.own 0 0 0 0) (.cons (.own 0 2 0 0) (.cons (.own 0 3 0 0) .nil)))),[(0,false,(.vars (.cons (.slf 1 1) .nil))),(1,false,(.rows 3 (.int .i64))),(2,false,qB30),(3,false,(.vars qL10))]⟩,[⟨(.cons (.p .bool) .nil),[(0,false,(.vars (.cons (.slf 1 1) .nil))),(1,false,(.rows 3 (.int .i64))),(2,false,qB30),(3,false,(.vars qL10))]⟩],[0]⟩
def tRig1_ft(fu:Nat):FnT:=⟨143,tRig1_fa.i,tRig1_fa.os,fun t=>tRig1 fu t.1 t.2.1 t.2.2.1 t.2.2.2.1 t.2.2.2.2.1 t.2.2.2.2.2.1 t.2.2.2.2.2.2.1 t.2.2.2.2.2.2.2.1 t.2.2.2.2.2.2.2.2.1 t.2.2.2.2.2.2.2.2.2.1 t.2.2.2.2.2.2.2.2.2.2.1 t.2.2.2.2.2.2.2.2.2.2.2⟩
theorem lxZ(fu:Nat):∀t,evF Go.Proofs.Tryz.prog [tNam_ft fu] fu Go.Proofs.Tryz.f143 tRig1_fa t=(tRig1_ft fu).spec t:=fun t=>by kernel_rfl
theorem iPZ(fu:Nat):Told Go.Proofs.Tryz.prog (tRig1_ft fu):=afZ (aaZ (ejZ fu) acZ) mixed Go.Proofs.Tryz.func143 (by kernel_rfl) (by kernel_rfl) (lxZ fu)
def sIndFun3_l0(fu:Nat)(s:List ((List UInt8×Int)))(x:Int)(h11:List (Int))(h12:List (qT0))(h13:Int)(h14:Int)(h15:Int)(h16:Bool)(h17:Bool)(h18:Int)(h19:List ((Int×Int)))(h20:Int)(h21:List ((List UInt8×Int))):Option ((Int×(List (Int)×(List (qT0)×(Int×qT0))))⊕((List (Int)×(List (qT0)×(Int×qT0)))⊕(Int×(List (Int)×(List (qT0)×(Int×qT0)))))):=
 bif (decide (x<((s.length:Nat):Int))) then
  (idx? x s.length).bind fun q=>
  (s)[q]?.bind fun r=>
  (tRig1 fu r h11 h12 h13 h14 h15 h16 h17 h18 h19 h20 h21).bind fun r1=>
  bif r1.1 then
   some (.inr (.inr (x,(r1.2.1,(r1.2.2.1,(r1.2.2.2.1,(r1.2.2.2.2.1,(r1.2.2.2.2.2.1,(r1.2.2.2.2.2.2.1,(r1.2.2.2.2.2.2.2.1,(r1.2.2.2.2.2.2.2.2.1,(r1.2.2.2.2.2.2.2.2.2.1,(r1.2.2.2.2.2.2.2.2.2.2.1,r1.2.2.2.2.2.2.2.2.2.2.2)))))))))))))
  else
   some (.inl ((IntKind.wrap .i64 (x+1)),(r1.2.1,(r1.2.2.1,(r1.2.2.2.1,(r1.2.2.2.2.1,(r1.2.2.2.2.2.1,(r1.2.2.2.2.2.2.1,(r1.2.2.2.2.2.2.2.1,(r1.2.2.2.2.2.2.2.2.1,(r1.2.2.2.2.2.2.2.2.2.1,(r1.2.2.2.2.2.2.2.2.2.2.1,r1.2.2.2.2.2.2.2.2.2.2.2))))))))))))
 else
  some (.inr (.inl (h11,(h12,(h13,(h14,(h15,(h16,(h17,(h18,(h19,(h20,h21))))))))))))
def sIndFun3_l0_it(fu:Nat)(s:List ((List UInt8×Int)))(tt:(Int×(List (Int)×(List (qT0)×(Int×qT0))))):Option ((List (Int)×(List (qT0)×(Int×qT0)))⊕(Int×(List (Int)×(List (qT0)×(Int×qT0))))):=
 iter fu (fun tt=>sIndFun3_l0 fu s tt.1 tt.2.1 tt.2.2.1 tt.2.2.2.1 tt.2.2.2.2.1 tt.2.2.2.2.2.1 tt.2.2.2.2.2.2.1 tt.2.2.2.2.2.2.2.1 tt.2.2.2.2.2.2.2.2.1 tt.2.2.2.2.2.2.2.2.2.1 tt.2.2.2.2.2.2.2.2.2.2.1 tt.2.2.2.2.2.2.2.2.2.2.2) tt
def sIndFun3(fu:Nat)(s:List ((List UInt8×Int)))(h:List (Int))(h1:List (qT0))(h2:Int)(h3:Int)(h4:Int)(h5:Bool)(h6:Bool)(h7:Int)(h8:List ((Int×Int)))(h9:Int)(h10:List ((List UInt8×Int))):Option ((Int×(List (Int)×(List (qT0)×(Int×qT0))))):=
 (sIndFun3_l0_it fu s (0,(h,(h1,(h2,(h3,(h4,(h5,(h6,(h7,(h8,(h9,h10)))))))))))).bind fun o=>
 match o with
 |.inl s1=>
  some ((-1),(s1.1,(s1.2.1,(s1.2.2.1,(s1.2.2.2.1,(s1.2.2.2.2.1,(s1.2.2.2.2.2.1,(s1.2.2.2.2.2.2.1,(s1.2.2.2.2.2.2.2.1,(s1.2.2.2.2.2.2.2.2.1,(s1.2.2.2.2.2.2.2.2.2.1,s1.2.2.2.2.2.2.2.2.2.2)))))))))))
 |.inr o1=>
  some o1
def sIndFun3_fa:FnA:=⟨.two (.leaf) (.two (.two (.leaf) (.one (.loop ⟨[1,8],⟨(.cons (.fn 143 .nil (.cons (.own 0 0 0 0) (.cons (.own 0 2 0 0) (.cons (.own 0 3 0 0) .nil)))) qL9),[(0,false,(.vars (.cons (.slf 1 1) .nil))),(1,false,(.rows 3 (.int .i64))),(2,false,qB30),(3,false,(.vars qL10))]⟩⟩ true [(0,⟨[1],⟨(.cons (.fn 143 .nil (.cons (.own 0 0 0 0) (.cons (.own 0 2 0 0) (.cons (.own 0 3 0 0) .nil)))) .nil),[(0,false,(.vars (.cons (.slf 1 1) .nil))),(1,false,(.rows 3 (.int .i64))),(2,false,qB30),(3,false,(.vars qL10))]⟩⟩)] (.two (.leaf) (.two (.leaf) (.two (.one (.two (.leaf) (.two (.reg [(5,{sh:=[0,1,2,3]})]) (.two (.leaf) (.leaf))))) (.leaf))))))) (.leaf)),⟨(.cons (.p (.sl (.pair .str (.int .i64)))) (.cons (.fn 143 .nil (.cons (.own 0 0 0 0) (.cons (.own 0 2 0 0) (.cons (.own 0 3 0 0) .nil)))) .nil)),[(0,false,(.vars (.cons (.slf 1 1) .nil))),(1,false,(.rows 3 (.int .i64))),(2,false,qB30),(3,false,(.vars qL10))]⟩,[⟨qL9,[(0,false,(.vars (.cons (.slf 1 1) .nil))),(1,false,(.rows 3 (.int .i64))),(2,false,qB30),(3,false,(.vars qL10))]⟩],[0]⟩
def sIndFun3_ft(fu:Nat):FnT:=⟨164,sIndFun3_fa.i,sIndFun3_fa.os,fun t=>sIndFun3 fu t.1 t.2.1 t.2.2.1 t.2.2.2.1 t.2.2.2.2.1 t.2.2.2.2.2.1 t.2.2.2.2.2.2.1 t.2.2.2.2.2.2.2.1 t.2.2.2.2.2.2.2.2.1 t.2.2.2.2.2.2.2.2.2.1 t.2.2.2.2.2.2.2.2.2.2.1 t.2.2.2.2.2.2.2.2.2.2.2⟩
theorem hnZ(fu:Nat):∀t,evF Go.Proofs.Tryz.prog [tRig1_ft fu] fu Go.Proofs.Tryz.f164 sIndFun3_fa t=(sIndFun3_ft fu).spec t:=fun t=>by kernel_rfl
theorem eZZ(fu:Nat):Told Go.Proofs.Tryz.prog (sIndFun3_ft fu):=afZ (aaZ (iPZ fu) acZ) mixed Go.Proofs.Tryz.func164 (by kernel_rfl) (by kernel_rfl) (hnZ fu)
def sConFun3(fu:Nat)(s:List ((List UInt8×Int)))(h:List (Int))(h1:List (qT0))(h2:Int)(h3:Int)(h4:Int)(h5:Bool)(h6:Bool)(h7:Int)(h8:List ((Int×Int)))(h9:Int)(h10:List ((List UInt8×Int))):Option ((Bool×(List (Int)×(List (qT0)×(Int×qT0))))):=
 (sIndFun3 fu s h h1 h2 h3 h4 h5 h6 h7 h8 h9 h10).bind fun r=>
 some ((decide (r.1>=0)),(r.2.1,(r.2.2.1,(r.2.2.2.1,(r.2.2.2.2.1,(r.2.2.2.2.2.1,(r.2.2.2.2.2.2.1,(r.2.2.2.2.2.2.2.1,(r.2.2.2.2.2.2.2.2.1,(r.2.2.2.2.2.2.2.2.2.1,(r.2.2.2.2.2.2.2.2.2.2.1,r.2.2.2.2.2.2.2.2.2.2.2)))))))))))
def sConFun3_fa:FnA:=⟨.two (.leaf) (.two (.reg [(2,{sh:=[0,1,2,3]})]) (.leaf)),⟨(.cons (.p (.sl (.pair .str (.int .i64)))) (.cons (.fn 143 .nil (.cons (.own 0 0 0 0) (.cons (.own 0 2 0 0) (.cons (.own 0 3 0 0) .nil)))) .nil)),[(0,false,(.vars (.cons (.slf 1 1) .nil))),(1,false,(.rows 3 (.int .i64))),(2,false,qB30),(3,false,(.vars qL10))]⟩,[⟨(.cons (.p .bool) .nil),[(0,false,(.vars (.cons (.slf 1 1) .nil))),(1,false,(.rows 3 (.int .i64))),(2,false,qB30),(3,false,(.vars qL10))]⟩],[0]⟩
def sConFun3_ft(fu:Nat):FnT:=⟨144,sConFun3_fa.i,sConFun3_fa.os,fun t=>sConFun3 fu t.1 t.2.1 t.2.2.1 t.2.2.2.1 t.2.2.2.2.1 t.2.2.2.2.2.1 t.2.2.2.2.2.2.1 t.2.2.2.2.2.2.2.1 t.2.2.2.2.2.2.2.2.1 t.2.2.2.2.2.2.2.2.2.1 t.2.2.2.2.2.2.2.2.2.2.1 t.2.2.2.2.2.2.2.2.2.2.2⟩
theorem hJZ(fu:Nat):∀t,evF Go.Proofs.Tryz.prog [sIndFun3_ft fu] fu Go.Proofs.Tryz.f144 sConFun3_fa t=(sConFun3_ft fu).spec t:=fun t=>by kernel_rfl
theorem fjZ(fu:Nat):Told Go.Proofs.Tryz.prog (sConFun3_ft fu):=afZ (aaZ (eZZ fu) acZ) mixed Go.Proofs.Tryz.func144 (by kernel_rfl) (by kernel_rfl) (hJZ fu)
def trea_l0(fu:Nat)(t:(List (qT0)×Int))(id1:Int)(x:Int)(h:List (qT0))(h1:Int):Option ((Int×qT39)⊕(Int⊕Bool)):=
 bif (decide (x<((t.1.length:Nat):Int))) then
  bif (id1==1) then
   some (.inr (.inr true))
  else
   (idx? (IntKind.wrap .i64 (id1-1)) h.length).bind fun q=>
   (h)[q]?.bind fun r=>
   bif (!r.2.2.1) then
    some (.inr (.inr false))
   else
    (idx? (IntKind.wrap .i64 (id1-1)) h.length).bind fun q1=>
    (h)[q1]?.bind fun r1=>
    some (.inl (r1.2.2.2.2.2.2.1,((IntKind.wrap .i64 (x+1)),(h,h1))))
 else
  some (.inr (.inl id1))
def trea_l0_it(fu:Nat)(t:(List (qT0)×Int))(tt:(Int×qT39)):Option (Int⊕Bool):=
 iter fu (fun tt=>trea_l0 fu t tt.1 tt.2.1 tt.2.2.1 tt.2.2.2) tt
def trea(fu:Nat)(t:(List (qT0)×Int))(id:Int):Option (Bool):=
 (trea_l0_it fu t (id,(0,(t.1,t.2)))).bind fun o=>
 match o with
 |.inl s=>
  some (s==1)
 |.inr o1=>
  some o1
def trea_fa:FnA:=⟨.two (.reg [(0,{ids:=[100]})]) (.two (.two (.leaf) (.one (.loop ⟨[1,2,8],⟨(.cons (.p (.int .i64)) (.cons (.own 0 100 0 0) qL9)),[(100,false,qB30)]⟩⟩ true [(0,⟨[1],⟨qL9,[]⟩⟩)] (.two (.leaf) (.two (.leaf) (.two (.one (.two (.two (.leaf) (.two (.leaf) (.leaf))) (.two (.two (.leaf) (.two (.leaf) (.leaf))) (.leaf)))) (.leaf))))))) (.leaf)),⟨(.cons (.p qY43) qL9),[]⟩,[⟨(.cons (.p .bool) .nil),[]⟩],[0]⟩
def trea_ft(fu:Nat):FnT:=⟨145,trea_fa.i,trea_fa.os,fun t=>trea fu t.1 t.2⟩
theorem mvZ(fu:Nat):∀t,evF Go.Proofs.Tryz.prog [] fu Go.Proofs.Tryz.f145 trea_fa t=(trea_ft fu).spec t:=fun t=>by kernel_rfl
theorem kNZ(fu:Nat):Told Go.Proofs.Tryz.prog (trea_ft fu):=afZ acZ mixed Go.Proofs.Tryz.func145 (by kernel_rfl) (by kernel_rfl) (mvZ fu)
def tRig_l0(fu:Nat)(t:(List (qT0)×Int))(x:Int)(h:List (qT0))(h1:Int)(h2:List (Int)):Option ((Int×(List (qT0)×(Int×List (Int))))⊕((List (qT0)×(Int×List (Int)))⊕Bool)):=
 bif (decide (x<((t.1.length:Nat):Int))) then
  (idx? x t.1.length).bind fun q1=>
  (t.1)[q1]?.bind fun r1=>
  Option.bind (α:=((Bool×(List (qT0)×(Int×List (Int)))))) (
   (sConFun3 fu r1.2.2.2.2.2.2.2 h2 h h1 r1.1 r1.2.1 r1.2.2.1 r1.2.2.2.1 r1.2.2.2.2.1 r1.2.2.2.2.2.1 r1.2.2.2.2.2.2.1 r1.2.2.2.2.2.2.2).bind fun r2=>
   bif r2.1 then
    some (true,(r2.2.2.1,(r2.2.2.2.1,r2.2.1)))
   else
    bif r2.2.2.2.2.2.2.1 then
     (trea fu (r2.2.2.1,r2.2.2.2.1) r2.2.2.2.2.1).bind fun r3=>
     some ((!r3),(r2.2.2.1,(r2.2.2.2.1,r2.2.1)))
    else
     some (false,(r2.2.2.1,(r2.2.2.2.1,r2.2.1)))) fun o=>
  bif o.1 then
   some (.inr (.inr false))
  else
   some (.inl ((IntKind.wrap .i64 (x+1)),(o.2.1,(o.2.2.1,o.2.2.2))))
 else
  some (.inr (.inl (h,(h1,h2))))
def tRig_l0_it(fu:Nat)(t:(List (qT0)×Int))(tt:(Int×(List (qT0)×(Int×List (Int))))):Option ((List (qT0)×(Int×List (Int)))⊕Bool):=
 iter fu (fun tt=>tRig_l0 fu t tt.1 tt.2.1 tt.2.2.1 tt.2.2.2) tt
def tRig_l1(fu:Nat)(s:(List (qT0)×(Int×List (Int))))(x1:Int)(h3:List (Int)):Option ((Int×List (Int))⊕(Unit⊕Bool)):=
 bif (decide (x1<((s.1.length:Nat):Int))) then
  (idx? x1 s.1.length).bind fun q2=>
  (s.1)[q2]?.bind fun r4=>
  Option.bind (α:=((Bool×(List (Int)×qT0)))) (
   bif (r4.1==1) then
    some (true,(h3,(r4.1,(r4.2.1,(r4.2.2.1,(r4.2.2.2.1,(r4.2.2.2.2.1,(r4.2.2.2.2.2.1,(r4.2.2.2.2.2.2.1,r4.2.2.2.2.2.2.2)))))))))
   else
    some ((!r4.2.2.1),(h3,(r4.1,(r4.2.1,(r4.2.2.1,(r4.2.2.2.1,(r4.2.2.2.2.1,(r4.2.2.2.2.2.1,(r4.2.2.2.2.2.2.1,r4.2.2.2.2.2.2.2)))))))))) fun o3=>
  Option.bind (α:=((Int×(List (Int)×qT0)))) (
   bif o3.1 then
    some (0,(o3.2.1,(o3.2.2.1,(o3.2.2.2.1,(o3.2.2.2.2.1,(o3.2.2.2.2.2.1,(o3.2.2.2.2.2.2.1,(o3.2.2.2.2.2.2.2.1,(o3.2.2.2.2.2.2.2.2.1,o3.2.2.2.2.2.2.2.2.2)))))))))
   else
    some (1,(o3.2.1,(o3.2.2.1,(o3.2.2.2.1,(o3.2.2.2.2.1,(o3.2.2.2.2.2.1,(o3.2.2.2.2.2.2.1,(o3.2.2.2.2.2.2.2.1,(o3.2.2.2.2.2.2.2.2.1,o3.2.2.2.2.2.2.2.2.2)))))))))) fun o4=>
  (idx? o4.2.2.1 o4.2.1.length).bind fun q3=>
  (o4.2.1)[q3]?.bind fun r5=>
  bif (!(r5==o4.1)) then
   some (.inr (.inr false))
  else
   some (.inl ((IntKind.wrap .i64 (x1+1)),o4.2.1))
 else
  some (.inr (.inl ()))
def tRig_l1_it(fu:Nat)(s:(List (qT0)×(Int×List (Int))))(tt:(Int×List (Int))):Option (Unit⊕Bool):=
 iter fu (fun tt=>tRig_l1 fu s tt.1 tt.2) tt
def tRig(fu:Nat)(t:(List (qT0)×Int)):Option (Bool):=
 (iRig fu (t.1,t.2)).bind fun r=>
 bif (!r) then
  some false
 else
  (upto? (IntKind.wrap .i64 (((t.1.length:Nat):Int)+1)) room).bind fun m=>
  (upto? (IntKind.wrap .i64 (((t.1.length:Nat):Int)+1)) m).bind fun q=>
  need (Nat.ble (m*8) room)<|
  (tRig_l0_it fu t (0,(t.1,(t.2,(List.replicate (α:=Int) q 0))))).bind fun o1=>
  match o1 with
  |.inl s=>
   (tRig_l1_it fu s (0,s.2.2)).bind fun o5=>
   match o5 with
   |.inl s1=>
    some true
   |.inr o6=>
    some o6
  |.inr o2=>
   some o2
def tRig_fa:FnA:=⟨.two (.reg [(0,{ids:=[100]})]) (.two (.two (.reg [(1,{})]) (.two (.leaf) (.leaf))) (.two (.reg [(4,{ids:=[101]}),(5,{ids:=[102]})]) (.two (.two (.leaf) (.one (.loop ⟨[1,3,21],⟨(.cons (.own 0 100 0 0) (.cons (.own 0 102 0 0) qL9)),[(100,false,qB30),(102,false,(.vars (.cons (.slf 1 101) .nil))),(101,false,(.rows 3 (.int .i64)))]⟩⟩ true [(0,⟨[1,3],⟨(.cons (.own 0 100 0 0) (.cons (.own 0 102 0 0) .nil)),[(100,false,qB30),(102,false,(.vars (.cons (.slf 1 101) .nil))),(101,false,(.rows 3 (.int .i64)))]⟩⟩)] (.two (.leaf) (.two (.leaf) (.two (.one (.two (.reg [(2,{ids:=[103]})]) (.two (.leaf) (.two (.join ⟨[1,3,40],⟨(.cons (.own 0 100 0 0) (.cons (.own 0 102 0 0) (.cons (.p .bool) .nil))),[(100,false,qB30),(102,false,(.vars (.cons (.slf 1 101) .nil))),(101,false,(.rows 3 (.int .i64)))]⟩⟩ false [] (.reg [(3,{sh:=[102,101,100,103],fn:=1}),(11,{fn:=2})])) (.two (.leaf) (.leaf)))))) (.leaf))))))) (.two (.two (.leaf) (.one (.loop ⟨[3,45],⟨(.cons (.own 0 102 0 0) qL9),[(102,false,(.vars (.cons (.slf 1 101) .nil))),(101,false,(.rows 3 (.int .i64)))]⟩⟩ true [(2,⟨[],⟨.nil,[]⟩⟩)] (.two (.leaf) (.two (.leaf) (.two (.one (.two (.reg [(2,{ids:=[104]})]) (.two (.leaf) (.two (.two (.join ⟨[3,8,56],⟨(.cons (.own 0 102 0 0) (.cons (.own 0 104 0 0) (.cons (.p .bool) .nil))),[(102,false,(.vars (.cons (.slf 1 101) .nil))),(101,false,(.rows 3 (.int .i64))),(104,false,(.vars qL10))]⟩⟩ false [] (.leaf)) (.join ⟨[3,8,9],⟨(.cons (.own 0 102 0 0) (.cons (.own 0 104 0 0) qL9)),[(102,false,(.vars (.cons (.slf 1 101) .nil))),(101,false,(.rows 3 (.int .i64))),(104,false,(.vars qL10))]⟩⟩ false [] (.leaf))) (.two (.leaf) (.two (.leaf) (.leaf))))))) (.leaf))))))) (.leaf))))),⟨(.cons (.p qY43) .nil),[]⟩,[⟨(.cons (.p .bool) .nil),[]⟩],[0]⟩
def tRig_ft(fu:Nat):FnT:=⟨107,tRig_fa.i,tRig_fa.os,fun t=>tRig fu t⟩
theorem m6Z(fu:Nat):∀t,evF Go.Proofs.Tryz.prog [iRig_ft fu,sConFun3_ft fu,trea_ft fu] fu Go.Proofs.Tryz.f107 tRig_fa t=(tRig_ft fu).spec t:=fun t=>by kernel_rfl
theorem g8Z(fu:Nat):Told Go.Proofs.Tryz.prog (tRig_ft fu):=afZ (aaZ (gnZ fu) (aaZ (fjZ fu) (aaZ (kNZ fu) acZ))) mixed Go.Proofs.Tryz.func107 (by kernel_rfl) (by kernel_rfl) (m6Z fu)
def mRig_l0(fu:Nat)(o:(Bool×(List (qT0)×(Int×List (List (UInt8))))))(x:Int)(h:List (qT0))(h1:Int)(h2:List (List (UInt8))):Option ((Int×(List (qT0)×(Int×List (List (UInt8)))))⊕(Unit⊕Bool)):=
 bif (decide (x<((o.2.1.length:Nat):Int))) then
  (idx? x o.2.1.length).bind fun q=>
  (o.2.1)[q]?.bind fun r1=>
  Option.bind (α:=((Bool×(List (qT0)×(Int×List (List (UInt8))))))) (
   bif (decide (((r1.2.2.2.2.2.1.length:Nat):Int)>0)) then
    some (true,(h,(h1,h2)))
   else
    (idx? x h2.length).bind fun q1=>
    (h2)[q1]?.bind fun r2=>
    some ((!(((r2.length:Nat):Int)==r1.2.2.2.2.1)),(h,(h1,h2)))) fun o1=>
  bif o1.1 then
   some (.inr (.inr false))
  else
   some (.inl ((IntKind.wrap .i64 (x+1)),(o1.2.1,(o1.2.2.1,o1.2.2.2))))
 else
  some (.inr (.inl ()))
def mRig_l0_it(fu:Nat)(o:(Bool×(List (qT0)×(Int×List (List (UInt8))))))(tt:(Int×(List (qT0)×(Int×List (List (UInt8)))))):Option (Unit⊕Bool):=
 iter fu (fun tt=>mRig_l0 fu o tt.1 tt.2.1 tt.2.2.1 tt.2.2.2) tt
def mRig(fu:Nat)(m:((List (qT0)×Int)×List (List (UInt8)))):Option (Bool):=
 Option.bind (α:=((Bool×(List (qT0)×(Int×List (List (UInt8))))))) (
  (tRig fu (m.1.1,m.1.2)).bind fun r=>
  bif (!r) then
   some (true,(m.1.1,(m.1.2,m.2)))
  else
   some ((!(((m.2.length:Nat):Int)==((m.1.1.length:Nat):Int))),(m.1.1,(m.1.2,m.2)))) fun o=>
 bif o.1 then
  some false
 else
  (mRig_l0_it fu o (0,(o.2.1,(o.2.2.1,o.2.2.2)))).bind fun o2=>
  match o2 with
  |.inl s=>
   some true
  |.inr o3=>
   some o3
def mRig_fa:FnA:=⟨.two (.reg [(0,{ids:=[100]})]) (.two (.two (.join ⟨[1,18],⟨qL40,[(100,false,(.vars qL36))]⟩⟩ false [] (.reg [(2,{})])) (.two (.leaf) (.leaf))) (.two (.two (.leaf) (.one (.loop ⟨[1,23],⟨(.cons (.own 0 100 0 0) qL9),[(100,false,(.vars qL36))]⟩⟩ true [(0,⟨[],⟨.nil,[]⟩⟩)] (.two (.leaf) (.two (.leaf) (.two (.one (.two (.reg [(3,{ids:=[101]})]) (.two (.join ⟨[1,42],⟨qL40,[(100,false,(.vars qL36))]⟩⟩ false [] (.leaf)) (.two (.leaf) (.leaf))))) (.leaf))))))) (.leaf))),⟨(.cons (.p (.pair qY43 (.sl (.sl .byte)))) .nil),[]⟩,[⟨(.cons (.p .bool) .nil),[]⟩],[0]⟩
def mRig_ft(fu:Nat):FnT:=⟨78,mRig_fa.i,mRig_fa.os,fun t=>mRig fu t⟩
theorem moZ(fu:Nat):∀t,evF Go.Proofs.Tryz.prog [tRig_ft fu] fu Go.Proofs.Tryz.f78 mRig_fa t=(mRig_ft fu).spec t:=fun t=>by kernel_rfl
theorem jTZ(fu:Nat):Told Go.Proofs.Tryz.prog (mRig_ft fu):=afZ (aaZ (g8Z fu) acZ) mixed Go.Proofs.Tryz.func78 (by kernel_rfl) (by kernel_rfl) (moZ fu)
def sClo3(fu:Nat)(s:List ((Int×Int))):Option (List ((Int×Int))):=
 nilQ s.length fun isNil=>
 bif isNil then
  some []
 else
  need ((Nat.ble ((0+s.length)*16) room)&&(Nat.ble (0+s.length) room))<|
  some s
def sClo3_fa:FnA:=⟨.two (.leaf) (.two (.two (.leaf) (.two (.leaf) (.leaf))) (.two (.reg [(0,{ids:=[100]}),(2,{ids:=[101]})]) (.leaf))),⟨(.cons (.p (.sl qY32)) .nil),[]⟩,[⟨(.cons (.slf 2 0) .nil),[(0,false,(.rows 136 qY32))]⟩],[146]⟩
def sClo3_ft(fu:Nat):FnT:=⟨109,sClo3_fa.i,sClo3_fa.os,fun t=>sClo3 fu t⟩
theorem lrZ(fu:Nat):∀t,evF Go.Proofs.Tryz.prog [] fu Go.Proofs.Tryz.f109 sClo3_fa t=(sClo3_ft fu).spec t:=fun t=>by kernel_rfl
theorem deZ(fu:Nat):Told Go.Proofs.Tryz.prog (sClo3_ft fu):=afZ acZ mixed Go.Proofs.Tryz.func109 (by kernel_rfl) (by kernel_rfl) (lrZ fu)
def sClo(fu:Nat)(s:List ((List UInt8×Int))):Option (List ((List UInt8×Int))):=
 nilQ s.length fun isNil=>
 bif isNil then
  some []
 else
  need ((Nat.ble ((0+s.length)*24) room)&&(Nat.ble (0+s.length) room))<|
  some s
def sClo_fa:FnA:=⟨.two (.leaf) (.two (.two (.leaf) (.two (.leaf) (.leaf))) (.two (.reg [(0,{ids:=[100]}),(2,{ids:=[101]})]) (.leaf))),⟨(.cons (.p (.sl (.pair .str (.int .i64)))) .nil),[]⟩,[⟨(.cons (.slf 2 0) .nil),[(0,false,(.rows 108 (.pair .str (.int .i64))))]⟩],[118]⟩
def sClo_ft(fu:Nat):FnT:=⟨110,sClo_fa.i,sClo_fa.os,fun t=>sClo fu t⟩
theorem m9Z(fu:Nat):∀t,evF Go.Proofs.Tryz.prog [] fu Go.Proofs.Tryz.f110 sClo_fa t=(sClo_ft fu).spec t:=fun t=>by kernel_rfl
theorem dDZ(fu:Nat):Told Go.Proofs.Tryz.prog (sClo_ft fu):=afZ acZ mixed Go.Proofs.Tryz.func110 (by kernel_rfl) (by kernel_rfl) (m9Z fu)
def inode_own(fu:Nat)(n:qT0):Option ((Int×(Int×(Bool×(Bool×(Int×(Int×(List ((Int×Int))×List ((List UInt8×Int)))))))))):=
 (sClo3 fu n.2.2.2.2.2.1).bind fun r=>
 (sClo fu n.2.2.2.2.2.2.2).bind fun r1=>
 some (n.1,(n.2.1,(n.2.2.1,(n.2.2.2.1,(n.2.2.2.2.1,(n.2.2.2.2.2.2.1,(r,r1)))))))
def inode_own_fa:FnA:=⟨.two (.reg [(0,{ids:=[100]}),(1,{ids:=[101]})]) (.two (.reg [(2,{ids:=[102]}),(5,{ids:=[103],fn:=1})]) (.leaf)),⟨(.cons (.p qY2) .nil),[]⟩,[⟨(.cons (.agg (.cons (.p (.int .i64)) (.cons (.p (.int .i64)) (.cons (.p .bool) (.cons (.p .bool) (.cons (.p (.int .i64)) (.cons (.slf 2 0) (.cons (.p (.int .i64)) (.cons (.slf 2 1) .nil))))))))) .nil),[(0,false,(.rows 136 qY32)),(1,false,(.rows 108 (.pair .str (.int .i64))))]⟩],[0]⟩
def inode_own_ft(fu:Nat):FnT:=⟨141,inode_own_fa.i,inode_own_fa.os,fun t=>inode_own fu t⟩
theorem gJZ(fu:Nat):∀t,evF Go.Proofs.Tryz.prog [sClo3_ft fu,sClo_ft fu] fu Go.Proofs.Tryz.f141 inode_own_fa t=(inode_own_ft fu).spec t:=fun t=>by kernel_rfl
theorem czZ(fu:Nat):Told Go.Proofs.Tryz.prog (inode_own_ft fu):=afZ (aaZ (deZ fu) (aaZ (dDZ fu) acZ)) mixed Go.Proofs.Tryz.func141 (by kernel_rfl) (by kernel_rfl) (gJZ fu)
def inode_Get(fu:Nat)(t:(List (qT0)×Int))(h:(Int×Int)):Option ((Int×(Int×(Bool×(Bool×(Int×(List ((Int×Int))×(Int×(List ((List UInt8×Int))×Int))))))))):=
 Option.bind (α:=((Bool×(List (qT0)×(Int×(Int×(Int×(Int×(Int×(Bool×(Bool×(Int×Int)))))))))))) (
  bif (decide (h.1<1)) then
   some (true,(t.1,(t.2,(h.1,(h.2,(0,(0,(false,(false,(0,0))))))))))
  else
   some ((decide (h.1>((t.1.length:Nat):Int))),(t.1,(t.2,(h.1,(h.2,(0,(0,(false,(false,(0,0))))))))))) fun o=>
 bif o.1 then
  some (0,(0,(false,(false,(0,([],(0,([],170))))))))
 else
  (idx? (IntKind.wrap .i64 (o.2.2.2.1-1)) o.2.1.length).bind fun q=>
  (o.2.1)[q]?.bind fun r=>
  Option.bind (α:=((Bool×(Int×(Int×(Bool×(Bool×(Int×(Int×qT0))))))))) (
   bif (!r.2.2.1) then
    some (true,(o.2.2.2.2.2.1,(o.2.2.2.2.2.2.1,(o.2.2.2.2.2.2.2.1,(o.2.2.2.2.2.2.2.2.1,(o.2.2.2.2.2.2.2.2.2.1,(o.2.2.2.2.2.2.2.2.2.2,(r.1,(r.2.1,(r.2.2.1,(r.2.2.2.1,(r.2.2.2.2.1,(r.2.2.2.2.2.1,(r.2.2.2.2.2.2.1,r.2.2.2.2.2.2.2))))))))))))))
   else
    some ((!(r.2.1==o.2.2.2.2.1)),(o.2.2.2.2.2.1,(o.2.2.2.2.2.2.1,(o.2.2.2.2.2.2.2.1,(o.2.2.2.2.2.2.2.2.1,(o.2.2.2.2.2.2.2.2.2.1,(o.2.2.2.2.2.2.2.2.2.2,(r.1,(r.2.1,(r.2.2.1,(r.2.2.2.1,(r.2.2.2.2.1,(r.2.2.2.2.2.1,(r.2.2.2.2.2.2.1,r.2.2.2.2.2.2.2))))))))))))))) fun o1=>
  bif o1.1 then
   some (0,(0,(false,(false,(0,([],(0,([],170))))))))
  else
   (inode_own fu (o1.2.2.2.2.2.2.2.1,(o1.2.2.2.2.2.2.2.2.1,(o1.2.2.2.2.2.2.2.2.2.1,(o1.2.2.2.2.2.2.2.2.2.2.1,(o1.2.2.2.2.2.2.2.2.2.2.2.1,(o1.2.2.2.2.2.2.2.2.2.2.2.2.1,(o1.2.2.2.2.2.2.2.2.2.2.2.2.2.1,o1.2.2.2.2.2.2.2.2.2.2.2.2.2.2)))))))).bind fun r1=>
   some (r1.1,(r1.2.1,(r1.2.2.1,(r1.2.2.2.1,(r1.2.2.2.2.1,(r1.2.2.2.2.2.2.1,(r1.2.2.2.2.2.1,(r1.2.2.2.2.2.2.2,0))))))))
def inode_Get_fa:FnA:=⟨.two (.reg [(0,{ids:=[100]}),(1,{ids:=[101]}),(2,{ids:=[102]})]) (.two (.two (.join ⟨[2,3,4,17],⟨(.cons (.own 0 100 0 0) (.cons (.own 0 101 0 0) (.cons (.own 0 102 0 0) (.cons (.p .bool) .nil)))),[(100,false,qB30),(101,false,(.vars qL34)),(102,false,(.vars (.cons (.p (.int .i64)) (.cons (.p (.int .i64)) (.cons (.p .bool) (.cons (.p .bool) (.cons (.p (.int .i64)) qL25)))))))]⟩⟩ false [] (.leaf)) (.two (.leaf) (.leaf))) (.two (.reg [(7,{ids:=[103]})]) (.two (.two (.join ⟨[4,6,35],⟨(.cons (.own 0 102 0 0) (.cons (.own 0 103 0 0) (.cons (.p .bool) .nil))),[(102,false,(.vars (.cons (.p (.int .i64)) (.cons (.p (.int .i64)) (.cons (.p .bool) (.cons (.p .bool) (.cons (.p (.int .i64)) qL25))))))),(103,false,(.vars qL10))]⟩⟩ false [] (.leaf)) (.two (.leaf) (.leaf))) (.two (.reg [(1,{ids:=[104,105]})]) (.leaf))))),⟨(.cons (.p qY43) (.cons (.p qY32) .nil)),[]⟩,[⟨(.cons (.agg qL10) qL9),[]⟩],[1,0]⟩
def inode_Get_ft(fu:Nat):FnT:=⟨106,inode_Get_fa.i,inode_Get_fa.os,fun t=>inode_Get fu t.1 t.2⟩
theorem gaZ(fu:Nat):∀t,evF Go.Proofs.Tryz.prog [inode_own_ft fu] fu Go.Proofs.Tryz.f106 inode_Get_fa t=(inode_Get_ft fu).spec t:=fun t=>by kernel_rfl
theorem e1Z(fu:Nat):Told Go.Proofs.Tryz.prog (inode_Get_ft fu):=afZ (aaZ (czZ fu) acZ) mixed Go.Proofs.Tryz.func106 (by kernel_rfl) (by kernel_rfl) (gaZ fu)
def tdir(fu:Nat)(t:(List (qT0)×Int))(h:(Int×Int)):Option ((Int×(Int×(Bool×(Bool×(Int×(List ((Int×Int))×(Int×(List ((List UInt8×Int))×Int))))))))):=
 (inode_Get fu (t.1,t.2) (h.1,h.2)).bind fun r=>
 Option.bind (α:=((Bool×(Int×(Int×(Bool×(Bool×(Int×(Int×qT0))))))))) (
  bif (r.2.2.2.2.2.2.2.2==0) then
   some ((!r.2.2.2.1),(0,(0,(false,(false,(0,(0,(r.1,(r.2.1,(r.2.2.1,(r.2.2.2.1,(r.2.2.2.2.1,(r.2.2.2.2.2.1,(r.2.2.2.2.2.2.1,r.2.2.2.2.2.2.2.1))))))))))))))
  else
   some (false,(0,(0,(false,(false,(0,(0,(r.1,(r.2.1,(r.2.2.1,(r.2.2.2.1,(r.2.2.2.2.1,(r.2.2.2.2.2.1,(r.2.2.2.2.2.2.1,r.2.2.2.2.2.2.2.1))))))))))))))) fun o=>
 bif o.1 then
  some (0,(0,(false,(false,(0,([],(0,([],173))))))))
 else
  some (o.2.2.2.2.2.2.2.1,(o.2.2.2.2.2.2.2.2.1,(o.2.2.2.2.2.2.2.2.2.1,(o.2.2.2.2.2.2.2.2.2.2.1,(o.2.2.2.2.2.2.2.2.2.2.2.1,(o.2.2.2.2.2.2.2.2.2.2.2.2.1,(o.2.2.2.2.2.2.2.2.2.2.2.2.2.1,(o.2.2.2.2.2.2.2.2.2.2.2.2.2.2,r.2.2.2.2.2.2.2.2))))))))
def tdir_fa:FnA:=⟨.two (.reg [(0,{ids:=[100]}),(1,{ids:=[101]}),(2,{ids:=[102]})]) (.two (.reg [(2,{}),(6,{ids:=[103]})]) (.two (.two (.join ⟨[4,6,20],⟨(.cons (.own 0 102 0 0) (.cons (.own 0 103 0 0) (.cons (.p .bool) .nil))),[(102,false,(.vars (.cons (.p (.int .i64)) (.cons (.p (.int .i64)) (.cons (.p .bool) (.cons (.p .bool) (.cons (.p (.int .i64)) qL25))))))),(103,false,(.vars qL10))]⟩⟩ false [] (.leaf)) (.two (.leaf) (.leaf))) (.leaf))),⟨(.cons (.p qY43) (.cons (.p qY32) .nil)),[]⟩,[⟨(.cons (.agg qL10) qL9),[]⟩],[0,0]⟩
def tdir_ft(fu:Nat):FnT:=⟨148,tdir_fa.i,tdir_fa.os,fun t=>tdir fu t.1 t.2⟩
theorem muZ(fu:Nat):∀t,evF Go.Proofs.Tryz.prog [inode_Get_ft fu] fu Go.Proofs.Tryz.f148 tdir_fa t=(tdir_ft fu).spec t:=fun t=>by kernel_rfl
theorem kzZ(fu:Nat):Told Go.Proofs.Tryz.prog (tdir_ft fu):=afZ (aaZ (e1Z fu) acZ) mixed Go.Proofs.Tryz.func148 (by kernel_rfl) (by kernel_rfl) (muZ fu)
def task_l0(fu:Nat)(l:List ((Int×Int)))(x:Int)(h:List (qT0))(h1:Int)(h2:List (qT0)):Option ((Int×(List (qT0)×(Int×List (qT0))))⊕(List (qT0)⊕(Int×List (qT0)))):=
 bif (decide (x<((l.length:Nat):Int))) then
  (idx? x l.length).bind fun q=>
  (l)[q]?.bind fun r1=>
  (tdir fu (h,h1) (r1.1,r1.2)).bind fun r2=>
  bif (!(r2.2.2.2.2.2.2.2.2==0)) then
   some (.inr (.inr (r2.2.2.2.2.2.2.2.2,[])))
  else
   need ((Nat.ble ((h2.length+1)*88) room)&&(Nat.ble (h2.length+1) room))<|
   some (.inl ((IntKind.wrap .i64 (x+1)),(h,(h1,(h2++[(r2.1,(r2.2.1,(r2.2.2.1,(r2.2.2.2.1,(r2.2.2.2.2.1,(r2.2.2.2.2.2.1,(r2.2.2.2.2.2.2.1,r2.2.2.2.2.2.2.2.1)))))))])))))
 else
  some (.inr (.inl h2))
def task_l0_it(fu:Nat)(l:List ((Int×Int)))(tt:(Int×(List (qT0)×(Int×List (qT0))))):Option (List (qT0)⊕(Int×List (qT0))):=
 iter fu (fun tt=>task_l0 fu l tt.1 tt.2.1 tt.2.2.1 tt.2.2.2) tt
def task(fu:Nat)(t:(List (qT0)×Int))(l:List ((Int×Int))):Option ((Int×List (qT0))):=
 (tRig fu (t.1,t.2)).bind fun r=>
 bif (!r) then
  some (180,[])
 else
  (task_l0_it fu l (0,(t.1,(t.2,[])))).bind fun o=>
  match o with
  |.inl s=>
   some (0,s)
  |.inr o1=>
   some o1
def task_fa:FnA:=⟨.two (.reg [(0,{ids:=[100]})]) (.two (.two (.reg [(1,{})]) (.two (.leaf) (.leaf))) (.two (.leaf) (.two (.two (.leaf) (.one (.pre (.ownNil 6 103 101) (.loop ⟨[2,6,16],⟨(.cons (.own 0 100 0 0) (.cons (.slf 8 101) qL9)),[(100,false,qB30),(101,false,(.rows 103 qY2))]⟩⟩ true [(0,⟨[6],⟨(.cons (.slf 8 101) .nil),[(101,false,(.rows 103 qY2))]⟩⟩)] (.two (.leaf) (.two (.leaf) (.two (.one (.two (.reg [(2,{ids:=[102]})]) (.two (.reg [(2,{fn:=1}),(6,{ids:=[103]})]) (.two (.two (.leaf) (.two (.leaf) (.leaf))) (.reg [(2,{ids:=[104]}),(3,{ids:=[105]})]))))) (.leaf)))))))) (.leaf)))),⟨(.cons (.p qY43) (.cons (.p (.sl qY32)) .nil)),[]⟩,[⟨(.cons (.slf 8 0) qL9),[(0,false,(.rows 103 qY2))]⟩],[113,0]⟩
def task_ft(fu:Nat):FnT:=⟨130,task_fa.i,task_fa.os,fun t=>task fu t.1 t.2⟩
theorem mSZ(fu:Nat):∀t,evF Go.Proofs.Tryz.prog [tRig_ft fu,tdir_ft fu] fu Go.Proofs.Tryz.f130 task_fa t=(task_ft fu).spec t:=fun t=>by kernel_rfl
theorem gAZ(fu:Nat):Told Go.Proofs.Tryz.prog (task_ft fu):=afZ (aaZ (g8Z fu) (aaZ (kzZ fu) acZ)) mixed Go.Proofs.Tryz.func130 (by kernel_rfl) (by kernel_rfl) (mSZ fu)
def ibytabiru(fu:Nat)(a b:List UInt8):Option Int:=
 some (Go.Lib.compareBytes a b)
def ibytabiru_ft(fu:Nat):FnT:=⟨178,⟨(.cons (.p .str) (.cons (.p .str) .nil)),[]⟩,[⟨qL9,[]⟩],fun t=>ibytabiru fu t.1 t.2⟩
theorem e0Z(fu:Nat):Told Go.Proofs.Tryz.prog (ibytabiru_ft fu):=
 e3Z Go.Proofs.Tryz.func178 (by kernel_rfl) (by kernel_rfl) (by kernel_rfl) (by kernel_rfl)
def ibytComSt(fu:Nat)(a:List UInt8)(b:List UInt8):Option (Int):=
 (ibytabiru fu a b).bind fun r=>
 some r
def ibytComSt_fa:FnA:=⟨.two (.leaf) (.two (.reg [(2,{})]) (.leaf)),⟨(.cons (.p .str) (.cons (.p .str) .nil)),[]⟩,[⟨qL9,[]⟩],[0]⟩
def ibytComSt_ft(fu:Nat):FnT:=⟨166,ibytComSt_fa.i,ibytComSt_fa.os,fun t=>ibytComSt fu t.1 t.2⟩
theorem gBZ(fu:Nat):∀t,evF Go.Proofs.Tryz.prog [ibytabiru_ft fu] fu Go.Proofs.Tryz.f166 ibytComSt_fa t=(ibytComSt_ft fu).spec t:=fun t=>by kernel_rfl
theorem e7Z(fu:Nat):Told Go.Proofs.Tryz.prog (ibytComSt_ft fu):=afZ (aaZ (e0Z fu) acZ) mixed Go.Proofs.Tryz.func166 (by kernel_rfl) (by kernel_rfl) (gBZ fu)
def sCom(fu:Nat)(a:List UInt8)(b:List UInt8):Option (Int):=
 (ibytComSt fu a b).bind fun r=>
 some r
def sCom_fa:FnA:=⟨.two (.leaf) (.two (.reg [(2,{})]) (.leaf)),⟨(.cons (.p .str) (.cons (.p .str) .nil)),[]⟩,[⟨qL9,[]⟩],[0]⟩
def sCom_ft(fu:Nat):FnT:=⟨152,sCom_fa.i,sCom_fa.os,fun t=>sCom fu t.1 t.2⟩
theorem mPZ(fu:Nat):∀t,evF Go.Proofs.Tryz.prog [ibytComSt_ft fu] fu Go.Proofs.Tryz.f152 sCom_fa t=(sCom_ft fu).spec t:=fun t=>by kernel_rfl
theorem jRZ(fu:Nat):Told Go.Proofs.Tryz.prog (sCom_ft fu):=afZ (aaZ (e7Z fu) acZ) mixed Go.Proofs.Tryz.func152 (by kernel_rfl) (by kernel_rfl) (mPZ fu)
def tent1(fu:Nat)(e:(List UInt8×Int))(name:List UInt8):Option (Int):=
 (sCom fu e.1 name).bind fun r=>
 some r
def tent1_fa:FnA:=⟨.two (.reg [(0,{ids:=[100]})]) (.two (.reg [(3,{})]) (.leaf)),⟨(.cons (.p (.pair .str (.int .i64))) (.cons (.p .str) .nil)),[]⟩,[⟨qL9,[]⟩],[0]⟩
def tent1_ft(fu:Nat):FnT:=⟨151,tent1_fa.i,tent1_fa.os,fun t=>tent1 fu t.1 t.2⟩
theorem l8Z(fu:Nat):∀t,evF Go.Proofs.Tryz.prog [sCom_ft fu] fu Go.Proofs.Tryz.f151 tent1_fa t=(tent1_ft fu).spec t:=fun t=>by kernel_rfl
theorem iGZ(fu:Nat):Told Go.Proofs.Tryz.prog (tent1_ft fu):=afZ (aaZ (jRZ fu) acZ) mixed Go.Proofs.Tryz.func151 (by kernel_rfl) (by kernel_rfl) (l8Z fu)
def sBinSeaFu_l0(fu:Nat)(x:List ((List UInt8×Int)))(target:List UInt8)(i:Int)(j:Int):Option ((Int×Int)⊕(Int)):=
 bif (decide (i<j)) then
  (idx? (IntKind.wrap .i64 (Int.fdiv (IntKind.wrap .u64 (IntKind.wrap .i64 (i+j))) 2)) x.length).bind fun q=>
  (x)[q]?.bind fun r=>
  (tent1 fu r target).bind fun r1=>
  Option.bind (α:=((Int×Int))) (
   bif (decide (r1<0)) then
    some ((IntKind.wrap .i64 ((IntKind.wrap .i64 (Int.fdiv (IntKind.wrap .u64 (IntKind.wrap .i64 (i+j))) 2))+1)),j)
   else
    some (i,(IntKind.wrap .i64 (Int.fdiv (IntKind.wrap .u64 (IntKind.wrap .i64 (i+j))) 2)))) fun o=>
  some (.inl (o.1,o.2))
 else
  some (.inr i)
def sBinSeaFu_l0_it(fu:Nat)(x:List ((List UInt8×Int)))(target:List UInt8)(tt:(Int×Int)):Option (Int):=
 iter fu (fun tt=>sBinSeaFu_l0 fu x target tt.1 tt.2) tt
def sBinSeaFu(fu:Nat)(x:List ((List UInt8×Int)))(target:List UInt8):Option ((Int×Bool)):=
 (sBinSeaFu_l0_it fu x target (0,((x.length:Nat):Int))).bind fun o1=>
 bif (decide (o1<((x.length:Nat):Int))) then
  (idx? o1 x.length).bind fun q1=>
  (x)[q1]?.bind fun r2=>
  (tent1 fu r2 target).bind fun r3=>
  some (o1,(r3==0))
 else
  some (o1,false)
def sBinSeaFu_fa:FnA:=⟨.two (.leaf) (.two (.leaf) (.two (.leaf) (.two (.one (.loop ⟨[9,10],⟨qL34,[]⟩⟩ false [(0,⟨[9],⟨qL9,[]⟩⟩)] (.two (.two (.leaf) (.leaf)) (.one (.two (.leaf) (.two (.reg [(6,{})]) (.join ⟨[9,10],⟨qL34,[]⟩⟩ false [] (.leaf)))))))) (.two (.reg [(11,{})]) (.leaf))))),⟨(.cons (.p (.sl (.pair .str (.int .i64)))) (.cons (.p .str) (.cons (.fn 151 .nil .nil) .nil))),[]⟩,[⟨(.cons (.p (.int .i64)) (.cons (.p .bool) .nil)),[]⟩],[0,0]⟩
def sBinSeaFu_ft(fu:Nat):FnT:=⟨150,sBinSeaFu_fa.i,sBinSeaFu_fa.os,fun t=>sBinSeaFu fu t.1 t.2⟩
theorem grZ(fu:Nat):∀t,evF Go.Proofs.Tryz.prog [tent1_ft fu] fu Go.Proofs.Tryz.f150 sBinSeaFu_fa t=(sBinSeaFu_ft fu).spec t:=fun t=>by kernel_rfl
theorem eBZ(fu:Nat):Told Go.Proofs.Tryz.prog (sBinSeaFu_ft fu):=afZ (aaZ (iGZ fu) acZ) mixed Go.Proofs.Tryz.func150 (by kernel_rfl) (by kernel_rfl) (grZ fu)
def tent(fu:Nat)(n:qT0)(name:List UInt8):Option ((Int×Bool)):=
 (sBinSeaFu fu n.2.2.2.2.2.2.2 name).bind fun r=>
 some (r.1,r.2)
def tent_fa:FnA:=⟨.two (.reg [(0,{ids:=[100]})]) (.two (.reg [(3,{})]) (.leaf)),⟨(.cons (.p qY2) (.cons (.p .str) .nil)),[]⟩,[⟨(.cons (.p (.int .i64)) (.cons (.p .bool) .nil)),[]⟩],[0,0]⟩
def tent_ft(fu:Nat):FnT:=⟨132,tent_fa.i,tent_fa.os,fun t=>tent fu t.1 t.2⟩
theorem ndZ(fu:Nat):∀t,evF Go.Proofs.Tryz.prog [sBinSeaFu_ft fu] fu Go.Proofs.Tryz.f132 tent_fa t=(tent_ft fu).spec t:=fun t=>by kernel_rfl
theorem etZ(fu:Nat):Told Go.Proofs.Tryz.prog (tent_ft fu):=afZ (aaZ (eBZ fu) acZ) mixed Go.Proofs.Tryz.func132 (by kernel_rfl) (by kernel_rfl) (ndZ fu)
def tLoo(fu:Nat)(t:(List (qT0)×Int))(dir:(Int×Int))(name:List UInt8):Option ((Int×(Int×Int))):=
 (task fu (t.1,t.2) [(dir.1,dir.2)]).bind fun r=>
 bif (!(r.1==0)) then
  some (0,(0,r.1))
 else
  (tNam fu name).bind fun r1=>
  bif (!r1) then
   some (0,(0,176))
  else
   (idx? 0 r.2.length).bind fun q=>
   (r.2)[q]?.bind fun r2=>
   (tent fu r2 name).bind fun r3=>
   bif (!r3.2) then
    some (0,(0,171))
   else
    (idx? 0 r.2.length).bind fun q1=>
    (r.2)[q1]?.bind fun r4=>
    (idx? r3.1 r4.2.2.2.2.2.2.2.length).bind fun q2=>
    (r4.2.2.2.2.2.2.2)[q2]?.bind fun r5=>
    (idx? (IntKind.wrap .i64 (r5.2-1)) t.1.length).bind fun q3=>
    (t.1)[q3]?.bind fun r6=>
    some (r5.2,(r6.2.1,0))
def tLoo_fa:FnA:=⟨.two (.reg [(0,{ids:=[100]}),(1,{ids:=[101]}),(2,{ids:=[102]})]) (.two (.reg [(2,{ids:=[103]}),(3,{ids:=[104],md:=[0,1]})]) (.two (.two (.leaf) (.two (.leaf) (.leaf))) (.two (.two (.reg [(1,{fn:=1})]) (.two (.leaf) (.leaf))) (.two (.reg [(4,{fn:=2})]) (.two (.two (.leaf) (.two (.leaf) (.leaf))) (.two (.leaf) (.leaf))))))),⟨(.cons (.p qY43) (.cons (.p qY32) (.cons (.p .str) .nil))),[]⟩,[⟨(.cons (.agg qL34) qL9),[]⟩],[0,0]⟩
def tLoo_ft(fu:Nat):FnT:=⟨99,tLoo_fa.i,tLoo_fa.os,fun t=>tLoo fu t.1 t.2.1 t.2.2⟩
theorem mhZ(fu:Nat):∀t,evF Go.Proofs.Tryz.prog [task_ft fu,tNam_ft fu,tent_ft fu] fu Go.Proofs.Tryz.f99 tLoo_fa t=(tLoo_ft fu).spec t:=fun t=>by kernel_rfl
theorem jWZ(fu:Nat):Told Go.Proofs.Tryz.prog (tLoo_ft fu):=afZ (aaZ (gAZ fu) (aaZ (ejZ fu) (aaZ (etZ fu) acZ))) mixed Go.Proofs.Tryz.func99 (by kernel_rfl) (by kernel_rfl) (mhZ fu)
def mdoeloo(fu:Nat)(h:List (qT0))(h1:Int)(h2:List (List (UInt8)))(h3:Int)(h4:Int)(h5:Int)(h6:Int)(h7:Int)(h8:List UInt8)(h9:Int)(h10:Int)(h11:List UInt8)(h12:Int)(h13:Int)(h14:List (UInt8))(h15:Int)(h16:Int)(h17:Int)(h18:Int)(h19:Int)(h20:Bool)(h21:Int)(h22:Bool)(h23:Int):Option ((Int×qT8)):=
 (tLoo fu (h,h1) (h6,h7) h8).bind fun r=>
 bif (r.2.2==0) then
  (idx? (IntKind.wrap .i64 (r.1-1)) h.length).bind fun q=>
  (h)[q]?.bind fun r1=>
  some (r.2.2,(h,(h1,(h2,(h3,(h4,(h5,(h6,(h7,(h8,(h9,(h10,(h11,(h12,(h13,(h14,(h15,(h16,(h17,(r.1,(r.2.1,(r1.2.2.2.1,(r1.2.2.2.2.1,(h22,h23))))))))))))))))))))))))
 else
  some (r.2.2,(h,(h1,(h2,(h3,(h4,(h5,(h6,(h7,(h8,(h9,(h10,(h11,(h12,(h13,(h14,(h15,(h16,(h17,(h18,(h19,(h20,(h21,(h22,h23))))))))))))))))))))))))
def mdoeloo_fa:FnA:=⟨.two (.leaf) (.two (.reg [(14,{}),(18,{ids:=[100]})]) (.two (.two (.leaf) (.two (.two (.reg [(10,{ids:=[101]})]) (.leaf)) (.leaf))) (.leaf))),⟨qL37,[(0,false,qB4)]⟩,[⟨qL9,[(0,false,qB4)]⟩],[0]⟩
def mdoeloo_ft(fu:Nat):FnT:=⟨68,mdoeloo_fa.i,mdoeloo_fa.os,fun t=>mdoeloo fu t.1 t.2.1 t.2.2.1 t.2.2.2.1 t.2.2.2.2.1 t.2.2.2.2.2.1 t.2.2.2.2.2.2.1 t.2.2.2.2.2.2.2.1 t.2.2.2.2.2.2.2.2.1 t.2.2.2.2.2.2.2.2.2.1 t.2.2.2.2.2.2.2.2.2.2.1 t.2.2.2.2.2.2.2.2.2.2.2.1 t.2.2.2.2.2.2.2.2.2.2.2.2.1 t.2.2.2.2.2.2.2.2.2.2.2.2.2.1 t.2.2.2.2.2.2.2.2.2.2.2.2.2.2.1 t.2.2.2.2.2.2.2.2.2.2.2.2.2.2.2.1 t.2.2.2.2.2.2.2.2.2.2.2.2.2.2.2.2.1 t.2.2.2.2.2.2.2.2.2.2.2.2.2.2.2.2.2.1 t.2.2.2.2.2.2.2.2.2.2.2.2.2.2.2.2.2.2.1 t.2.2.2.2.2.2.2.2.2.2.2.2.2.2.2.2.2.2.2.1 t.2.2.2.2.2.2.2.2.2.2.2.2.2.2.2.2.2.2.2.2.1 t.2.2.2.2.2.2.2.2.2.2.2.2.2.2.2.2.2.2.2.2.2.1 t.2.2.2.2.2.2.2.2.2.2.2.2.2.2.2.2.2.2.2.2.2.2.1 t.2.2.2.2.2.2.2.2.2.2.2.2.2.2.2.2.2.2.2.2.2.2.2⟩
theorem jwZ(fu:Nat):∀t,evF Go.Proofs.Tryz.prog [tLoo_ft fu] fu Go.Proofs.Tryz.f68 mdoeloo_fa t=(mdoeloo_ft fu).spec t:=fun t=>by kernel_rfl
theorem goZ(fu:Nat):Told Go.Proofs.Tryz.prog (mdoeloo_ft fu):=afZ (aaZ (jWZ fu) acZ) mixed Go.Proofs.Tryz.func68 (by kernel_rfl) (by kernel_rfl) (jwZ fu)
def sClo2(fu:Nat)(s:List (qT0)):Option (List (qT0)):=
 nilQ s.length fun isNil=>
 bif isNil then
  some []
 else
  need ((Nat.ble ((0+s.length)*88) room)&&(Nat.ble (0+s.length) room))<|
  some s
def sClo2_fa:FnA:=⟨.two (.leaf) (.two (.two (.leaf) (.two (.leaf) (.leaf))) (.two (.reg [(0,{ids:=[100]}),(2,{ids:=[101]})]) (.leaf))),⟨(.cons (.p (.sl qY2)) .nil),[]⟩,[⟨(.cons (.slf 8 0) .nil),[(0,false,(.rows 103 qY2))]⟩],[113]⟩
def sClo2_ft(fu:Nat):FnT:=⟨108,sClo2_fa.i,sClo2_fa.os,fun t=>sClo2 fu t⟩
theorem luZ(fu:Nat):∀t,evF Go.Proofs.Tryz.prog [] fu Go.Proofs.Tryz.f108 sClo2_fa t=(sClo2_ft fu).spec t:=fun t=>by kernel_rfl
theorem cXZ(fu:Nat):Told Go.Proofs.Tryz.prog (sClo2_ft fu):=afZ acZ mixed Go.Proofs.Tryz.func108 (by kernel_rfl) (by kernel_rfl) (luZ fu)
def tcop_l0(fu:Nat)(r:List (qT0))(x:Int)(h:Int)(h1:List (qT0))(h2:Int):Option ((Int×qT39)⊕(qT39)):=
 bif (decide (x<((r.length:Nat):Int))) then
  (idx? x h1.length).bind fun q=>
  (h1)[q]?.bind fun r1=>
  (sClo3 fu r1.2.2.2.2.2.1).bind fun r2=>
  (h1)[q]?.bind fun r3=>
  (sClo fu r3.2.2.2.2.2.2.2).bind fun r4=>
  (h1)[q]?.bind fun r5=>
  ((List.set h1 q (r5.1,(r5.2.1,(r5.2.2.1,(r5.2.2.2.1,(r5.2.2.2.2.1,(r2,r5.2.2.2.2.2.2))))))))[q]?.bind fun r6=>
  some (.inl ((IntKind.wrap .i64 (x+1)),(h,((List.set (List.set h1 q (r5.1,(r5.2.1,(r5.2.2.1,(r5.2.2.2.1,(r5.2.2.2.2.1,(r2,r5.2.2.2.2.2.2))))))) q (r6.1,(r6.2.1,(r6.2.2.1,(r6.2.2.2.1,(r6.2.2.2.2.1,(r6.2.2.2.2.2.1,(r6.2.2.2.2.2.2.1,r4)))))))),h2))))
 else
  some (.inr (h,(h1,h2)))
def tcop_l0_it(fu:Nat)(r:List (qT0))(tt:(Int×qT39)):Option (qT39):=
 iter fu (fun tt=>tcop_l0 fu r tt.1 tt.2.1 tt.2.2.1 tt.2.2.2) tt
def tcop(fu:Nat)(t:(List (qT0)×Int)):Option ((Int×List (qT0))):=
 (sClo2 fu t.1).bind fun r=>
 (tcop_l0_it fu r (0,(t.2,(r,0)))).bind fun o=>
 some (o.1,o.2.1)
def tcop_fa:FnA:=⟨.two (.reg [(0,{ids:=[100]}),(1,{ids:=[101]})]) (.two (.reg [(2,{ids:=[102]})]) (.two (.two (.leaf) (.one (.loop ⟨[1,2,12],⟨(.cons (.own 0 100 0 0) (.cons (.own 0 101 0 0) qL9)),[(100,false,(.vars (.cons (.slf 8 102) qL9))),(102,false,(.rows 103 qY2)),(101,false,(.vars (.cons (.nilp (.slice none 0 0)) qL9)))]⟩⟩ false [(0,⟨[1,2],⟨(.cons (.own 0 100 0 0) (.cons (.own 0 101 0 0) .nil)),[(100,false,(.vars (.cons (.slf 8 102) qL9))),(102,false,(.rows 103 qY2)),(101,false,(.vars (.cons (.nilp (.slice none 0 0)) qL9)))]⟩⟩)] (.two (.leaf) (.two (.leaf) (.two (.one (.two (.leaf) (.two (.leaf) (.reg [(6,{ids:=[103],fn:=1}),(11,{ids:=[104],fn:=2})])))) (.leaf))))))) (.leaf))),⟨(.cons (.p qY43) .nil),[]⟩,[⟨(.cons (.agg (.cons (.slf 8 0) qL9)) .nil),[(0,false,(.rows 103 qY2))]⟩],[0]⟩
def tcop_ft(fu:Nat):FnT:=⟨133,tcop_fa.i,tcop_fa.os,fun t=>tcop fu t⟩
theorem mZZ(fu:Nat):∀t,evF Go.Proofs.Tryz.prog [sClo2_ft fu,sClo3_ft fu,sClo_ft fu] fu Go.Proofs.Tryz.f133 tcop_fa t=(tcop_ft fu).spec t:=fun t=>by kernel_rfl
theorem kuZ(fu:Nat):Told Go.Proofs.Tryz.prog (tcop_ft fu):=afZ (aaZ (cXZ fu) (aaZ (deZ fu) (aaZ (dDZ fu) acZ))) mixed Go.Proofs.Tryz.func133 (by kernel_rfl) (by kernel_rfl) (mZZ fu)
def icopE_l0(fu:Nat)(r:List (qT0))(x:Int)(h:Int)(h1:List qT13)(h2:Int)(h3:List qT28):Option ((Int×(Int×(List qT13×(Int×List qT28))))⊕((Int×(List qT13×(Int×List qT28))))):=
 bif (decide (x<((r.length:Nat):Int))) then
  (idx? x h1.length).bind fun q=>
  (h1)[q]?.bind fun r1=>
  (lowD (.ref 1 (.pair .str (.int .i64))) r1.2.2.2.2.2.2.2).bind fun x1=>
  (inode_own fu (r1.1,(r1.2.1,(r1.2.2.1,(r1.2.2.2.1,(r1.2.2.2.2.1,(r1.2.2.2.2.2.1,(r1.2.2.2.2.2.2.1,x1)))))))).bind fun r2=>
  (idx? x h1.length).bind fun q1=>
  (h1)[q1]?.bind fun r3=>
  some (.inl ((IntKind.wrap .i64 (x+1)),(h,((List.set h1 q1 (r2.1,(r2.2.1,(r2.2.2.1,(r2.2.2.2.1,(r2.2.2.2.2.1,(r2.2.2.2.2.2.2.1,(r2.2.2.2.2.2.1,(.inr (some (h3.length,(0,r2.2.2.2.2.2.2.2.length)))))))))))),(h2,(h3++[(1,r2.2.2.2.2.2.2.2)]))))))
 else
  some (.inr (h,(h1,(h2,h3))))
def icopE_l0_it(fu:Nat)(r:List (qT0))(tt:(Int×(Int×(List qT13×(Int×List qT28))))):Option ((Int×(List qT13×(Int×List qT28)))):=
 iter fu (fun tt=>icopE_l0 fu r tt.1 tt.2.1 tt.2.2.1 tt.2.2.2.1 tt.2.2.2.2) tt
def icopE(fu:Nat)(t:(List (qT0)×Int)):Option ((Int×(List qT13×List qT28))):=
 (sClo2 fu t.1).bind fun r=>
 (icopE_l0_it fu r (0,(t.2,((List.map (liftT qY12) r),(0,[]))))).bind fun o=>
 some (o.1,(o.2.1,o.2.2.2))
def icopE_fa:FnA:=⟨.two (.reg [(0,{ids:=[100]}),(1,{ids:=[101]})]) (.two (.reg [(2,{ids:=[102]})]) (.two (.two (.leaf) (.one (.pre (.newFam 1 108 (.pair .str (.int .i64))) (.pre (.toRef 102 qY12) (.loop ⟨[1,2,10,12],⟨(.cons (.own 0 100 0 0) (.cons (.own 0 101 0 0) (.cons (.slf 8 102) qL9))),[(100,false,(.vars (.cons (.slf 8 102) qL9))),(102,false,(.rows 103 qY12)),(101,false,(.vars (.cons (.nilp (.slice none 0 0)) qL9))),(999985,false,(.fam 108 (.pair .str (.int .i64))))]⟩⟩ false [(0,⟨[1,2],⟨(.cons (.own 0 100 0 0) (.cons (.own 0 101 0 0) .nil)),[(100,false,(.vars (.cons (.slf 8 102) qL9))),(102,false,(.rows 103 qY12)),(101,false,(.vars (.cons (.nilp (.slice none 0 0)) qL9))),(999985,false,(.fam 108 (.pair .str (.int .i64))))]⟩⟩)] (.two (.leaf) (.two (.leaf) (.two (.one (.two (.reg [(3,{ids:=[103]})]) (.reg [(4,{ids:=[104,105],md:=[3],fn:=1}),(6,{sh:=[105,999985]})]))) (.leaf))))))))) (.leaf))),⟨(.cons (.p qY43) .nil),[]⟩,[⟨(.cons (.agg (.cons (.slf 8 0) qL9)) .nil),[(0,false,(.rows 103 qY12)),(999985,false,(.fam 108 (.pair .str (.int .i64))))]⟩],[0]⟩
def icopE_ft(fu:Nat):FnT:=⟨153,icopE_fa.i,icopE_fa.os,fun t=>icopE fu t⟩
theorem loZ(fu:Nat):∀t,evF Go.Proofs.Tryz.prog [sClo2_ft fu,inode_own_ft fu] fu Go.Proofs.Tryz.f153 icopE_fa t=(icopE_ft fu).spec t:=fun t=>by kernel_rfl
theorem jgZ(fu:Nat):Told Go.Proofs.Tryz.prog (icopE_ft fu):=afZ (aaZ (cXZ fu) (aaZ (czZ fu) acZ)) mixed Go.Proofs.Tryz.func153 (by kernel_rfl) (by kernel_rfl) (loZ fu)
def inode_is(fu:Nat)(t:(List (qT0)×Int))(id:Int)(dir:Bool):Option (Bool):=
 bif (decide (id>=1)) then
  bif (decide (id<=((t.1.length:Nat):Int))) then
   (idx? (IntKind.wrap .i64 (id-1)) t.1.length).bind fun q=>
   (t.1)[q]?.bind fun r=>
   bif r.2.2.1 then
    (idx? (IntKind.wrap .i64 (id-1)) t.1.length).bind fun q1=>
    (t.1)[q1]?.bind fun r1=>
    some (r1.2.2.2.1==dir)
   else
    some false
  else
   some false
 else
  some false
def inode_is_fa:FnA:=⟨.two (.reg [(0,{ids:=[100]})]) (.leaf),⟨(.cons (.p qY43) (.cons (.p (.int .i64)) (.cons (.p .bool) .nil))),[]⟩,[⟨(.cons (.p .bool) .nil),[]⟩],[0]⟩
def inode_is_ft(fu:Nat):FnT:=⟨154,inode_is_fa.i,inode_is_fa.os,fun t=>inode_is fu t.1 t.2.1 t.2.2⟩
theorem hPZ(fu:Nat):∀t,evF Go.Proofs.Tryz.prog [] fu Go.Proofs.Tryz.f154 inode_is_fa t=(inode_is_ft fu).spec t:=fun t=>by kernel_rfl
theorem eXZ(fu:Nat):Told Go.Proofs.Tryz.prog (inode_is_ft fu):=afZ acZ mixed Go.Proofs.Tryz.func154 (by kernel_rfl) (by kernel_rfl) (hPZ fu)
def iAll1(fu:Nat)(n:qT0):Option (Bool):=
 some (!n.2.2.1)
def iAll1_fa:FnA:=⟨.two (.reg [(0,{ids:=[100]})]) (.leaf),⟨(.cons (.p qY2) .nil),[]⟩,[⟨(.cons (.p .bool) .nil),[]⟩],[0]⟩
def iAll1_ft(fu:Nat):FnT:=⟨155,iAll1_fa.i,iAll1_fa.os,fun t=>iAll1 fu t⟩
theorem lzZ(fu:Nat):∀t,evF Go.Proofs.Tryz.prog [] fu Go.Proofs.Tryz.f155 iAll1_fa t=(iAll1_ft fu).spec t:=fun t=>by kernel_rfl
theorem joZ(fu:Nat):Told Go.Proofs.Tryz.prog (iAll1_ft fu):=afZ acZ mixed Go.Proofs.Tryz.func155 (by kernel_rfl) (by kernel_rfl) (lzZ fu)
def sIndFun4_l0(fu:Nat)(s:List (qT0))(x:Int):Option (Int⊕(Unit⊕Int)):=
 bif (decide (x<((s.length:Nat):Int))) then
  (idx? x s.length).bind fun q=>
  (s)[q]?.bind fun r=>
  (iAll1 fu r).bind fun r1=>
  bif r1 then
   some (.inr (.inr x))
  else
   some (.inl (IntKind.wrap .i64 (x+1)))
 else
  some (.inr (.inl ()))
def sIndFun4_l0_it(fu:Nat)(s:List (qT0))(tt:Int):Option (Unit⊕Int):=
 iter fu (fun tt=>sIndFun4_l0 fu s tt) tt
def sIndFun4(fu:Nat)(s:List (qT0)):Option (Int):=
 (sIndFun4_l0_it fu s 0).bind fun o=>
 match o with
 |.inl s1=>
  some (-1)
 |.inr o1=>
  some o1
def sIndFun4_fa:FnA:=⟨.two (.leaf) (.two (.two (.leaf) (.one (.loop ⟨[8],⟨qL9,[]⟩⟩ true [(0,⟨[],⟨.nil,[]⟩⟩)] (.two (.leaf) (.two (.leaf) (.two (.one (.two (.leaf) (.two (.reg [(5,{})]) (.two (.leaf) (.leaf))))) (.leaf))))))) (.leaf)),⟨(.cons (.p (.sl qY2)) (.cons (.fn 155 .nil .nil) .nil)),[]⟩,[⟨qL9,[]⟩],[0]⟩
def sIndFun4_ft(fu:Nat):FnT:=⟨156,sIndFun4_fa.i,sIndFun4_fa.os,fun t=>sIndFun4 fu t⟩
theorem hhZ(fu:Nat):∀t,evF Go.Proofs.Tryz.prog [iAll1_ft fu] fu Go.Proofs.Tryz.f156 sIndFun4_fa t=(sIndFun4_ft fu).spec t:=fun t=>by kernel_rfl
theorem foZ(fu:Nat):Told Go.Proofs.Tryz.prog (sIndFun4_ft fu):=afZ (aaZ (joZ fu) acZ) mixed Go.Proofs.Tryz.func156 (by kernel_rfl) (by kernel_rfl) (hhZ fu)
end
end Go.Ab.D
