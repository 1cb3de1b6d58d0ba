/- Functions of the program as plain Lean functions: each equation is checked by the kernel; what is told of a function follows from it. -/
import Derived.Test.YtcfchfhdaggmpaaGreatDoorE4
import Derived.Test.YtcfchfhdaggmpaaGreatDoorProg
import Derived.KernelRfl
namespace Go.Proofs
open Go.Shelf
def Tryz.ca146_ren:Go.Shelf.Ren:=⟨fun|150=>146|153=>171|152=>178|226=>179|227=>180|228=>181|137=>184|119=>185|224=>186|225=>187|217=>189|266=>190|n=>n,fun|9=>9|4=>4|3=>3|5=>5|21=>21|117=>243|116=>242|0=>0|46=>171|124=>249|n=>n,fun|n=>n⟩
theorem Tryz.ca146:Go.Proofs.Lays.n150 Tryz.prog Tryz.ca146_ren:={
 mixed:=by kernel_rfl
 f119:=Tryz.func185.trans (congrArg some (by kernel_rfl))
 f137:=Tryz.func184.trans (congrArg some (by kernel_rfl))
 f150:=Tryz.func146.trans (congrArg some (by kernel_rfl))
 f152:=Tryz.func178.trans (congrArg some (by kernel_rfl))
 f153:=Tryz.func171.trans (congrArg some (by kernel_rfl))
 f217:=Tryz.func189.trans (congrArg some (by kernel_rfl))
 f224:=Tryz.func186.trans (congrArg some (by kernel_rfl))
 f225:=Tryz.func187.trans (congrArg some (by kernel_rfl))
 f226:=Tryz.func179.trans (congrArg some (by kernel_rfl))
 f227:=Tryz.func180.trans (congrArg some (by kernel_rfl))
 f228:=Tryz.func181.trans (congrArg some (by kernel_rfl))
 f266:=Tryz.func190.trans (congrArg some (by kernel_rfl))
 t0:=Tryz.underlying0
 a0:=Tryz.isAgg0
 z0:=Tryz.sizeOf0
 v0:=Tryz.zeroValue0
 t3:=Tryz.underlying3
 a3:=Tryz.isAgg3
 z3:=Tryz.sizeOf3
 v3:=Tryz.zeroValue3
 t4:=Tryz.underlying4
 a4:=Tryz.isAgg4
 z4:=Tryz.sizeOf4
 v4:=Tryz.zeroValue4
 t5:=Tryz.underlying5
 a5:=Tryz.isAgg5
 z5:=Tryz.sizeOf5
 v5:=Tryz.zeroValue5
 t9:=Tryz.underlying9
 a9:=Tryz.isAgg9
 z9:=Tryz.sizeOf9
 v9:=Tryz.zeroValue9
 t21:=Tryz.underlying21
 a21:=Tryz.isAgg21
 z21:=Tryz.sizeOf21
 v21:=Tryz.zeroValue21
 t46:=Tryz.underlying171
 a46:=Tryz.isAgg171
 z46:=Tryz.sizeOf171
 v46:=Tryz.zeroValue171
 t116:=Tryz.underlying242
 a116:=Tryz.isAgg242
 z116:=Tryz.sizeOf242
 t117:=Tryz.underlying243
 a117:=Tryz.isAgg243
 z117:=Tryz.sizeOf243
 v117:=Tryz.zeroValue243
 t124:=Tryz.underlying249
 a124:=Tryz.isAgg249
 z124:=Tryz.sizeOf249
 v124:=Tryz.zeroValue249}
end Go.Proofs
namespace Go.Proofs
open Go.Shelf
def Tryz.ins157_ren:Go.Shelf.Ren:=⟨fun|22=>157|29=>173|30=>174|36=>183|17=>188|n=>n,fun|24=>41|9=>108|3=>3|4=>4|0=>0|n=>n,fun|n=>n⟩
theorem Tryz.ins157:Go.Proofs.InsLay Tryz.prog Tryz.ins157_ren:={
 mixed:=by kernel_rfl
 f22:=⟨Tryz.f157.name,by decide,Tryz.func157.trans (congrArg some (by kernel_rfl))⟩
 x29:=by kernel_rfl
 t0:=Tryz.underlying0
 a0:=Tryz.isAgg0
 z0:=Tryz.sizeOf0
 v0:=Tryz.zeroValue0
 t3:=Tryz.underlying3
 a3:=Tryz.isAgg3
 z3:=Tryz.sizeOf3
 v3:=Tryz.zeroValue3
 t4:=Tryz.underlying4
 a4:=Tryz.isAgg4
 z4:=Tryz.sizeOf4
 v4:=Tryz.zeroValue4
 t24:=Tryz.underlying41
 a24:=Tryz.isAgg41
 z24:=Tryz.sizeOf41
 v24:=Tryz.zeroValue41}
end Go.Proofs
namespace Go.Proofs
open Go.Shelf
def Tryz.ins60_ren:Go.Shelf.Ren:=⟨fun|22=>60|29=>96|30=>97|36=>131|17=>162|n=>n,fun|24=>27|9=>102|3=>3|4=>4|0=>0|n=>n,fun|n=>n⟩
theorem Tryz.ins60:Go.Proofs.InsLay Tryz.prog Tryz.ins60_ren:={
 mixed:=by kernel_rfl
 f22:=⟨Tryz.f60.name,by decide,Tryz.func60.trans (congrArg some (by kernel_rfl))⟩
 x29:=by kernel_rfl
 t0:=Tryz.underlying0
 a0:=Tryz.isAgg0
 z0:=Tryz.sizeOf0
 v0:=Tryz.zeroValue0
 t3:=Tryz.underlying3
 a3:=Tryz.isAgg3
 z3:=Tryz.sizeOf3
 v3:=Tryz.zeroValue3
 t4:=Tryz.underlying4
 a4:=Tryz.isAgg4
 z4:=Tryz.sizeOf4
 v4:=Tryz.zeroValue4
 t24:=Tryz.underlying27
 a24:=Tryz.isAgg27
 z24:=Tryz.sizeOf27
 v24:=Tryz.zeroValue27}
end Go.Proofs
namespace Go.Proofs
open Go.Shelf
def Tryz.ins63_ren:Go.Shelf.Ren:=⟨fun|22=>63|29=>98|30=>99|36=>132|17=>163|n=>n,fun|24=>100|9=>43|3=>3|4=>4|0=>0|n=>n,fun|n=>n⟩
theorem Tryz.ins63:Go.Proofs.InsLay Tryz.prog Tryz.ins63_ren:={
 mixed:=by kernel_rfl
 f22:=⟨Tryz.f63.name,by decide,Tryz.func63.trans (congrArg some (by kernel_rfl))⟩
 x29:=by kernel_rfl
 t0:=Tryz.underlying0
 a0:=Tryz.isAgg0
 z0:=Tryz.sizeOf0
 v0:=Tryz.zeroValue0
 t3:=Tryz.underlying3
 a3:=Tryz.isAgg3
 z3:=Tryz.sizeOf3
 v3:=Tryz.zeroValue3
 t4:=Tryz.underlying4
 a4:=Tryz.isAgg4
 z4:=Tryz.sizeOf4
 v4:=Tryz.zeroValue4
 t24:=Tryz.underlying100
 a24:=Tryz.isAgg100
 z24:=Tryz.sizeOf100
 v24:=Tryz.zeroValue100}
end Go.Proofs
namespace Go.Proofs
open Go.Shelf
def Tryz.del65_ren:Go.Shelf.Ren:=⟨fun|24=>65|n=>n,fun|24=>100|9=>43|3=>3|4=>4|0=>0|n=>n,fun|n=>n⟩
theorem Tryz.del65:Go.Proofs.DelLay Tryz.prog Tryz.del65_ren:={
 mixed:=by kernel_rfl
 f24:=⟨Tryz.f65.name,by decide,Tryz.func65.trans (congrArg some (by kernel_rfl))⟩
 t0:=Tryz.underlying0
 a0:=Tryz.isAgg0
 z0:=Tryz.sizeOf0
 v0:=Tryz.zeroValue0
 t3:=Tryz.underlying3
 a3:=Tryz.isAgg3
 z3:=Tryz.sizeOf3
 v3:=Tryz.zeroValue3
 t4:=Tryz.underlying4
 a4:=Tryz.isAgg4
 z4:=Tryz.sizeOf4
 v4:=Tryz.zeroValue4
 t24:=Tryz.underlying100
 a24:=Tryz.isAgg100
 z24:=Tryz.sizeOf100
 v24:=Tryz.zeroValue100}
end Go.Proofs
namespace Go.Proofs
open Go.Shelf
def Tryz.sort67_ren:Go.Shelf.Ren:=⟨fun|6=>67|15=>101|14=>100|28=>141|29=>142|20=>133|21=>134|22=>135|23=>136|24=>137|25=>138|26=>139|27=>140|46=>164|47=>165|48=>166|49=>167|50=>168|57=>177|n=>n,fun|22=>31|24=>58|25=>132|3=>3|39=>171|0=>0|53=>207|55=>209|4=>4|46=>201|45=>200|50=>122|5=>5|9=>9|66=>228|70=>232|76=>237|77=>238|n=>n,fun|n=>n⟩
theorem Tryz.sort67:Go.Proofs.SlLaysF0.n6 Tryz.prog Tryz.sort67_ren:={
 mixed:=by kernel_rfl
 f6:=⟨Tryz.f67.name,by decide,Tryz.func67.trans (congrArg some (by kernel_rfl))⟩
 f14:=⟨Tryz.f100.name,by decide,Tryz.func100.trans (congrArg some (by kernel_rfl))⟩
 f15:=Tryz.func101.trans (congrArg some (by kernel_rfl))
 f20:=⟨Tryz.f133.name,by decide,Tryz.func133.trans (congrArg some (by kernel_rfl))⟩
 f21:=⟨Tryz.f134.name,by decide,Tryz.func134.trans (congrArg some (by kernel_rfl))⟩
 f22:=⟨Tryz.f135.name,by decide,Tryz.func135.trans (congrArg some (by kernel_rfl))⟩
 f23:=⟨Tryz.f136.name,by decide,Tryz.func136.trans (congrArg some (by kernel_rfl))⟩
 f24:=⟨Tryz.f137.name,by decide,Tryz.func137.trans (congrArg some (by kernel_rfl))⟩
 f25:=⟨Tryz.f138.name,by decide,Tryz.func138.trans (congrArg some (by kernel_rfl))⟩
 f26:=⟨Tryz.f139.name,by decide,Tryz.func139.trans (congrArg some (by kernel_rfl))⟩
 f27:=⟨Tryz.f140.name,by decide,Tryz.func140.trans (congrArg some (by kernel_rfl))⟩
 f28:=Tryz.func141.trans (congrArg some (by kernel_rfl))
 f29:=Tryz.func142.trans (congrArg some (by kernel_rfl))
 f46:=⟨Tryz.f164.name,by decide,Tryz.func164.trans (congrArg some (by kernel_rfl))⟩
 f47:=Tryz.func165.trans (congrArg some (by kernel_rfl))
 f48:=Tryz.func166.trans (congrArg some (by kernel_rfl))
 f49:=⟨Tryz.f167.name,by decide,Tryz.func167.trans (congrArg some (by kernel_rfl))⟩
 f50:=⟨Tryz.f168.name,by decide,Tryz.func168.trans (congrArg some (by kernel_rfl))⟩
 f57:=⟨Tryz.f177.name,by decide,Tryz.func177.trans (congrArg some (by kernel_rfl))⟩
 t0:=Tryz.underlying0
 a0:=Tryz.isAgg0
 z0:=Tryz.sizeOf0
 v0:=Tryz.zeroValue0
 t3:=Tryz.underlying3
 a3:=Tryz.isAgg3
 z3:=Tryz.sizeOf3
 v3:=Tryz.zeroValue3
 t4:=Tryz.underlying4
 a4:=Tryz.isAgg4
 z4:=Tryz.sizeOf4
 v4:=Tryz.zeroValue4
 t5:=Tryz.underlying5
 a5:=Tryz.isAgg5
 z5:=Tryz.sizeOf5
 v5:=Tryz.zeroValue5
 t9:=Tryz.underlying9
 a9:=Tryz.isAgg9
 z9:=Tryz.sizeOf9
 v9:=Tryz.zeroValue9
 t22:=Tryz.underlying31
 a22:=Tryz.isAgg31
 z22:=Tryz.sizeOf31
 v22:=Tryz.zeroValue31
 t25:=Tryz.underlying132
 a25:=Tryz.isAgg132
 z25:=Tryz.sizeOf132
 v25:=Tryz.zeroValue132
 t39:=Tryz.underlying171
 a39:=Tryz.isAgg171
 z39:=Tryz.sizeOf171
 v39:=Tryz.zeroValue171
 t45:=Tryz.underlying200
 a45:=Tryz.isAgg200
 z45:=Tryz.sizeOf200
 v45:=Tryz.zeroValue200
 t46:=Tryz.underlying201
 a46:=Tryz.isAgg201
 z46:=Tryz.sizeOf201
 v46:=Tryz.zeroValue201
 t50:=Tryz.underlying122
 a50:=Tryz.isAgg122
 z50:=Tryz.sizeOf122
 v50:=Tryz.zeroValue122
 t53:=Tryz.underlying207
 a53:=Tryz.isAgg207
 z53:=Tryz.sizeOf207
 v53:=Tryz.zeroValue207
 t55:=Tryz.underlying209
 a55:=Tryz.isAgg209
 z55:=Tryz.sizeOf209
 v55:=Tryz.zeroValue209
 t66:=Tryz.underlying228
 a66:=Tryz.isAgg228
 z66:=Tryz.sizeOf228
 v66:=Tryz.zeroValue228
 t70:=Tryz.underlying232
 a70:=Tryz.isAgg232
 z70:=Tryz.sizeOf232
 v70:=Tryz.zeroValue232
 t76:=Tryz.underlying237
 a76:=Tryz.isAgg237
 z76:=Tryz.sizeOf237
 v76:=Tryz.zeroValue237
 t77:=Tryz.underlying238
 a77:=Tryz.isAgg238
 z77:=Tryz.sizeOf238
 v77:=Tryz.zeroValue238}
end Go.Proofs
set_option linter.all false
set_option maxRecDepth 100000
set_option maxHeartbeats 4000000
namespace Go.Ab.D
open Go.Proofs
open Go Go.Ab
noncomputable section
abbrev qY0:Ty:=(.pair (.int .i64) (.pair (.int .i64) (.pair .bool (.pair .bool (.pair (.int .i64) (.pair (.sl (.pair (.int .i64) (.int .i64))) (.pair (.int .i64) (.sl (.pair .str (.int .i64))))))))))
abbrev qY1:Ty:=(.pair (.int .i64) (.pair (.int .i64) (.pair (.int .i64) (.pair (.pair (.int .i64) (.int .i64)) (.pair .bool (.pair (.int .i64) (.pair (.sl .byte) (.pair (.sl (.pair .str (.int .i64))) (.pair .bool (.int .i64))))))))))
abbrev qT2:Type:=(Int×(Int×(Bool×(Bool×(Int×(List ((Int×Int))×(Int×List ((List UInt8×Int)))))))))
abbrev qT3:Type:=(Int×(Int×(Int×((Int×Int)×(Bool×(Int×(List (UInt8)×(List ((List UInt8×Int))×(Bool×Int)))))))))
abbrev qB4:BKd:=(.vars (.cons (.p (.sl qY0)) (.cons (.p (.int .i64)) (.cons (.p (.sl (.sl .byte))) (.cons (.p (.int .i64)) (.cons (.p (.int .i64)) (.cons (.p (.int .u8)) (.cons (.p (.int .i64)) (.cons (.p (.int .i64)) (.cons (.p .str) (.cons (.p (.int .i64)) (.cons (.p (.int .i64)) (.cons (.p .str) (.cons (.p (.int .i64)) (.cons (.p (.int .i64)) (.cons (.p (.sl .byte)) (.cons (.p (.int .i64)) (.cons (.p (.int .i64)) (.cons (.p (.int .i64)) (.cons (.p (.int .i64)) (.cons (.p (.int .i64)) (.cons (.p .bool) (.cons (.p (.int .i64)) (.cons (.nilp (.slice none 0 0)) (.cons (.nilp (.slice none 0 0)) (.cons (.p .bool) (.cons (.p (.int .i64)) .nil)))))))))))))))))))))))))))
abbrev qY5:Ty:=(.pair (.int .i64) (.int .i64))
abbrev qL6:KdL:=(.cons (.p (.int .i64)) .nil)
abbrev qY7:Ty:=(.pair (.int .i64) (.pair (.int .i64) (.pair .bool (.pair .bool (.pair (.int .i64) (.pair (.sl qY5) (.pair (.int .i64) (.ref 1 (.pair .str (.int .i64))))))))))
abbrev qT8:Type:=((Int×(Int×(Bool×(Bool×(Int×(List ((Int×Int))×(Int×(List ((List UInt8×Int))⊕Option (Nat×(Nat×Nat)))))))))))
abbrev qL9:KdL:=(.cons (.p (.int .i64)) (.cons (.p (.int .i64)) (.cons (.p (.int .i64)) (.cons (.p (.int .i64)) (.cons (.p (.int .i64)) (.cons (.p .bool) (.cons (.p (.int .i64)) (.cons (.p (.sl .byte)) (.cons (.p (.sl (.pair .str (.int .i64)))) (.cons (.p .bool) qL6))))))))))
abbrev qY10:Ty:=(.pair (.int .i64) (.pair (.pair (.sl qY0) (.int .i64)) (.pair (.pair (.int .i64) (.sl (.pair (.int .i64) (.pair (.int .i64) (.sl qY1))))) (.pair (.sl (.pair (.int .i64) (.sl (.int .i64)))) (.sl qY5)))))
abbrev qT11:Type:=(Int×((List (qT2)×Int)×((Int×List ((Int×(Int×List (qT3)))))×(List ((Int×List (Int)))×List ((Int×Int))))))
abbrev qL12:KdL:=(.cons (.p (.int .i64)) (.cons (.p (.int .i64)) (.cons (.p .bool) (.cons (.p .bool) (.cons (.p (.int .i64)) (.cons (.p (.sl qY5)) (.cons (.p (.int .i64)) (.cons (.p (.sl (.pair .str (.int .i64)))) .nil))))))))
abbrev qT13:Type:=(Int×(Int×(UInt8×((Int×Int)×(List UInt8×((Int×Int)×(List UInt8×(Int×(Int×List (UInt8))))))))))
abbrev qY14:Ty:=(.pair (.int .i64) (.pair (.int .i64) (.pair .byte (.pair qY5 (.pair .str (.pair qY5 (.pair .str (.pair (.int .i64) (.pair (.int .i64) (.sl .byte))))))))))
abbrev qT15:Type:=(List (qT2)×(Int×(List (List (UInt8))×(Int×(Int×(Int×(Int×(Int×(List UInt8×(Int×(Int×(List UInt8×(Int×(Int×(List (UInt8)×(Int×(Int×(Int×(Int×(Int×(Bool×(Int×(Bool×Int)))))))))))))))))))))))
abbrev qY16:Ty:=(.pair (.int .i64) (.pair qY5 (.int .i64)))
abbrev qL17:KdL:=(.cons (.p (.int .i64)) (.cons (.p (.int .i64)) (.cons (.p (.int .i64)) (.cons (.p (.int .i64)) (.cons (.p (.int .i64)) (.cons (.p .bool) (.cons (.p (.int .i64)) (.cons (.nilp (.slice none 0 0)) (.cons (.nilp (.slice none 0 0)) (.cons (.p .bool) qL6))))))))))
abbrev qT18:Type:=(Int×(List (qT2)×(Int×(List (List (UInt8))×(Int×(Int×(Int×(Int×(Int×(List UInt8×(Int×(Int×(List UInt8×(Int×(Int×(List (UInt8)×(Int×(Int×(Int×(Int×(Int×(Int×(Bool×(Int×(Bool×(Int×(List (qT2)×(Int×(List (List (UInt8))×(Int×(Int×(Int×(Int×(Int×(List UInt8×(Int×(Int×(List UInt8×(Int×(Int×(List (UInt8)×(Int×(Int×(Int×(Int×(Int×(Bool×(Int×(List (UInt8)×(List ((List UInt8×Int))×(Bool×Int)))))))))))))))))))))))))))))))))))))))))))))))))))
abbrev qT19:Type:=((Int×((Int×Int)×Int)))
abbrev qB20:BKd:=(.vars (.cons (.p (.sl qY0)) (.cons (.p (.int .i64)) (.cons (.p (.sl (.sl .byte))) (.cons (.p (.int .i64)) (.cons (.p (.int .i64)) (.cons (.p (.int .u8)) (.cons (.p (.int .i64)) (.cons (.p (.int .i64)) (.cons (.p .str) (.cons (.p (.int .i64)) (.cons (.p (.int .i64)) (.cons (.p .str) (.cons (.p (.int .i64)) (.cons (.p (.int .i64)) (.cons (.p (.sl .byte)) qL9))))))))))))))))
abbrev qY21:Ty:=(.pair (.int .i64) (.pair (.int .i64) (.pair .bool (.pair .bool (.pair (.int .i64) (.pair (.ref 0 qY5) (.pair (.int .i64) (.ref 2 (.pair .str (.int .i64))))))))))
abbrev qY22:Ty:=(.sl (.pair (.int .i64) (.pair (.int .i64) (.sl qY1))))
abbrev qT23:Type:=((Int×(Int×(Bool×(Bool×(Int×((List ((Int×Int))⊕Option (Nat×(Nat×Nat)))×(Int×(List ((List UInt8×Int))⊕Option (Nat×(Nat×Nat)))))))))))
abbrev qB24:BKd:=(.vars (.cons (.p (.int .i64)) (.cons (.p (.int .i64)) (.cons (.p (.int .u8)) (.cons (.p (.int .i64)) (.cons (.p (.int .i64)) (.cons (.p .str) (.cons (.p (.int .i64)) (.cons (.p (.int .i64)) (.cons (.p .str) (.cons (.p (.int .i64)) (.cons (.p (.int .i64)) (.cons (.p (.sl .byte)) .nil)))))))))))))
abbrev qT25:Type:=(Int×(Int×List (qT3)))
abbrev qT26:Type:=(Int×(Int×(Int×(Int×(Int×(List UInt8×(Int×(Int×(List UInt8×(Int×(Int×(List (UInt8)×(Int×(Int×(Int×(Int×(Int×(Int×(Bool×(Int×(Bool×(Int×(Int×(List (qT2)×List (List (UInt8))))))))))))))))))))))))))
abbrev qT27:Type:=((Nat×List ((List UInt8×Int))))
abbrev qL28:KdL:=(.cons (.p (.int .i64)) (.cons (.p (.sl qY0)) (.cons (.p (.int .i64)) (.cons (.p (.int .i64)) (.cons (.p qY22) (.cons (.p (.sl (.pair (.int .i64) (.sl (.int .i64))))) (.cons (.p (.sl qY5)) .nil)))))))
abbrev qT29:Type:=(Int×(Int×(List (qT3)⊕Option (Nat×(Nat×Nat)))))
abbrev qY30:Ty:=(.pair (.int .i64) (.pair (.int .i64) (.pair .bool (.pair .bool (.pair (.int .i64) (.pair (.ref 0 qY5) (.pair (.int .i64) (.sl (.pair .str (.int .i64))))))))))
abbrev qT31:Type:=(List (((Int×Int)×Nat))×Nat)
abbrev qT32:Type:=(List (qT2)×(Int×(List (List (UInt8))×(Int×(Int×(Int×(Int×(Int×(List UInt8×(Int×(Int×(List UInt8×(Int×(Int×(List (UInt8)×(Int×(Int×(Int×(Int×(Int×(Bool×(Int×(List (UInt8)×(List ((List UInt8×Int))×(Bool×(Int×(Int×(Int×(List (qT2)×List (List (UInt8)))))))))))))))))))))))))))))))
abbrev qL33:KdL:=(.cons (.p .bool) (.cons (.p .bool) (.cons (.p .bool) (.cons (.p .bool) (.cons (.p (.int .i64)) (.cons (.p .bool) .nil))))))
abbrev qL34:KdL:=(.cons (.p (.int .i64)) (.cons (.nilp (.slice none 0 0)) .nil))
abbrev qB35:BKd:=(.fam 108 (.pair .str (.int .i64)))
abbrev qY36:Ty:=(.pair (.int .i64) (.pair (.int .i64) (.ref 1 qY1)))
abbrev qT37:Type:=(Int×(Int×(Int×(Int×(Int×(Bool×(Int×(List (UInt8)×(List ((List UInt8×Int))×(Bool×Int))))))))))
abbrev qB38:BKd:=(.vars (.cons (.p (.int .i64)) (.cons (.nilp (.slice none 0 0)) (.cons (.p (.int .i64)) (.cons (.p (.int .i64)) (.cons (.nilp (.slice none 0 0)) (.cons (.nilp (.slice none 0 0)) (.cons (.nilp (.slice none 0 0)) .nil))))))))
abbrev qT39:Type:=(Int×(Int×(Int×(List ((Int×Int))×(List (qT2)×(List (qT29)×(List ((Int×List (Int)))×(Int×(Int×(Int×List ((Nat×List (qT3)))))))))))))
abbrev qB40:BKd:=(.rows 70 (.pair (.int .i64) (.sl (.int .i64))))
abbrev qT41:Type:=(Int×(Int×(Int×(List (qT25)×(Int×(List (qT2)×(List ((Int×List (Int)))×(List ((Int×Int))×List ((Int×Int))))))))))
abbrev qB42:BKd:=(.vars (.cons (.p (.int .i64)) (.cons (.slf 8 1) (.cons (.p (.int .i64)) (.cons (.p (.int .i64)) (.cons (.p qY22) (.cons (.slf 2 2) (.cons (.slf 2 3) (.cons (.p (.int .i64)) (.cons (.slf 2 101) .nil))))))))))
abbrev qT43:Type:=(Int×(Int×(List (qT2)×(Int×(Int×(List (qT25)×(List ((Int×List (Int)))×(List ((Int×Int))×qT31))))))))
abbrev qB44:BKd:=(.vars (.cons (.nilp (.slice none 0 0)) qL6))
abbrev qT45:Type:=((Int×(Int×(Bool×(Bool×(Int×((List ((Int×Int))⊕Option (Nat×(Nat×Nat)))×(Int×List ((List UInt8×Int))))))))))
abbrev qB46:BKd:=(.rows 51 (.pair (.int .i64) (.pair qY1 (.pair (.sl qY16) (.sl qY16)))))
abbrev qT47:Type:=(Int×(qT3×(List qT19×List qT19)))
abbrev qB48:BKd:=(.vars (.cons (.p (.sl qY0)) qL6))
abbrev qB49:BKd:=(.map (.int .i64) (.int .i64))
abbrev qL50:KdL:=(.cons (.p (.int .i64)) qL6)
abbrev qT51:Type:=(Int×(Int×(Int×(Int×(List (qT25)×(Int×(List (qT2)×(List ((Int×List (Int)))×(List ((Int×Int))×(List ((Int×Int))×(List (qT2)×Int)))))))))))
abbrev qB52:BKd:=(.vars (.cons (.p (.int .i64)) (.cons (.p (.int .i64)) (.cons (.p (.sl qY1)) .nil))))
abbrev qY53:Ty:=(.pair (.sl qY0) (.int .i64))
abbrev qL54:KdL:=(.cons (.own 0 100 0 0) (.cons (.own 0 101 0 0) .nil))
abbrev qB55:BKd:=(.rows 108 (.pair .str (.int .i64)))
abbrev qL56:KdL:=(.cons (.own 0 100 0 0) (.cons (.p .bool) .nil))
abbrev qB57:BKd:=(.vars (.cons (.p (.int .i64)) (.cons (.slf 8 102) (.cons (.p (.int .i64)) (.cons (.p (.int .i64)) (.cons (.slf 3 105) (.cons (.slf 2 103) (.cons (.p (.sl qY5)) .nil))))))))
abbrev qB58:BKd:=(.vars (.cons (.fn 79 .nil (.cons (.own 8 1 0 0) (.cons (.own 0 2 0 0) (.cons (.own 0 3 0 0) (.cons (.own 0 4 0 0) .nil))))) .nil))
abbrev qT59:Type:=((Nat×List ((Int×Int))))
abbrev qB60:BKd:=(.vars (.cons (.p .str) .nil))
abbrev qT61:Type:=(Int×(Int×(Int×(List (qT25)×(Int×(List (qT2)×(List ((Int×List (Int)))×(List ((Int×Int))×(List ((Int×Int))×List ((Int×Int)))))))))))
abbrev qB62:BKd:=(.vars (.cons (.slf 8 102) qL6))
abbrev qT63:Type:=(Bool×(Bool×(Bool×(Bool×(Int×Bool)))))
abbrev qT64:Type:=(List ((List UInt8×Int))×List UInt8)
abbrev qL65:KdL:=(.cons (.own 0 0 0 0) (.cons (.own 0 1 0 0) .nil))
abbrev qL66:KdL:=(.cons (.nilp (.slice none 0 0)) qL34)
abbrev qT67:Type:=(Int×(Int×(Int×(List (qT25)×(List ((Int×Int))×(List (qT2)×(List ((Int×List (Int)))×(Int×(Int×Int)))))))))
abbrev qT68:Type:=(Int×(List (qT29)×(Int×List ((Nat×List (qT3))))))
abbrev qB69:BKd:=(.vars (.cons (.slf 8 1) (.cons (.p (.int .i64)) (.cons (.slf 1 2) (.cons (.p (.int .i64)) (.cons (.p (.int .i64)) (.cons (.p (.int .u8)) (.cons (.p (.int .i64)) (.cons (.p (.int .i64)) (.cons (.p .str) (.cons (.p (.int .i64)) (.cons (.p (.int .i64)) (.cons (.p .str) (.cons (.p (.int .i64)) (.cons (.p (.int .i64)) (.cons (.p (.sl .byte)) qL17))))))))))))))))
abbrev qB70:BKd:=(.vars (.cons (.p (.int .i64)) (.cons (.p qY22) .nil)))
abbrev qB71:BKd:=(.vars (.cons (.p (.sl qY0)) (.cons (.p (.int .i64)) (.cons (.p (.sl (.sl .byte))) .nil))))
abbrev qL72:KdL:=(.cons (.own 0 0 0 0) .nil)
abbrev qL73:KdL:=(.cons (.own 0 100 0 0) (.cons (.own 0 101 0 0) (.cons (.p .bool) .nil)))
abbrev qL74:KdL:=(.cons (.own 0 0 0 0) (.cons (.own 0 1 0 0) (.cons (.own 0 2 0 0) .nil)))
abbrev qB75:BKd:=(.vars (.cons (.nilp (.slice none 0 0)) .nil))
theorem mixed:Tryz.prog.follows .mixedOrders=true:=by kernel_rfl
abbrev lf:Ov:=.leaf
theorem tk{T:List FnT}(fu:Nat){f:FuncId}{fn:Func}(fa:FnA){spec:fa.i.D->Option (OutS fa.os)}(hT:∀e∈T,Told Tryz.prog e)(hf:Tryz.prog.funcs[f]? =some fn)(hb:(fn.body.isSome&&!(fn.name=="runtime.NumGoroutine"))=true)(hs:∀t,evF Tryz.prog T fu fn fa t=spec t):Told Tryz.prog ⟨f,fa.i,fa.os,spec⟩:=by
 have h:=(ZAB _ _).mp hb;exact qxZ hT mixed hf (by simpa using h.2) h.1 hs
def u2{a b W:Type}(F:a->b->W)(t:a×b):=F t.1 t.2
def u3{a b c W:Type}(F:a->b->c->W)(t:a×b×c):=u2 (F t.1) t.2
def u4{a b c d W:Type}(F:a->b->c->d->W)(t:a×b×c×d):=u3 (F t.1) t.2
def u5{a b c d e W:Type}(F:a->b->c->d->e->W)(t:a×b×c×d×e):=u4 (F t.1) t.2
def u6{a b c d e f W:Type}(F:a->b->c->d->e->f->W)(t:a×b×c×d×e×f):=u5 (F t.1) t.2
def u7{a b c d e f g W:Type}(F:a->b->c->d->e->f->g->W)(t:a×b×c×d×e×f×g):=u6 (F t.1) t.2
def u8{a b c d e f g h W:Type}(F:a->b->c->d->e->f->g->h->W)(t:a×b×c×d×e×f×g×h):=u7 (F t.1) t.2
def u9{a b c d e f g h i W:Type}(F:a->b->c->d->e->f->g->h->i->W)(t:a×b×c×d×e×f×g×h×i):=u8 (F t.1) t.2
def u10{a b c d e f g h i j W:Type}(F:a->b->c->d->e->f->g->h->i->j->W)(t:a×b×c×d×e×f×g×h×i×j):=u9 (F t.1) t.2
def u11{a b c d e f g h i j k W:Type}(F:a->b->c->d->e->f->g->h->i->j->k->W)(t:a×b×c×d×e×f×g×h×i×j×k):=u10 (F t.1) t.2
def u12{a b c d e f g h i j k l W:Type}(F:a->b->c->d->e->f->g->h->i->j->k->l->W)(t:a×b×c×d×e×f×g×h×i×j×k×l):=u11 (F t.1) t.2
def u13{a b c d e f g h i j k l m W:Type}(F:a->b->c->d->e->f->g->h->i->j->k->l->m->W)(t:a×b×c×d×e×f×g×h×i×j×k×l×m):=u12 (F t.1) t.2
def u14{a b c d e f g h i j k l m n W:Type}(F:a->b->c->d->e->f->g->h->i->j->k->l->m->n->W)(t:a×b×c×d×e×f×g×h×i×j×k×l×m×n):=u13 (F t.1) t.2
def u15{a b c d e f g h i j k l m n o W:Type}(F:a->b->c->d->e->f->g->h->i->j->k->l->m->n->o->W)(t:a×b×c×d×e×f×g×h×i×j×k×l×m×n×o):=u14 (F t.1) t.2
def u16{a b c d e f g h i j k l m n o p W:Type}(F:a->b->c->d->e->f->g->h->i->j->k->l->m->n->o->p->W)(t:a×b×c×d×e×f×g×h×i×j×k×l×m×n×o×p):=u15 (F t.1) t.2
def u17{a b c d e f g h i j k l m n o p q W:Type}(F:a->b->c->d->e->f->g->h->i->j->k->l->m->n->o->p->q->W)(t:a×b×c×d×e×f×g×h×i×j×k×l×m×n×o×p×q):=u16 (F t.1) t.2
def u18{a b c d e f g h i j k l m n o p q r W:Type}(F:a->b->c->d->e->f->g->h->i->j->k->l->m->n->o->p->q->r->W)(t:a×b×c×d×e×f×g×h×i×j×k×l×m×n×o×p×q×r):=u17 (F t.1) t.2
def u19{a b c d e f g h i j k l m n o p q r s W:Type}(F:a->b->c->d->e->f->g->h->i->j->k->l->m->n->o->p->q->r->s->W)(t:a×b×c×d×e×f×g×h×i×j×k×l×m×n×o×p×q×r×s):=u18 (F t.1) t.2
def u20{a b c d e f g h i j k l m n o p q r s x W:Type}(F:a->b->c->d->e->f->g->h->i->j->k->l->m->n->o->p->q->r->s->x->W)(t:a×b×c×d×e×f×g×h×i×j×k×l×m×n×o×p×q×r×s×x):=u19 (F t.1) t.2
def u21{a b c d e f g h i j k l m n o p q r s x y W:Type}(F:a->b->c->d->e->f->g->h->i->j->k->l->m->n->o->p->q->r->s->x->y->W)(t:a×b×c×d×e×f×g×h×i×j×k×l×m×n×o×p×q×r×s×x×y):=u20 (F t.1) t.2
def u22{a b c d e f g h i j k l m n o p q r s x y z W:Type}(F:a->b->c->d->e->f->g->h->i->j->k->l->m->n->o->p->q->r->s->x->y->z->W)(t:a×b×c×d×e×f×g×h×i×j×k×l×m×n×o×p×q×r×s×x×y×z):=u21 (F t.1) t.2
def u23{a b c d e f g h i j k l m n o p q r s x y z a1 W:Type}(F:a->b->c->d->e->f->g->h->i->j->k->l->m->n->o->p->q->r->s->x->y->z->a1->W)(t:a×b×c×d×e×f×g×h×i×j×k×l×m×n×o×p×q×r×s×x×y×z×a1):=u22 (F t.1) t.2
def u24{a b c d e f g h i j k l m n o p q r s x y z a1 b1 W:Type}(F:a->b->c->d->e->f->g->h->i->j->k->l->m->n->o->p->q->r->s->x->y->z->a1->b1->W)(t:a×b×c×d×e×f×g×h×i×j×k×l×m×n×o×p×q×r×s×x×y×z×a1×b1):=u23 (F t.1) t.2
def u25{a b c d e f g h i j k l m n o p q r s x y z a1 b1 c1 W:Type}(F:a->b->c->d->e->f->g->h->i->j->k->l->m->n->o->p->q->r->s->x->y->z->a1->b1->c1->W)(t:a×b×c×d×e×f×g×h×i×j×k×l×m×n×o×p×q×r×s×x×y×z×a1×b1×c1):=u24 (F t.1) t.2
def u26{a b c d e f g h i j k l m n o p q r s x y z a1 b1 c1 d1 W:Type}(F:a->b->c->d->e->f->g->h->i->j->k->l->m->n->o->p->q->r->s->x->y->z->a1->b1->c1->d1->W)(t:a×b×c×d×e×f×g×h×i×j×k×l×m×n×o×p×q×r×s×x×y×z×a1×b1×c1×d1):=u25 (F t.1) t.2
def kit_Pick(fu:Nat)(x:Int)(n:Int):Option (Int):=
 bif (decide (n<1)) then
  some 0
 else
  need (!(decide (n=0)))<|
  bif (decide ((Int.tmod x n)<0)) then
   some (IntKind.wrap .i64 ((Int.tmod x n)+n))
  else
   some (Int.tmod x n)
def kit_Pick_fa:FnA:=⟨.two lf (.two (.two lf (.two lf lf)) (.two lf (.two (.two lf lf) lf))),⟨qL50,[]⟩,[⟨qL6,[]⟩],[0]⟩
def kit_Pick_ft(fu:Nat):FnT:=⟨4,kit_Pick_fa.i,kit_Pick_fa.os,fun t=>kit_Pick fu t.1 t.2⟩
theorem hcZ(fu:Nat):Told Tryz.prog (kit_Pick_ft fu):=tk fu kit_Pick_fa abZ Tryz.func4 (by kernel_rfl) fun t=>by kernel_rfl
def law25_three(fu:Nat):Option (List ((Int×List (Int)))):=
 some [(1,[0,1,2])]
def law25_three_fa:FnA:=⟨.two lf (.two (.reg [(0,{ids:=[100]}),(2,{ids:=[101]})]) lf),⟨.nil,[]⟩,[⟨(.cons (.slf 2 0) .nil),[(0,false,qB40)]⟩],[0]⟩
def law25_three_ft(fu:Nat):FnT:=⟨6,law25_three_fa.i,law25_three_fa.os,fun t=>law25_three fu⟩
theorem cxZ(fu:Nat):Told Tryz.prog (law25_three_ft fu):=tk fu law25_three_fa abZ Tryz.func6 (by kernel_rfl) fun t=>by kernel_rfl
def rNew(fu:Nat)(window:Int):Option ((Int×Int)):=
 Option.bind (α:=((Bool×Int))) (
  bif (decide (window<1)) then
   some (true,0)
  else
   some ((decide (window>100)),0)) fun o=>
 bif o.1 then
  some (0,2)
 else
  some (window,0)
def rNew_fa:FnA:=⟨.two (.reg [(0,{ids:=[100]})]) (.two (.two (.join ⟨[2,9],⟨qL56,[(100,false,(.vars qL34))]⟩⟩ false [] lf) (.two lf lf)) lf),⟨qL6,[]⟩,[⟨(.cons (.agg qL34) qL6),[]⟩],[0,0]⟩
def rNew_ft(fu:Nat):FnT:=⟨10,rNew_fa.i,rNew_fa.os,fun t=>rNew fu t⟩
theorem n0Z(fu:Nat):Told Tryz.prog (rNew_ft fu):=tk fu rNew_fa abZ Tryz.func10 (by kernel_rfl) fun t=>by kernel_rfl
def sInd_l0(fu:Nat)(s:List (Int))(v:Int)(x:Int):Option (Int⊕(Unit⊕Int)):=
 bif (decide (x<((s.length:Nat):Int))) then
  (idx? x s.length).bind fun q=>
  (s)[q]?.bind fun r=>
  bif (v==r) then
   some (.inr (.inr x))
  else
   some (.inl (IntKind.wrap .i64 (x+1)))
 else
  some (.inr (.inl ()))
def sInd_l0_it(fu:Nat)(s:List (Int))(v:Int)(tt:Int):Option (Unit⊕Int):=
 iter fu (fun tt=>sInd_l0 fu s v tt) tt
def sInd(fu:Nat)(s:List (Int))(v:Int):Option (Int):=
 (sInd_l0_it fu s v 0).bind fun o=>
 match o with
 |.inl s1=>
  some (-1)
 |.inr o1=>
  some o1
def sInd_fa:FnA:=⟨.two lf (.two (.two lf (.one (.loop ⟨[8],⟨qL6,[]⟩⟩ true [(0,⟨[],⟨.nil,[]⟩⟩)] (.two lf (.two lf (.two (.one (.two lf (.two lf (.two lf lf)))) lf)))))) lf),⟨(.cons (.p (.sl (.int .i64))) qL6),[]⟩,[⟨qL6,[]⟩],[0]⟩
def sInd_ft(fu:Nat):FnT:=⟨117,sInd_fa.i,sInd_fa.os,fun t=>sInd fu t.1 t.2⟩
theorem mIZ(fu:Nat):Told Tryz.prog (sInd_ft fu):=tk fu sInd_fa abZ Tryz.func117 (by kernel_rfl) fun t=>by kernel_rfl
def sCon(fu:Nat)(s:List (Int))(v:Int):Option (Bool):=
 (sInd fu s v).bind fun r=>
 some (decide (r>=0))
def sCon_fa:FnA:=⟨.two lf (.two (.reg [(2,{})]) lf),⟨(.cons (.p (.sl (.int .i64))) qL6),[]⟩,[⟨(.cons (.p .bool) .nil),[]⟩],[0]⟩
def sCon_ft(fu:Nat):FnT:=⟨82,sCon_fa.i,sCon_fa.os,fun t=>sCon fu t.1 t.2⟩
theorem nSZ(fu:Nat):Told Tryz.prog (sCon_ft fu):=tk fu sCon_fa (aaZ (mIZ fu) abZ) Tryz.func82 (by kernel_rfl) fun t=>by kernel_rfl
def pRig_l0(fu:Nat)(o:(Bool×(Int×List (Int))))(nodes:Int)(x:Int)(h:Int)(h1:List (Int)):Option ((Int×(Int×List (Int)))⊕(Unit⊕Bool)):=
 bif (decide (x<((o.2.2.length:Nat):Int))) then
  (idx? x o.2.2.length).bind fun q=>
  (o.2.2)[q]?.bind fun r=>
  Option.bind (α:=((Bool×(Int×List (Int))))) (
   bif (decide (r<0)) then
    some (true,(h,h1))
   else
    bif (decide (r>=nodes)) then
     some (true,(h,h1))
    else
     (upto? x h1.length).bind fun q1=>
     (sCon fu (List.take q1 h1) r).bind fun r1=>
     some (r1,(h,h1))) fun o1=>
  bif o1.1 then
   some (.inr (.inr false))
  else
   some (.inl ((IntKind.wrap .i64 (x+1)),o1.2))
 else
  some (.inr (.inl ()))
def pRig_l0_it(fu:Nat)(o:(Bool×(Int×List (Int))))(nodes:Int)(tt:(Int×(Int×List (Int)))):Option (Unit⊕Bool):=
 iter fu (u3 (pRig_l0 fu o nodes)) tt
def pRig(fu:Nat)(p:(Int×List (Int)))(nodes:Int):Option (Bool):=
 Option.bind (α:=((Bool×(Int×List (Int))))) (
  bif (decide (nodes<1)) then
   some (true,p)
  else
   bif (decide (nodes>256)) then
    some (true,p)
   else
    bif (decide (p.1<1)) then
     some (true,p)
    else
     bif (decide (p.1>1099511627776)) then
      some (true,p)
     else
      bif (decide (((p.2.length:Nat):Int)<1)) then
       some (true,p)
      else
       some ((decide (((p.2.length:Nat):Int)>255)),p)) fun o=>
 bif o.1 then
  some false
 else
  (pRig_l0_it fu o nodes (0,o.2)).bind fun o2=>
  match o2 with
  |.inl s=>
   some true
  |.inr o3=>
   some o3
def pRig_fa:FnA:=⟨.two (.reg [(0,{ids:=[100]})]) (.two (.two (.join ⟨[2,34],⟨qL56,[(100,false,(.vars (.cons (.p (.int .i64)) (.cons (.p (.sl (.int .i64))) .nil))))]⟩⟩ false [] lf) (.two lf lf)) (.two (.two lf (.one (.loop ⟨[2,38],⟨(.cons (.own 0 100 0 0) qL6),[(100,false,(.vars (.cons (.p (.int .i64)) (.cons (.p (.sl (.int .i64))) .nil))))]⟩⟩ true [(0,⟨[],⟨.nil,[]⟩⟩)] (.two lf (.two lf (.two (.one (.two lf (.two (.join ⟨[2,57],⟨qL56,[(100,false,(.vars (.cons (.p (.int .i64)) (.cons (.p (.sl (.int .i64))) .nil))))]⟩⟩ false [] (.reg [(13,{})])) (.two lf lf)))) lf)))))) lf)),⟨(.cons (.p (.pair (.int .i64) (.sl (.int .i64)))) qL6),[]⟩,[⟨(.cons (.p .bool) .nil),[]⟩],[0]⟩
def pRig_ft(fu:Nat):FnT:=⟨30,pRig_fa.i,pRig_fa.os,fun t=>pRig fu t.1 t.2⟩
theorem mZZ(fu:Nat):Told Tryz.prog (pRig_ft fu):=tk fu pRig_fa (aaZ (nSZ fu) abZ) Tryz.func30 (by kernel_rfl) fun t=>by kernel_rfl
def spla1(fu:Nat)(p:(Int×List (Int))):Option (Bool):=
 (pRig fu p 256).bind fun r=>
 some (!r)
def spla1_fa:FnA:=⟨.two (.reg [(0,{ids:=[100]})]) (.two (.reg [(1,{})]) lf),⟨(.cons (.p (.pair (.int .i64) (.sl (.int .i64)))) .nil),[]⟩,[⟨(.cons (.p .bool) .nil),[]⟩],[0]⟩
def spla1_ft(fu:Nat):FnT:=⟨29,spla1_fa.i,spla1_fa.os,fun t=>spla1 fu t⟩
theorem kEZ(fu:Nat):Told Tryz.prog (spla1_ft fu):=tk fu spla1_fa (aaZ (mZZ fu) abZ) Tryz.func29 (by kernel_rfl) fun t=>by kernel_rfl
def sIndFun8_l0(fu:Nat)(s:List ((Int×List (Int))))(x:Int):Option (Int⊕(Unit⊕Int)):=
 bif (decide (x<((s.length:Nat):Int))) then
  (idx? x s.length).bind fun q=>
  (s)[q]?.bind fun r=>
  (spla1 fu r).bind fun r1=>
  bif r1 then
   some (.inr (.inr x))
  else
   some (.inl (IntKind.wrap .i64 (x+1)))
 else
  some (.inr (.inl ()))
def sIndFun8_l0_it(fu:Nat)(s:List ((Int×List (Int))))(tt:Int):Option (Unit⊕Int):=
 iter fu (fun tt=>sIndFun8_l0 fu s tt) tt
def sIndFun8(fu:Nat)(s:List ((Int×List (Int)))):Option (Int):=
 (sIndFun8_l0_it fu s 0).bind fun o=>
 match o with
 |.inl s1=>
  some (-1)
 |.inr o1=>
  some o1
def sIndFun8_fa:FnA:=⟨.two lf (.two (.two lf (.one (.loop ⟨[8],⟨qL6,[]⟩⟩ true [(0,⟨[],⟨.nil,[]⟩⟩)] (.two lf (.two lf (.two (.one (.two lf (.two (.reg [(5,{})]) (.two lf lf)))) lf)))))) lf),⟨(.cons (.p (.sl (.pair (.int .i64) (.sl (.int .i64))))) (.cons (.fn 29 .nil .nil) .nil)),[]⟩,[⟨qL6,[]⟩],[0]⟩
def sIndFun8_ft(fu:Nat):FnT:=⟨83,sIndFun8_fa.i,sIndFun8_fa.os,fun t=>sIndFun8 fu t⟩
theorem hHZ(fu:Nat):Told Tryz.prog (sIndFun8_ft fu):=tk fu sIndFun8_fa (aaZ (kEZ fu) abZ) Tryz.func83 (by kernel_rfl) fun t=>by kernel_rfl
def sConFun6(fu:Nat)(s:List ((Int×List (Int)))):Option (Bool):=
 (sIndFun8 fu s).bind fun r=>
 some (decide (r>=0))
def sConFun6_fa:FnA:=⟨.two lf (.two (.reg [(2,{})]) lf),⟨(.cons (.p (.sl (.pair (.int .i64) (.sl (.int .i64))))) (.cons (.fn 29 .nil .nil) .nil)),[]⟩,[⟨(.cons (.p .bool) .nil),[]⟩],[0]⟩
def sConFun6_ft(fu:Nat):FnT:=⟨31,sConFun6_fa.i,sConFun6_fa.os,fun t=>sConFun6 fu t⟩
theorem hDZ(fu:Nat):Told Tryz.prog (sConFun6_ft fu):=tk fu sConFun6_fa (aaZ (hHZ fu) abZ) Tryz.func31 (by kernel_rfl) fun t=>by kernel_rfl
def spla(fu:Nat)(l:List ((Int×List (Int)))):Option (Bool):=
 bif (decide (((l.length:Nat):Int)>=1)) then
  bif (decide (((l.length:Nat):Int)<=1000)) then
   (sConFun6 fu l).bind fun r=>
   some (!r)
  else
   some false
 else
  some false
def spla_fa:FnA:=⟨.two lf (.two lf (.two (.reg [(11,{})]) lf)),⟨(.cons (.p (.sl (.pair (.int .i64) (.sl (.int .i64))))) .nil),[]⟩,[⟨(.cons (.p .bool) .nil),[]⟩],[0]⟩
def spla_ft(fu:Nat):FnT:=⟨11,spla_fa.i,spla_fa.os,fun t=>spla fu t⟩
theorem hQZ(fu:Nat):Told Tryz.prog (spla_ft fu):=tk fu spla_fa (aaZ (hDZ fu) abZ) Tryz.func11 (by kernel_rfl) fun t=>by kernel_rfl
def inode_New(fu:Nat):Option ((Int×List (qT2))):=
 some (0,[(1,(1,(true,(true,(0,([],(1,[])))))))])
def inode_New_fa:FnA:=⟨.two (.reg [(0,{ids:=[100]})]) (.two (.reg [(1,{ids:=[101]})]) lf),⟨.nil,[]⟩,[⟨(.cons (.agg (.cons (.slf 8 0) qL6)) .nil),[(0,false,(.rows 56 qY0))]⟩],[0]⟩
def inode_New_ft(fu:Nat):FnT:=⟨40,inode_New_fa.i,inode_New_fa.os,fun t=>inode_New fu⟩
theorem fPZ(fu:Nat):Told Tryz.prog (inode_New_ft fu):=tk fu inode_New_fa abZ Tryz.func40 (by kernel_rfl) fun t=>by kernel_rfl
def model_New(fu:Nat):Option ((Int×(List (qT2)×List (List (UInt8))))):=
 (inode_New fu).bind fun r=>
 some (r.1,(r.2,(List.replicate (α:=List (UInt8)) 1 [])))
def model_New_fa:FnA:=⟨.two (.reg [(0,{ids:=[100]})]) (.two (.reg [(0,{ids:=[101]}),(1,{ids:=[102]})]) lf),⟨.nil,[]⟩,[⟨(.cons (.agg (.cons (.slf 8 0) (.cons (.p (.int .i64)) (.cons (.slf 1 1) .nil)))) .nil),[(0,false,(.rows 56 qY0)),(1,false,(.rows 40 (.sl .byte)))]⟩],[0]⟩
def model_New_ft(fu:Nat):FnT:=⟨13,model_New_fa.i,model_New_fa.os,fun t=>model_New fu⟩
theorem fZZ(fu:Nat):Told Tryz.prog (model_New_ft fu):=tk fu model_New_fa (aaZ (fPZ fu) abZ) Tryz.func13 (by kernel_rfl) fun t=>by kernel_rfl
def sClo2(fu:Nat)(s:List (qT2)):Option (List (qT2)):=
 nilQ s.length fun isNil=>
 bif isNil then
  some []
 else
  need ((Nat.ble ((0+s.length)*88) room)&&(Nat.ble (0+s.length) room))<|
  some s
def sClo2_fa:FnA:=⟨.two lf (.two (.two lf (.two lf lf)) (.two (.reg [(0,{ids:=[100]}),(2,{ids:=[101]})]) lf)),⟨(.cons (.p (.sl qY0)) .nil),[]⟩,[⟨(.cons (.slf 8 0) .nil),[(0,false,(.rows 56 qY0))]⟩],[66]⟩
def sClo2_ft(fu:Nat):FnT:=⟨84,sClo2_fa.i,sClo2_fa.os,fun t=>sClo2 fu t⟩
theorem blZ(fu:Nat):Told Tryz.prog (sClo2_ft fu):=tk fu sClo2_fa abZ Tryz.func84 (by kernel_rfl) fun t=>by kernel_rfl
def sClo3(fu:Nat)(s:List ((Int×Int))):Option (List ((Int×Int))):=
 nilQ s.length fun isNil=>
 bif isNil then
  some []
 else
  need ((Nat.ble ((0+s.length)*16) room)&&(Nat.ble (0+s.length) room))<|
  some s
def sClo3_fa:FnA:=⟨.two lf (.two (.two lf (.two lf lf)) (.two (.reg [(0,{ids:=[100]}),(2,{ids:=[101]})]) lf)),⟨(.cons (.p (.sl qY5)) .nil),[]⟩,[⟨(.cons (.slf 2 0) .nil),[(0,false,(.rows 58 qY5))]⟩],[68]⟩
def sClo3_ft(fu:Nat):FnT:=⟨39,sClo3_fa.i,sClo3_fa.os,fun t=>sClo3 fu t⟩
theorem b3Z(fu:Nat):Told Tryz.prog (sClo3_ft fu):=tk fu sClo3_fa abZ Tryz.func39 (by kernel_rfl) fun t=>by kernel_rfl
def sClo(fu:Nat)(s:List ((List UInt8×Int))):Option (List ((List UInt8×Int))):=
 nilQ s.length fun isNil=>
 bif isNil then
  some []
 else
  need ((Nat.ble ((0+s.length)*24) room)&&(Nat.ble (0+s.length) room))<|
  some s
def sClo_fa:FnA:=⟨.two lf (.two (.two lf (.two lf lf)) (.two (.reg [(0,{ids:=[100]}),(2,{ids:=[101]})]) lf)),⟨(.cons (.p (.sl (.pair .str (.int .i64)))) .nil),[]⟩,[⟨(.cons (.slf 2 0) .nil),[(0,false,qB55)]⟩],[118]⟩
def sClo_ft(fu:Nat):FnT:=⟨38,sClo_fa.i,sClo_fa.os,fun t=>sClo fu t⟩
theorem brZ(fu:Nat):Told Tryz.prog (sClo_ft fu):=tk fu sClo_fa abZ Tryz.func38 (by kernel_rfl) fun t=>by kernel_rfl
def scop_l0(fu:Nat)(r:List (qT2))(x:Int)(h:Int)(h1:List (qT2))(h2:Int):Option ((Int×(Int×(List (qT2)×Int)))⊕((Int×(List (qT2)×Int)))):=
 bif (decide (x<((r.length:Nat):Int))) then
  (idx? x h1.length).bind fun q=>
  (h1)[q]?.bind fun r1=>
  (sClo3 fu r1.2.2.2.2.2.1).bind fun r2=>
  (idx? x h1.length).bind fun q1=>
  (h1)[q1]?.bind fun r3=>
  (sClo fu r3.2.2.2.2.2.2.2).bind fun r4=>
  (idx? x h1.length).bind fun q2=>
  (h1)[q2]?.bind fun r5=>
  (idx? x (List.set h1 q2 (r5.1,(r5.2.1,(r5.2.2.1,(r5.2.2.2.1,(r5.2.2.2.2.1,(r2,r5.2.2.2.2.2.2))))))).length).bind fun q3=>
  ((List.set h1 q2 (r5.1,(r5.2.1,(r5.2.2.1,(r5.2.2.2.1,(r5.2.2.2.2.1,(r2,r5.2.2.2.2.2.2))))))))[q3]?.bind fun r6=>
  some (.inl ((IntKind.wrap .i64 (x+1)),(h,((List.set (List.set h1 q2 (r5.1,(r5.2.1,(r5.2.2.1,(r5.2.2.2.1,(r5.2.2.2.2.1,(r2,r5.2.2.2.2.2.2))))))) q3 (r6.1,(r6.2.1,(r6.2.2.1,(r6.2.2.2.1,(r6.2.2.2.2.1,(r6.2.2.2.2.2.1,(r6.2.2.2.2.2.2.1,r4)))))))),h2))))
 else
  some (.inr (h,(h1,h2)))
def scop_l0_it(fu:Nat)(r:List (qT2))(tt:(Int×(Int×(List (qT2)×Int)))):Option ((Int×(List (qT2)×Int))):=
 iter fu (fun tt=>scop_l0 fu r tt.1 tt.2.1 tt.2.2.1 tt.2.2.2) tt
def scop(fu:Nat)(t:(List (qT2)×Int)):Option ((Int×List (qT2))):=
 (sClo2 fu t.1).bind fun r=>
 (scop_l0_it fu r (0,(t.2,(r,0)))).bind fun o=>
 some (o.1,o.2.1)
def scop_fa:FnA:=⟨.two (.reg [(0,{ids:=[100]}),(1,{ids:=[101]})]) (.two (.reg [(2,{ids:=[102]})]) (.two (.two lf (.one (.loop ⟨[1,2,11],⟨(.cons (.own 0 100 0 0) (.cons (.own 0 101 0 0) qL6)),[(100,false,qB62),(102,false,(.rows 56 qY0)),(101,false,qB44)]⟩⟩ false [(0,⟨[1,2],⟨qL54,[(100,false,qB62),(102,false,(.rows 56 qY0)),(101,false,qB44)]⟩⟩)] (.two lf (.two lf (.two (.one (.two lf (.reg [(12,{ids:=[103],fn:=1}),(19,{ids:=[104],fn:=2})]))) lf)))))) lf)),⟨(.cons (.p qY53) .nil),[]⟩,[⟨(.cons (.agg (.cons (.slf 8 0) qL6)) .nil),[(0,false,(.rows 56 qY0))]⟩],[0]⟩
def scop_ft(fu:Nat):FnT:=⟨32,scop_fa.i,scop_fa.os,fun t=>scop fu t⟩
theorem hRZ(fu:Nat):Told Tryz.prog (scop_ft fu):=tk fu scop_fa (aaZ (blZ fu) (aaZ (b3Z fu) (aaZ (brZ fu) abZ))) Tryz.func32 (by kernel_rfl) fun t=>by kernel_rfl
def sClo7(fu:Nat)(s:List ((Int×List (Int)))):Option (List ((Int×List (Int)))):=
 nilQ s.length fun isNil=>
 bif isNil then
  some []
 else
  need ((Nat.ble ((0+s.length)*32) room)&&(Nat.ble (0+s.length) room))<|
  some s
def sClo7_fa:FnA:=⟨.two lf (.two (.two lf (.two lf lf)) (.two (.reg [(0,{ids:=[100]}),(2,{ids:=[101]})]) lf)),⟨(.cons (.p (.sl (.pair (.int .i64) (.sl (.int .i64))))) .nil),[]⟩,[⟨(.cons (.slf 2 0) .nil),[(0,false,qB40)]⟩],[80]⟩
def sClo7_ft(fu:Nat):FnT:=⟨33,sClo7_fa.i,sClo7_fa.os,fun t=>sClo7 fu t⟩
theorem lnZ(fu:Nat):Told Tryz.prog (sClo7_ft fu):=tk fu sClo7_fa abZ Tryz.func33 (by kernel_rfl) fun t=>by kernel_rfl
def sClo9(fu:Nat)(s:List (Int)):Option (List (Int)):=
 nilQ s.length fun isNil=>
 bif isNil then
  some []
 else
  need ((Nat.ble ((0+s.length)*8) room)&&(Nat.ble (0+s.length) room))<|
  some s
def sClo9_fa:FnA:=⟨.two lf (.two (.two lf (.two lf lf)) (.two (.reg [(0,{ids:=[100]}),(2,{ids:=[101]})]) lf)),⟨(.cons (.p (.sl (.int .i64))) .nil),[]⟩,[⟨(.cons (.slf 1 0) .nil),[(0,false,(.rows 3 (.int .i64)))]⟩],[13]⟩
def sClo9_ft(fu:Nat):FnT:=⟨34,sClo9_fa.i,sClo9_fa.os,fun t=>sClo9 fu t⟩
theorem lBZ(fu:Nat):Told Tryz.prog (sClo9_ft fu):=tk fu sClo9_fa abZ Tryz.func34 (by kernel_rfl) fun t=>by kernel_rfl
def sClo6(fu:Nat)(s:List (qT25)):Option (List (qT25)):=
 nilQ s.length fun isNil=>
 bif isNil then
  some []
 else
  need ((Nat.ble ((0+s.length)*40) room)&&(Nat.ble (0+s.length) room))<|
  some s
def sClo6_fa:FnA:=⟨.two lf (.two (.two lf (.two lf lf)) (.two (.reg [(0,{ids:=[100]}),(2,{ids:=[101]})]) lf)),⟨(.cons (.p qY22) .nil),[]⟩,[⟨(.cons (.slf 3 0) .nil),[(0,false,(.rows 102 (.pair (.int .i64) (.pair (.int .i64) (.sl qY1)))))]⟩],[112]⟩
def sClo6_ft(fu:Nat):FnT:=⟨35,sClo6_fa.i,sClo6_fa.os,fun t=>sClo6 fu t⟩
theorem grZ(fu:Nat):Told Tryz.prog (sClo6_ft fu):=tk fu sClo6_fa abZ Tryz.func35 (by kernel_rfl) fun t=>by kernel_rfl
def sClo5(fu:Nat)(s:List (qT3)):Option (List (qT3)):=
 nilQ s.length fun isNil=>
 bif isNil then
  some []
 else
  need ((Nat.ble ((0+s.length)*120) room)&&(Nat.ble (0+s.length) room))<|
  some s
def sClo5_fa:FnA:=⟨.two lf (.two (.two lf (.two lf lf)) (.two (.reg [(0,{ids:=[100]}),(2,{ids:=[101]})]) lf)),⟨(.cons (.p (.sl qY1)) .nil),[]⟩,[⟨(.cons (.slf 11 0) .nil),[(0,false,(.rows 43 qY1))]⟩],[53]⟩
def sClo5_ft(fu:Nat):FnT:=⟨36,sClo5_fa.i,sClo5_fa.os,fun t=>sClo5 fu t⟩
theorem gjZ(fu:Nat):Told Tryz.prog (sClo5_ft fu):=tk fu sClo5_fa abZ Tryz.func36 (by kernel_rfl) fun t=>by kernel_rfl
def sClo4(fu:Nat)(s:List (UInt8)):Option (List (UInt8)):=
 nilQ s.length fun isNil=>
 bif isNil then
  some []
 else
  need ((Nat.ble ((0+s.length)*1) room)&&(Nat.ble (0+s.length) room))<|
  some s
def sClo4_fa:FnA:=⟨.two lf (.two (.two lf (.two lf lf)) (.two (.reg [(0,{ids:=[100]}),(2,{ids:=[101]})]) lf)),⟨(.cons (.p (.sl .byte)) .nil),[]⟩,[⟨(.cons (.slf 1 0) .nil),[(0,false,(.rows 5 .byte))]⟩],[15]⟩
def sClo4_ft(fu:Nat):FnT:=⟨37,sClo4_fa.i,sClo4_fa.os,fun t=>sClo4 fu t⟩
theorem cbZ(fu:Nat):Told Tryz.prog (sClo4_ft fu):=tk fu sClo4_fa abZ Tryz.func37 (by kernel_rfl) fun t=>by kernel_rfl
def state_own_l0(fu:Nat)(r1:List ((Int×List (Int))))(x:Int)(h:Int)(h1:Int)(h2:Int)(h3:List (qT25))(h4:List ((Int×Int)))(h5:List (qT2))(h6:List ((Int×List (Int))))(h7:Int)(h8:Int)(h9:Int):Option ((Int×qT67)⊕(qT67)):=
 bif (decide (x<((r1.length:Nat):Int))) then
  (idx? x h6.length).bind fun q=>
  (h6)[q]?.bind fun r2=>
  (sClo9 fu r2.2).bind fun r3=>
  (idx? x h6.length).bind fun q1=>
  (h6)[q1]?.bind fun r4=>
  some (.inl ((IntKind.wrap .i64 (x+1)),(h,(h1,(h2,(h3,(h4,(h5,((List.set h6 q1 (r4.1,r3)),(h7,(h8,h9)))))))))))
 else
  some (.inr (h,(h1,(h2,(h3,(h4,(h5,(h6,(h7,(h8,h9))))))))))
def state_own_l0_it(fu:Nat)(r1:List ((Int×List (Int))))(tt:(Int×qT67)):Option (qT67):=
 iter fu (fun tt=>state_own_l0 fu r1 tt.1 tt.2.1 tt.2.2.1 tt.2.2.2.1 tt.2.2.2.2.1 tt.2.2.2.2.2.1 tt.2.2.2.2.2.2.1 tt.2.2.2.2.2.2.2.1 tt.2.2.2.2.2.2.2.2.1 tt.2.2.2.2.2.2.2.2.2.1 tt.2.2.2.2.2.2.2.2.2.2) tt
def state_own_l1(fu:Nat)(r9:qT29)(k:Nat)(x3:Int)(h21:Int)(h22:Int)(h23:Int)(h24:List ((Int×Int)))(h25:List (qT2))(h26:List (qT29))(h27:List ((Int×List (Int))))(h28:Int)(h29:Int)(h30:Int)(h31:List ((Nat×List (qT3)))):Option ((Nat×(Int×qT39))⊕(qT39)):=
 bif (decide (x3<(((refLen (s:=qY1) r9.2.2):Nat):Int))) then
  (h26)[k]?.bind fun r10=>
  (h26)[k]?.bind fun r11=>
  (h26)[k]?.bind fun r12=>
  (refO r12.2.2).bind fun m=>
  (idx? x3 m.2.2).bind fun q3=>
  (h31)[m.1]?.bind fun m1=>
  need ((Nat.blt 0 m1.1)&&true)<|
  (m1.2)[(m.2.1+q3)]?.bind fun r13=>
  (sClo4 fu r13.2.2.2.2.2.2.1).bind fun r14=>
  (h26)[k]?.bind fun r15=>
  (refO r15.2.2).bind fun m2=>
  (idx? x3 m2.2.2).bind fun q4=>
  (h31)[m2.1]?.bind fun m3=>
  need ((Nat.blt 0 m3.1)&&true)<|
  (m3.2)[(m2.2.1+q4)]?.bind fun r16=>
  (sClo fu r16.2.2.2.2.2.2.2.1).bind fun r17=>
  (refO r10.2.2).bind fun m4=>
  (idx? x3 m4.2.2).bind fun q5=>
  (h31)[m4.1]?.bind fun m5=>
  need (((Nat.beq m5.1 1)&&true)&&true)<|
  (m5.2)[(m4.2.1+q5)]?.bind fun r18=>
  (refO r11.2.2).bind fun m6=>
  (idx? x3 m6.2.2).bind fun q6=>
  ((List.set h31 m4.1 (1,(List.set m5.2 (m4.2.1+q5) (r18.1,(r18.2.1,(r18.2.2.1,(r18.2.2.2.1,(r18.2.2.2.2.1,(r18.2.2.2.2.2.1,(r14,r18.2.2.2.2.2.2.2)))))))))))[m6.1]?.bind fun m7=>
  need (((Nat.beq m7.1 1)&&true)&&true)<|
  (m7.2)[(m6.2.1+q6)]?.bind fun r19=>
  some (.inl (k,((IntKind.wrap .i64 (x3+1)),(h21,(h22,(h23,(h24,(h25,(h26,(h27,(h28,(h29,(h30,(List.set (List.set h31 m4.1 (1,(List.set m5.2 (m4.2.1+q5) (r18.1,(r18.2.1,(r18.2.2.1,(r18.2.2.2.1,(r18.2.2.2.2.1,(r18.2.2.2.2.2.1,(r14,r18.2.2.2.2.2.2.2)))))))))) m6.1 (1,(List.set m7.2 (m6.2.1+q6) (r19.1,(r19.2.1,(r19.2.2.1,(r19.2.2.2.1,(r19.2.2.2.2.1,(r19.2.2.2.2.2.1,(r19.2.2.2.2.2.2.1,(r17,r19.2.2.2.2.2.2.2.2))))))))))))))))))))))))
 else
  some (.inr (h21,(h22,(h23,(h24,(h25,(h26,(h27,(h28,(h29,(h30,h31)))))))))))
def state_own_l1_it(fu:Nat)(r9:qT29)(tt:(Nat×(Int×qT39))):Option (qT39):=
 iter fu (fun tt=>state_own_l1 fu r9 tt.1 tt.2.1 tt.2.2.1 tt.2.2.2.1 tt.2.2.2.2.1 tt.2.2.2.2.2.1 tt.2.2.2.2.2.2.1 tt.2.2.2.2.2.2.2.1 tt.2.2.2.2.2.2.2.2.1 tt.2.2.2.2.2.2.2.2.2.1 tt.2.2.2.2.2.2.2.2.2.2.1 tt.2.2.2.2.2.2.2.2.2.2.2.1 tt.2.2.2.2.2.2.2.2.2.2.2.2) tt
def state_own_l2(fu:Nat)(r5:List (qT25))(x1:Int)(h10:Int)(h11:Int)(h12:Int)(h13:List ((Int×Int)))(h14:List (qT2))(h15:List (qT29))(h16:List ((Int×List (Int))))(h17:Int)(h18:Int)(h19:Int)(h20:List ((Nat×List (qT3)))):Option ((Int×qT39)⊕(qT39)):=
 bif (decide (x1<((r5.length:Nat):Int))) then
  (idx? x1 h15.length).bind fun q2=>
  (h15)[q2]?.bind fun r6=>
  (lowD (.ref 1 qY1) r6.2.2).bind fun x2=>
  (sClo5 fu x2).bind fun r7=>
  (h15)[q2]?.bind fun r8=>
  ((List.set h15 q2 (r8.1,(r8.2.1,(.inr (some (h20.length,(0,r7.length))))))))[q2]?.bind fun r9=>
  (state_own_l1_it fu r9 (q2,(0,(h10,(h11,(h12,(h13,(h14,((List.set h15 q2 (r8.1,(r8.2.1,(.inr (some (h20.length,(0,r7.length))))))),(h16,(h17,(h18,(h19,(h20++[(1,r7)])))))))))))))).bind fun o1=>
  some (.inl ((IntKind.wrap .i64 (x1+1)),o1))
 else
  some (.inr (h10,(h11,(h12,(h13,(h14,(h15,(h16,(h17,(h18,(h19,h20)))))))))))
def state_own_l2_it(fu:Nat)(r5:List (qT25))(tt:(Int×qT39)):Option (qT39):=
 iter fu (fun tt=>state_own_l2 fu r5 tt.1 tt.2.1 tt.2.2.1 tt.2.2.2.1 tt.2.2.2.2.1 tt.2.2.2.2.2.1 tt.2.2.2.2.2.2.1 tt.2.2.2.2.2.2.2.1 tt.2.2.2.2.2.2.2.2.1 tt.2.2.2.2.2.2.2.2.2.1 tt.2.2.2.2.2.2.2.2.2.2.1 tt.2.2.2.2.2.2.2.2.2.2.2) tt
def state_own(fu:Nat)(s:qT11):Option ((Int×(Int×(Int×(List (qT25)×(List (qT2)×(List ((Int×List (Int)))×List ((Int×Int))))))))):=
 (scop fu s.2.1).bind fun r=>
 (sClo7 fu s.2.2.2.1).bind fun r1=>
 (state_own_l0_it fu r1 (0,(s.1,(r.1,(s.2.2.1.1,(s.2.2.1.2,(s.2.2.2.2,(r.2,(r1,(0,(0,0))))))))))).bind fun o=>
 (sClo6 fu o.2.2.2.1).bind fun r5=>
 (state_own_l2_it fu r5 (0,(o.1,(o.2.1,(o.2.2.1,(o.2.2.2.2.1,(o.2.2.2.2.2.1,((List.map (liftT qY36) r5),(o.2.2.2.2.2.2.1,(o.2.2.2.2.2.2.2.1,(o.2.2.2.2.2.2.2.2.1,(o.2.2.2.2.2.2.2.2.2,[])))))))))))).bind fun o2=>
 (sClo3 fu o2.2.2.2.1).bind fun r20=>
 (unrefL (unrefD [⟨1,qY1,(List.map frz1 o2.2.2.2.2.2.2.2.2.2.2)⟩] qY36) o2.2.2.2.2.2.1).bind fun l=>
 some (o2.1,(o2.2.1,(o2.2.2.1,(l,(o2.2.2.2.2.1,(o2.2.2.2.2.2.2.1,r20))))))
def state_own_fa:FnA:=⟨.two (.reg [(0,{ids:=[100]}),(1,{ids:=[101]})]) (.two (.reg [(2,{ids:=[102]})]) (.two (.reg [(2,{ids:=[103],fn:=1})]) (.two (.two lf (.one (.loop ⟨[1,2,18],⟨(.cons (.own 0 100 0 0) (.cons (.own 0 101 0 0) qL6)),[(100,false,(.vars (.cons (.p (.int .i64)) (.cons (.slf 8 102) (.cons (.p (.int .i64)) (.cons (.p (.int .i64)) (.cons (.p qY22) (.cons (.slf 2 103) (.cons (.p (.sl qY5)) .nil))))))))),(102,false,(.rows 56 qY0)),(103,false,qB40),(101,false,qB38)]⟩⟩ false [(0,⟨[1,2],⟨qL54,[(100,false,(.vars (.cons (.p (.int .i64)) (.cons (.slf 8 102) (.cons (.p (.int .i64)) (.cons (.p (.int .i64)) (.cons (.p qY22) (.cons (.slf 2 103) (.cons (.p (.sl qY5)) .nil))))))))),(102,false,(.rows 56 qY0)),(103,false,qB40),(101,false,qB38)]⟩⟩)] (.two lf (.two lf (.two (.one (.two lf (.reg [(9,{ids:=[104],fn:=2})]))) lf)))))) (.two (.reg [(3,{ids:=[105],fn:=3})]) (.two (.two lf (.one (.pre (.newFam 1 43 qY1) (.pre (.toRef 105 qY36) (.loop ⟨[1,2,44],⟨(.cons (.own 0 100 0 0) (.cons (.own 0 101 0 0) qL6)),[(100,false,qB57),(102,false,(.rows 56 qY0)),(105,false,(.rows 102 qY36)),(103,false,qB40),(101,false,qB38),(999985,false,(.fam 43 qY1))]⟩⟩ false [(2,⟨[1,2],⟨qL54,[(100,false,qB57),(102,false,(.rows 56 qY0)),(105,false,(.rows 102 qY36)),(103,false,qB40),(101,false,qB38),(999985,false,(.fam 43 qY1))]⟩⟩)] (.two lf (.two lf (.two (.one (.two lf (.two lf (.two (.reg [(5,{ids:=[106],md:=[3],fn:=4}),(8,{sh:=[106,999985]})]) (.two lf (.one (.loop ⟨[1,2,5,65],⟨(.cons (.own 0 100 0 0) (.cons (.own 0 101 0 0) (.cons (.ownx 3 105 0) qL6))),[(100,false,qB57),(102,false,(.rows 56 qY0)),(105,false,(.rows 102 qY36)),(103,false,qB40),(101,false,qB38),(999985,false,(.fam 43 qY1))]⟩⟩ false [(4,⟨[1,2],⟨qL54,[(100,false,qB57),(102,false,(.rows 56 qY0)),(105,false,(.rows 102 qY36)),(103,false,qB40),(101,false,qB38),(999985,false,(.fam 43 qY1))]⟩⟩)] (.two lf (.two lf (.two (.one (.two lf (.reg [(17,{sh:=[999985]}),(18,{ids:=[107],fn:=5}),(26,{sh:=[999985]}),(27,{ids:=[108],fn:=6}),(30,{sh:=[999985]}),(33,{sh:=[999985]})]))) lf)))))))))) lf)))))))) (.two (.reg [(2,{ids:=[109],fn:=7})]) (.two (.pre (.pureCell 100 4) lf) lf))))))),⟨(.cons (.p qY10) .nil),[]⟩,[⟨(.cons (.agg (.cons (.p (.int .i64)) (.cons (.slf 8 0) (.cons (.p (.int .i64)) (.cons (.p (.int .i64)) (.cons (.p qY22) (.cons (.slf 2 1) (.cons (.slf 2 2) .nil)))))))) .nil),[(0,false,(.rows 56 qY0)),(1,false,qB40),(2,false,(.rows 58 qY5))]⟩],[0]⟩
def state_own_ft(fu:Nat):FnT:=⟨12,state_own_fa.i,state_own_fa.os,fun t=>state_own fu t⟩
theorem cXZ(fu:Nat):Told Tryz.prog (state_own_ft fu):=tk fu state_own_fa (aaZ (hRZ fu) (aaZ (lnZ fu) (aaZ (lBZ fu) (aaZ (grZ fu) (aaZ (gjZ fu) (aaZ (cbZ fu) (aaZ (brZ fu) (aaZ (b3Z fu) abZ)))))))) Tryz.func12 (by kernel_rfl) fun t=>by kernel_rfl
def state_New(fu:Nat)(window:Int)(l:List ((Int×List (Int)))):Option ((Int×(List (qT2)×(Int×(Int×(List (qT25)×(List ((Int×List (Int)))×(List ((Int×Int))×Int)))))))):=
 (rNew fu window).bind fun r=>
 bif (!(r.2==0)) then
  some (0,([],(0,(0,([],([],([],r.2)))))))
 else
  (spla fu l).bind fun r1=>
  bif (!r1) then
   some (0,([],(0,(0,([],([],([],2)))))))
  else
   (model_New fu).bind fun r2=>
   (state_own fu (0,((r2.2.1,r2.1),((r.1,[]),(l,[]))))).bind fun r3=>
   some (r3.1,(r3.2.2.2.2.1,(r3.2.1,(r3.2.2.1,(r3.2.2.2.1,(r3.2.2.2.2.2.1,(r3.2.2.2.2.2.2,0)))))))
def state_New_fa:FnA:=⟨.two (.reg [(0,{ids:=[100]})]) (.two (.reg [(1,{}),(5,{ids:=[101]})]) (.two (.two lf (.two lf lf)) (.two (.two (.reg [(1,{fn:=1})]) (.two lf lf)) (.two (.reg [(0,{ids:=[102,103],fn:=2}),(5,{ids:=[104,105,106],md:=[1],fn:=3})]) lf)))),⟨(.cons (.p (.int .i64)) (.cons (.p (.sl (.pair (.int .i64) (.sl (.int .i64))))) .nil)),[]⟩,[⟨(.cons (.agg qL28) qL6),[]⟩],[1,0]⟩
def state_New_ft(fu:Nat):FnT:=⟨5,state_New_fa.i,state_New_fa.os,fun t=>state_New fu t.1 t.2⟩
theorem daZ(fu:Nat):Told Tryz.prog (state_New_ft fu):=tk fu state_New_fa (aaZ (n0Z fu) (aaZ (hQZ fu) (aaZ (fZZ fu) (aaZ (cXZ fu) abZ)))) Tryz.func5 (by kernel_rfl) fun t=>by kernel_rfl
def ssiz(fu:Nat)(n:Int):Option (Bool):=
 bif (decide (n>=16)) then
  some (decide (n<=65536))
 else
  some false
def ssiz_fa:FnA:=⟨.two lf lf,⟨qL6,[]⟩,[⟨(.cons (.p .bool) .nil),[]⟩],[0]⟩
def ssiz_ft(fu:Nat):FnT:=⟨69,ssiz_fa.i,ssiz_fa.os,fun t=>ssiz fu t⟩
theorem ojZ(fu:Nat):Told Tryz.prog (ssiz_ft fu):=tk fu ssiz_fa abZ Tryz.func69 (by kernel_rfl) fun t=>by kernel_rfl
def ibar(fu:Nat)(n:qT2):Option (Bool):=
 bif (!n.2.2.1) then
  bif (!n.2.2.2.1) then
   bif (n.2.2.2.2.1==0) then
    bif (n.2.2.2.2.2.2.1==0) then
     some ((IntKind.wrap .i64 (((n.2.2.2.2.2.1.length:Nat):Int)+((n.2.2.2.2.2.2.2.length:Nat):Int)))==0)
    else
     some false
   else
    some false
  else
   some false
 else
  some false
def ibar_fa:FnA:=⟨.two (.reg [(0,{ids:=[100]})]) lf,⟨(.cons (.p qY0) .nil),[]⟩,[⟨(.cons (.p .bool) .nil),[]⟩],[0]⟩
def ibar_ft(fu:Nat):FnT:=⟨143,ibar_fa.i,ibar_fa.os,fun t=>ibar fu t⟩
theorem mNZ(fu:Nat):Told Tryz.prog (ibar_ft fu):=tk fu ibar_fa abZ Tryz.func143 (by kernel_rfl) fun t=>by kernel_rfl
def idir1(fu:Nat)(e:(List UInt8×Int))(h:List UInt8)(h1:Int):Option ((Bool×(List UInt8×Int))):=
 bif (decide (((e.1.length:Nat):Int)<1)) then
  some (true,(e.1,h1))
 else
  bif (decide (((e.1.length:Nat):Int)>30)) then
   some (true,(e.1,h1))
  else
   bif ((Op.bytesLess e.1 h)||(e.1==h)) then
    some (true,(e.1,h1))
   else
    bif (decide (e.2<1)) then
     some (true,(e.1,h1))
    else
     some ((decide (e.2>h1)),(e.1,h1))
def idir1_fa:FnA:=⟨.two (.reg [(0,{ids:=[100]})]) (.two lf (.two lf lf)),⟨(.cons (.p (.pair .str (.int .i64))) qL65),[(0,false,qB60),(1,false,(.vars qL6))]⟩,[⟨(.cons (.p .bool) .nil),[(0,false,qB60),(1,false,(.vars qL6))]⟩],[0]⟩
def idir1_ft(fu:Nat):FnT:=⟨169,idir1_fa.i,idir1_fa.os,u3 (idir1 fu)⟩
theorem lGZ(fu:Nat):Told Tryz.prog (idir1_ft fu):=tk fu idir1_fa abZ Tryz.func169 (by kernel_rfl) fun t=>by kernel_rfl
def sIndFun5_l0(fu:Nat)(s:List ((List UInt8×Int)))(x:Int)(h2:List UInt8)(h3:Int):Option ((Int×(List UInt8×Int))⊕((List UInt8×Int)⊕(Int×(List UInt8×Int)))):=
 bif (decide (x<((s.length:Nat):Int))) then
  (idx? x s.length).bind fun q=>
  (s)[q]?.bind fun r=>
  (idir1 fu r h2 h3).bind fun r1=>
  bif r1.1 then
   some (.inr (.inr (x,(r1.2.1,r1.2.2))))
  else
   some (.inl ((IntKind.wrap .i64 (x+1)),(r1.2.1,r1.2.2)))
 else
  some (.inr (.inl (h2,h3)))
def sIndFun5_l0_it(fu:Nat)(s:List ((List UInt8×Int)))(tt:(Int×(List UInt8×Int))):Option ((List UInt8×Int)⊕(Int×(List UInt8×Int))):=
 iter fu (fun tt=>sIndFun5_l0 fu s tt.1 tt.2.1 tt.2.2) tt
def sIndFun5(fu:Nat)(s:List ((List UInt8×Int)))(h:List UInt8)(h1:Int):Option ((Int×(List UInt8×Int))):=
 (sIndFun5_l0_it fu s (0,(h,h1))).bind fun o=>
 match o with
 |.inl s1=>
  some ((-1),(s1.1,s1.2))
 |.inr o1=>
  some o1
def sIndFun5_fa:FnA:=⟨.two lf (.two (.two lf (.one (.loop ⟨[1,8],⟨(.cons (.fn 169 .nil qL65) qL6),[(0,false,qB60),(1,false,(.vars qL6))]⟩⟩ true [(0,⟨[1],⟨(.cons (.fn 169 .nil qL65) .nil),[(0,false,qB60),(1,false,(.vars qL6))]⟩⟩)] (.two lf (.two lf (.two (.one (.two lf (.two (.reg [(5,{sh:=[0,1]})]) (.two lf lf)))) lf)))))) lf),⟨(.cons (.p (.sl (.pair .str (.int .i64)))) (.cons (.fn 169 .nil qL65) .nil)),[(0,false,qB60),(1,false,(.vars qL6))]⟩,[⟨qL6,[(0,false,qB60),(1,false,(.vars qL6))]⟩],[0]⟩
def sIndFun5_ft(fu:Nat):FnT:=⟨147,sIndFun5_fa.i,sIndFun5_fa.os,u3 (sIndFun5 fu)⟩
theorem haZ(fu:Nat):Told Tryz.prog (sIndFun5_ft fu):=tk fu sIndFun5_fa (aaZ (lGZ fu) abZ) Tryz.func147 (by kernel_rfl) fun t=>by kernel_rfl
def sConFun5(fu:Nat)(s:List ((List UInt8×Int)))(h:List UInt8)(h1:Int):Option ((Bool×(List UInt8×Int))):=
 (sIndFun5 fu s h h1).bind fun r=>
 some ((decide (r.1>=0)),(r.2.1,r.2.2))
def sConFun5_fa:FnA:=⟨.two lf (.two (.reg [(2,{sh:=[0,1]})]) lf),⟨(.cons (.p (.sl (.pair .str (.int .i64)))) (.cons (.fn 169 .nil qL65) .nil)),[(0,false,qB60),(1,false,(.vars qL6))]⟩,[⟨(.cons (.p .bool) .nil),[(0,false,qB60),(1,false,(.vars qL6))]⟩],[0]⟩
def sConFun5_ft(fu:Nat):FnT:=⟨105,sConFun5_fa.i,sConFun5_fa.os,u3 (sConFun5 fu)⟩
theorem hvZ(fu:Nat):Told Tryz.prog (sConFun5_ft fu):=tk fu sConFun5_fa (aaZ (haZ fu) abZ) Tryz.func105 (by kernel_rfl) fun t=>by kernel_rfl
def idir(fu:Nat)(n:qT2)(many:Int):Option (Bool):=
 bif (n.2.2.2.2.1==0) then
  bif (((n.2.2.2.2.2.1.length:Nat):Int)==0) then
   bif (decide (((n.2.2.2.2.2.2.2.length:Nat):Int)<=100)) then
    (sConFun5 fu n.2.2.2.2.2.2.2 [] many).bind fun r=>
    some (!r.1)
   else
    some false
  else
   some false
 else
  some false
def idir_fa:FnA:=⟨.two (.reg [(0,{ids:=[100]}),(1,{ids:=[101]})]) (.two (.reg [(0,{ids:=[102]})]) (.two lf (.two (.reg [(19,{sh:=[102,101]})]) lf))),⟨(.cons (.p qY0) qL6),[]⟩,[⟨(.cons (.p .bool) .nil),[]⟩],[0]⟩
def idir_ft(fu:Nat):FnT:=⟨144,idir_fa.i,idir_fa.os,fun t=>idir fu t.1 t.2⟩
theorem mYZ(fu:Nat):Told Tryz.prog (idir_ft fu):=tk fu idir_fa (aaZ (hvZ fu) abZ) Tryz.func144 (by kernel_rfl) fun t=>by kernel_rfl
def ifil1(fu:Nat)(p:(Int×Int))(h:qT31)(h1:Int):Option ((Bool×(qT31×Int))):=
 bif ((p.1==0)&&(p.2==0)) then
  some (false,(h,h1))
 else
  bif ((Option.getD (mget (k:=(.int .i64)) (v:=(.int .i64)) h p.1) 0)==1) then
   some (true,((mput (k:=(.int .i64)) (v:=(.int .i64)) h p.1 1),h1))
  else
   bif (decide (p.1<1)) then
    some (true,((mput (k:=(.int .i64)) (v:=(.int .i64)) h p.1 1),h1))
   else
    bif (decide (p.1>h1)) then
     some (true,((mput (k:=(.int .i64)) (v:=(.int .i64)) h p.1 1),h1))
    else
     bif (decide (p.2<1)) then
      some (true,((mput (k:=(.int .i64)) (v:=(.int .i64)) h p.1 1),h1))
     else
      some ((decide (p.2>1099511627776)),((mput (k:=(.int .i64)) (v:=(.int .i64)) h p.1 1),h1))
def ifil1_fa:FnA:=⟨.two (.reg [(0,{ids:=[100]})]) (.two (.two lf (.two lf lf)) (.two lf (.two lf lf))),⟨(.cons (.p qY5) (.cons (.own 0 0 0 0) (.cons (.own 0 2 0 0) .nil))),[(0,false,(.vars (.cons (.mp 1) .nil))),(1,false,qB49),(2,false,(.vars qL6))]⟩,[⟨(.cons (.p .bool) .nil),[(0,false,(.vars (.cons (.mp 1) .nil))),(1,false,qB49),(2,false,(.vars qL6))]⟩],[0]⟩
def ifil1_ft(fu:Nat):FnT:=⟨170,ifil1_fa.i,ifil1_fa.os,u3 (ifil1 fu)⟩
theorem kJZ(fu:Nat):Told Tryz.prog (ifil1_ft fu):=tk fu ifil1_fa abZ Tryz.func170 (by kernel_rfl) fun t=>by kernel_rfl
def sIndFun4_l0(fu:Nat)(s:List ((Int×Int)))(x:Int)(h2:qT31)(h3:Int):Option ((Int×(qT31×Int))⊕((qT31×Int)⊕(Int×(qT31×Int)))):=
 bif (decide (x<((s.length:Nat):Int))) then
  (idx? x s.length).bind fun q=>
  (s)[q]?.bind fun r=>
  (ifil1 fu r h2 h3).bind fun r1=>
  bif r1.1 then
   some (.inr (.inr (x,(r1.2.1,r1.2.2))))
  else
   some (.inl ((IntKind.wrap .i64 (x+1)),(r1.2.1,r1.2.2)))
 else
  some (.inr (.inl (h2,h3)))
def sIndFun4_l0_it(fu:Nat)(s:List ((Int×Int)))(tt:(Int×(qT31×Int))):Option ((qT31×Int)⊕(Int×(qT31×Int))):=
 iter fu (fun tt=>sIndFun4_l0 fu s tt.1 tt.2.1 tt.2.2) tt
def sIndFun4(fu:Nat)(s:List ((Int×Int)))(h:qT31)(h1:Int):Option ((Int×(qT31×Int))):=
 (sIndFun4_l0_it fu s (0,(h,h1))).bind fun o=>
 match o with
 |.inl s1=>
  some ((-1),(s1.1,s1.2))
 |.inr o1=>
  some o1
def sIndFun4_fa:FnA:=⟨.two lf (.two (.two lf (.one (.loop ⟨[1,8],⟨(.cons (.fn 170 .nil (.cons (.own 0 0 0 0) (.cons (.own 0 2 0 0) .nil))) qL6),[(0,false,(.vars (.cons (.mp 1) .nil))),(1,false,qB49),(2,false,(.vars qL6))]⟩⟩ true [(0,⟨[1],⟨(.cons (.fn 170 .nil (.cons (.own 0 0 0 0) (.cons (.own 0 2 0 0) .nil))) .nil),[(0,false,(.vars (.cons (.mp 1) .nil))),(1,false,qB49),(2,false,(.vars qL6))]⟩⟩)] (.two lf (.two lf (.two (.one (.two lf (.two (.reg [(5,{sh:=[0,1,2]})]) (.two lf lf)))) lf)))))) lf),⟨(.cons (.p (.sl qY5)) (.cons (.fn 170 .nil (.cons (.own 0 0 0 0) (.cons (.own 0 2 0 0) .nil))) .nil)),[(0,false,(.vars (.cons (.mp 1) .nil))),(1,false,qB49),(2,false,(.vars qL6))]⟩,[⟨qL6,[(0,false,(.vars (.cons (.mp 1) .nil))),(1,false,qB49),(2,false,(.vars qL6))]⟩],[0]⟩
def sIndFun4_ft(fu:Nat):FnT:=⟨148,sIndFun4_fa.i,sIndFun4_fa.os,u3 (sIndFun4 fu)⟩
theorem hzZ(fu:Nat):Told Tryz.prog (sIndFun4_ft fu):=tk fu sIndFun4_fa (aaZ (kJZ fu) abZ) Tryz.func148 (by kernel_rfl) fun t=>by kernel_rfl
def sConFun3(fu:Nat)(s:List ((Int×Int)))(h:qT31)(h1:Int):Option ((Bool×(qT31×Int))):=
 (sIndFun4 fu s h h1).bind fun r=>
 some ((decide (r.1>=0)),(r.2.1,r.2.2))
def sConFun3_fa:FnA:=⟨.two lf (.two (.reg [(2,{sh:=[0,1,2]})]) lf),⟨(.cons (.p (.sl qY5)) (.cons (.fn 170 .nil (.cons (.own 0 0 0 0) (.cons (.own 0 2 0 0) .nil))) .nil)),[(0,false,(.vars (.cons (.mp 1) .nil))),(1,false,qB49),(2,false,(.vars qL6))]⟩,[⟨(.cons (.p .bool) .nil),[(0,false,(.vars (.cons (.mp 1) .nil))),(1,false,qB49),(2,false,(.vars qL6))]⟩],[0]⟩
def sConFun3_ft(fu:Nat):FnT:=⟨108,sConFun3_fa.i,sConFun3_fa.os,u3 (sConFun3 fu)⟩
theorem h4Z(fu:Nat):Told Tryz.prog (sConFun3_ft fu):=tk fu sConFun3_fa (aaZ (hzZ fu) abZ) Tryz.func108 (by kernel_rfl) fun t=>by kernel_rfl
def ifilm2(fu:Nat)(n:qT2)(stripe:Int)(h:qT31):Option ((Bool×qT31)):=
 bif (decide (n.2.2.2.2.1>=0)) then
  bif (decide (n.2.2.2.2.1<=65536)) then
   bif (((n.2.2.2.2.2.2.2.length:Nat):Int)==0) then
    bif (decide (((n.2.2.2.2.2.1.length:Nat):Int)<=4096)) then
     (sConFun3 fu n.2.2.2.2.2.1 h stripe).bind fun r=>
     some ((!r.1),r.2.1)
    else
     some (false,h)
   else
    some (false,h)
  else
   some (false,h)
 else
  some (false,h)
def ifilm2_fa:FnA:=⟨.two (.reg [(0,{ids:=[100]}),(1,{ids:=[101]}),(2,{ids:=[102]})]) (.two lf (.two (.reg [(24,{sh:=[102,0,101]})]) lf)),⟨(.cons (.p qY0) (.cons (.p (.int .i64)) (.cons (.mp 0) .nil))),[(0,false,qB49)]⟩,[⟨(.cons (.p .bool) .nil),[(0,false,qB49)]⟩],[0]⟩
def ifilm2_ft(fu:Nat):FnT:=⟨145,ifilm2_fa.i,ifilm2_fa.os,u3 (ifilm2 fu)⟩
theorem jHZ(fu:Nat):Told Tryz.prog (ifilm2_ft fu):=tk fu ifilm2_fa (aaZ (h4Z fu) abZ) Tryz.func145 (by kernel_rfl) fun t=>by kernel_rfl
def iRig_l0(fu:Nat)(o:(Bool×(List (qT2)×Int)))(t:(List (qT2)×Int))(x:Int)(h:List (qT2))(h1:Int)(h2:qT31):Option ((Int×(List (qT2)×(Int×qT31)))⊕((List (qT2)×Int)⊕Bool)):=
 bif (decide (x<((o.2.1.length:Nat):Int))) then
  (idx? x o.2.1.length).bind fun q=>
  (o.2.1)[q]?.bind fun r=>
  (ibar fu (r.1,(r.2.1,(r.2.2.1,(r.2.2.2.1,(r.2.2.2.2.1,(r.2.2.2.2.2.1,(r.2.2.2.2.2.2.1,r.2.2.2.2.2.2.2)))))))).bind fun r1=>
  Option.bind (α:=((Bool×(List (qT2)×(Int×(qT31×qT2)))))) (
   bif r.2.2.1 then
    some (r.2.2.2.1,(h,(h1,(h2,(r.1,(r.2.1,(r.2.2.1,(r.2.2.2.1,(r.2.2.2.2.1,(r.2.2.2.2.2.1,(r.2.2.2.2.2.2.1,r.2.2.2.2.2.2.2)))))))))))
   else
    some (false,(h,(h1,(h2,(r.1,(r.2.1,(r.2.2.1,(r.2.2.2.1,(r.2.2.2.2.1,(r.2.2.2.2.2.1,(r.2.2.2.2.2.2.1,r.2.2.2.2.2.2.2)))))))))))) fun o1=>
  Option.bind (α:=((Bool×(List (qT2)×(Int×(qT31×qT2)))))) (
   bif o1.1 then
    (idir fu (o1.2.2.2.2.1,(o1.2.2.2.2.2.1,(o1.2.2.2.2.2.2.1,(o1.2.2.2.2.2.2.2.1,(o1.2.2.2.2.2.2.2.2.1,(o1.2.2.2.2.2.2.2.2.2.1,(o1.2.2.2.2.2.2.2.2.2.2.1,o1.2.2.2.2.2.2.2.2.2.2.2))))))) ((t.1.length:Nat):Int)).bind fun r2=>
    some (r2,(o1.2.1,(o1.2.2.1,(o1.2.2.2.1,(o1.2.2.2.2.1,(o1.2.2.2.2.2.1,(o1.2.2.2.2.2.2.1,(o1.2.2.2.2.2.2.2.1,(o1.2.2.2.2.2.2.2.2.1,(o1.2.2.2.2.2.2.2.2.2.1,(o1.2.2.2.2.2.2.2.2.2.2.1,o1.2.2.2.2.2.2.2.2.2.2.2)))))))))))
   else
    Option.bind (α:=((Bool×(List (qT2)×(Int×(qT31×qT2)))))) (
     bif o1.2.2.2.2.2.2.1 then
      (ifilm2 fu (o1.2.2.2.2.1,(o1.2.2.2.2.2.1,(o1.2.2.2.2.2.2.1,(o1.2.2.2.2.2.2.2.1,(o1.2.2.2.2.2.2.2.2.1,(o1.2.2.2.2.2.2.2.2.2.1,(o1.2.2.2.2.2.2.2.2.2.2.1,o1.2.2.2.2.2.2.2.2.2.2.2))))))) o1.2.2.1 o1.2.2.2.1).bind fun r3=>
      some (r3.1,(o1.2.1,(o1.2.2.1,(r3.2,(o1.2.2.2.2.1,(o1.2.2.2.2.2.1,(o1.2.2.2.2.2.2.1,(o1.2.2.2.2.2.2.2.1,(o1.2.2.2.2.2.2.2.2.1,(o1.2.2.2.2.2.2.2.2.2.1,(o1.2.2.2.2.2.2.2.2.2.2.1,o1.2.2.2.2.2.2.2.2.2.2.2)))))))))))
     else
      some (r1,(o1.2.1,(o1.2.2.1,(o1.2.2.2.1,(o1.2.2.2.2.1,(o1.2.2.2.2.2.1,(o1.2.2.2.2.2.2.1,(o1.2.2.2.2.2.2.2.1,(o1.2.2.2.2.2.2.2.2.1,(o1.2.2.2.2.2.2.2.2.2.1,(o1.2.2.2.2.2.2.2.2.2.2.1,o1.2.2.2.2.2.2.2.2.2.2.2)))))))))))) fun o2=>
    some (o2.1,(o2.2.1,(o2.2.2.1,(o2.2.2.2.1,(o2.2.2.2.2.1,(o2.2.2.2.2.2.1,(o2.2.2.2.2.2.2.1,(o2.2.2.2.2.2.2.2.1,(o2.2.2.2.2.2.2.2.2.1,(o2.2.2.2.2.2.2.2.2.2.1,(o2.2.2.2.2.2.2.2.2.2.2.1,o2.2.2.2.2.2.2.2.2.2.2.2)))))))))))) fun o3=>
  Option.bind (α:=((Bool×(List (qT2)×(Int×qT31))))) (
   bif (!o3.1) then
    some (true,(o3.2.1,(o3.2.2.1,o3.2.2.2.1)))
   else
    bif (!(o3.2.2.2.2.1==(IntKind.wrap .i64 (x+1)))) then
     some (true,(o3.2.1,(o3.2.2.1,o3.2.2.2.1)))
    else
     bif (decide (o3.2.2.2.2.2.1<1)) then
      some (true,(o3.2.1,(o3.2.2.1,o3.2.2.2.1)))
     else
      bif (decide (o3.2.2.2.2.2.1>1099511627776)) then
       some (true,(o3.2.1,(o3.2.2.1,o3.2.2.2.1)))
      else
       bif o3.2.2.2.2.2.2.1 then
        bif (decide (o3.2.2.2.2.2.2.2.2.2.2.1<1)) then
         some (true,(o3.2.1,(o3.2.2.1,o3.2.2.2.1)))
        else
         some ((decide (o3.2.2.2.2.2.2.2.2.2.2.1>((t.1.length:Nat):Int))),(o3.2.1,(o3.2.2.1,o3.2.2.2.1)))
       else
        some (false,(o3.2.1,(o3.2.2.1,o3.2.2.2.1)))) fun o4=>
  bif o4.1 then
   some (.inr (.inr false))
  else
   some (.inl ((IntKind.wrap .i64 (x+1)),(o4.2.1,(o4.2.2.1,o4.2.2.2))))
 else
  some (.inr (.inl (h,h1)))
def iRig_l0_it(fu:Nat)(o:(Bool×(List (qT2)×Int)))(t:(List (qT2)×Int))(tt:(Int×(List (qT2)×(Int×qT31)))):Option ((List (qT2)×Int)⊕Bool):=
 iter fu (fun tt=>iRig_l0 fu o t tt.1 tt.2.1 tt.2.2.1 tt.2.2.2) tt
def iRig(fu:Nat)(t:(List (qT2)×Int)):Option (Bool):=
 Option.bind (α:=((Bool×(List (qT2)×Int)))) (
  bif (decide (((t.1.length:Nat):Int)<1)) then
   some (true,(t.1,t.2))
  else
   bif (decide (((t.1.length:Nat):Int)>500)) then
    some (true,(t.1,t.2))
   else
    bif (decide (t.2<0)) then
     some (true,(t.1,t.2))
    else
     some ((decide (t.2>1099511627776)),(t.1,t.2))) fun o=>
 bif o.1 then
  some false
 else
  (iRig_l0_it fu o t (0,(o.2.1,(o.2.2,([],0))))).bind fun o5=>
  match o5 with
  |.inl s=>
   (idx? 0 s.1.length).bind fun q1=>
   (s.1)[q1]?.bind fun r4=>
   bif r4.2.2.1 then
    bif r4.2.2.2.1 then
     some (r4.2.2.2.2.2.2.1==1)
    else
     some false
   else
    some false
  |.inr o6=>
   some o6
def iRig_fa:FnA:=⟨.two (.reg [(0,{ids:=[100]})]) (.two lf (.two (.two (.join ⟨[1,27],⟨qL56,[(100,false,qB48)]⟩⟩ false [] lf) (.two lf lf)) (.two (.reg [(0,{ids:=[101]})]) (.two (.two lf (.one (.loop ⟨[1,4,32],⟨(.cons (.own 0 100 0 0) (.cons (.mp 101) qL6)),[(100,false,qB48),(101,false,qB49)]⟩⟩ true [(0,⟨[1],⟨(.cons (.own 0 100 0 0) .nil),[(100,false,qB48)]⟩⟩)] (.two lf (.two lf (.two (.one (.two (.reg [(3,{ids:=[102]})]) (.two (.reg [(1,{})]) (.two (.one (.two (.join ⟨[1,4,6,39],⟨(.cons (.own 0 100 0 0) (.cons (.mp 101) (.cons (.own 0 102 0 0) (.cons (.p .bool) .nil)))),[(100,false,qB48),(101,false,qB49),(102,false,(.vars qL12))]⟩⟩ false [] lf) (.join ⟨[1,4,6,7],⟨(.cons (.own 0 100 0 0) (.cons (.mp 101) (.cons (.own 0 102 0 0) (.cons (.p .bool) .nil)))),[(100,false,qB48),(101,false,qB49),(102,false,(.vars qL12))]⟩⟩ false [] (.two (.reg [(2,{fn:=1})]) (.two lf (.join ⟨[1,4,6,7],⟨(.cons (.own 0 100 0 0) (.cons (.mp 101) (.cons (.own 0 102 0 0) (.cons (.p .bool) .nil)))),[(100,false,qB48),(101,false,qB49),(102,false,(.vars qL12))]⟩⟩ false [] (.two (.reg [(4,{sh:=[101],fn:=2})]) lf))))))) (.two (.join ⟨[1,4,90],⟨(.cons (.own 0 100 0 0) (.cons (.mp 101) (.cons (.p .bool) .nil))),[(100,false,qB48),(101,false,qB49)]⟩⟩ false [] lf) (.two lf lf)))))) lf)))))) (.two (.reg [(4,{ids:=[103]})]) lf))))),⟨(.cons (.p qY53) .nil),[]⟩,[⟨(.cons (.p .bool) .nil),[]⟩],[0]⟩
def iRig_ft(fu:Nat):FnT:=⟨102,iRig_fa.i,iRig_fa.os,fun t=>iRig fu t⟩
theorem d9Z(fu:Nat):Told Tryz.prog (iRig_ft fu):=tk fu iRig_fa (aaZ (mNZ fu) (aaZ (mYZ fu) (aaZ (jHZ fu) abZ))) Tryz.func102 (by kernel_rfl) fun t=>by kernel_rfl
def sConAny(fu:Nat)(s chars:List UInt8):Option Bool:=
 need (Nat.beq chars.length 2&&chars.all (fun b=>Nat.blt b.toNat 128)&&Nat.blt s.length 4294967281) (some (Go.Lib.containsAny s chars))
def sConAny_ft(fu:Nat):FnT:=⟨146,⟨(.cons (.p .str) (.cons (.p .str) .nil)),[]⟩,[⟨(.cons (.p .bool) .nil),[]⟩],fun t=>sConAny fu t.1 t.2⟩
theorem izZ(fu:Nat):Told Tryz.prog (sConAny_ft fu):=
 e0Z Tryz.ca146 (by kernel_rfl) ⟨_,_,Tryz.func146,rfl,by kernel_rfl⟩
def tNam(fu:Nat)(s:List UInt8):Option (Bool):=
 bif (decide (((s.length:Nat):Int)>=1)) then
  bif (decide (((s.length:Nat):Int)<=30)) then
   bif (!(s==[46])) then
    bif (!(s==[46,46])) then
     (sConAny fu s [0,47]).bind fun r=>
     some (!r)
    else
     some false
   else
    some false
  else
   some false
 else
  some false
def tNam_fa:FnA:=⟨.two lf (.two (.reg [(18,{})]) lf),⟨(.cons (.p .str) .nil),[]⟩,[⟨(.cons (.p .bool) .nil),[]⟩],[0]⟩
def tNam_ft(fu:Nat):FnT:=⟨104,tNam_fa.i,tNam_fa.os,fun t=>tNam fu t⟩
theorem cyZ(fu:Nat):Told Tryz.prog (tNam_ft fu):=tk fu tNam_fa (aaZ (izZ fu) abZ) Tryz.func104 (by kernel_rfl) fun t=>by kernel_rfl
def tRig1(fu:Nat)(e:(List UInt8×Int))(h:List (Int))(h1:List (qT2))(h2:Int)(h3:Int)(h4:Int)(h5:Bool)(h6:Bool)(h7:Int)(h8:List ((Int×Int)))(h9:Int)(h10:List ((List UInt8×Int))):Option ((Bool×(List (Int)×(List (qT2)×(Int×qT2))))):=
 (idx? e.2 h.length).bind fun q=>
 (h)[q]?.bind fun r=>
 (idx? e.2 h.length).bind fun q1=>
 (h)[q1]?.bind fun r1=>
 (idx? (IntKind.wrap .i64 (e.2-1)) h1.length).bind fun q2=>
 (h1)[q2]?.bind fun r2=>
 (tNam fu e.1).bind fun r3=>
 bif (!r3) then
  some (true,((List.set h q1 (IntKind.wrap .i64 (r+1))),(h1,(h2,(h3,(h4,(h5,(h6,(h7,(h8,(h9,h10)))))))))))
 else
  bif (!r2.2.2.1) then
   some (true,((List.set h q1 (IntKind.wrap .i64 (r+1))),(h1,(h2,(h3,(h4,(h5,(h6,(h7,(h8,(h9,h10)))))))))))
  else
   some ((!(r2.2.2.2.2.2.2.1==h3)),((List.set h q1 (IntKind.wrap .i64 (r+1))),(h1,(h2,(h3,(h4,(h5,(h6,(h7,(h8,(h9,h10)))))))))))
def tRig1_fa:FnA:=⟨.two (.reg [(0,{ids:=[100]})]) (.two lf (.two (.reg [(7,{ids:=[101]})]) (.two (.reg [(2,{})]) lf))),⟨(.cons (.p (.pair .str (.int .i64))) (.cons (.own 0 0 0 0) (.cons (.own 0 2 0 0) (.cons (.own 0 3 0 0) .nil)))),[(0,false,(.vars (.cons (.slf 1 1) .nil))),(1,false,(.rows 3 (.int .i64))),(2,false,qB48),(3,false,(.vars qL12))]⟩,[⟨(.cons (.p .bool) .nil),[(0,false,(.vars (.cons (.slf 1 1) .nil))),(1,false,(.rows 3 (.int .i64))),(2,false,qB48),(3,false,(.vars qL12))]⟩],[0]⟩
def tRig1_ft(fu:Nat):FnT:=⟨103,tRig1_fa.i,tRig1_fa.os,u12 (tRig1 fu)⟩
theorem l9Z(fu:Nat):Told Tryz.prog (tRig1_ft fu):=tk fu tRig1_fa (aaZ (cyZ fu) abZ) Tryz.func103 (by kernel_rfl) fun t=>by kernel_rfl
def sIndFun3_l0(fu:Nat)(s:List ((List UInt8×Int)))(x:Int)(h11:List (Int))(h12:List (qT2))(h13:Int)(h14:Int)(h15:Int)(h16:Bool)(h17:Bool)(h18:Int)(h19:List ((Int×Int)))(h20:Int)(h21:List ((List UInt8×Int))):Option ((Int×(List (Int)×(List (qT2)×(Int×qT2))))⊕((List (Int)×(List (qT2)×(Int×qT2)))⊕(Int×(List (Int)×(List (qT2)×(Int×qT2)))))):=
 bif (decide (x<((s.length:Nat):Int))) then
  (idx? x s.length).bind fun q=>
  (s)[q]?.bind fun r=>
  (tRig1 fu r h11 h12 h13 h14 h15 h16 h17 h18 h19 h20 h21).bind fun r1=>
  bif r1.1 then
   some (.inr (.inr (x,(r1.2.1,(r1.2.2.1,(r1.2.2.2.1,(r1.2.2.2.2.1,(r1.2.2.2.2.2.1,(r1.2.2.2.2.2.2.1,(r1.2.2.2.2.2.2.2.1,(r1.2.2.2.2.2.2.2.2.1,(r1.2.2.2.2.2.2.2.2.2.1,(r1.2.2.2.2.2.2.2.2.2.2.1,r1.2.2.2.2.2.2.2.2.2.2.2)))))))))))))
  else
   some (.inl ((IntKind.wrap .i64 (x+1)),(r1.2.1,(r1.2.2.1,(r1.2.2.2.1,(r1.2.2.2.2.1,(r1.2.2.2.2.2.1,(r1.2.2.2.2.2.2.1,(r1.2.2.2.2.2.2.2.1,(r1.2.2.2.2.2.2.2.2.1,(r1.2.2.2.2.2.2.2.2.2.1,(r1.2.2.2.2.2.2.2.2.2.2.1,r1.2.2.2.2.2.2.2.2.2.2.2))))))))))))
 else
  some (.inr (.inl (h11,(h12,(h13,(h14,(h15,(h16,(h17,(h18,(h19,(h20,h21))))))))))))
def sIndFun3_l0_it(fu:Nat)(s:List ((List UInt8×Int)))(tt:(Int×(List (Int)×(List (qT2)×(Int×qT2))))):Option ((List (Int)×(List (qT2)×(Int×qT2)))⊕(Int×(List (Int)×(List (qT2)×(Int×qT2))))):=
 iter fu (fun tt=>sIndFun3_l0 fu s tt.1 tt.2.1 tt.2.2.1 tt.2.2.2.1 tt.2.2.2.2.1 tt.2.2.2.2.2.1 tt.2.2.2.2.2.2.1 tt.2.2.2.2.2.2.2.1 tt.2.2.2.2.2.2.2.2.1 tt.2.2.2.2.2.2.2.2.2.1 tt.2.2.2.2.2.2.2.2.2.2.1 tt.2.2.2.2.2.2.2.2.2.2.2) tt
def sIndFun3(fu:Nat)(s:List ((List UInt8×Int)))(h:List (Int))(h1:List (qT2))(h2:Int)(h3:Int)(h4:Int)(h5:Bool)(h6:Bool)(h7:Int)(h8:List ((Int×Int)))(h9:Int)(h10:List ((List UInt8×Int))):Option ((Int×(List (Int)×(List (qT2)×(Int×qT2))))):=
 (sIndFun3_l0_it fu s (0,(h,(h1,(h2,(h3,(h4,(h5,(h6,(h7,(h8,(h9,h10)))))))))))).bind fun o=>
 match o with
 |.inl s1=>
  some ((-1),(s1.1,(s1.2.1,(s1.2.2.1,(s1.2.2.2.1,(s1.2.2.2.2.1,(s1.2.2.2.2.2.1,(s1.2.2.2.2.2.2.1,(s1.2.2.2.2.2.2.2.1,(s1.2.2.2.2.2.2.2.2.1,(s1.2.2.2.2.2.2.2.2.2.1,s1.2.2.2.2.2.2.2.2.2.2)))))))))))
 |.inr o1=>
  some o1
def sIndFun3_fa:FnA:=⟨.two lf (.two (.two lf (.one (.loop ⟨[1,8],⟨(.cons (.fn 103 .nil (.cons (.own 0 0 0 0) (.cons (.own 0 2 0 0) (.cons (.own 0 3 0 0) .nil)))) qL6),[(0,false,(.vars (.cons (.slf 1 1) .nil))),(1,false,(.rows 3 (.int .i64))),(2,false,qB48),(3,false,(.vars qL12))]⟩⟩ true [(0,⟨[1],⟨(.cons (.fn 103 .nil (.cons (.own 0 0 0 0) (.cons (.own 0 2 0 0) (.cons (.own 0 3 0 0) .nil)))) .nil),[(0,false,(.vars (.cons (.slf 1 1) .nil))),(1,false,(.rows 3 (.int .i64))),(2,false,qB48),(3,false,(.vars qL12))]⟩⟩)] (.two lf (.two lf (.two (.one (.two lf (.two (.reg [(5,{sh:=[0,1,2,3]})]) (.two lf lf)))) lf)))))) lf),⟨(.cons (.p (.sl (.pair .str (.int .i64)))) (.cons (.fn 103 .nil (.cons (.own 0 0 0 0) (.cons (.own 0 2 0 0) (.cons (.own 0 3 0 0) .nil)))) .nil)),[(0,false,(.vars (.cons (.slf 1 1) .nil))),(1,false,(.rows 3 (.int .i64))),(2,false,qB48),(3,false,(.vars qL12))]⟩,[⟨qL6,[(0,false,(.vars (.cons (.slf 1 1) .nil))),(1,false,(.rows 3 (.int .i64))),(2,false,qB48),(3,false,(.vars qL12))]⟩],[0]⟩
def sIndFun3_ft(fu:Nat):FnT:=⟨147,sIndFun3_fa.i,sIndFun3_fa.os,u12 (sIndFun3 fu)⟩
theorem hpZ(fu:Nat):Told Tryz.prog (sIndFun3_ft fu):=tk fu sIndFun3_fa (aaZ (l9Z fu) abZ) Tryz.func147 (by kernel_rfl) fun t=>by kernel_rfl
def sConFun(fu:Nat)(s:List ((List UInt8×Int)))(h:List (Int))(h1:List (qT2))(h2:Int)(h3:Int)(h4:Int)(h5:Bool)(h6:Bool)(h7:Int)(h8:List ((Int×Int)))(h9:Int)(h10:List ((List UInt8×Int))):Option ((Bool×(List (Int)×(List (qT2)×(Int×qT2))))):=
 (sIndFun3 fu s h h1 h2 h3 h4 h5 h6 h7 h8 h9 h10).bind fun r=>
 some ((decide (r.1>=0)),(r.2.1,(r.2.2.1,(r.2.2.2.1,(r.2.2.2.2.1,(r.2.2.2.2.2.1,(r.2.2.2.2.2.2.1,(r.2.2.2.2.2.2.2.1,(r.2.2.2.2.2.2.2.2.1,(r.2.2.2.2.2.2.2.2.2.1,(r.2.2.2.2.2.2.2.2.2.2.1,r.2.2.2.2.2.2.2.2.2.2.2)))))))))))
def sConFun_fa:FnA:=⟨.two lf (.two (.reg [(2,{sh:=[0,1,2,3]})]) lf),⟨(.cons (.p (.sl (.pair .str (.int .i64)))) (.cons (.fn 103 .nil (.cons (.own 0 0 0 0) (.cons (.own 0 2 0 0) (.cons (.own 0 3 0 0) .nil)))) .nil)),[(0,false,(.vars (.cons (.slf 1 1) .nil))),(1,false,(.rows 3 (.int .i64))),(2,false,qB48),(3,false,(.vars qL12))]⟩,[⟨(.cons (.p .bool) .nil),[(0,false,(.vars (.cons (.slf 1 1) .nil))),(1,false,(.rows 3 (.int .i64))),(2,false,qB48),(3,false,(.vars qL12))]⟩],[0]⟩
def sConFun_ft(fu:Nat):FnT:=⟨105,sConFun_fa.i,sConFun_fa.os,u12 (sConFun fu)⟩
theorem iqZ(fu:Nat):Told Tryz.prog (sConFun_ft fu):=tk fu sConFun_fa (aaZ (hpZ fu) abZ) Tryz.func105 (by kernel_rfl) fun t=>by kernel_rfl
def trea_l0(fu:Nat)(t:(List (qT2)×Int))(id1:Int)(x:Int)(h:List (qT2))(h1:Int):Option ((Int×(Int×(List (qT2)×Int)))⊕(Int⊕Bool)):=
 bif (decide (x<((t.1.length:Nat):Int))) then
  bif (id1==1) then
   some (.inr (.inr true))
  else
   (idx? (IntKind.wrap .i64 (id1-1)) h.length).bind fun q=>
   (h)[q]?.bind fun r=>
   bif (!r.2.2.1) then
    some (.inr (.inr false))
   else
    (idx? (IntKind.wrap .i64 (id1-1)) h.length).bind fun q1=>
    (h)[q1]?.bind fun r1=>
    some (.inl (r1.2.2.2.2.2.2.1,((IntKind.wrap .i64 (x+1)),(h,h1))))
 else
  some (.inr (.inl id1))
def trea_l0_it(fu:Nat)(t:(List (qT2)×Int))(tt:(Int×(Int×(List (qT2)×Int)))):Option (Int⊕Bool):=
 iter fu (fun tt=>trea_l0 fu t tt.1 tt.2.1 tt.2.2.1 tt.2.2.2) tt
def trea(fu:Nat)(t:(List (qT2)×Int))(id:Int):Option (Bool):=
 (trea_l0_it fu t (id,(0,(t.1,t.2)))).bind fun o=>
 match o with
 |.inl s=>
  some (s==1)
 |.inr o1=>
  some o1
def trea_fa:FnA:=⟨.two (.reg [(0,{ids:=[100]})]) (.two (.two lf (.one (.loop ⟨[1,2,8],⟨(.cons (.p (.int .i64)) (.cons (.own 0 100 0 0) qL6)),[(100,false,qB48)]⟩⟩ true [(0,⟨[1],⟨qL6,[]⟩⟩)] (.two lf (.two lf (.two (.one (.two (.two lf (.two lf lf)) (.two (.two lf (.two lf lf)) lf))) lf)))))) lf),⟨(.cons (.p qY53) qL6),[]⟩,[⟨(.cons (.p .bool) .nil),[]⟩],[0]⟩
def trea_ft(fu:Nat):FnT:=⟨106,trea_fa.i,trea_fa.os,fun t=>trea fu t.1 t.2⟩
theorem meZ(fu:Nat):Told Tryz.prog (trea_ft fu):=tk fu trea_fa abZ Tryz.func106 (by kernel_rfl) fun t=>by kernel_rfl
def tRig_l0(fu:Nat)(t:(List (qT2)×Int))(x:Int)(h:List (qT2))(h1:Int)(h2:List (Int)):Option ((Int×(List (qT2)×(Int×List (Int))))⊕((List (qT2)×(Int×List (Int)))⊕Bool)):=
 bif (decide (x<((t.1.length:Nat):Int))) then
  (idx? x t.1.length).bind fun q1=>
  (t.1)[q1]?.bind fun r1=>
  Option.bind (α:=((Bool×(List (qT2)×(Int×List (Int)))))) (
   (sConFun fu r1.2.2.2.2.2.2.2 h2 h h1 r1.1 r1.2.1 r1.2.2.1 r1.2.2.2.1 r1.2.2.2.2.1 r1.2.2.2.2.2.1 r1.2.2.2.2.2.2.1 r1.2.2.2.2.2.2.2).bind fun r2=>
   bif r2.1 then
    some (true,(r2.2.2.1,(r2.2.2.2.1,r2.2.1)))
   else
    bif r2.2.2.2.2.2.2.1 then
     (trea fu (r2.2.2.1,r2.2.2.2.1) r2.2.2.2.2.1).bind fun r3=>
     some ((!r3),(r2.2.2.1,(r2.2.2.2.1,r2.2.1)))
    else
     some (false,(r2.2.2.1,(r2.2.2.2.1,r2.2.1)))) fun o=>
  bif o.1 then
   some (.inr (.inr false))
  else
   some (.inl ((IntKind.wrap .i64 (x+1)),(o.2.1,(o.2.2.1,o.2.2.2))))
 else
  some (.inr (.inl (h,(h1,h2))))
def tRig_l0_it(fu:Nat)(t:(List (qT2)×Int))(tt:(Int×(List (qT2)×(Int×List (Int))))):Option ((List (qT2)×(Int×List (Int)))⊕Bool):=
 iter fu (fun tt=>tRig_l0 fu t tt.1 tt.2.1 tt.2.2.1 tt.2.2.2) tt
def tRig_l1(fu:Nat)(s:(List (qT2)×(Int×List (Int))))(x1:Int)(h3:List (Int)):Option ((Int×List (Int))⊕(Unit⊕Bool)):=
 bif (decide (x1<((s.1.length:Nat):Int))) then
  (idx? x1 s.1.length).bind fun q2=>
  (s.1)[q2]?.bind fun r4=>
  Option.bind (α:=((Bool×(List (Int)×qT2)))) (
   bif (r4.1==1) then
    some (true,(h3,(r4.1,(r4.2.1,(r4.2.2.1,(r4.2.2.2.1,(r4.2.2.2.2.1,(r4.2.2.2.2.2.1,(r4.2.2.2.2.2.2.1,r4.2.2.2.2.2.2.2)))))))))
   else
    some ((!r4.2.2.1),(h3,(r4.1,(r4.2.1,(r4.2.2.1,(r4.2.2.2.1,(r4.2.2.2.2.1,(r4.2.2.2.2.2.1,(r4.2.2.2.2.2.2.1,r4.2.2.2.2.2.2.2)))))))))) fun o3=>
  Option.bind (α:=((Int×(List (Int)×qT2)))) (
   bif o3.1 then
    some (0,(o3.2.1,(o3.2.2.1,(o3.2.2.2.1,(o3.2.2.2.2.1,(o3.2.2.2.2.2.1,(o3.2.2.2.2.2.2.1,(o3.2.2.2.2.2.2.2.1,(o3.2.2.2.2.2.2.2.2.1,o3.2.2.2.2.2.2.2.2.2)))))))))
   else
    some (1,(o3.2.1,(o3.2.2.1,(o3.2.2.2.1,(o3.2.2.2.2.1,(o3.2.2.2.2.2.1,(o3.2.2.2.2.2.2.1,(o3.2.2.2.2.2.2.2.1,(o3.2.2.2.2.2.2.2.2.1,o3.2.2.2.2.2.2.2.2.2)))))))))) fun o4=>
  (idx? o4.2.2.1 o4.2.1.length).bind fun q3=>
  (o4.2.1)[q3]?.bind fun r5=>
  bif (!(r5==o4.1)) then
   some (.inr (.inr false))
  else
   some (.inl ((IntKind.wrap .i64 (x1+1)),o4.2.1))
 else
  some (.inr (.inl ()))
def tRig_l1_it(fu:Nat)(s:(List (qT2)×(Int×List (Int))))(tt:(Int×List (Int))):Option (Unit⊕Bool):=
 iter fu (fun tt=>tRig_l1 fu s tt.1 tt.2) tt
def tRig(fu:Nat)(t:(List (qT2)×Int)):Option (Bool):=
 (iRig fu (t.1,t.2)).bind fun r=>
 bif (!r) then
  some false
 else
  (upto? (IntKind.wrap .i64 (((t.1.length:Nat):Int)+1)) room).bind fun m=>
  (upto? (IntKind.wrap .i64 (((t.1.length:Nat):Int)+1)) m).bind fun q=>
  need (Nat.ble (m*8) room)<|
  (tRig_l0_it fu t (0,(t.1,(t.2,(List.replicate (α:=Int) q 0))))).bind fun o1=>
  match o1 with
  |.inl s=>
   (tRig_l1_it fu s (0,s.2.2)).bind fun o5=>
   match o5 with
   |.inl s1=>
    some true
   |.inr o6=>
    some o6
  |.inr o2=>
   some o2
def tRig_fa:FnA:=⟨.two (.reg [(0,{ids:=[100]})]) (.two (.two (.reg [(1,{})]) (.two lf lf)) (.two (.reg [(4,{ids:=[101]}),(5,{ids:=[102]})]) (.two (.two lf (.one (.loop ⟨[1,3,21],⟨(.cons (.own 0 100 0 0) (.cons (.own 0 102 0 0) qL6)),[(100,false,qB48),(102,false,(.vars (.cons (.slf 1 101) .nil))),(101,false,(.rows 3 (.int .i64)))]⟩⟩ true [(0,⟨[1,3],⟨(.cons (.own 0 100 0 0) (.cons (.own 0 102 0 0) .nil)),[(100,false,qB48),(102,false,(.vars (.cons (.slf 1 101) .nil))),(101,false,(.rows 3 (.int .i64)))]⟩⟩)] (.two lf (.two lf (.two (.one (.two (.reg [(2,{ids:=[103]})]) (.two lf (.two (.join ⟨[1,3,40],⟨(.cons (.own 0 100 0 0) (.cons (.own 0 102 0 0) (.cons (.p .bool) .nil))),[(100,false,qB48),(102,false,(.vars (.cons (.slf 1 101) .nil))),(101,false,(.rows 3 (.int .i64)))]⟩⟩ false [] (.reg [(3,{sh:=[102,101,100,103],fn:=1}),(11,{fn:=2})])) (.two lf lf))))) lf)))))) (.two (.two lf (.one (.loop ⟨[3,45],⟨(.cons (.own 0 102 0 0) qL6),[(102,false,(.vars (.cons (.slf 1 101) .nil))),(101,false,(.rows 3 (.int .i64)))]⟩⟩ true [(2,⟨[],⟨.nil,[]⟩⟩)] (.two lf (.two lf (.two (.one (.two (.reg [(2,{ids:=[104]})]) (.two lf (.two (.two (.join ⟨[3,8,56],⟨(.cons (.own 0 102 0 0) (.cons (.own 0 104 0 0) (.cons (.p .bool) .nil))),[(102,false,(.vars (.cons (.slf 1 101) .nil))),(101,false,(.rows 3 (.int .i64))),(104,false,(.vars qL12))]⟩⟩ false [] lf) (.join ⟨[3,8,9],⟨(.cons (.own 0 102 0 0) (.cons (.own 0 104 0 0) qL6)),[(102,false,(.vars (.cons (.slf 1 101) .nil))),(101,false,(.rows 3 (.int .i64))),(104,false,(.vars qL12))]⟩⟩ false [] lf)) (.two lf (.two lf lf)))))) lf)))))) lf)))),⟨(.cons (.p qY53) .nil),[]⟩,[⟨(.cons (.p .bool) .nil),[]⟩],[0]⟩
def tRig_ft(fu:Nat):FnT:=⟨70,tRig_fa.i,tRig_fa.os,fun t=>tRig fu t⟩
theorem eFZ(fu:Nat):Told Tryz.prog (tRig_ft fu):=tk fu tRig_fa (aaZ (d9Z fu) (aaZ (iqZ fu) (aaZ (meZ fu) abZ))) Tryz.func70 (by kernel_rfl) fun t=>by kernel_rfl
def cwho(fu:Nat)(client:Int)(xid:Int):Option (Bool):=
 bif (decide (client>=0)) then
  bif (decide (client<16)) then
   bif (decide (xid>=1)) then
    some (decide (xid<=1099511627776))
   else
    some false
  else
   some false
 else
  some false
def cwho_fa:FnA:=⟨.two lf lf,⟨qL50,[]⟩,[⟨(.cons (.p .bool) .nil),[]⟩],[0]⟩
def cwho_ft(fu:Nat):FnT:=⟨73,cwho_fa.i,cwho_fa.os,fun t=>cwho fu t.1 t.2⟩
theorem iwZ(fu:Nat):Told Tryz.prog (cwho_ft fu):=tk fu cwho_fa abZ Tryz.func73 (by kernel_rfl) fun t=>by kernel_rfl
def hRig(fu:Nat)(h:(Int×Int)):Option (Bool):=
 bif (decide (h.1>=1)) then
  bif (decide (h.1<=500)) then
   bif (decide (h.2>=1)) then
    some (decide (h.2<=1099511627776))
   else
    some false
  else
   some false
 else
  some false
def hRig_fa:FnA:=⟨.two (.reg [(0,{ids:=[100]})]) lf,⟨(.cons (.p qY5) .nil),[]⟩,[⟨(.cons (.p .bool) .nil),[]⟩],[0]⟩
def hRig_ft(fu:Nat):FnT:=⟨75,hRig_fa.i,hRig_fa.os,fun t=>hRig fu t⟩
theorem isZ(fu:Nat):Told Tryz.prog (hRig_ft fu):=tk fu hRig_fa abZ Tryz.func75 (by kernel_rfl) fun t=>by kernel_rfl
def cRigRep_l0(fu:Nat)(o2:(Bool×qT37))(x:Int)(h:Int)(h1:Int)(h2:Int)(h3:Int)(h4:Int)(h5:Bool)(h6:Int)(h7:List (UInt8))(h8:List ((List UInt8×Int)))(h9:Bool)(h10:Int):Option ((Int×qT37)⊕(qT37⊕Bool)):=
 bif (decide (x<((o2.2.2.2.2.2.2.2.2.2.1.length:Nat):Int))) then
  (idx? x o2.2.2.2.2.2.2.2.2.2.1.length).bind fun q=>
  (o2.2.2.2.2.2.2.2.2.2.1)[q]?.bind fun r3=>
  Option.bind (α:=((Bool×qT37))) (
   bif (decide (((r3.1.length:Nat):Int)<1)) then
    some (true,(h,(h1,(h2,(h3,(h4,(h5,(h6,(h7,(h8,(h9,h10)))))))))))
   else
    bif (decide (((r3.1.length:Nat):Int)>100)) then
     some (true,(h,(h1,(h2,(h3,(h4,(h5,(h6,(h7,(h8,(h9,h10)))))))))))
    else
     bif (decide (r3.2<1)) then
      some (true,(h,(h1,(h2,(h3,(h4,(h5,(h6,(h7,(h8,(h9,h10)))))))))))
     else
      some ((decide (r3.2>500)),(h,(h1,(h2,(h3,(h4,(h5,(h6,(h7,(h8,(h9,h10)))))))))))) fun o3=>
  bif o3.1 then
   some (.inr (.inr false))
  else
   some (.inl ((IntKind.wrap .i64 (x+1)),(o3.2.1,(o3.2.2.1,(o3.2.2.2.1,(o3.2.2.2.2.1,(o3.2.2.2.2.2.1,(o3.2.2.2.2.2.2.1,(o3.2.2.2.2.2.2.2.1,(o3.2.2.2.2.2.2.2.2.1,(o3.2.2.2.2.2.2.2.2.2.1,(o3.2.2.2.2.2.2.2.2.2.2.1,o3.2.2.2.2.2.2.2.2.2.2.2))))))))))))
 else
  some (.inr (.inl (h,(h1,(h2,(h3,(h4,(h5,(h6,(h7,(h8,(h9,h10))))))))))))
def cRigRep_l0_it(fu:Nat)(o2:(Bool×qT37))(tt:(Int×qT37)):Option (qT37⊕Bool):=
 iter fu (fun tt=>cRigRep_l0 fu o2 tt.1 tt.2.1 tt.2.2.1 tt.2.2.2.1 tt.2.2.2.2.1 tt.2.2.2.2.2.1 tt.2.2.2.2.2.2.1 tt.2.2.2.2.2.2.2.1 tt.2.2.2.2.2.2.2.2.1 tt.2.2.2.2.2.2.2.2.2.1 tt.2.2.2.2.2.2.2.2.2.2.1 tt.2.2.2.2.2.2.2.2.2.2.2) tt
def cRigRep(fu:Nat)(r:qT3):Option (Bool):=
 Option.bind (α:=((Bool×qT37))) (
  (cwho fu r.1 r.2.1).bind fun r1=>
  bif (!r1) then
   some (true,(r.1,(r.2.1,(r.2.2.1,(r.2.2.2.1.1,(r.2.2.2.1.2,(r.2.2.2.2.1,(r.2.2.2.2.2.1,(r.2.2.2.2.2.2.1,(r.2.2.2.2.2.2.2.1,(r.2.2.2.2.2.2.2.2.1,r.2.2.2.2.2.2.2.2.2)))))))))))
  else
   bif (decide (r.2.2.1<0)) then
    some (true,(r.1,(r.2.1,(r.2.2.1,(r.2.2.2.1.1,(r.2.2.2.1.2,(r.2.2.2.2.1,(r.2.2.2.2.2.1,(r.2.2.2.2.2.2.1,(r.2.2.2.2.2.2.2.1,(r.2.2.2.2.2.2.2.2.1,r.2.2.2.2.2.2.2.2.2)))))))))))
   else
    some ((decide (r.2.2.1>1000)),(r.1,(r.2.1,(r.2.2.1,(r.2.2.2.1.1,(r.2.2.2.1.2,(r.2.2.2.2.1,(r.2.2.2.2.2.1,(r.2.2.2.2.2.2.1,(r.2.2.2.2.2.2.2.1,(r.2.2.2.2.2.2.2.2.1,r.2.2.2.2.2.2.2.2.2)))))))))))) fun o=>
 bif o.1 then
  some false
 else
  bif (!(o.2.2.2.1==0)) then
   Option.bind (α:=(Bool)) (
    bif ((r.2.2.2.1.1==0)&&(r.2.2.2.1.2==0)) then
     bif (!o.2.2.2.2.2.2.1) then
      bif (!o.2.2.2.2.2.2.2.2.2.2.1) then
       bif (o.2.2.2.2.2.2.2.1==0) then
        bif (o.2.2.2.2.2.2.2.2.2.2.2==0) then
         some ((IntKind.wrap .i64 (((o.2.2.2.2.2.2.2.2.1.length:Nat):Int)+((o.2.2.2.2.2.2.2.2.2.1.length:Nat):Int)))==0)
        else
         some false
       else
        some false
      else
       some false
     else
      some false
    else
     some false) fun o1=>
   some o1
  else
   Option.bind (α:=((Bool×qT37))) (
    bif (!((r.2.2.2.1.1==0)&&(r.2.2.2.1.2==0))) then
     (hRig fu (o.2.2.2.2.1,o.2.2.2.2.2.1)).bind fun r2=>
     bif (!r2) then
      some (true,(o.2.1,(o.2.2.1,(o.2.2.2.1,(o.2.2.2.2.1,(o.2.2.2.2.2.1,(o.2.2.2.2.2.2.1,(o.2.2.2.2.2.2.2.1,(o.2.2.2.2.2.2.2.2.1,(o.2.2.2.2.2.2.2.2.2.1,(o.2.2.2.2.2.2.2.2.2.2.1,o.2.2.2.2.2.2.2.2.2.2.2)))))))))))
     else
      bif (decide (o.2.2.2.2.2.2.2.1<0)) then
       some (true,(o.2.1,(o.2.2.1,(o.2.2.2.1,(o.2.2.2.2.1,(o.2.2.2.2.2.1,(o.2.2.2.2.2.2.1,(o.2.2.2.2.2.2.2.1,(o.2.2.2.2.2.2.2.2.1,(o.2.2.2.2.2.2.2.2.2.1,(o.2.2.2.2.2.2.2.2.2.2.1,o.2.2.2.2.2.2.2.2.2.2.2)))))))))))
      else
       bif (decide (o.2.2.2.2.2.2.2.1>65536)) then
        some (true,(o.2.1,(o.2.2.1,(o.2.2.2.1,(o.2.2.2.2.1,(o.2.2.2.2.2.1,(o.2.2.2.2.2.2.1,(o.2.2.2.2.2.2.2.1,(o.2.2.2.2.2.2.2.2.1,(o.2.2.2.2.2.2.2.2.2.1,(o.2.2.2.2.2.2.2.2.2.2.1,o.2.2.2.2.2.2.2.2.2.2.2)))))))))))
       else
        bif (decide (o.2.2.2.2.2.2.2.2.2.2.2<0)) then
         some (true,(o.2.1,(o.2.2.1,(o.2.2.2.1,(o.2.2.2.2.1,(o.2.2.2.2.2.1,(o.2.2.2.2.2.2.1,(o.2.2.2.2.2.2.2.1,(o.2.2.2.2.2.2.2.2.1,(o.2.2.2.2.2.2.2.2.2.1,(o.2.2.2.2.2.2.2.2.2.2.1,o.2.2.2.2.2.2.2.2.2.2.2)))))))))))
        else
         some ((decide (o.2.2.2.2.2.2.2.2.2.2.2>1099511627776)),(o.2.1,(o.2.2.1,(o.2.2.2.1,(o.2.2.2.2.1,(o.2.2.2.2.2.1,(o.2.2.2.2.2.2.1,(o.2.2.2.2.2.2.2.1,(o.2.2.2.2.2.2.2.2.1,(o.2.2.2.2.2.2.2.2.2.1,(o.2.2.2.2.2.2.2.2.2.2.1,o.2.2.2.2.2.2.2.2.2.2.2)))))))))))
    else
     bif (decide (o.2.2.2.2.2.2.2.1<0)) then
      some (true,(o.2.1,(o.2.2.1,(o.2.2.2.1,(o.2.2.2.2.1,(o.2.2.2.2.2.1,(o.2.2.2.2.2.2.1,(o.2.2.2.2.2.2.2.1,(o.2.2.2.2.2.2.2.2.1,(o.2.2.2.2.2.2.2.2.2.1,(o.2.2.2.2.2.2.2.2.2.2.1,o.2.2.2.2.2.2.2.2.2.2.2)))))))))))
     else
      bif (decide (o.2.2.2.2.2.2.2.1>65536)) then
       some (true,(o.2.1,(o.2.2.1,(o.2.2.2.1,(o.2.2.2.2.1,(o.2.2.2.2.2.1,(o.2.2.2.2.2.2.1,(o.2.2.2.2.2.2.2.1,(o.2.2.2.2.2.2.2.2.1,(o.2.2.2.2.2.2.2.2.2.1,(o.2.2.2.2.2.2.2.2.2.2.1,o.2.2.2.2.2.2.2.2.2.2.2)))))))))))
      else
       bif (decide (o.2.2.2.2.2.2.2.2.2.2.2<0)) then
        some (true,(o.2.1,(o.2.2.1,(o.2.2.2.1,(o.2.2.2.2.1,(o.2.2.2.2.2.1,(o.2.2.2.2.2.2.1,(o.2.2.2.2.2.2.2.1,(o.2.2.2.2.2.2.2.2.1,(o.2.2.2.2.2.2.2.2.2.1,(o.2.2.2.2.2.2.2.2.2.2.1,o.2.2.2.2.2.2.2.2.2.2.2)))))))))))
       else
        some ((decide (o.2.2.2.2.2.2.2.2.2.2.2>1099511627776)),(o.2.1,(o.2.2.1,(o.2.2.2.1,(o.2.2.2.2.1,(o.2.2.2.2.2.1,(o.2.2.2.2.2.2.1,(o.2.2.2.2.2.2.2.1,(o.2.2.2.2.2.2.2.2.1,(o.2.2.2.2.2.2.2.2.2.1,(o.2.2.2.2.2.2.2.2.2.2.1,o.2.2.2.2.2.2.2.2.2.2.2)))))))))))) fun o2=>
   bif o2.1 then
    some false
   else
    (cRigRep_l0_it fu o2 (0,(o2.2.1,(o2.2.2.1,(o2.2.2.2.1,(o2.2.2.2.2.1,(o2.2.2.2.2.2.1,(o2.2.2.2.2.2.2.1,(o2.2.2.2.2.2.2.2.1,(o2.2.2.2.2.2.2.2.2.1,(o2.2.2.2.2.2.2.2.2.2.1,(o2.2.2.2.2.2.2.2.2.2.2.1,o2.2.2.2.2.2.2.2.2.2.2.2)))))))))))).bind fun o4=>
    match o4 with
    |.inl s=>
     bif (decide (((s.2.2.2.2.2.2.2.1.length:Nat):Int)<=4096)) then
      some (decide (((s.2.2.2.2.2.2.2.2.1.length:Nat):Int)<=100))
     else
      some false
    |.inr o5=>
     some o5
def cRigRep_fa:FnA:=⟨.two (.reg [(0,{ids:=[100]})]) (.two lf (.two (.one (.two (.join ⟨[1,10],⟨qL56,[(100,false,(.vars qL9))]⟩⟩ false [] (.reg [(4,{})])) (.two lf (.two lf (.two (.two (.join ⟨[2],⟨(.cons (.p .bool) .nil),[]⟩⟩ false [] lf) lf) (.two (.join ⟨[1,62],⟨qL56,[(100,false,(.vars qL9))]⟩⟩ false [] (.reg [(5,{fn:=1})])) (.two lf lf))))))) (.two (.two lf (.one (.loop ⟨[1,94],⟨(.cons (.own 0 100 0 0) qL6),[(100,false,(.vars qL9))]⟩⟩ true [(1,⟨[1],⟨(.cons (.own 0 100 0 0) .nil),[(100,false,(.vars qL9))]⟩⟩)] (.two lf (.two lf (.two (.one (.two (.reg [(2,{ids:=[101]})]) (.two (.join ⟨[1,117],⟨qL56,[(100,false,(.vars qL9))]⟩⟩ false [] lf) (.two lf lf)))) lf)))))) lf))),⟨(.cons (.p qY1) .nil),[]⟩,[⟨(.cons (.p .bool) .nil),[]⟩],[0]⟩
def cRigRep_ft(fu:Nat):FnT:=⟨58,cRigRep_fa.i,cRigRep_fa.os,fun t=>cRigRep fu t⟩
theorem enZ(fu:Nat):Told Tryz.prog (cRigRep_ft fu):=tk fu cRigRep_fa (aaZ (iwZ fu) (aaZ (isZ fu) abZ)) Tryz.func58 (by kernel_rfl) fun t=>by kernel_rfl
def rkep1(fu:Nat)(r:qT3)(h:Int)(h1:Int)(h2:Int)(h3:List (qT3)):Option ((Bool×(Int×qT25))):=
 bif (!(r.1==h1)) then
  some (true,(r.2.1,(h1,(h2,h3))))
 else
  bif (decide (r.2.1<=h)) then
   some (true,(r.2.1,(h1,(h2,h3))))
  else
   (cRigRep fu r).bind fun r1=>
   some ((!r1),(r.2.1,(h1,(h2,h3))))
def rkep1_fa:FnA:=⟨.two (.reg [(0,{ids:=[100]})]) (.two lf (.two lf (.two (.reg [(13,{})]) lf))),⟨(.cons (.p qY1) qL65),[(0,false,(.vars qL6)),(1,false,qB52)]⟩,[⟨(.cons (.p .bool) .nil),[(0,false,(.vars qL6)),(1,false,qB52)]⟩],[0]⟩
def rkep1_ft(fu:Nat):FnT:=⟨129,rkep1_fa.i,rkep1_fa.os,u5 (rkep1 fu)⟩
theorem lQZ(fu:Nat):Told Tryz.prog (rkep1_ft fu):=tk fu rkep1_fa (aaZ (enZ fu) abZ) Tryz.func129 (by kernel_rfl) fun t=>by kernel_rfl
def sIndFun_l0(fu:Nat)(s:List (qT3))(x:Int)(h4:Int)(h5:Int)(h6:Int)(h7:List (qT3)):Option ((Int×(Int×qT25))⊕((Int×qT25)⊕(Int×(Int×qT25)))):=
 bif (decide (x<((s.length:Nat):Int))) then
  (idx? x s.length).bind fun q=>
  (s)[q]?.bind fun r=>
  (rkep1 fu r h4 h5 h6 h7).bind fun r1=>
  bif r1.1 then
   some (.inr (.inr (x,(r1.2.1,(r1.2.2.1,(r1.2.2.2.1,r1.2.2.2.2))))))
  else
   some (.inl ((IntKind.wrap .i64 (x+1)),(r1.2.1,(r1.2.2.1,(r1.2.2.2.1,r1.2.2.2.2)))))
 else
  some (.inr (.inl (h4,(h5,(h6,h7)))))
def sIndFun_l0_it(fu:Nat)(s:List (qT3))(tt:(Int×(Int×qT25))):Option ((Int×qT25)⊕(Int×(Int×qT25))):=
 iter fu (fun tt=>sIndFun_l0 fu s tt.1 tt.2.1 tt.2.2.1 tt.2.2.2.1 tt.2.2.2.2) tt
def sIndFun(fu:Nat)(s:List (qT3))(h:Int)(h1:Int)(h2:Int)(h3:List (qT3)):Option ((Int×(Int×qT25))):=
 (sIndFun_l0_it fu s (0,(h,(h1,(h2,h3))))).bind fun o=>
 match o with
 |.inl s1=>
  some ((-1),(s1.1,(s1.2.1,(s1.2.2.1,s1.2.2.2))))
 |.inr o1=>
  some o1
def sIndFun_fa:FnA:=⟨.two lf (.two (.two lf (.one (.loop ⟨[1,8],⟨(.cons (.fn 129 .nil qL65) qL6),[(0,false,(.vars qL6)),(1,false,qB52)]⟩⟩ true [(0,⟨[1],⟨(.cons (.fn 129 .nil qL65) .nil),[(0,false,(.vars qL6)),(1,false,qB52)]⟩⟩)] (.two lf (.two lf (.two (.one (.two lf (.two (.reg [(5,{sh:=[0,1]})]) (.two lf lf)))) lf)))))) lf),⟨(.cons (.p (.sl qY1)) (.cons (.fn 129 .nil qL65) .nil)),[(0,false,(.vars qL6)),(1,false,qB52)]⟩,[⟨qL6,[(0,false,(.vars qL6)),(1,false,qB52)]⟩],[0]⟩
def sIndFun_ft(fu:Nat):FnT:=⟨161,sIndFun_fa.i,sIndFun_fa.os,u5 (sIndFun fu)⟩
theorem iRZ(fu:Nat):Told Tryz.prog (sIndFun_ft fu):=tk fu sIndFun_fa (aaZ (lQZ fu) abZ) Tryz.func161 (by kernel_rfl) fun t=>by kernel_rfl
def sConFun2(fu:Nat)(s:List (qT3))(h:Int)(h1:Int)(h2:Int)(h3:List (qT3)):Option ((Bool×(Int×qT25))):=
 (sIndFun fu s h h1 h2 h3).bind fun r=>
 some ((decide (r.1>=0)),(r.2.1,(r.2.2.1,(r.2.2.2.1,r.2.2.2.2))))
def sConFun2_fa:FnA:=⟨.two lf (.two (.reg [(2,{sh:=[0,1]})]) lf),⟨(.cons (.p (.sl qY1)) (.cons (.fn 129 .nil qL65) .nil)),[(0,false,(.vars qL6)),(1,false,qB52)]⟩,[⟨(.cons (.p .bool) .nil),[(0,false,(.vars qL6)),(1,false,qB52)]⟩],[0]⟩
def sConFun2_ft(fu:Nat):FnT:=⟨130,sConFun2_fa.i,sConFun2_fa.os,u5 (sConFun2 fu)⟩
theorem hsZ(fu:Nat):Told Tryz.prog (sConFun2_ft fu):=tk fu sConFun2_fa (aaZ (iRZ fu) abZ) Tryz.func130 (by kernel_rfl) fun t=>by kernel_rfl
def rkep(fu:Nat)(k:qT25)(window:Int):Option (Bool):=
 bif (decide (k.2.1>=0)) then
  bif (decide (k.2.1<=1099511627776)) then
   bif (decide (((k.2.2.length:Nat):Int)<=window)) then
    (sConFun2 fu k.2.2 k.2.1 k.1 k.2.1 k.2.2).bind fun r=>
    some (!r.1)
   else
    some false
  else
   some false
 else
  some false
def rkep_fa:FnA:=⟨.two (.reg [(0,{ids:=[100]})]) (.two (.reg [(2,{ids:=[101]})]) (.two lf (.two (.reg [(19,{sh:=[101,100]})]) lf))),⟨(.cons (.p (.pair (.int .i64) (.pair (.int .i64) (.sl qY1)))) qL6),[]⟩,[⟨(.cons (.p .bool) .nil),[]⟩],[0]⟩
def rkep_ft(fu:Nat):FnT:=⟨93,rkep_fa.i,rkep_fa.os,fun t=>rkep fu t.1 t.2⟩
theorem mpZ(fu:Nat):Told Tryz.prog (rkep_ft fu):=tk fu rkep_fa (aaZ (hsZ fu) abZ) Tryz.func93 (by kernel_rfl) fun t=>by kernel_rfl
def rRig_l0(fu:Nat)(c:(Int×List (qT25)))(last:Int)(x:Int)(h:Int)(h1:List (qT25)):Option ((Int×(Int×(Int×List (qT25))))⊕((Int×List (qT25))⊕Bool)):=
 bif (decide (x<((c.2.length:Nat):Int))) then
  (idx? x c.2.length).bind fun q=>
  (c.2)[q]?.bind fun r=>
  Option.bind (α:=((Bool×(Int×(List (qT25)×qT25))))) (
   bif (decide (r.1<=last)) then
    some (true,(h,(h1,r)))
   else
    bif (decide (r.1>=16)) then
     some (true,(h,(h1,r)))
    else
     (rkep fu r h).bind fun r1=>
     some ((!r1),(h,(h1,r)))) fun o=>
  bif o.1 then
   some (.inr (.inr false))
  else
   some (.inl (o.2.2.2.1,((IntKind.wrap .i64 (x+1)),(o.2.1,o.2.2.1))))
 else
  some (.inr (.inl (h,h1)))
def rRig_l0_it(fu:Nat)(c:(Int×List (qT25)))(tt:(Int×(Int×(Int×List (qT25))))):Option ((Int×List (qT25))⊕Bool):=
 iter fu (fun tt=>rRig_l0 fu c tt.1 tt.2.1 tt.2.2.1 tt.2.2.2) tt
def rRig(fu:Nat)(c:(Int×List (qT25))):Option (Bool):=
 (rRig_l0_it fu c ((-1),(0,c))).bind fun o1=>
 match o1 with
 |.inl s=>
  bif (decide (s.1>=1)) then
   some (decide (s.1<=100))
  else
   some false
 |.inr o2=>
  some o2
def rRig_fa:FnA:=⟨.two (.reg [(0,{ids:=[100]})]) (.two lf (.two (.two lf (.one (.loop ⟨[1,3,9],⟨(.cons (.own 0 100 0 0) qL50),[(100,false,qB70)]⟩⟩ true [(0,⟨[1],⟨(.cons (.own 0 100 0 0) .nil),[(100,false,qB70)]⟩⟩)] (.two lf (.two lf (.two (.one (.two (.reg [(2,{ids:=[101]})]) (.two (.two (.join ⟨[1,5,28],⟨qL73,[(100,false,qB70),(101,false,qB52)]⟩⟩ false [] (.reg [(13,{})])) (.two lf lf)) lf))) lf)))))) lf)),⟨(.cons (.p (.pair (.int .i64) qY22)) .nil),[]⟩,[⟨(.cons (.p .bool) .nil),[]⟩],[0]⟩
def rRig_ft(fu:Nat):FnT:=⟨57,rRig_fa.i,rRig_fa.os,fun t=>rRig fu t⟩
theorem fvZ(fu:Nat):Told Tryz.prog (rRig_ft fu):=tk fu rRig_fa (aaZ (mpZ fu) abZ) Tryz.func57 (by kernel_rfl) fun t=>by kernel_rfl
def spie(fu:Nat)(n:Int)(size:Int):Option (Int):=
 need (!(decide (size=0)))<|
 some (IntKind.wrap .i64 (Int.tdiv (IntKind.wrap .i64 ((IntKind.wrap .i64 (n+size))-1)) size))
def spie_fa:FnA:=⟨.two lf lf,⟨qL50,[]⟩,[⟨qL6,[]⟩],[0]⟩
def spie_ft(fu:Nat):FnT:=⟨66,spie_fa.i,spie_fa.os,fun t=>spie fu t.1 t.2⟩
theorem iaZ(fu:Nat):Told Tryz.prog (spie_ft fu):=tk fu spie_fa abZ Tryz.func66 (by kernel_rfl) fun t=>by kernel_rfl
def sdro1(fu:Nat)(d:(Int×Int))(h:Int)(h1:Int)(h2:List (qT2))(h3:Int)(h4:Int)(h5:List (qT25))(h6:List ((Int×List (Int))))(h7:List ((Int×Int)))(h8:qT31):Option ((Bool×qT43)):=
 bif (decide (d.1<=h)) then
  some (true,(d.1,(h1,(h2,(h3,(h4,(h5,(h6,(h7,h8)))))))))
 else
  bif (decide (d.1>h3)) then
   some (true,(d.1,(h1,(h2,(h3,(h4,(h5,(h6,(h7,h8)))))))))
  else
   bif ((Option.getD (mget (k:=(.int .i64)) (v:=(.int .i64)) h8 d.1) 0)==1) then
    some (true,(d.1,(h1,(h2,(h3,(h4,(h5,(h6,(h7,h8)))))))))
   else
    bif (decide (d.2<1)) then
     some (true,(d.1,(h1,(h2,(h3,(h4,(h5,(h6,(h7,h8)))))))))
    else
     some ((decide (d.2>1099511627776)),(d.1,(h1,(h2,(h3,(h4,(h5,(h6,(h7,h8)))))))))
def sdro1_fa:FnA:=⟨.two (.reg [(0,{ids:=[100]})]) (.two lf (.two lf lf)),⟨(.cons (.p qY5) qL74),[(0,false,(.vars qL6)),(1,false,(.vars qL28)),(2,false,(.vars (.cons (.mp 3) .nil))),(3,false,qB49)]⟩,[⟨(.cons (.p .bool) .nil),[(0,false,(.vars qL6)),(1,false,(.vars qL28)),(2,false,(.vars (.cons (.mp 3) .nil))),(3,false,qB49)]⟩],[0]⟩
def sdro1_ft(fu:Nat):FnT:=⟨107,sdro1_fa.i,sdro1_fa.os,u10 (sdro1 fu)⟩
theorem ltZ(fu:Nat):Told Tryz.prog (sdro1_ft fu):=tk fu sdro1_fa abZ Tryz.func107 (by kernel_rfl) fun t=>by kernel_rfl
def sIndFun6_l0(fu:Nat)(s:List ((Int×Int)))(x:Int)(h9:Int)(h10:Int)(h11:List (qT2))(h12:Int)(h13:Int)(h14:List (qT25))(h15:List ((Int×List (Int))))(h16:List ((Int×Int)))(h17:qT31):Option ((Int×qT43)⊕(qT43⊕(Int×qT43))):=
 bif (decide (x<((s.length:Nat):Int))) then
  (idx? x s.length).bind fun q=>
  (s)[q]?.bind fun r=>
  (sdro1 fu r h9 h10 h11 h12 h13 h14 h15 h16 h17).bind fun r1=>
  bif r1.1 then
   some (.inr (.inr (x,(r1.2.1,(r1.2.2.1,(r1.2.2.2.1,(r1.2.2.2.2.1,(r1.2.2.2.2.2.1,(r1.2.2.2.2.2.2.1,(r1.2.2.2.2.2.2.2.1,(r1.2.2.2.2.2.2.2.2.1,r1.2.2.2.2.2.2.2.2.2)))))))))))
  else
   some (.inl ((IntKind.wrap .i64 (x+1)),(r1.2.1,(r1.2.2.1,(r1.2.2.2.1,(r1.2.2.2.2.1,(r1.2.2.2.2.2.1,(r1.2.2.2.2.2.2.1,(r1.2.2.2.2.2.2.2.1,(r1.2.2.2.2.2.2.2.2.1,r1.2.2.2.2.2.2.2.2.2))))))))))
 else
  some (.inr (.inl (h9,(h10,(h11,(h12,(h13,(h14,(h15,(h16,h17))))))))))
def sIndFun6_l0_it(fu:Nat)(s:List ((Int×Int)))(tt:(Int×qT43)):Option (qT43⊕(Int×qT43)):=
 iter fu (u10 (sIndFun6_l0 fu s)) tt
def sIndFun6(fu:Nat)(s:List ((Int×Int)))(h:Int)(h1:Int)(h2:List (qT2))(h3:Int)(h4:Int)(h5:List (qT25))(h6:List ((Int×List (Int))))(h7:List ((Int×Int)))(h8:qT31):Option ((Int×qT43)):=
 (sIndFun6_l0_it fu s (0,(h,(h1,(h2,(h3,(h4,(h5,(h6,(h7,h8)))))))))).bind fun o=>
 match o with
 |.inl s1=>
  some ((-1),(s1.1,(s1.2.1,(s1.2.2.1,(s1.2.2.2.1,(s1.2.2.2.2.1,(s1.2.2.2.2.2.1,(s1.2.2.2.2.2.2.1,(s1.2.2.2.2.2.2.2.1,s1.2.2.2.2.2.2.2.2)))))))))
 |.inr o1=>
  some o1
def sIndFun6_fa:FnA:=⟨.two lf (.two (.two lf (.one (.loop ⟨[1,8],⟨(.cons (.fn 107 .nil qL74) qL6),[(0,false,(.vars qL6)),(1,false,(.vars qL28)),(2,false,(.vars (.cons (.mp 3) .nil))),(3,false,qB49)]⟩⟩ true [(0,⟨[1],⟨(.cons (.fn 107 .nil qL74) .nil),[(0,false,(.vars qL6)),(1,false,(.vars qL28)),(2,false,(.vars (.cons (.mp 3) .nil))),(3,false,qB49)]⟩⟩)] (.two lf (.two lf (.two (.one (.two lf (.two (.reg [(5,{sh:=[0,1,2,3]})]) (.two lf lf)))) lf)))))) lf),⟨(.cons (.p (.sl qY5)) (.cons (.fn 107 .nil qL74) .nil)),[(0,false,(.vars qL6)),(1,false,(.vars qL28)),(2,false,(.vars (.cons (.mp 3) .nil))),(3,false,qB49)]⟩,[⟨qL6,[(0,false,(.vars qL6)),(1,false,(.vars qL28)),(2,false,(.vars (.cons (.mp 3) .nil))),(3,false,qB49)]⟩],[0]⟩
def sIndFun6_ft(fu:Nat):FnT:=⟨148,sIndFun6_fa.i,sIndFun6_fa.os,u10 (sIndFun6 fu)⟩
theorem h9Z(fu:Nat):Told Tryz.prog (sIndFun6_ft fu):=tk fu sIndFun6_fa (aaZ (ltZ fu) abZ) Tryz.func148 (by kernel_rfl) fun t=>by kernel_rfl
def sConFun4(fu:Nat)(s:List ((Int×Int)))(h:Int)(h1:Int)(h2:List (qT2))(h3:Int)(h4:Int)(h5:List (qT25))(h6:List ((Int×List (Int))))(h7:List ((Int×Int)))(h8:qT31):Option ((Bool×qT43)):=
 (sIndFun6 fu s h h1 h2 h3 h4 h5 h6 h7 h8).bind fun r=>
 some ((decide (r.1>=0)),(r.2.1,(r.2.2.1,(r.2.2.2.1,(r.2.2.2.2.1,(r.2.2.2.2.2.1,(r.2.2.2.2.2.2.1,(r.2.2.2.2.2.2.2.1,(r.2.2.2.2.2.2.2.2.1,r.2.2.2.2.2.2.2.2.2)))))))))
def sConFun4_fa:FnA:=⟨.two lf (.two (.reg [(2,{sh:=[0,1,2,3]})]) lf),⟨(.cons (.p (.sl qY5)) (.cons (.fn 107 .nil qL74) .nil)),[(0,false,(.vars qL6)),(1,false,(.vars qL28)),(2,false,(.vars (.cons (.mp 3) .nil))),(3,false,qB49)]⟩,[⟨(.cons (.p .bool) .nil),[(0,false,(.vars qL6)),(1,false,(.vars qL28)),(2,false,(.vars (.cons (.mp 3) .nil))),(3,false,qB49)]⟩],[0]⟩
def sConFun4_ft(fu:Nat):FnT:=⟨108,sConFun4_fa.i,sConFun4_fa.os,u10 (sConFun4 fu)⟩
theorem h8Z(fu:Nat):Told Tryz.prog (sConFun4_ft fu):=tk fu sConFun4_fa (aaZ (h9Z fu) abZ) Tryz.func108 (by kernel_rfl) fun t=>by kernel_rfl
def sdrom1(fu:Nat)(s:qT11)(h:qT31):Option ((Bool×qT31)):=
 bif (decide (((s.2.2.2.2.length:Nat):Int)<=65536)) then
  (sConFun4 fu s.2.2.2.2 0 s.1 s.2.1.1 s.2.1.2 s.2.2.1.1 s.2.2.1.2 s.2.2.2.1 s.2.2.2.2 h).bind fun r=>
  some ((!r.1),r.2.2.2.2.2.2.2.2.2)
 else
  some (false,h)
def sdrom1_fa:FnA:=⟨.two (.reg [(0,{ids:=[100]}),(1,{ids:=[101]})]) (.two (.reg [(0,{ids:=[102]})]) (.two lf (.two (.reg [(8,{sh:=[102,100,101,0]})]) lf))),⟨(.cons (.p qY10) (.cons (.mp 0) .nil)),[(0,false,qB49)]⟩,[⟨(.cons (.p .bool) .nil),[(0,false,qB49)]⟩],[0]⟩
def sdrom1_ft(fu:Nat):FnT:=⟨71,sdrom1_fa.i,sdrom1_fa.os,fun t=>sdrom1 fu t.1 t.2⟩
theorem jyZ(fu:Nat):Told Tryz.prog (sdrom1_ft fu):=tk fu sdrom1_fa (aaZ (h8Z fu) abZ) Tryz.func71 (by kernel_rfl) fun t=>by kernel_rfl
def sRig_l0(fu:Nat)(o1:(Bool×(List (qT11)×(qT31×qT2))))(x1:Int)(h2:List (qT11))(h3:qT31):Option ((Int×(List (qT11)×qT31))⊕((List (qT11)×qT31))):=
 bif (decide (x1<((o1.2.2.2.2.2.2.2.2.1.length:Nat):Int))) then
  (idx? x1 o1.2.2.2.2.2.2.2.2.1.length).bind fun q1=>
  (o1.2.2.2.2.2.2.2.2.1)[q1]?.bind fun r7=>
  some (.inl ((IntKind.wrap .i64 (x1+1)),(h2,(mput (k:=(.int .i64)) (v:=(.int .i64)) h3 r7.1 1))))
 else
  some (.inr (h2,h3))
def sRig_l0_it(fu:Nat)(o1:(Bool×(List (qT11)×(qT31×qT2))))(tt:(Int×(List (qT11)×qT31))):Option ((List (qT11)×qT31)):=
 iter fu (fun tt=>sRig_l0 fu o1 tt.1 tt.2.1 tt.2.2) tt
def sRig_l1(fu:Nat)(r4:qT11)(size:Int)(x:Int)(h:List (qT11))(h1:qT31):Option ((Int×(List (qT11)×qT31))⊕((List (qT11)×qT31)⊕Bool)):=
 bif (decide (x<((r4.2.1.1.length:Nat):Int))) then
  (idx? x r4.2.1.1.length).bind fun q=>
  (r4.2.1.1)[q]?.bind fun r5=>
  Option.bind (α:=((Bool×(List (qT11)×(qT31×qT2))))) (
   bif r5.2.2.1 then
    bif (!r5.2.2.2.1) then
     (spie fu r5.2.2.2.2.1 size).bind fun r6=>
     some ((!(((r5.2.2.2.2.2.1.length:Nat):Int)==r6)),(h,(h1,r5)))
    else
     some (false,(h,(h1,r5)))
   else
    some (false,(h,(h1,r5)))) fun o1=>
  bif o1.1 then
   some (.inr (.inr false))
  else
   (sRig_l0_it fu o1 (0,(o1.2.1,o1.2.2.1))).bind fun o2=>
   some (.inl ((IntKind.wrap .i64 (x+1)),o2))
 else
  some (.inr (.inl (h,h1)))
def sRig_l1_it(fu:Nat)(r4:qT11)(size:Int)(tt:(Int×(List (qT11)×qT31))):Option ((List (qT11)×qT31)⊕Bool):=
 iter fu (fun tt=>sRig_l1 fu r4 size tt.1 tt.2.1 tt.2.2) tt
def sRig(fu:Nat)(s:qT11)(size:Int):Option (Bool):=
 Option.bind (α:=((Bool×List (qT11)))) (
  (ssiz fu size).bind fun r=>
  bif (!r) then
   some (true,[s])
  else
   bif (decide (s.1<0)) then
    some (true,[s])
   else
    bif (decide (s.1>1099511627776)) then
     some (true,[s])
    else
     (tRig fu s.2.1).bind fun r1=>
     bif (!r1) then
      some (true,[s])
     else
      (rRig fu s.2.2.1).bind fun r2=>
      bif (!r2) then
       some (true,[s])
      else
       (spla fu s.2.2.2.1).bind fun r3=>
       some ((!r3),[s])) fun o=>
 bif o.1 then
  some false
 else
  (o.2)[0]?.bind fun r4=>
  (sRig_l1_it fu r4 size (0,(o.2,([],0)))).bind fun o3=>
  match o3 with
  |.inl s1=>
   (s1.1)[0]?.bind fun r8=>
   (sdrom1 fu r8 s1.2).bind fun r9=>
   some r9.1
  |.inr o4=>
   some o4
def sRig_fa:FnA:=⟨.two (.reg [(0,{ids:=[100],md:=[1]})]) (.two (.two (.join ⟨[2,40],⟨(.cons (.own 7 100 0 0) (.cons (.p .bool) .nil)),[(100,false,(.rows 33 qY10))]⟩⟩ false [] (.reg [(1,{}),(16,{fn:=1}),(22,{fn:=2}),(28,{fn:=3})])) (.two lf lf)) (.two (.reg [(0,{ids:=[101]})]) (.two (.two lf (.one (.loop ⟨[2,5,46],⟨(.cons (.own 7 100 0 0) (.cons (.mp 101) qL6)),[(100,false,(.rows 33 qY10)),(101,false,qB49)]⟩⟩ true [(0,⟨[2,5],⟨(.cons (.own 7 100 0 0) (.cons (.mp 101) .nil)),[(100,false,(.rows 33 qY10)),(101,false,qB49)]⟩⟩)] (.two lf (.two lf (.two (.one (.two (.reg [(2,{ids:=[102]})]) (.two (.two (.join ⟨[2,5,7,66],⟨(.cons (.own 7 100 0 0) (.cons (.mp 101) (.cons (.own 0 102 0 0) (.cons (.p .bool) .nil)))),[(100,false,(.rows 33 qY10)),(101,false,qB49),(102,false,(.vars qL12))]⟩⟩ false [] (.reg [(14,{fn:=4})])) (.two lf lf)) (.two lf (.one (.loop ⟨[2,5,70],⟨(.cons (.own 7 100 0 0) (.cons (.mp 101) qL6)),[(100,false,(.rows 33 qY10)),(101,false,qB49)]⟩⟩ false [(2,⟨[2,5],⟨(.cons (.own 7 100 0 0) (.cons (.mp 101) .nil)),[(100,false,(.rows 33 qY10)),(101,false,qB49)]⟩⟩)] (.two lf (.two lf (.two (.one (.two (.reg [(2,{ids:=[103]})]) lf)) lf))))))))) lf)))))) (.two (.reg [(2,{sh:=[101],fn:=5})]) lf)))),⟨(.cons (.p qY10) qL6),[]⟩,[⟨(.cons (.p .bool) .nil),[]⟩],[0]⟩
def sRig_ft(fu:Nat):FnT:=⟨21,sRig_fa.i,sRig_fa.os,fun t=>sRig fu t.1 t.2⟩
theorem nBZ(fu:Nat):Told Tryz.prog (sRig_ft fu):=tk fu sRig_fa (aaZ (ojZ fu) (aaZ (eFZ fu) (aaZ (fvZ fu) (aaZ (hQZ fu) (aaZ (iaZ fu) (aaZ (jyZ fu) abZ)))))) Tryz.func21 (by kernel_rfl) fun t=>by kernel_rfl
def csha1(fu:Nat):Option (qT63):=
 some (true,(true,(false,(false,(0,false)))))
def csha1_fa:FnA:=⟨.two (.reg [(0,{ids:=[100]})]) lf,⟨.nil,[]⟩,[⟨(.cons (.agg qL33) .nil),[]⟩],[0]⟩
def csha1_ft(fu:Nat):FnT:=⟨109,csha1_fa.i,csha1_fa.os,fun t=>csha1 fu⟩
theorem lbZ(fu:Nat):Told Tryz.prog (csha1_ft fu):=tk fu csha1_fa abZ Tryz.func109 (by kernel_rfl) fun t=>by kernel_rfl
def csha2(fu:Nat):Option (qT63):=
 some (true,(false,(false,(true,(4096,false)))))
def csha2_fa:FnA:=⟨.two (.reg [(0,{ids:=[100]})]) lf,⟨.nil,[]⟩,[⟨(.cons (.agg qL33) .nil),[]⟩],[0]⟩
def csha2_ft(fu:Nat):FnT:=⟨110,csha2_fa.i,csha2_fa.os,fun t=>csha2 fu⟩
theorem l8Z(fu:Nat):Told Tryz.prog (csha2_ft fu):=tk fu csha2_fa abZ Tryz.func110 (by kernel_rfl) fun t=>by kernel_rfl
def csha3(fu:Nat):Option (qT63):=
 some (true,(false,(false,(true,(0,true)))))
def csha3_fa:FnA:=⟨.two (.reg [(0,{ids:=[100]})]) lf,⟨.nil,[]⟩,[⟨(.cons (.agg qL33) .nil),[]⟩],[0]⟩
def csha3_ft(fu:Nat):FnT:=⟨111,csha3_fa.i,csha3_fa.os,fun t=>csha3 fu⟩
theorem lzZ(fu:Nat):Told Tryz.prog (csha3_ft fu):=tk fu csha3_fa abZ Tryz.func111 (by kernel_rfl) fun t=>by kernel_rfl
def csha4(fu:Nat):Option (qT63):=
 some (true,(false,(false,(false,(2147483648,false)))))
def csha4_fa:FnA:=⟨.two (.reg [(0,{ids:=[100]})]) lf,⟨.nil,[]⟩,[⟨(.cons (.agg qL33) .nil),[]⟩],[0]⟩
def csha4_ft(fu:Nat):FnT:=⟨112,csha4_fa.i,csha4_fa.os,fun t=>csha4 fu⟩
theorem lXZ(fu:Nat):Told Tryz.prog (csha4_ft fu):=tk fu csha4_fa abZ Tryz.func112 (by kernel_rfl) fun t=>by kernel_rfl
def csha5(fu:Nat):Option (qT63):=
 some (true,(true,(true,(false,(0,false)))))
def csha5_fa:FnA:=⟨.two (.reg [(0,{ids:=[100]})]) lf,⟨.nil,[]⟩,[⟨(.cons (.agg qL33) .nil),[]⟩],[0]⟩
def csha5_ft(fu:Nat):FnT:=⟨113,csha5_fa.i,csha5_fa.os,fun t=>csha5 fu⟩
theorem kYZ(fu:Nat):Told Tryz.prog (csha5_ft fu):=tk fu csha5_fa abZ Tryz.func113 (by kernel_rfl) fun t=>by kernel_rfl
def csha6(fu:Nat):Option (qT63):=
 some (true,(true,(false,(false,(4096,false)))))
def csha6_fa:FnA:=⟨.two (.reg [(0,{ids:=[100]})]) lf,⟨.nil,[]⟩,[⟨(.cons (.agg qL33) .nil),[]⟩],[0]⟩
def csha6_ft(fu:Nat):FnT:=⟨114,csha6_fa.i,csha6_fa.os,fun t=>csha6 fu⟩
theorem kWZ(fu:Nat):Told Tryz.prog (csha6_ft fu):=tk fu csha6_fa abZ Tryz.func114 (by kernel_rfl) fun t=>by kernel_rfl
def csha7(fu:Nat):Option (qT63):=
 some (true,(false,(false,(false,(0,false)))))
def csha7_fa:FnA:=⟨.two (.reg [(0,{ids:=[100]})]) lf,⟨.nil,[]⟩,[⟨(.cons (.agg qL33) .nil),[]⟩],[0]⟩
def csha7_ft(fu:Nat):FnT:=⟨115,csha7_fa.i,csha7_fa.os,fun t=>csha7 fu⟩
theorem llZ(fu:Nat):Told Tryz.prog (csha7_ft fu):=tk fu csha7_fa abZ Tryz.func115 (by kernel_rfl) fun t=>by kernel_rfl
def csha8(fu:Nat):Option (qT63):=
 some (false,(false,(false,(false,(0,false)))))
def csha8_fa:FnA:=⟨.two (.reg [(0,{ids:=[100]})]) lf,⟨.nil,[]⟩,[⟨(.cons (.agg qL33) .nil),[]⟩],[0]⟩
def csha8_ft(fu:Nat):FnT:=⟨116,csha8_fa.i,csha8_fa.os,fun t=>csha8 fu⟩
theorem lMZ(fu:Nat):Told Tryz.prog (csha8_ft fu):=tk fu csha8_fa abZ Tryz.func116 (by kernel_rfl) fun t=>by kernel_rfl
def csha(fu:Nat)(o:Int):Option ((Bool×(Bool×(Bool×(Bool×(Int×(Bool×Bool))))))):=
 need ((!((UInt8.ofNat 2)==(UInt8.ofNat 1)))&&true)<|
 need ((!((UInt8.ofNat 3)==(UInt8.ofNat 1)))&&((!((UInt8.ofNat 3)==(UInt8.ofNat 2)))&&true))<|
 need ((!((UInt8.ofNat 7)==(UInt8.ofNat 1)))&&((!((UInt8.ofNat 7)==(UInt8.ofNat 2)))&&((!((UInt8.ofNat 7)==(UInt8.ofNat 3)))&&true)))<|
 need ((!((UInt8.ofNat 8)==(UInt8.ofNat 1)))&&((!((UInt8.ofNat 8)==(UInt8.ofNat 2)))&&((!((UInt8.ofNat 8)==(UInt8.ofNat 3)))&&((!((UInt8.ofNat 8)==(UInt8.ofNat 7)))&&true))))<|
 need ((!((UInt8.ofNat 4)==(UInt8.ofNat 1)))&&((!((UInt8.ofNat 4)==(UInt8.ofNat 2)))&&((!((UInt8.ofNat 4)==(UInt8.ofNat 3)))&&((!((UInt8.ofNat 4)==(UInt8.ofNat 7)))&&((!((UInt8.ofNat 4)==(UInt8.ofNat 8)))&&true)))))<|
 need ((!((UInt8.ofNat 5)==(UInt8.ofNat 1)))&&((!((UInt8.ofNat 5)==(UInt8.ofNat 2)))&&((!((UInt8.ofNat 5)==(UInt8.ofNat 3)))&&((!((UInt8.ofNat 5)==(UInt8.ofNat 7)))&&((!((UInt8.ofNat 5)==(UInt8.ofNat 8)))&&((!((UInt8.ofNat 5)==(UInt8.ofNat 4)))&&true))))))<|
 need ((!((UInt8.ofNat 6)==(UInt8.ofNat 1)))&&((!((UInt8.ofNat 6)==(UInt8.ofNat 2)))&&((!((UInt8.ofNat 6)==(UInt8.ofNat 3)))&&((!((UInt8.ofNat 6)==(UInt8.ofNat 7)))&&((!((UInt8.ofNat 6)==(UInt8.ofNat 8)))&&((!((UInt8.ofNat 6)==(UInt8.ofNat 4)))&&((!((UInt8.ofNat 6)==(UInt8.ofNat 5)))&&true)))))))<|
 need ((!((UInt8.ofNat 9)==(UInt8.ofNat 1)))&&((!((UInt8.ofNat 9)==(UInt8.ofNat 2)))&&((!((UInt8.ofNat 9)==(UInt8.ofNat 3)))&&((!((UInt8.ofNat 9)==(UInt8.ofNat 7)))&&((!((UInt8.ofNat 9)==(UInt8.ofNat 8)))&&((!((UInt8.ofNat 9)==(UInt8.ofNat 4)))&&((!((UInt8.ofNat 9)==(UInt8.ofNat 5)))&&((!((UInt8.ofNat 9)==(UInt8.ofNat 6)))&&true))))))))<|
 need ((!((UInt8.ofNat 10)==(UInt8.ofNat 1)))&&((!((UInt8.ofNat 10)==(UInt8.ofNat 2)))&&((!((UInt8.ofNat 10)==(UInt8.ofNat 3)))&&((!((UInt8.ofNat 10)==(UInt8.ofNat 7)))&&((!((UInt8.ofNat 10)==(UInt8.ofNat 8)))&&((!((UInt8.ofNat 10)==(UInt8.ofNat 4)))&&((!((UInt8.ofNat 10)==(UInt8.ofNat 5)))&&((!((UInt8.ofNat 10)==(UInt8.ofNat 6)))&&((!((UInt8.ofNat 10)==(UInt8.ofNat 9)))&&true)))))))))<|
 need ((!((UInt8.ofNat 11)==(UInt8.ofNat 1)))&&((!((UInt8.ofNat 11)==(UInt8.ofNat 2)))&&((!((UInt8.ofNat 11)==(UInt8.ofNat 3)))&&((!((UInt8.ofNat 11)==(UInt8.ofNat 7)))&&((!((UInt8.ofNat 11)==(UInt8.ofNat 8)))&&((!((UInt8.ofNat 11)==(UInt8.ofNat 4)))&&((!((UInt8.ofNat 11)==(UInt8.ofNat 5)))&&((!((UInt8.ofNat 11)==(UInt8.ofNat 6)))&&((!((UInt8.ofNat 11)==(UInt8.ofNat 9)))&&((!((UInt8.ofNat 11)==(UInt8.ofNat 10)))&&true))))))))))<|
 need ((!((UInt8.ofNat 12)==(UInt8.ofNat 1)))&&((!((UInt8.ofNat 12)==(UInt8.ofNat 2)))&&((!((UInt8.ofNat 12)==(UInt8.ofNat 3)))&&((!((UInt8.ofNat 12)==(UInt8.ofNat 7)))&&((!((UInt8.ofNat 12)==(UInt8.ofNat 8)))&&((!((UInt8.ofNat 12)==(UInt8.ofNat 4)))&&((!((UInt8.ofNat 12)==(UInt8.ofNat 5)))&&((!((UInt8.ofNat 12)==(UInt8.ofNat 6)))&&((!((UInt8.ofNat 12)==(UInt8.ofNat 9)))&&((!((UInt8.ofNat 12)==(UInt8.ofNat 10)))&&((!((UInt8.ofNat 12)==(UInt8.ofNat 11)))&&true)))))))))))<|
 (byte? o).bind fun c=>
 bif (c==(UInt8.ofNat 1)) then
  (csha1 fu).bind fun r=>
  some (r.1,(r.2.1,(r.2.2.1,(r.2.2.2.1,(r.2.2.2.2.1,(r.2.2.2.2.2,true))))))
 else
  bif (c==(UInt8.ofNat 2)) then
   (csha1 fu).bind fun r1=>
   some (r1.1,(r1.2.1,(r1.2.2.1,(r1.2.2.2.1,(r1.2.2.2.2.1,(r1.2.2.2.2.2,true))))))
  else
   bif (c==(UInt8.ofNat 3)) then
    (csha1 fu).bind fun r2=>
    some (r2.1,(r2.2.1,(r2.2.2.1,(r2.2.2.2.1,(r2.2.2.2.2.1,(r2.2.2.2.2.2,true))))))
   else
    bif (c==(UInt8.ofNat 7)) then
     (csha1 fu).bind fun r3=>
     some (r3.1,(r3.2.1,(r3.2.2.1,(r3.2.2.2.1,(r3.2.2.2.2.1,(r3.2.2.2.2.2,true))))))
    else
     bif (c==(UInt8.ofNat 8)) then
      (csha1 fu).bind fun r4=>
      some (r4.1,(r4.2.1,(r4.2.2.1,(r4.2.2.2.1,(r4.2.2.2.2.1,(r4.2.2.2.2.2,true))))))
     else
      bif (c==(UInt8.ofNat 4)) then
       (csha2 fu).bind fun r5=>
       some (r5.1,(r5.2.1,(r5.2.2.1,(r5.2.2.2.1,(r5.2.2.2.2.1,(r5.2.2.2.2.2,true))))))
      else
       bif (c==(UInt8.ofNat 5)) then
        (csha3 fu).bind fun r6=>
        some (r6.1,(r6.2.1,(r6.2.2.1,(r6.2.2.2.1,(r6.2.2.2.2.1,(r6.2.2.2.2.2,true))))))
       else
        bif (c==(UInt8.ofNat 6)) then
         (csha4 fu).bind fun r7=>
         some (r7.1,(r7.2.1,(r7.2.2.1,(r7.2.2.2.1,(r7.2.2.2.2.1,(r7.2.2.2.2.2,true))))))
        else
         bif (c==(UInt8.ofNat 9)) then
          (csha5 fu).bind fun r8=>
          some (r8.1,(r8.2.1,(r8.2.2.1,(r8.2.2.2.1,(r8.2.2.2.2.1,(r8.2.2.2.2.2,true))))))
         else
          bif (c==(UInt8.ofNat 10)) then
           (csha6 fu).bind fun r9=>
           some (r9.1,(r9.2.1,(r9.2.2.1,(r9.2.2.2.1,(r9.2.2.2.2.1,(r9.2.2.2.2.2,true))))))
          else
           bif (c==(UInt8.ofNat 11)) then
            (csha7 fu).bind fun r10=>
            some (r10.1,(r10.2.1,(r10.2.2.1,(r10.2.2.2.1,(r10.2.2.2.2.1,(r10.2.2.2.2.2,true))))))
           else
            bif (c==(UInt8.ofNat 12)) then
             (csha8 fu).bind fun r11=>
             some (r11.1,(r11.2.1,(r11.2.2.1,(r11.2.2.2.1,(r11.2.2.2.2.1,(r11.2.2.2.2.2,true))))))
            else
             some (false,(false,(false,(false,(0,(false,false))))))
def csha_fa:FnA:=⟨.two (.reg [(0,{ids:=[100]})]) (.two lf (.two (.reg [(0,{ids:=[101]})]) (.two lf (.sel (.slot 6 (.fn 109 .nil .nil)) (.two (.two lf lf) (.two (.reg [(1,{})]) lf)) (.sel (.slot 6 (.fn 110 .nil .nil)) (.two (.two lf lf) (.two (.reg [(1,{fn:=1})]) lf)) (.sel (.slot 6 (.fn 111 .nil .nil)) (.two (.two lf lf) (.two (.reg [(1,{fn:=2})]) lf)) (.sel (.slot 6 (.fn 112 .nil .nil)) (.two (.two lf lf) (.two (.reg [(1,{fn:=3})]) lf)) (.sel (.slot 6 (.fn 113 .nil .nil)) (.two (.two lf lf) (.two (.reg [(1,{fn:=4})]) lf)) (.sel (.slot 6 (.fn 114 .nil .nil)) (.two (.two lf lf) (.two (.reg [(1,{fn:=5})]) lf)) (.sel (.slot 6 (.fn 115 .nil .nil)) (.two (.two lf lf) (.two (.reg [(1,{fn:=6})]) lf)) (.two (.two lf (.two lf lf)) (.two (.reg [(1,{fn:=7})]) lf)))))))))))),⟨(.cons (.p (.int .u8)) .nil),[]⟩,[⟨(.cons (.agg qL33) (.cons (.p .bool) .nil)),[]⟩],[0,0]⟩
def csha_ft(fu:Nat):FnT:=⟨72,csha_fa.i,csha_fa.os,fun t=>csha fu t⟩
theorem nDZ(fu:Nat):Told Tryz.prog (csha_ft fu):=tk fu csha_fa (aaZ (lbZ fu) (aaZ (l8Z fu) (aaZ (lzZ fu) (aaZ (lXZ fu) (aaZ (kYZ fu) (aaZ (kWZ fu) (aaZ (llZ fu) (aaZ (lMZ fu) abZ)))))))) Tryz.func72 (by kernel_rfl) fun t=>by kernel_rfl
def cRigCal1(fu:Nat)(is_:Bool)(h:(Int×Int)):Option (Bool):=
 bif is_ then
  (hRig fu (h.1,h.2)).bind fun r=>
  bif r then
   some true
  else
   bif (!is_) then
    some ((h.1==0)&&(h.2==0))
   else
    some false
 else
  bif (!is_) then
   some ((h.1==0)&&(h.2==0))
  else
   some false
def cRigCal1_fa:FnA:=⟨.two (.reg [(0,{ids:=[100]})]) (.two (.reg [(3,{})]) lf),⟨(.cons (.p .bool) (.cons (.p qY5) .nil)),[]⟩,[⟨(.cons (.p .bool) .nil),[]⟩],[0]⟩
def cRigCal1_ft(fu:Nat):FnT:=⟨74,cRigCal1_fa.i,cRigCal1_fa.os,fun t=>cRigCal1 fu t.1 t.2⟩
theorem hrZ(fu:Nat):Told Tryz.prog (cRigCal1_ft fu):=tk fu cRigCal1_fa (aaZ (isZ fu) abZ) Tryz.func74 (by kernel_rfl) fun t=>by kernel_rfl
def cRigCal2(fu:Nat)(is_:Bool)(l:List UInt8):Option (Bool):=
 bif (l==[]) then
  some true
 else
  bif is_ then
   some (decide (((l.length:Nat):Int)<=100))
  else
   some false
def cRigCal2_fa:FnA:=⟨.two lf lf,⟨(.cons (.p .bool) (.cons (.p .str) .nil)),[]⟩,[⟨(.cons (.p .bool) .nil),[]⟩],[0]⟩
def cRigCal2_ft(fu:Nat):FnT:=⟨76,cRigCal2_fa.i,cRigCal2_fa.os,fun t=>cRigCal2 fu t.1 t.2⟩
theorem hmZ(fu:Nat):Told Tryz.prog (cRigCal2_ft fu):=tk fu cRigCal2_fa abZ Tryz.func76 (by kernel_rfl) fun t=>by kernel_rfl
end
end Go.Ab.D
