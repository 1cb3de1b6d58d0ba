/- Functions of the program, in plain words; what is told of each. -/
import Derived.Test.YtjngohmkdmdecaaGreatE4
import Derived.Test.YtjngohmkdmdecaaGreatProg
import Derived.KernelRfl
set_option linter.all false
namespace Go.Proofs
open Go.Shelf
def Tryz.ca131_ren:Go.Shelf.Ren:=⟨fun|150=>131|153=>170|152=>199|226=>200|227=>201|228=>202|137=>214|119=>215|224=>216|225=>217|217=>221|266=>223|n=>n,fun|9=>9|4=>4|3=>3|5=>5|21=>21|117=>262|116=>261|0=>0|46=>213|124=>277|n=>n,fun|n=>n⟩
theorem Tryz.ca131:Go.Proofs.Lays.n150 Tryz.prog Tryz.ca131_ren:={
 mixed:=by kernel_rfl
 f119:=Tryz.func215.trans (congrArg some (by kernel_rfl))
 f137:=Tryz.func214.trans (congrArg some (by kernel_rfl))
 f150:=Tryz.func131.trans (congrArg some (by kernel_rfl))
 f152:=Tryz.func199.trans (congrArg some (by kernel_rfl))
 f153:=Tryz.func170.trans (congrArg some (by kernel_rfl))
 f217:=Tryz.func221.trans (congrArg some (by kernel_rfl))
 f224:=Tryz.func216.trans (congrArg some (by kernel_rfl))
 f225:=Tryz.func217.trans (congrArg some (by kernel_rfl))
 f226:=Tryz.func200.trans (congrArg some (by kernel_rfl))
 f227:=Tryz.func201.trans (congrArg some (by kernel_rfl))
 f228:=Tryz.func202.trans (congrArg some (by kernel_rfl))
 f266:=Tryz.func223.trans (congrArg some (by kernel_rfl))
 t0:=Tryz.underlying0
 a0:=Tryz.isAgg0
 z0:=Tryz.sizeOf0
 v0:=Tryz.zeroValue0
 t3:=Tryz.underlying3
 a3:=Tryz.isAgg3
 z3:=Tryz.sizeOf3
 v3:=Tryz.zeroValue3
 t4:=Tryz.underlying4
 a4:=Tryz.isAgg4
 z4:=Tryz.sizeOf4
 v4:=Tryz.zeroValue4
 t5:=Tryz.underlying5
 a5:=Tryz.isAgg5
 z5:=Tryz.sizeOf5
 v5:=Tryz.zeroValue5
 t9:=Tryz.underlying9
 a9:=Tryz.isAgg9
 z9:=Tryz.sizeOf9
 v9:=Tryz.zeroValue9
 t21:=Tryz.underlying21
 a21:=Tryz.isAgg21
 z21:=Tryz.sizeOf21
 v21:=Tryz.zeroValue21
 t46:=Tryz.underlying213
 a46:=Tryz.isAgg213
 z46:=Tryz.sizeOf213
 v46:=Tryz.zeroValue213
 t116:=Tryz.underlying261
 a116:=Tryz.isAgg261
 z116:=Tryz.sizeOf261
 t117:=Tryz.underlying262
 a117:=Tryz.isAgg262
 z117:=Tryz.sizeOf262
 v117:=Tryz.zeroValue262
 t124:=Tryz.underlying277
 a124:=Tryz.isAgg277
 z124:=Tryz.sizeOf277
 v124:=Tryz.zeroValue277}
def Tryz.ins193_ren:Go.Shelf.Ren:=⟨fun|22=>193|29=>211|30=>212|36=>220|17=>222|n=>n,fun|24=>38|9=>118|3=>3|4=>4|0=>0|n=>n,fun|n=>n⟩
theorem Tryz.ins193:Go.Proofs.InsLay Tryz.prog Tryz.ins193_ren:={
 mixed:=by kernel_rfl
 f22:=⟨Tryz.f193.name,by decide,Tryz.func193.trans (congrArg some (by kernel_rfl))⟩
 x29:=by kernel_rfl
 t0:=Tryz.underlying0
 a0:=Tryz.isAgg0
 z0:=Tryz.sizeOf0
 v0:=Tryz.zeroValue0
 t3:=Tryz.underlying3
 a3:=Tryz.isAgg3
 z3:=Tryz.sizeOf3
 v3:=Tryz.zeroValue3
 t4:=Tryz.underlying4
 a4:=Tryz.isAgg4
 z4:=Tryz.sizeOf4
 v4:=Tryz.zeroValue4
 t24:=Tryz.underlying38
 a24:=Tryz.isAgg38
 z24:=Tryz.sizeOf38
 v24:=Tryz.zeroValue38}
def Tryz.ins110_ren:Go.Shelf.Ren:=⟨fun|22=>110|29=>147|30=>148|36=>173|17=>203|n=>n,fun|24=>43|9=>141|3=>3|4=>4|0=>0|n=>n,fun|n=>n⟩
theorem Tryz.ins110:Go.Proofs.InsLay Tryz.prog Tryz.ins110_ren:={
 mixed:=by kernel_rfl
 f22:=⟨Tryz.f110.name,by decide,Tryz.func110.trans (congrArg some (by kernel_rfl))⟩
 x29:=by kernel_rfl
 t0:=Tryz.underlying0
 a0:=Tryz.isAgg0
 z0:=Tryz.sizeOf0
 v0:=Tryz.zeroValue0
 t3:=Tryz.underlying3
 a3:=Tryz.isAgg3
 z3:=Tryz.sizeOf3
 v3:=Tryz.zeroValue3
 t4:=Tryz.underlying4
 a4:=Tryz.isAgg4
 z4:=Tryz.sizeOf4
 v4:=Tryz.zeroValue4
 t24:=Tryz.underlying43
 a24:=Tryz.isAgg43
 z24:=Tryz.sizeOf43
 v24:=Tryz.zeroValue43}
def Tryz.ins111_ren:Go.Shelf.Ren:=⟨fun|22=>111|29=>149|30=>150|36=>174|17=>204|n=>n,fun|24=>66|9=>40|3=>3|4=>4|0=>0|n=>n,fun|n=>n⟩
theorem Tryz.ins111:Go.Proofs.InsLay Tryz.prog Tryz.ins111_ren:={
 mixed:=by kernel_rfl
 f22:=⟨Tryz.f111.name,by decide,Tryz.func111.trans (congrArg some (by kernel_rfl))⟩
 x29:=by kernel_rfl
 t0:=Tryz.underlying0
 a0:=Tryz.isAgg0
 z0:=Tryz.sizeOf0
 v0:=Tryz.zeroValue0
 t3:=Tryz.underlying3
 a3:=Tryz.isAgg3
 z3:=Tryz.sizeOf3
 v3:=Tryz.zeroValue3
 t4:=Tryz.underlying4
 a4:=Tryz.isAgg4
 z4:=Tryz.sizeOf4
 v4:=Tryz.zeroValue4
 t24:=Tryz.underlying66
 a24:=Tryz.isAgg66
 z24:=Tryz.sizeOf66
 v24:=Tryz.zeroValue66}
def Tryz.del112_ren:Go.Shelf.Ren:=⟨fun|24=>112|n=>n,fun|24=>66|9=>40|3=>3|4=>4|0=>0|n=>n,fun|n=>n⟩
theorem Tryz.del112:Go.Proofs.DelLay Tryz.prog Tryz.del112_ren:={
 mixed:=by kernel_rfl
 f24:=⟨Tryz.f112.name,by decide,Tryz.func112.trans (congrArg some (by kernel_rfl))⟩
 t0:=Tryz.underlying0
 a0:=Tryz.isAgg0
 z0:=Tryz.sizeOf0
 v0:=Tryz.zeroValue0
 t3:=Tryz.underlying3
 a3:=Tryz.isAgg3
 z3:=Tryz.sizeOf3
 v3:=Tryz.zeroValue3
 t4:=Tryz.underlying4
 a4:=Tryz.isAgg4
 z4:=Tryz.sizeOf4
 v4:=Tryz.zeroValue4
 t24:=Tryz.underlying66
 a24:=Tryz.isAgg66
 z24:=Tryz.sizeOf66
 v24:=Tryz.zeroValue66}
def Tryz.sort113_ren:Go.Shelf.Ren:=⟨fun|6=>113|15=>152|14=>151|28=>183|29=>184|20=>175|21=>176|22=>177|23=>178|24=>179|25=>180|26=>181|27=>182|46=>205|47=>206|48=>207|49=>208|50=>209|57=>218|n=>n,fun|22=>47|24=>73|25=>180|3=>3|39=>213|0=>0|53=>247|55=>249|4=>4|46=>241|45=>240|50=>157|5=>5|9=>9|66=>267|70=>271|76=>278|77=>279|n=>n,fun|n=>n⟩
theorem Tryz.sort113:Go.Proofs.SlLaysF0.n6 Tryz.prog Tryz.sort113_ren:={
 mixed:=by kernel_rfl
 f6:=⟨Tryz.f113.name,by decide,Tryz.func113.trans (congrArg some (by kernel_rfl))⟩
 f14:=⟨Tryz.f151.name,by decide,Tryz.func151.trans (congrArg some (by kernel_rfl))⟩
 f15:=Tryz.func152.trans (congrArg some (by kernel_rfl))
 f20:=⟨Tryz.f175.name,by decide,Tryz.func175.trans (congrArg some (by kernel_rfl))⟩
 f21:=⟨Tryz.f176.name,by decide,Tryz.func176.trans (congrArg some (by kernel_rfl))⟩
 f22:=⟨Tryz.f177.name,by decide,Tryz.func177.trans (congrArg some (by kernel_rfl))⟩
 f23:=⟨Tryz.f178.name,by decide,Tryz.func178.trans (congrArg some (by kernel_rfl))⟩
 f24:=⟨Tryz.f179.name,by decide,Tryz.func179.trans (congrArg some (by kernel_rfl))⟩
 f25:=⟨Tryz.f180.name,by decide,Tryz.func180.trans (congrArg some (by kernel_rfl))⟩
 f26:=⟨Tryz.f181.name,by decide,Tryz.func181.trans (congrArg some (by kernel_rfl))⟩
 f27:=⟨Tryz.f182.name,by decide,Tryz.func182.trans (congrArg some (by kernel_rfl))⟩
 f28:=Tryz.func183.trans (congrArg some (by kernel_rfl))
 f29:=Tryz.func184.trans (congrArg some (by kernel_rfl))
 f46:=⟨Tryz.f205.name,by decide,Tryz.func205.trans (congrArg some (by kernel_rfl))⟩
 f47:=Tryz.func206.trans (congrArg some (by kernel_rfl))
 f48:=Tryz.func207.trans (congrArg some (by kernel_rfl))
 f49:=⟨Tryz.f208.name,by decide,Tryz.func208.trans (congrArg some (by kernel_rfl))⟩
 f50:=⟨Tryz.f209.name,by decide,Tryz.func209.trans (congrArg some (by kernel_rfl))⟩
 f57:=⟨Tryz.f218.name,by decide,Tryz.func218.trans (congrArg some (by kernel_rfl))⟩
 t0:=Tryz.underlying0
 a0:=Tryz.isAgg0
 z0:=Tryz.sizeOf0
 v0:=Tryz.zeroValue0
 t3:=Tryz.underlying3
 a3:=Tryz.isAgg3
 z3:=Tryz.sizeOf3
 v3:=Tryz.zeroValue3
 t4:=Tryz.underlying4
 a4:=Tryz.isAgg4
 z4:=Tryz.sizeOf4
 v4:=Tryz.zeroValue4
 t5:=Tryz.underlying5
 a5:=Tryz.isAgg5
 z5:=Tryz.sizeOf5
 v5:=Tryz.zeroValue5
 t9:=Tryz.underlying9
 a9:=Tryz.isAgg9
 z9:=Tryz.sizeOf9
 v9:=Tryz.zeroValue9
 t22:=Tryz.underlying47
 a22:=Tryz.isAgg47
 z22:=Tryz.sizeOf47
 v22:=Tryz.zeroValue47
 t25:=Tryz.underlying180
 a25:=Tryz.isAgg180
 z25:=Tryz.sizeOf180
 v25:=Tryz.zeroValue180
 t39:=Tryz.underlying213
 a39:=Tryz.isAgg213
 z39:=Tryz.sizeOf213
 v39:=Tryz.zeroValue213
 t45:=Tryz.underlying240
 a45:=Tryz.isAgg240
 z45:=Tryz.sizeOf240
 v45:=Tryz.zeroValue240
 t46:=Tryz.underlying241
 a46:=Tryz.isAgg241
 z46:=Tryz.sizeOf241
 v46:=Tryz.zeroValue241
 t50:=Tryz.underlying157
 a50:=Tryz.isAgg157
 z50:=Tryz.sizeOf157
 v50:=Tryz.zeroValue157
 t53:=Tryz.underlying247
 a53:=Tryz.isAgg247
 z53:=Tryz.sizeOf247
 v53:=Tryz.zeroValue247
 t55:=Tryz.underlying249
 a55:=Tryz.isAgg249
 z55:=Tryz.sizeOf249
 v55:=Tryz.zeroValue249
 t66:=Tryz.underlying267
 a66:=Tryz.isAgg267
 z66:=Tryz.sizeOf267
 v66:=Tryz.zeroValue267
 t70:=Tryz.underlying271
 a70:=Tryz.isAgg271
 z70:=Tryz.sizeOf271
 v70:=Tryz.zeroValue271
 t76:=Tryz.underlying278
 a76:=Tryz.isAgg278
 z76:=Tryz.sizeOf278
 v76:=Tryz.zeroValue278
 t77:=Tryz.underlying279
 a77:=Tryz.isAgg279
 z77:=Tryz.sizeOf279
 v77:=Tryz.zeroValue279}
end Go.Proofs
set_option maxRecDepth 100000
set_option maxHeartbeats 4000000
namespace Go.Ab
abbrev uO:=UInt8.ofNat
def wI:=Go.IntKind.wrap .i64
theorem uOt{x:UInt8}:uO x.toNat=x:=UInt8.ofNat_toNat
end Go.Ab
namespace Prod
variable{a0 b0 c0 d0 e0 f0 g0 h0 i0 j0 k0 l0 m0 n0 o0 p0 q0 r0 s0 t0 u0 v0 w0 x0 y0 z0 A0 B0 C0 D0 E0 F0 G0 H0 I0 J0 K0 L0 M0 N0 O0 P0 Q0 R0 S0 T0 U0 V0 W0 X0 Y0 Z0:Type}
def a(_o:a0×b0×c0):=_o.2.1
def b(_o:a0×b0×c0×d0):=_o.2.2.1
def c(_o:a0×b0×c0×d0×e0):=_o.2.2.2.1
def d(_o:a0×b0×c0×d0×e0×f0):=_o.2.2.2.2.1
def e(_o:a0×b0×c0×d0×e0×f0×g0):=_o.2.2.2.2.2.1
def f(_o:a0×b0×c0×d0×e0×f0×g0×h0):=_o.2.2.2.2.2.2.1
def g(_o:a0×b0×c0×d0×e0×f0×g0×h0×i0):=_o.2.2.2.2.2.2.2.1
def h(_o:a0×b0×c0×d0×e0×f0×g0×h0×i0×j0):=_o.2.2.2.2.2.2.2.2.1
def i(_o:a0×b0×c0×d0×e0×f0×g0×h0×i0×j0×k0):=_o.2.2.2.2.2.2.2.2.2.1
def j(_o:a0×b0×c0×d0×e0×f0×g0×h0×i0×j0×k0×l0):=_o.2.2.2.2.2.2.2.2.2.2.1
def k(_o:a0×b0×c0×d0×e0×f0×g0×h0×i0×j0×k0×l0×m0):=_o.2.2.2.2.2.2.2.2.2.2.2.1
def l(_o:a0×b0×c0×d0×e0×f0×g0×h0×i0×j0×k0×l0×m0×n0):=_o.2.2.2.2.2.2.2.2.2.2.2.2.1
def m(_o:a0×b0×c0×d0×e0×f0×g0×h0×i0×j0×k0×l0×m0×n0×o0):=_o.2.2.2.2.2.2.2.2.2.2.2.2.2.1
def n(_o:a0×b0×c0×d0×e0×f0×g0×h0×i0×j0×k0×l0×m0×n0×o0×p0):=_o.2.2.2.2.2.2.2.2.2.2.2.2.2.2.1
def o(_o:a0×b0×c0×d0×e0×f0×g0×h0×i0×j0×k0×l0×m0×n0×o0×p0×q0):=_o.2.2.2.2.2.2.2.2.2.2.2.2.2.2.2.1
def p(_o:a0×b0×c0×d0×e0×f0×g0×h0×i0×j0×k0×l0×m0×n0×o0×p0×q0×r0):=_o.2.2.2.2.2.2.2.2.2.2.2.2.2.2.2.2.1
def q(_o:a0×b0×c0×d0×e0×f0×g0×h0×i0×j0×k0×l0×m0×n0×o0×p0×q0×r0×s0):=_o.2.2.2.2.2.2.2.2.2.2.2.2.2.2.2.2.2.1
def r(_o:a0×b0×c0×d0×e0×f0×g0×h0×i0×j0×k0×l0×m0×n0×o0×p0×q0×r0×s0×t0):=_o.2.2.2.2.2.2.2.2.2.2.2.2.2.2.2.2.2.2.1
def s(_o:a0×b0×c0×d0×e0×f0×g0×h0×i0×j0×k0×l0×m0×n0×o0×p0×q0×r0×s0×t0×u0):=_o.2.2.2.2.2.2.2.2.2.2.2.2.2.2.2.2.2.2.2.1
def t(_o:a0×b0×c0×d0×e0×f0×g0×h0×i0×j0×k0×l0×m0×n0×o0×p0×q0×r0×s0×t0×u0×v0):=_o.2.2.2.2.2.2.2.2.2.2.2.2.2.2.2.2.2.2.2.2.1
def u(_o:a0×b0×c0×d0×e0×f0×g0×h0×i0×j0×k0×l0×m0×n0×o0×p0×q0×r0×s0×t0×u0×v0×w0):=_o.2.2.2.2.2.2.2.2.2.2.2.2.2.2.2.2.2.2.2.2.2.1
def v(_o:a0×b0×c0×d0×e0×f0×g0×h0×i0×j0×k0×l0×m0×n0×o0×p0×q0×r0×s0×t0×u0×v0×w0×x0):=_o.2.2.2.2.2.2.2.2.2.2.2.2.2.2.2.2.2.2.2.2.2.2.1
def w(_o:a0×b0×c0×d0×e0×f0×g0×h0×i0×j0×k0×l0×m0×n0×o0×p0×q0×r0×s0×t0×u0×v0×w0×x0×y0):=_o.2.2.2.2.2.2.2.2.2.2.2.2.2.2.2.2.2.2.2.2.2.2.2.1
def x(_o:a0×b0×c0×d0×e0×f0×g0×h0×i0×j0×k0×l0×m0×n0×o0×p0×q0×r0×s0×t0×u0×v0×w0×x0×y0×z0):=_o.2.2.2.2.2.2.2.2.2.2.2.2.2.2.2.2.2.2.2.2.2.2.2.2.1
def y(_o:a0×b0×c0×d0×e0×f0×g0×h0×i0×j0×k0×l0×m0×n0×o0×p0×q0×r0×s0×t0×u0×v0×w0×x0×y0×z0×A0):=_o.2.2.2.2.2.2.2.2.2.2.2.2.2.2.2.2.2.2.2.2.2.2.2.2.2.1
def z(_o:a0×b0×c0×d0×e0×f0×g0×h0×i0×j0×k0×l0×m0×n0×o0×p0×q0×r0×s0×t0×u0×v0×w0×x0×y0×z0×A0×B0):=_o.2.2.2.2.2.2.2.2.2.2.2.2.2.2.2.2.2.2.2.2.2.2.2.2.2.2.1
def za(_o:a0×b0×c0×d0×e0×f0×g0×h0×i0×j0×k0×l0×m0×n0×o0×p0×q0×r0×s0×t0×u0×v0×w0×x0×y0×z0×A0×B0×C0):=_o.2.2.2.2.2.2.2.2.2.2.2.2.2.2.2.2.2.2.2.2.2.2.2.2.2.2.2.1
def zb(_o:a0×b0×c0×d0×e0×f0×g0×h0×i0×j0×k0×l0×m0×n0×o0×p0×q0×r0×s0×t0×u0×v0×w0×x0×y0×z0×A0×B0×C0×D0):=_o.2.2.2.2.2.2.2.2.2.2.2.2.2.2.2.2.2.2.2.2.2.2.2.2.2.2.2.2.1
def zc(_o:a0×b0×c0×d0×e0×f0×g0×h0×i0×j0×k0×l0×m0×n0×o0×p0×q0×r0×s0×t0×u0×v0×w0×x0×y0×z0×A0×B0×C0×D0×E0):=_o.2.2.2.2.2.2.2.2.2.2.2.2.2.2.2.2.2.2.2.2.2.2.2.2.2.2.2.2.2.1
def zd(_o:a0×b0×c0×d0×e0×f0×g0×h0×i0×j0×k0×l0×m0×n0×o0×p0×q0×r0×s0×t0×u0×v0×w0×x0×y0×z0×A0×B0×C0×D0×E0×F0):=_o.2.2.2.2.2.2.2.2.2.2.2.2.2.2.2.2.2.2.2.2.2.2.2.2.2.2.2.2.2.2.1
def ze(_o:a0×b0×c0×d0×e0×f0×g0×h0×i0×j0×k0×l0×m0×n0×o0×p0×q0×r0×s0×t0×u0×v0×w0×x0×y0×z0×A0×B0×C0×D0×E0×F0×G0):=_o.2.2.2.2.2.2.2.2.2.2.2.2.2.2.2.2.2.2.2.2.2.2.2.2.2.2.2.2.2.2.2.1
def zf(_o:a0×b0×c0×d0×e0×f0×g0×h0×i0×j0×k0×l0×m0×n0×o0×p0×q0×r0×s0×t0×u0×v0×w0×x0×y0×z0×A0×B0×C0×D0×E0×F0×G0×H0):=_o.2.2.2.2.2.2.2.2.2.2.2.2.2.2.2.2.2.2.2.2.2.2.2.2.2.2.2.2.2.2.2.2.1
def zg(_o:a0×b0×c0×d0×e0×f0×g0×h0×i0×j0×k0×l0×m0×n0×o0×p0×q0×r0×s0×t0×u0×v0×w0×x0×y0×z0×A0×B0×C0×D0×E0×F0×G0×H0×I0):=_o.2.2.2.2.2.2.2.2.2.2.2.2.2.2.2.2.2.2.2.2.2.2.2.2.2.2.2.2.2.2.2.2.2.1
def zh(_o:a0×b0×c0×d0×e0×f0×g0×h0×i0×j0×k0×l0×m0×n0×o0×p0×q0×r0×s0×t0×u0×v0×w0×x0×y0×z0×A0×B0×C0×D0×E0×F0×G0×H0×I0×J0):=_o.2.2.2.2.2.2.2.2.2.2.2.2.2.2.2.2.2.2.2.2.2.2.2.2.2.2.2.2.2.2.2.2.2.2.1
def zi(_o:a0×b0×c0×d0×e0×f0×g0×h0×i0×j0×k0×l0×m0×n0×o0×p0×q0×r0×s0×t0×u0×v0×w0×x0×y0×z0×A0×B0×C0×D0×E0×F0×G0×H0×I0×J0×K0):=_o.2.2.2.2.2.2.2.2.2.2.2.2.2.2.2.2.2.2.2.2.2.2.2.2.2.2.2.2.2.2.2.2.2.2.2.1
def zj(_o:a0×b0×c0×d0×e0×f0×g0×h0×i0×j0×k0×l0×m0×n0×o0×p0×q0×r0×s0×t0×u0×v0×w0×x0×y0×z0×A0×B0×C0×D0×E0×F0×G0×H0×I0×J0×K0×L0):=_o.2.2.2.2.2.2.2.2.2.2.2.2.2.2.2.2.2.2.2.2.2.2.2.2.2.2.2.2.2.2.2.2.2.2.2.2.1
def zk(_o:a0×b0×c0×d0×e0×f0×g0×h0×i0×j0×k0×l0×m0×n0×o0×p0×q0×r0×s0×t0×u0×v0×w0×x0×y0×z0×A0×B0×C0×D0×E0×F0×G0×H0×I0×J0×K0×L0×M0):=_o.2.2.2.2.2.2.2.2.2.2.2.2.2.2.2.2.2.2.2.2.2.2.2.2.2.2.2.2.2.2.2.2.2.2.2.2.2.1
def zl(_o:a0×b0×c0×d0×e0×f0×g0×h0×i0×j0×k0×l0×m0×n0×o0×p0×q0×r0×s0×t0×u0×v0×w0×x0×y0×z0×A0×B0×C0×D0×E0×F0×G0×H0×I0×J0×K0×L0×M0×N0):=_o.2.2.2.2.2.2.2.2.2.2.2.2.2.2.2.2.2.2.2.2.2.2.2.2.2.2.2.2.2.2.2.2.2.2.2.2.2.2.1
def zm(_o:a0×b0×c0×d0×e0×f0×g0×h0×i0×j0×k0×l0×m0×n0×o0×p0×q0×r0×s0×t0×u0×v0×w0×x0×y0×z0×A0×B0×C0×D0×E0×F0×G0×H0×I0×J0×K0×L0×M0×N0×O0):=_o.2.2.2.2.2.2.2.2.2.2.2.2.2.2.2.2.2.2.2.2.2.2.2.2.2.2.2.2.2.2.2.2.2.2.2.2.2.2.2.1
def zn(_o:a0×b0×c0×d0×e0×f0×g0×h0×i0×j0×k0×l0×m0×n0×o0×p0×q0×r0×s0×t0×u0×v0×w0×x0×y0×z0×A0×B0×C0×D0×E0×F0×G0×H0×I0×J0×K0×L0×M0×N0×O0×P0):=_o.2.2.2.2.2.2.2.2.2.2.2.2.2.2.2.2.2.2.2.2.2.2.2.2.2.2.2.2.2.2.2.2.2.2.2.2.2.2.2.2.1
def zo(_o:a0×b0×c0×d0×e0×f0×g0×h0×i0×j0×k0×l0×m0×n0×o0×p0×q0×r0×s0×t0×u0×v0×w0×x0×y0×z0×A0×B0×C0×D0×E0×F0×G0×H0×I0×J0×K0×L0×M0×N0×O0×P0×Q0):=_o.2.2.2.2.2.2.2.2.2.2.2.2.2.2.2.2.2.2.2.2.2.2.2.2.2.2.2.2.2.2.2.2.2.2.2.2.2.2.2.2.2.1
def zp(_o:a0×b0×c0×d0×e0×f0×g0×h0×i0×j0×k0×l0×m0×n0×o0×p0×q0×r0×s0×t0×u0×v0×w0×x0×y0×z0×A0×B0×C0×D0×E0×F0×G0×H0×I0×J0×K0×L0×M0×N0×O0×P0×Q0×R0):=_o.2.2.2.2.2.2.2.2.2.2.2.2.2.2.2.2.2.2.2.2.2.2.2.2.2.2.2.2.2.2.2.2.2.2.2.2.2.2.2.2.2.2.1
def zq(_o:a0×b0×c0×d0×e0×f0×g0×h0×i0×j0×k0×l0×m0×n0×o0×p0×q0×r0×s0×t0×u0×v0×w0×x0×y0×z0×A0×B0×C0×D0×E0×F0×G0×H0×I0×J0×K0×L0×M0×N0×O0×P0×Q0×R0×S0):=_o.2.2.2.2.2.2.2.2.2.2.2.2.2.2.2.2.2.2.2.2.2.2.2.2.2.2.2.2.2.2.2.2.2.2.2.2.2.2.2.2.2.2.2.1
def zr(_o:a0×b0×c0×d0×e0×f0×g0×h0×i0×j0×k0×l0×m0×n0×o0×p0×q0×r0×s0×t0×u0×v0×w0×x0×y0×z0×A0×B0×C0×D0×E0×F0×G0×H0×I0×J0×K0×L0×M0×N0×O0×P0×Q0×R0×S0×T0):=_o.2.2.2.2.2.2.2.2.2.2.2.2.2.2.2.2.2.2.2.2.2.2.2.2.2.2.2.2.2.2.2.2.2.2.2.2.2.2.2.2.2.2.2.2.1
def zs(_o:a0×b0×c0×d0×e0×f0×g0×h0×i0×j0×k0×l0×m0×n0×o0×p0×q0×r0×s0×t0×u0×v0×w0×x0×y0×z0×A0×B0×C0×D0×E0×F0×G0×H0×I0×J0×K0×L0×M0×N0×O0×P0×Q0×R0×S0×T0×U0):=_o.2.2.2.2.2.2.2.2.2.2.2.2.2.2.2.2.2.2.2.2.2.2.2.2.2.2.2.2.2.2.2.2.2.2.2.2.2.2.2.2.2.2.2.2.2.1
def zt(_o:a0×b0×c0×d0×e0×f0×g0×h0×i0×j0×k0×l0×m0×n0×o0×p0×q0×r0×s0×t0×u0×v0×w0×x0×y0×z0×A0×B0×C0×D0×E0×F0×G0×H0×I0×J0×K0×L0×M0×N0×O0×P0×Q0×R0×S0×T0×U0×V0):=_o.2.2.2.2.2.2.2.2.2.2.2.2.2.2.2.2.2.2.2.2.2.2.2.2.2.2.2.2.2.2.2.2.2.2.2.2.2.2.2.2.2.2.2.2.2.2.1
def zu(_o:a0×b0×c0×d0×e0×f0×g0×h0×i0×j0×k0×l0×m0×n0×o0×p0×q0×r0×s0×t0×u0×v0×w0×x0×y0×z0×A0×B0×C0×D0×E0×F0×G0×H0×I0×J0×K0×L0×M0×N0×O0×P0×Q0×R0×S0×T0×U0×V0×W0):=_o.2.2.2.2.2.2.2.2.2.2.2.2.2.2.2.2.2.2.2.2.2.2.2.2.2.2.2.2.2.2.2.2.2.2.2.2.2.2.2.2.2.2.2.2.2.2.2.1
def zv(_o:a0×b0×c0×d0×e0×f0×g0×h0×i0×j0×k0×l0×m0×n0×o0×p0×q0×r0×s0×t0×u0×v0×w0×x0×y0×z0×A0×B0×C0×D0×E0×F0×G0×H0×I0×J0×K0×L0×M0×N0×O0×P0×Q0×R0×S0×T0×U0×V0×W0×X0):=_o.2.2.2.2.2.2.2.2.2.2.2.2.2.2.2.2.2.2.2.2.2.2.2.2.2.2.2.2.2.2.2.2.2.2.2.2.2.2.2.2.2.2.2.2.2.2.2.2.1
def zw(_o:a0×b0×c0×d0×e0×f0×g0×h0×i0×j0×k0×l0×m0×n0×o0×p0×q0×r0×s0×t0×u0×v0×w0×x0×y0×z0×A0×B0×C0×D0×E0×F0×G0×H0×I0×J0×K0×L0×M0×N0×O0×P0×Q0×R0×S0×T0×U0×V0×W0×X0×Y0):=_o.2.2.2.2.2.2.2.2.2.2.2.2.2.2.2.2.2.2.2.2.2.2.2.2.2.2.2.2.2.2.2.2.2.2.2.2.2.2.2.2.2.2.2.2.2.2.2.2.2.1
def zx(_o:a0×b0×c0×d0×e0×f0×g0×h0×i0×j0×k0×l0×m0×n0×o0×p0×q0×r0×s0×t0×u0×v0×w0×x0×y0×z0×A0×B0×C0×D0×E0×F0×G0×H0×I0×J0×K0×L0×M0×N0×O0×P0×Q0×R0×S0×T0×U0×V0×W0×X0×Y0×Z0):=_o.2.2.2.2.2.2.2.2.2.2.2.2.2.2.2.2.2.2.2.2.2.2.2.2.2.2.2.2.2.2.2.2.2.2.2.2.2.2.2.2.2.2.2.2.2.2.2.2.2.2.1
def A(_o:a0×b0×c0):=_o.2.2
def B(_o:a0×b0×c0×d0):=_o.2.2.2
def C(_o:a0×b0×c0×d0×e0):=_o.2.2.2.2
def D(_o:a0×b0×c0×d0×e0×f0):=_o.2.2.2.2.2
def E(_o:a0×b0×c0×d0×e0×f0×g0):=_o.2.2.2.2.2.2
def F(_o:a0×b0×c0×d0×e0×f0×g0×h0):=_o.2.2.2.2.2.2.2
def G(_o:a0×b0×c0×d0×e0×f0×g0×h0×i0):=_o.2.2.2.2.2.2.2.2
def H(_o:a0×b0×c0×d0×e0×f0×g0×h0×i0×j0):=_o.2.2.2.2.2.2.2.2.2
def I(_o:a0×b0×c0×d0×e0×f0×g0×h0×i0×j0×k0):=_o.2.2.2.2.2.2.2.2.2.2
def J(_o:a0×b0×c0×d0×e0×f0×g0×h0×i0×j0×k0×l0):=_o.2.2.2.2.2.2.2.2.2.2.2
def K(_o:a0×b0×c0×d0×e0×f0×g0×h0×i0×j0×k0×l0×m0):=_o.2.2.2.2.2.2.2.2.2.2.2.2
def L(_o:a0×b0×c0×d0×e0×f0×g0×h0×i0×j0×k0×l0×m0×n0):=_o.2.2.2.2.2.2.2.2.2.2.2.2.2
def M(_o:a0×b0×c0×d0×e0×f0×g0×h0×i0×j0×k0×l0×m0×n0×o0):=_o.2.2.2.2.2.2.2.2.2.2.2.2.2.2
def N(_o:a0×b0×c0×d0×e0×f0×g0×h0×i0×j0×k0×l0×m0×n0×o0×p0):=_o.2.2.2.2.2.2.2.2.2.2.2.2.2.2.2
def O(_o:a0×b0×c0×d0×e0×f0×g0×h0×i0×j0×k0×l0×m0×n0×o0×p0×q0):=_o.2.2.2.2.2.2.2.2.2.2.2.2.2.2.2.2
def P(_o:a0×b0×c0×d0×e0×f0×g0×h0×i0×j0×k0×l0×m0×n0×o0×p0×q0×r0):=_o.2.2.2.2.2.2.2.2.2.2.2.2.2.2.2.2.2
def Q(_o:a0×b0×c0×d0×e0×f0×g0×h0×i0×j0×k0×l0×m0×n0×o0×p0×q0×r0×s0):=_o.2.2.2.2.2.2.2.2.2.2.2.2.2.2.2.2.2.2
def S(_o:a0×b0×c0×d0×e0×f0×g0×h0×i0×j0×k0×l0×m0×n0×o0×p0×q0×r0×s0×t0×u0):=_o.2.2.2.2.2.2.2.2.2.2.2.2.2.2.2.2.2.2.2.2
def T(_o:a0×b0×c0×d0×e0×f0×g0×h0×i0×j0×k0×l0×m0×n0×o0×p0×q0×r0×s0×t0×u0×v0):=_o.2.2.2.2.2.2.2.2.2.2.2.2.2.2.2.2.2.2.2.2.2
def U(_o:a0×b0×c0×d0×e0×f0×g0×h0×i0×j0×k0×l0×m0×n0×o0×p0×q0×r0×s0×t0×u0×v0×w0):=_o.2.2.2.2.2.2.2.2.2.2.2.2.2.2.2.2.2.2.2.2.2.2
def V(_o:a0×b0×c0×d0×e0×f0×g0×h0×i0×j0×k0×l0×m0×n0×o0×p0×q0×r0×s0×t0×u0×v0×w0×x0):=_o.2.2.2.2.2.2.2.2.2.2.2.2.2.2.2.2.2.2.2.2.2.2.2
def W(_o:a0×b0×c0×d0×e0×f0×g0×h0×i0×j0×k0×l0×m0×n0×o0×p0×q0×r0×s0×t0×u0×v0×w0×x0×y0):=_o.2.2.2.2.2.2.2.2.2.2.2.2.2.2.2.2.2.2.2.2.2.2.2.2
def X(_o:a0×b0×c0×d0×e0×f0×g0×h0×i0×j0×k0×l0×m0×n0×o0×p0×q0×r0×s0×t0×u0×v0×w0×x0×y0×z0):=_o.2.2.2.2.2.2.2.2.2.2.2.2.2.2.2.2.2.2.2.2.2.2.2.2.2
def Y(_o:a0×b0×c0×d0×e0×f0×g0×h0×i0×j0×k0×l0×m0×n0×o0×p0×q0×r0×s0×t0×u0×v0×w0×x0×y0×z0×A0):=_o.2.2.2.2.2.2.2.2.2.2.2.2.2.2.2.2.2.2.2.2.2.2.2.2.2.2
def ZA(_o:a0×b0×c0×d0×e0×f0×g0×h0×i0×j0×k0×l0×m0×n0×o0×p0×q0×r0×s0×t0×u0×v0×w0×x0×y0×z0×A0×B0×C0):=_o.2.2.2.2.2.2.2.2.2.2.2.2.2.2.2.2.2.2.2.2.2.2.2.2.2.2.2.2
def ZC(_o:a0×b0×c0×d0×e0×f0×g0×h0×i0×j0×k0×l0×m0×n0×o0×p0×q0×r0×s0×t0×u0×v0×w0×x0×y0×z0×A0×B0×C0×D0×E0):=_o.2.2.2.2.2.2.2.2.2.2.2.2.2.2.2.2.2.2.2.2.2.2.2.2.2.2.2.2.2.2
def ZF(_o:a0×b0×c0×d0×e0×f0×g0×h0×i0×j0×k0×l0×m0×n0×o0×p0×q0×r0×s0×t0×u0×v0×w0×x0×y0×z0×A0×B0×C0×D0×E0×F0×G0×H0):=_o.2.2.2.2.2.2.2.2.2.2.2.2.2.2.2.2.2.2.2.2.2.2.2.2.2.2.2.2.2.2.2.2.2
def ZX(_o:a0×b0×c0×d0×e0×f0×g0×h0×i0×j0×k0×l0×m0×n0×o0×p0×q0×r0×s0×t0×u0×v0×w0×x0×y0×z0×A0×B0×C0×D0×E0×F0×G0×H0×I0×J0×K0×L0×M0×N0×O0×P0×Q0×R0×S0×T0×U0×V0×W0×X0×Y0×Z0):=_o.2.2.2.2.2.2.2.2.2.2.2.2.2.2.2.2.2.2.2.2.2.2.2.2.2.2.2.2.2.2.2.2.2.2.2.2.2.2.2.2.2.2.2.2.2.2.2.2.2.2.2
end Prod
namespace Go.Ab.D
abbrev ti:Ty:=.int .i64
abbrev ki:Kd:=.p ti
abbrev kb:Kd:=.p .bool
abbrev ks:Kd:=.p .str
abbrev lc(l:List Kd)(r:KdL):KdL:=l.foldr .cons r
abbrev ln(l:List Kd):=lc l .nil
abbrev tw(l:List Ov)(r:Ov):=l.foldr .two r
abbrev oN:=Option
open Go.Proofs Go.Proofs.Tryz
open Go Go.Ab
noncomputable section
abbrev qY0:Ty:=(.pair ti (.pair ti (.pair .bool (.pair .bool (.pair ti (.pair (.sl (.pair ti ti)) (.pair ti (.sl (.pair .str ti)))))))))
abbrev qT1:Type:=(Int×Int×Bool×Bool×Int×List ((Int×Int))×Int×List ((List UInt8×Int)))
abbrev qY2:Ty:=(.pair ti (.pair ti (.pair ti (.pair (.pair ti ti) (.pair .bool (.pair ti (.pair (.sl .byte) (.pair (.sl (.pair .str ti)) (.pair .bool ti)))))))))
abbrev qT3:Type:=(Int×Int×Int×(Int×Int)×Bool×Int×List (UInt8)×List ((List UInt8×Int))×Bool×Int)
abbrev qB4:BKd:=(.vars (ln [.p (.sl qY0),ki,.p (.sl (.sl .byte)),ki,ki,.p (.int .u8),ki,ki,ks,ki,ki,ks,ki,ki,.p (.sl .byte),ki,ki,ki,ki,ki,kb,ki,.nilp (.slice none 0 0),.nilp (.slice none 0 0),kb,ki]))
abbrev qY5:Ty:=(.pair ti ti)
abbrev qL6:KdL:=(ln [ki])
abbrev qB7:BKd:=(.vars (lc [ki,.p (.sl qY0),ki,ki,.p (.sl (.pair ti (.pair ti (.sl qY2)))),.p (.sl (.pair ti (.sl ti))),.p (.sl qY5),.mp 1,ki] qL6))
abbrev qY8:Ty:=(.pair ti (.pair ti (.pair .bool (.pair .bool (.pair ti (.pair (.sl qY5) (.pair ti (.ref 1 (.pair .str ti)))))))))
abbrev qT9:Type:=(Int×Int×UInt8×(Int×Int)×List UInt8×(Int×Int)×List UInt8×Int×Int×List (UInt8))
abbrev hY:Type:=(Int×List (qT1)×Int×Int×List ((Int×Int×List (qT3)))×List ((Int×List (Int)))×List ((Int×Int))×Int×Int×(List ((((Int×Int)×List (UInt8))×Nat))×Nat)×(List (((Int×Int)×Nat))×Nat)×List (((Int×Int)×Nat))×Nat)
abbrev mF:Ty:=(.pair ti (.pair ti (.pair .byte (.pair qY5 (.pair .str (.pair qY5 (.pair .str (.pair ti (.pair ti (.sl .byte))))))))))
abbrev AL:KdL:=(lc [ki,ki,ki,ki,ki,kb,ki,.p (.sl .byte),.p (.sl (.pair .str ti)),kb] qL6)
abbrev SX:KdL:=(lc [ki,ki,ki,ki,ki,kb,ki,.nilp (.slice none 0 0),.nilp (.slice none 0 0),kb] qL6)
abbrev iP:Type:=(Int×List (qT1)×Int×Int×List ((Int×Int×List (qT3)))×List ((Int×List (Int)))×List ((Int×Int))×Int×Int×(List ((((Int×Int)×List (UInt8))×Nat))×Nat)×List (((Int×Int)×Nat))×Nat)
abbrev eA:Type:=((Int×Int×Bool×Bool×Int×List ((Int×Int))×Int×(List ((List UInt8×Int))⊕Option (Nat×Nat×Nat))))
abbrev AM:Ty:=(.pair ti (.pair (.pair (.sl qY0) ti) (.pair (.pair ti (.sl (.pair ti (.pair ti (.sl qY2))))) (.pair (.sl (.pair ti (.sl ti))) (.sl qY5)))))
abbrev IK:KdL:=(ln [ki,ki,kb,kb,ki,.p (.sl qY5),ki,.p (.sl (.pair .str ti))])
abbrev gC:Type:=(Int×(List (qT1)×Int)×(Int×List ((Int×Int×List (qT3))))×List ((Int×List (Int)))×List ((Int×Int)))
abbrev fY:Ty:=(.pair ti (.pair qY5 ti))
abbrev bS:Type:=((Int×(Int×Int)×Int))
abbrev rV:Type:=(List (qT1)×Int×List (List (UInt8))×Int×Int×Int×Int×Int×List UInt8×Int×Int×List UInt8×Int×Int×List (UInt8)×Int×Int×Int×Int×Int×Bool×Int×Bool×Int)
abbrev bX:Type:=((Int×Int×List (qT3)))
abbrev kK:Ty:=(.sl (.pair ti (.pair ti (.sl qY2))))
abbrev IL:Type:=(Int×List (qT1)×Int×List (List (UInt8))×Int×Int×Int×Int×Int×List UInt8×Int×Int×List UInt8×Int×Int×List (UInt8)×Int×Int×Int×Int×Int×Int×Bool×Int×Bool×Int×List (qT1)×Int×List (List (UInt8))×Int×Int×Int×Int×Int×List UInt8×Int×Int×List UInt8×Int×Int×List (UInt8)×Int×Int×Int×Int×Int×Bool×Int×List (UInt8)×List ((List UInt8×Int))×Bool×Int)
abbrev TR:BKd:=(.vars (lc [.p (.sl qY0),ki,.p (.sl (.sl .byte)),ki,ki,.p (.int .u8),ki,ki,ks,ki,ki,ks,ki,ki,.p (.sl .byte)] AL))
abbrev bZ:Type:=(List (((Int×Int)×Nat))×Nat)
abbrev jH:Type:=(List ((((Int×Int)×List (UInt8))×Nat))×Nat)
abbrev CZ:Ty:=(.pair ti (.pair ti (.pair .bool (.pair .bool (.pair ti (.pair (.ref 0 qY5) (.pair ti (.ref 2 (.pair .str ti)))))))))
abbrev tM:Type:=((Int×Int×Bool×Bool×Int×(List ((Int×Int))⊕Option (Nat×Nat×Nat))×Int×(List ((List UInt8×Int))⊕Option (Nat×Nat×Nat))))
abbrev UH:BKd:=(.vars (lc [ki,.p (.sl qY0),ki,ki,.p kK,.p (.sl (.pair ti (.sl ti))),.p (.sl qY5),.mp 102,ki] qL6))
abbrev FF:Type:=(Int×List (qT1)×Int×Int×List bX×List ((Int×List (Int)))×List ((Int×Int))×Int×Int×jH×List (qT9)×Int×Int×Int×Int×Int×Bool×Int×Bool×Int×List ((Int×qT3×List bS×List bS))×List (List (UInt8))×List (Int))
abbrev SY:BKd:=(.vars (ln [ki,ki,.p (.int .u8),ki,ki,ks,ki,ki,ks,ki,ki,.p (.sl .byte)]))
abbrev VD:Type:=(Int×Int×Int×Int×Int×List UInt8×Int×Int×List UInt8×Int×Int×List (UInt8)×Int×Int×Int×Int×Int×Int×Bool×Int×Bool×Int×Int×List (qT1)×List (List (UInt8)))
abbrev cU:Type:=((Nat×List ((List UInt8×Int))))
abbrev qR:Type:=(Int×Int×Int×Int×Int×Bool×Int×List (UInt8)×List ((List UInt8×Int))×Bool×Int)
abbrev tN:BKd:=(.map ti ti)
abbrev TS:KdL:=(ln [ki,.p (.sl qY0),ki,ki,.p kK,.p (.sl (.pair ti (.sl ti))),.p (.sl qY5)])
abbrev qS:Type:=(Int×Int×(List (qT3)⊕Option (Nat×Nat×Nat)))
abbrev FG:Ty:=(.pair ti (.pair ti (.pair .bool (.pair .bool (.pair ti (.pair (.ref 0 qY5) (.pair ti (.sl (.pair .str ti)))))))))
abbrev KD:Type:=(List (qT1)×Int×List (List (UInt8))×Int×Int×Int×Int×Int×List UInt8×Int×Int×List UInt8×Int×Int×List (UInt8)×Int×Int×Int×Int×Int×Bool×Int×List (UInt8)×List ((List UInt8×Int))×Bool×Int×Int×Int×List (qT1)×List (List (UInt8)))
abbrev KE:Type:=(Int×List (qT1)×Int×Int×List bX×List ((Int×List (Int)))×List ((Int×Int))×Int×Int×jH×List (qT9)×Int×Int×Int×Int×Int×Bool×Int×Bool×Int×List ((Int×qT3×List bS×List bS))×List (List (UInt8))×List (Int)×Int×Int×Int×Int)
abbrev SZ:BKd:=(.vars (ln [ki,.nilp (.slice none 0 0),ki,ki,.nilp (.slice none 0 0),.nilp (.slice none 0 0),.nilp (.slice none 0 0)]))
abbrev TA:KdL:=(ln [kb,kb,kb,kb,ki,kb])
abbrev FH:KdL:=(ln [ki,.nilp (.slice none 0 0)])
abbrev TT:BKd:=(.fam 118 (.pair .str ti))
abbrev VE:BKd:=(.rows 123 (.pair ti (.sl ti)))
abbrev mG:Ty:=(.pair ti (.pair ti (.ref 1 qY2)))
abbrev KF:Type:=(Int×List (qT1)×Int×Int×List bX×List ((Int×List (Int)))×List ((Int×Int))×Int×Int×jH×List (qT9)×Int×Int×Int×Int×Int×Bool×Int×Bool×Int×List ((Int×qT3×List bS×List bS))×List (List (UInt8)))
abbrev IM:BKd:=(.rows 59 (.pair ti (.pair qY2 (.pair (.sl fY) (.sl fY)))))
abbrev DC:Type:=(Int×Int×Int×List ((Int×Int))×List (qT1)×List (qS)×List ((Int×List (Int)))×Int×Int×Int×List ((Nat×List (qT3))))
abbrev IN:Type:=(bZ×Int×List (qT1)×Int×Int×List bX×List ((Int×List (Int)))×List ((Int×Int))×Int×Int×jH×List (((List (qT1)×Int)×List (List (UInt8))))×List ((Int×Int)))
abbrev TB:BKd:=(.vars (ln [ki,.slf 8 1,ki,ki,.p kK,.slf 2 2,.slf 2 3,ki,.slf 2 101]))
abbrev AN:Type:=(Int×Int×Int×List bX×Int×List (qT1)×List ((Int×List (Int)))×List ((Int×Int))×List ((Int×Int)))
abbrev KG:Type:=(Int×Int×Int×Int×Int×Bool×Int×List (UInt8)×List ((List UInt8×Int))×Bool×Int×Bool×Int×List (qT1)×Int×Int×List bX×List ((Int×List (Int)))×List ((Int×Int))×Int×Int×jH)
abbrev OB:BKd:=(.vars (lc [.nilp (.slice none 0 0)] qL6))
abbrev AO:Type:=(Int×Int×List (qT1)×Int×Int×List bX×List ((Int×List (Int)))×List ((Int×Int))×bZ)
abbrev DD:Type:=((Int×Int×Bool×Bool×Int×(List ((Int×Int))⊕Option (Nat×Nat×Nat))×Int×List ((List UInt8×Int))))
abbrev qT:KdL:=(lc [ki] qL6)
abbrev TU:BKd:=(.vars (lc [.p (.sl qY0)] qL6))
abbrev qU:Ty:=(.pair (.sl qY0) ti)
abbrev oM:KdL:=(ln [.own 0 0 0 0])
abbrev lD:Type:=(Int×qT3×List bS×List bS)
abbrev OC:Type:=(bZ×Int×List (qT1)×Int×Int×List bX×List ((Int×List (Int)))×List ((Int×Int))×Int×Int×jH×List (((List (qT1)×Int)×List (List (UInt8))))×List ((Int×Int))×List (qT9))
abbrev TV:BKd:=(.vars (ln [ki,ki,.p (.sl qY2)]))
abbrev KH:Type:=(Int×Int×Int×Int×List bX×Int×List (qT1)×List ((Int×List (Int)))×List ((Int×Int))×List ((Int×Int))×List (qT1)×Int)
abbrev VF:KdL:=(ln [.own 0 100 0 0,kb])
abbrev IP:KdL:=(ln [.own 0 0 0 0,.own 0 1 0 0,.own 0 2 0 0])
abbrev IQ:KdL:=(ln [.own 0 100 0 0,.own 0 101 0 0])
abbrev yS:BKd:=(.rows 118 (.pair .str ti))
abbrev TW:BKd:=(.vars (ln [.p (.sl qY0),ki,.p (.sl (.sl .byte))]))
abbrev UI:BKd:=(.vars (ln [ki,.slf 8 102,ki,ki,.slf 3 105,.slf 2 103,.p (.sl qY5)]))
abbrev UJ:BKd:=(.vars (ln [.fn 97 .nil (ln [.own 8 1 0 0,.own 0 2 0 0,.own 0 3 0 0,.own 0 4 0 0])]))
abbrev xK:KdL:=(ln [.own 0 1 0 0])
abbrev lE:Type:=((Nat×List ((Int×Int))))
abbrev KI:BKd:=(.vars (ln [ks]))
abbrev TC:Type:=(Int×List (qT1)×Int×Int×List bX×List ((Int×List (Int)))×List ((Int×Int))×Int×Int×jH×List (qT9)×Int×Int×Int×Int×Int×Bool×Int×Bool×Int×List (Int))
abbrev OD:Type:=(Int×Int×Int×List bX×Int×List (qT1)×List ((Int×List (Int)))×List ((Int×Int))×List ((Int×Int))×List ((Int×Int)))
abbrev TX:BKd:=(.vars (lc [.slf 8 102] qL6))
abbrev lF:Type:=(Int×List (qT1)×Int)
abbrev xL:Type:=(Bool×Bool×Bool×Bool×Int×Bool)
abbrev uW:Type:=(List ((List UInt8×Int))×List UInt8)
abbrev UK:BKd:=(.vars (ln [.mp 3]))
abbrev IR:KdL:=(lc [.nilp (.slice none 0 0)] FH)
abbrev xM:Type:=(List (qT1)×Int×List (List (UInt8)))
abbrev OE:Type:=(Int×Int×Int×List bX×List ((Int×Int))×List (qT1)×List ((Int×List (Int)))×Int×Int×Int)
abbrev DF:Type:=(Int×List (qS)×Int×List ((Nat×List (qT3))))
abbrev TY:BKd:=(.vars (lc [.slf 8 1,ki,.slf 1 2,ki,ki,.p (.int .u8),ki,ki,ks,ki,ki,ks,ki,ki,.p (.sl .byte)] SX))
abbrev UL:BKd:=(.vars (ln [ki,.p kK]))
abbrev uX:Type:=(Int×List ((Int×Int))×Int)
abbrev OF:KdL:=(ln [.own 0 100 0 0,.own 0 101 0 0,kb])
abbrev AP:BKd:=(.vars (ln [.nilp (.slice none 0 0)]))
abbrev IS:Type:=(Int×Int×Int×Int×Int×Bool×Int×Bool×Int)
theorem mixed:Tryz.prog.follows .mixedOrders=true:=by kernel_rfl
abbrev lf:Ov:=.leaf
abbrev zaR:KdL:=.nil
abbrev zaa:KdL:=(lc [kb] zaR)
abbrev zab:Ov:=(.two lf lf)
abbrev zac:Ov:=(.reg [(0,{ids:=[100]})])
abbrev zad:Ov:=(.reg [(0,{ids:=[100]}),(1,{ids:=[101]})])
abbrev zae:Nat×Bool×BKd:=(0,false,(.vars qL6))
abbrev zaf:Nat×Bool×BKd:=(1,false,(.map qY5 (.sl .byte)))
abbrev zag:HK:=[(0,false,(.vars (ln [.slf 1 1]))),(1,false,(.rows 3 ti)),(2,false,TU),(3,false,(.vars IK))]
abbrev zbz:Nat×Bool×BKd:=(0,false,(.vars (ln [.mp 108])))
abbrev zdL:Nat×Bool×BKd:=(108,false,tN)
abbrev zeE:Nat×Bool×BKd:=(103,false,UH)
abbrev zcn:Nat×Bool×BKd:=(102,false,(.map qY5 (.sl .byte)))
abbrev zbw:Nat×Bool×BKd:=(106,false,(.rows 30 (.pair qU (.sl (.sl .byte)))))
abbrev zah:HK:=[zbz,zdL,zeE,zcn,zbw,(107,false,(.rows 33 qY5)),(109,false,(.rows 36 mF))]
abbrev zcW:Nat×Bool×BKd:=(0,false,(.vars (ln [.mp 1])))
abbrev zbP:Nat×Bool×BKd:=(2,false,(.vars qL6))
abbrev zai:HK:=[zcW,(1,false,tN),zbP]
abbrev zaj:Nat×Bool×BKd:=(999985,false,TT)
abbrev zcf:Nat×Bool×BKd:=(999985,false,(.fam 40 qY2))
abbrev zak:HK:=[(100,false,(.vars (ln [ki,.slf 3 102]))),(102,false,(.rows 141 mG)),(101,false,(.vars FH)),zcf]
abbrev zal:Ov:=(tw [.reg [(0,{ids:=[100]}),(2,{ids:=[101]})]] lf)
abbrev zbl:Ov:=(.reg [(2,{ids:=[102]})])
abbrev ze1:KdL:=(lc [.own 0 101 0 0] qL6)
abbrev zaQ:KdL:=(lc [.own 0 100 0 0] ze1)
abbrev zdK:Nat×Bool×BKd:=(100,false,TX)
abbrev zcZ:Nat×Bool×BKd:=(102,false,(.rows 71 qY0))
abbrev zaX:Nat×Bool×BKd:=(101,false,OB)
abbrev zbx:HK:=[zdK,zcZ,zaX]
abbrev zfC:dM:=⟨[1,2],⟨IQ,zbx⟩⟩
abbrev zam:Ov:=(tw [zbl,.two lf (.one (.loop ⟨[1,2,11],⟨zaQ,zbx⟩⟩ false [(0,zfC)] (tw [lf,lf,.one (.two lf (.reg [(12,{ids:=[103],fn:=1}),(19,{ids:=[104],fn:=2})]))] lf)))] lf)
abbrev zan:Nat×Bool×BKd:=(1,false,(.vars qL6))
abbrev zao:HK:=[(100,false,UI),zcZ,(105,false,(.rows 141 mG)),(103,false,VE),(101,false,SZ),zcf]
abbrev zap:Ov:=(.reg [(0,{ids:=[100]}),(1,{ids:=[101]}),(2,{ids:=[102]})])
abbrev zaq:Nat×Bool×BKd:=(0,false,(.rows 73 qY5))
abbrev zar:Nat×Bool×BKd:=(1,false,(.rows 71 qY0))
abbrev zfQ:Nat×Bool×BKd:=(0,true,TR)
abbrev zct:Nat×Bool×BKd:=(102,false,(.vars (ln [.slf 8 101,ki,.slf 1 103])))
abbrev zcX:Nat×Bool×BKd:=(101,false,(.rows 71 qY0))
abbrev zdg:Nat×Bool×BKd:=(103,false,(.rows 34 (.sl .byte)))
abbrev zas:HK:=[zfQ,(100,false,(.vars IR)),zct,zcX,zdg]
abbrev zat:HK:=[zbz,zdL,zeE,zcn,zbw,(107,false,(.rows 33 qY5))]
abbrev zau:Ov:=(.two lf zab)
abbrev zbv:Nat×Bool×BKd:=(0,false,qB7)
abbrev zbV:Nat×Bool×BKd:=(100,false,(.rows 36 mF))
abbrev zbr:Nat×Bool×BKd:=(101,false,(.vars SX))
abbrev zcI:Nat×Bool×BKd:=(102,false,IM)
abbrev zdh:Nat×Bool×BKd:=(108,false,(.rows 34 (.sl .byte)))
abbrev zbW:Nat×Bool×BKd:=(109,false,(.rows 3 ti))
abbrev zav:HK:=[zbv,zaf,zbV,zbr,zcI,zdh,zbW,(110,false,(.vars (lc [ki,ki] qT)))]
abbrev zfk:Nat×Bool×BKd:=(2,false,UK)
abbrev zfl:Nat×Bool×BKd:=(3,false,tN)
abbrev zbY:HK:=[zbv,zaf,zfk,zfl,(104,false,tN)]
abbrev zaw:dM:=⟨[0,5,12],⟨(lc [.own 0 0 0 0,.own 0 2 0 0,.mp 104] zaR),zbY⟩⟩
abbrev zdO:Shp:=⟨qT,[]⟩
abbrev za1:Shp:=⟨qL6,[]⟩
abbrev zfe:Ov:=(tw [.reg [(11,{})]] lf)
abbrev zax:Ov:=(tw [lf,lf,.one (.loop ⟨[9,10],zdO⟩ false [(0,⟨[9],za1⟩)] (.two zab (.one (tw [lf,.reg [(6,{})]] (.join ⟨[9,10],zdO⟩ false [] lf)))))] zfe)
abbrev zay:List Shp:=[⟨zaa,[]⟩]
abbrev zaz:HK:=[zae,(1,false,(.vars TS)),zfk,zfl]
abbrev zaA:HK:=[zae,zan,(2,false,(.vars (ln [.slf 1 3]))),(3,false,(.rows 5 .byte))]
abbrev zaB:Nat×Bool×BKd:=(999984,false,(.fam 73 qY5))
abbrev zbg:Shp:=⟨zaR,[]⟩
abbrev zca:List (Nat×dM):=[(0,⟨[],zbg⟩)]
abbrev zcF:Ov:=(tw [lf,lf,.one (tw [lf,.reg [(5,{})]] zab)] lf)
abbrev zaC:Ov:=(tw [.two lf (.one (.loop ⟨[8],za1⟩ true zca zcF))] lf)
abbrev zaD:HK:=[zbv,zaf,zbV,zbr,zcI,zdh,zbW]
abbrev zb5:Nat×Bool×BKd:=(2,false,VE)
abbrev zbA:Nat×Bool×BKd:=(3,false,(.rows 73 qY5))
abbrev zd8:Nat×Bool×BKd:=(101,false,(.rows 73 qY5))
abbrev zdd:Nat×Bool×BKd:=(4,false,(.rows 71 qY0))
abbrev zeD:Nat×Bool×BKd:=(100,false,(.vars (lc [.slf 8 4] qL6)))
abbrev zaE:HK:=[(0,false,TB),zar,zb5,zbA,zd8,zdd,zeD]
abbrev zaF:HK:=[(0,false,qB4)]
abbrev zde:Nat×Bool×BKd:=(4,false,(.rows 73 qY5))
abbrev zaG:HK:=[(0,false,(.vars (ln [ki,.slf 8 1,ki,ki,.p kK,.slf 2 2,.slf 2 100,ki,.slf 2 4]))),zar,zb5,(100,false,(.rows 73 qY5)),zde]
abbrev zaH:HK:=[(0,false,(.vars (ln [ki,.slf 8 1,ki,ki,.p kK,.slf 2 2,.slf 2 3,ki,.slf 2 4]))),zar,zb5,zbA,zde]
abbrev zaI:Shp:=⟨(lc [.own 0 0 0 0,.own 0 2 0 0,.mp 104] qL6),zbY⟩
abbrev zaJ:KdL:=(lc [.agg (lc [.slf 8 0] qL6)] zaR)
abbrev zfh:Nat×Bool×BKd:=(0,false,UJ)
abbrev zbn:Nat×Bool×BKd:=(1,true,(.rows 71 qY0))
abbrev zbC:Nat×Bool×BKd:=(100,false,(.rows 99 fY))
abbrev zeq:Nat×Bool×BKd:=(5,true,(.rows 36 mF))
abbrev zdJ:Nat×Bool×BKd:=(6,false,(.vars qL6))
abbrev zb8:Nat×Bool×BKd:=(7,false,(.vars qL6))
abbrev zaK:HK:=[zfh,zbn,zbP,(3,false,(.vars (ln [.slf 4 100]))),zbC,(4,false,(.vars (ln [.slf 4 101]))),(101,false,(.rows 99 fY)),zeq,zdJ,zb8]
abbrev zcy:KdL:=(lc [.own 0 102 0 0] zaa)
abbrev zaT:Nat×Bool×BKd:=(100,false,TU)
abbrev zc5:Nat×Bool×BKd:=(101,false,tN)
abbrev zep:Nat×Bool×BKd:=(102,false,(.vars IK))
abbrev zaL:Shp:=⟨(lc [.own 0 100 0 0,.mp 101] zcy),[zaT,zc5,zep]⟩
abbrev zaM:Nat×Bool×BKd:=(0,false,(.vars (ln [.fn 97 .nil (ln [.own 8 1 0 0,.own 0 2 0 0,.own 0 3 0 0,.own 0 5 0 0])])))
abbrev zaN:Nat×Bool×BKd:=(102,false,(.vars (lc [ki,ki,kb,kb,ki] IR)))
abbrev zeN:Nat×Bool×BKd:=(0,false,(.vars (lc [.slf 8 1] qL6)))
abbrev zb1:Nat×Bool×BKd:=(999986,false,TT)
abbrev zaO:HK:=[zeN,(1,false,(.rows 71 CZ)),zaB,zb1]
abbrev zfd:KdL:=(lc [.own 0 104 0 0] qL6)
abbrev zcB:Nat×Bool×BKd:=(103,false,(.vars SX))
abbrev zaP:dM:=⟨[2,3,4,5,6,8],⟨(lc [.own 0 100 0 0,.own 0 101 0 0,.own 0 102 0 0,.own 0 103 0 0] zfd),[(100,false,TW),(101,false,SY),(102,false,(.vars IR)),zcB,(104,false,TR)]⟩⟩
abbrev zaS:HK:=[zbv,zaf,zbV,zbr,zcI,zdg]
abbrev zaU:Nat×Bool×BKd:=(100,false,(.rows 49 AM))
abbrev zaV:HK:=[(0,false,yS),(1,false,KI)]
abbrev zaW:Ov:=(.reg [(0,{ids:=[100]}),(1,{ids:=[101]}),(2,{ids:=[102]}),(3,{ids:=[103]})])
abbrev zaY:Nat×Bool×BKd:=(0,true,(.rows 71 qY8))
abbrev zaZ:HK:=[zeN,(1,false,(.rows 71 qY8)),zaj]
abbrev za0:Nat×Bool×BKd:=(0,false,(.rows 71 qY0))
abbrev zdE:KdL:=(lc [.p (.sl qY5)] qL6)
abbrev za2:KdL:=(lc [.agg (lc [.p (.sl qY0)] qL6)] zdE)
abbrev za3:HK:=[(100,false,(.vars (ln [ki,.slf 8 102,ki,ki,.p kK,.slf 2 103,.p (.sl qY5)]))),zcZ,(103,false,VE),(101,false,SZ)]
abbrev za4:KdL:=(lc [.fn 99 .nil (ln [.own 0 0 0 0,.own 12 5 0 0,.own 0 6 0 0,.own 0 7 0 0])] zaR)
abbrev zdb:Nat×Bool×BKd:=(101,false,(.vars qT))
abbrev zcz:Nat×Bool×BKd:=(102,false,(.vars qT))
abbrev za5:Shp:=⟨(lc [.own 0 100 0 0,.own 0 101 0 0,.own 0 102 0 0,.own 0 103 0 0,.slf 8 105] zaa),[zaT,zdb,zcz,(103,false,OB),(105,false,(.rows 71 qY0))]⟩
abbrev zfT:KdL:=(lc [.slf 1 109] zaR)
abbrev za6:dM:=⟨[0,3,4,14],⟨(lc [.own 0 0 0 0,.own 12 100 0 0,.own 0 101 0 0] zfT),[zbv,zaf,zbV,zbr,zbW]⟩⟩
abbrev za7:Shp:=⟨(lc [.agg (ln [ki,.slf 8 0,ki,ki,.p kK,.slf 2 1,.slf 2 2])] zaR),[za0,(1,false,VE),(2,false,(.rows 73 qY5))]⟩
abbrev za8:HK:=[(101,false,SY),(102,false,(.vars IR)),zcB,(107,false,(.vars (ln [.slf 8 106,ki,.slf 1 108]))),(106,false,(.rows 71 qY0)),zdh]
abbrev za9:Shp:=⟨(lc [.p qU] zaR),[]⟩
abbrev zba:List Shp:=[⟨(lc [.agg TA] zaR),[]⟩]
abbrev zbb:dM:=⟨[0,3,4,6,13,14,16,17],⟨(lc [.own 0 0 0 0,.own 12 100 0 0,.own 0 101 0 0,.own 14 102 0 0,.slf 1 108,.slf 1 109,.own 0 110 0 0] zaa),zav⟩⟩
abbrev zbc:Nat×Bool×BKd:=(102,false,(.vars (ln [.slf 1 101])))
abbrev zbd:Ov:=(.join ⟨[2,10,11,12,14],⟨(lc [.fn 21 .nil oM,.own 0 103 0 0,.own 3 106 0 0,.slf 2 107,.own 12 109 0 0] zaR),zah⟩⟩ false [] (tw [.reg [(8,{})]] lf))
abbrev zbe:KdL:=(lc [.fn 75 .nil (ln [.own 0 0 0 0,.own 0 2 0 0,.own 0 3 0 0])] zaR)
abbrev zfU:KdL:=(lc [.slf 1 100] zaR)
abbrev zce:HK:=[zae,(100,false,(.rows 5 .byte))]
abbrev zbf:dM:=⟨[2,7],⟨(lc [.own 0 0 0 0] zfU),zce⟩⟩
abbrev zbh:HK:=[(101,false,(.vars IR)),(103,false,(.vars (ln [.slf 8 102,ki,.slf 1 104]))),zcZ,(104,false,(.rows 34 (.sl .byte)))]
abbrev zbi:HK:=[(0,false,(.rows 71 qY8)),zaj]
abbrev zbj:KdL:=(lc [ks] zaR)
abbrev zbk:HK:=[(100,false,(.vars (ln [ki,.p (.sl ti)])))]
abbrev zbm:HK:=[zdK,(102,false,(.rows 71 qY8)),zaX,zaj]
abbrev zbo:KdL:=(lc [ki] zaa)
abbrev zbp:HK:=[zbv,zaf,(2,false,(.vars (ln [.mp 104]))),(104,false,tN)]
abbrev zbq:KdL:=(lc [.fn 169 .nil (ln [.own 0 0 0 0,.own 0 2 0 0])] zaR)
abbrev zbs:Nat×Bool×BKd:=(3,false,(.vars (ln [.slf 4 4])))
abbrev zbt:KdL:=(lc [.own 0 100 0 0,.own 0 101 0 0,.slf 8 102] qL6)
abbrev zbu:Nat×Bool×BKd:=(101,false,(.rows 3 ti))
abbrev zby:Nat×Bool×BKd:=(106,false,(.vars (ln [.fn 97 .nil (ln [.own 8 100 0 0,.own 0 101 0 0,.own 0 104 0 0,.own 0 105 0 0])])))
abbrev zbB:KdL:=(lc [.agg (lc [.slf 8 0] qL6),.own 0 101 0 0,.own 0 103 0 0,.ownx 8 102 0,.slf 2 620083] zaR)
abbrev zbD:KdL:=(lc [.slf 2 0] zaR)
abbrev zbE:Shp:=⟨oM,zaF⟩
abbrev zbF:KdL:=(lc [ki,ks] qL6)
abbrev zec:HK:=[za0,(1,false,(.rows 34 (.sl .byte)))]
abbrev zbG:Shp:=⟨(lc [.agg (ln [.slf 8 0,ki,.slf 1 1])] zaR),zec⟩
abbrev zbH:KdL:=(lc [.own 0 100 0 0] qL6)
abbrev zbI:KdL:=(lc [.own 0 100 0 0] zaR)
abbrev zfc:HK:=[zaq,zan]
abbrev zbJ:Shp:=⟨(lc [.slf 2 0,.fn 54 .nil xK] qL6),zfc⟩
abbrev zbK:Shp:=⟨(lc [.slf 2 0,.fn 54 .nil xK] zaR),zfc⟩
abbrev zbL:KdL:=(lc [.fn 21 .nil oM,.own 0 103 0 0,.own 3 106 0 0,.slf 2 107,.own 12 109 0 0] zaa)
abbrev zbM:Nat×Bool×BKd:=(4,false,(.rows 99 fY))
abbrev zdl:KdL:=(lc [.fn 168 .nil (lc [.own 0 0 0 0] xK)] zaR)
abbrev zb0:HK:=[(0,false,KI),zan]
abbrev zbN:Shp:=⟨(lc [.p (.sl (.pair .str ti))] zdl),zb0⟩
abbrev zbO:HK:=[zae,(1,false,TV)]
abbrev zbQ:KdL:=(lc [.p (.sl (.pair ti (.sl ti)))] zaR)
abbrev zbR:Shp:=⟨(lc [.slf 2 0,.fn 196 .nil xK] qL6),zaV⟩
abbrev zbS:Shp:=⟨(lc [.slf 2 0,.fn 196 .nil xK] zaR),zaV⟩
abbrev zd6:Ov:=(.reg [(2,{})])
abbrev zbT:Ov:=(.two zd6 lf)
abbrev zbU:Nat×Bool×BKd:=(101,false,(.rows 36 mF))
abbrev zey:KdL:=(lc [.p (.sl (.sl .byte))] zaR)
abbrev zbX:KdL:=(lc [.p (.sl fY)] zey)
abbrev zbZ:Nat×Bool×BKd:=(2,false,(.vars (ln [.slf 4 3])))
abbrev zb2:Shp:=⟨OF,[(100,false,SY),(101,false,(.vars TA))]⟩
abbrev zb3:KdL:=(lc [.fn 133 .nil (lc [.own 0 0 0 0] xK)] zaR)
abbrev zb4:Ov:=(.two lf zau)
abbrev zb6:KdL:=(lc [.own 0 102 0 0,.own 0 104 0 0] zaa)
abbrev zb7:KdL:=(lc [.own 0 103 0 0] zaa)
abbrev zb9:Ov:=(tw [tw [.reg [(1,{ids:=[106],fn:=1})]] lf] lf)
abbrev zcb:KdL:=(lc [.p (.sl ti)] qL6)
abbrev zcc:Shp:=⟨(lc [.p (.sl (.pair ti (.sl ti))),.fn 80 .nil .nil] zaR),[]⟩
abbrev zcd:HK:=[(100,false,(.vars AL))]
abbrev zcg:KdL:=(lc [.p mF] zaR)
abbrev zch:Ov:=(.two zau zal)
abbrev zci:Ov:=(.reg [(2,{ids:=[101]})])
abbrev zdo:Nat×Bool×BKd:=(100,false,(.vars qL6))
abbrev zcj:Shp:=⟨(lc [.own 0 100 0 0,.own 12 101 0 0] zaa),[zdo,zbU]⟩
abbrev zck:Ov:=(.reg [(1,{})])
abbrev zcl:KdL:=(lc [.p qY5] zaR)
abbrev zcm:Ov:=(tw [lf,lf,.one (tw [lf,.reg [(5,{sh:=[0,1,2,3]})]] zab)] lf)
abbrev zco:dM:=⟨[2,5],⟨(lc [.own 7 100 0 0,.mp 101] zaR),[zaU,zc5]⟩⟩
abbrev zcp:Nat×Bool×BKd:=(100,false,UL)
abbrev zcq:Ov:=(tw [lf,lf,.one (tw [lf,.reg [(5,{sh:=[0,1]})]] zab)] lf)
abbrev zcr:HK:=[(0,false,TB),zar,zb5,zbA,zd8,(100,false,(.rows 73 qY5))]
abbrev zcs:List Shp:=[⟨qL6,zaF⟩]
abbrev zcu:Ov:=(tw [lf,lf,.one (tw [lf,.reg [(5,{sh:=[1]})]] zab)] lf)
abbrev zcv:Ov:=(tw [.reg [(1,{ids:=[107],fn:=1})]] lf)
abbrev zcw:Ov:=(tw [.reg [(1,{ids:=[108],fn:=1})]] lf)
abbrev zcx:Ov:=(tw [lf,lf,.one zb4] lf)
abbrev zcA:Nat×Bool×BKd:=(104,false,(.vars (ln [.slf 1 103])))
abbrev zcC:KdL:=(lc [.fn 92 .nil (ln [.own 0 0 0 0,.own 8 1 0 0])] zaR)
abbrev zcD:Shp:=⟨(lc [.p (.pair ti (.pair ti (.sl qY2)))] qL6),[]⟩
abbrev zcE:Shp:=⟨(lc [.own 7 100 0 0,.mp 101] qL6),[zaU,zc5]⟩
abbrev zeM:KdL:=(lc [.fn 164 .nil oM] zaR)
abbrev zcG:Shp:=⟨(lc [.p (.sl (.sl .byte))] zeM),[zae]⟩
abbrev zcH:Ov:=(.reg [(1,{fn:=1})])
abbrev zcJ:Ov:=(tw [.reg [(3,{})]] lf)
abbrev zcK:Ov:=(.reg [(3,{ids:=[103]})])
abbrev zcL:Ov:=(.reg [(1,{ids:=[100]})])
abbrev zcM:Ov:=(.reg [(2,{sh:=[0,1]})])
abbrev zdW:Nat×Bool×BKd:=(102,false,(.rows 71 CZ))
abbrev zcN:HK:=[zaY,zdK,zdW,zaX,zaB,zaj,zb1]
abbrev zcO:Nat×Bool×BKd:=(102,false,(.rows 71 FG))
abbrev zcP:KdL:=(lc [.agg (lc [.slf 8 0] qL6),.own 0 101 0 0] zb7)
abbrev zcQ:KdL:=(lc [.p (.sl ti)] zaR)
abbrev zcR:Shp:=⟨(lc [.own 0 102 0 0] zb7),[zaN,(103,false,(.vars IK))]⟩
abbrev zcS:Shp:=⟨(lc [.p qU,.p qY5,ks] zaa),[]⟩
abbrev zcT:Shp:=⟨(lc [.slf 2 0] qL6),[zaq]⟩
abbrev zcU:HK:=[(100,false,TW)]
abbrev zcV:Shp:=⟨(lc [.p (.sl fY),.fn 165 .nil .nil] zaR),[]⟩
abbrev zeS:KdL:=(lc [.fn 83 .nil IP] zaR)
abbrev zcY:Shp:=⟨(lc [.p (.sl qY5)] zeS),zaz⟩
abbrev zd0:KdL:=(lc [.slf 1 0] zaR)
abbrev zc0:Shp:=⟨zd0,[(0,false,(.rows 3 ti))]⟩
abbrev zc1:Shp:=⟨(lc [.slf 2 0,.fn 213 .nil .nil] zaR),[zaq]⟩
abbrev zc2:Ov:=(.reg [(4,{ids:=[104],sh:=[620083],md:=[520083,0],fn:=3})])
abbrev zc3:Nat×Bool×BKd:=(2,false,(.rows 99 fY))
abbrev zc4:Nat×Bool×BKd:=(3,false,(.rows 99 fY))
abbrev zc6:Ov:=(tw [.reg [(2,{ids:=[102]}),(5,{ids:=[103],fn:=1})]] lf)
abbrev zc7:Ov:=(.two lf (.pre (.pureCell 0 0) (.pre (.pureCell 0 2) lf)))
abbrev zc8:Ov:=(.reg [(5,{md:=[2,0,0],fn:=2}),(10,{md:=[2,0,0],fn:=2})])
abbrev zc9:Nat×Bool×BKd:=(101,false,(.vars AL))
abbrev zda:Shp:=⟨(lc [.p (.sl (.pair .str ti))] zbe),zag⟩
abbrev zdc:Shp:=⟨(lc [.own 0 0 0 0,.slf 1 100] zaa),zce⟩
abbrev zdf:Shp:=⟨(lc [.p (.pair qU (.sl (.sl .byte)))] zaR),[]⟩
abbrev zdi:Shp:=⟨(lc [.p qY0] zaR),[]⟩
abbrev zfR:Ov:=(.two lf zb4)
abbrev zdj:Ov:=(.one zfR)
abbrev zdk:KdL:=(lc [.p qY2] zaR)
abbrev zdm:HK:=[(0,false,(.vars (ln [.slf 4 100]))),zbC,zbn]
abbrev zdn:Nat×Bool×BKd:=(102,false,(.vars qL6))
abbrev zdp:KdL:=(lc [.p (.sl .byte)] zaR)
abbrev zdq:KdL:=(lc [.own 0 100 0 0,.own 0 102 0 0] zaR)
abbrev zdr:KdL:=(lc [.own 0 102 0 0] zfd)
abbrev zds:Ov:=(.reg [(2,{ids:=[103]}),(3,{ids:=[104],md:=[0,1]})])
abbrev zdt:Ov:=(tw [lf,.reg [(5,{ids:=[102],fn:=1})]] zau)
abbrev zdu:KdL:=(lc [ki] zcg)
abbrev zdv:Ov:=(tw [.reg [(2,{ids:=[103]}),(3,{ids:=[104]})]] lf)
abbrev zdw:Ov:=(tw [tw [.reg [(1,{ids:=[109],fn:=1})]] lf] lf)
abbrev zdx:KdL:=(lc [.own 0 0 0 0,ki] zbj)
abbrev zdy:Shp:=⟨(lc [.agg (lc [.slf 8 0] qL6)] qL6),zbi⟩
abbrev zdz:Ov:=(.reg [(0,{ids:=[100]}),(1,{ids:=[101],md:=[1]})])
abbrev zdA:Ov:=(.reg [(1,{ids:=[103,999985]}),(2,{ids:=[104]})])
abbrev zdB:Ov:=(.reg [(1,{ids:=[102,999985]}),(2,{ids:=[103]})])
abbrev zdC:Shp:=⟨(lc [.p (.pair ti kK)] zaR),[]⟩
abbrev zfz:KdL:=(lc [.own 0 2 0 0] zaR)
abbrev zdD:KdL:=(lc [.own 0 0 0 0] zfz)
abbrev zdF:Ov:=(.reg [(0,{ids:=[102]})])
abbrev zdG:Ov:=(.reg [(0,{ids:=[101]})])
abbrev zdH:Ov:=(.reg [(3,{ids:=[102]})])
abbrev zdI:Ov:=(.reg [(4,{ids:=[100]})])
abbrev zdM:Ov:=(.two zab lf)
abbrev zdN:HK:=[zaY,(1,false,(.rows 71 CZ)),zaB,zaj,zb1]
abbrev zdP:HK:=[(0,false,tN)]
abbrev zdQ:KdL:=(lc [.agg qT] qL6)
abbrev zdR:Ov:=(.reg [(2,{ids:=[101]}),(3,{ids:=[102]})])
abbrev zdS:List Shp:=[⟨zbo,[]⟩]
abbrev zdT:Ov:=(.reg [(1,{sh:=[0]})])
abbrev zdU:KdL:=(lc [.agg (lc [.slf 8 0] qL6)] IQ)
abbrev zdV:Ov:=(.reg [(2,{sh:=[103,102,999985],fn:=1})])
abbrev zdX:Nat×Bool×BKd:=(102,false,(.rows 99 fY))
abbrev zdY:Nat×Bool×BKd:=(103,false,(.rows 5 .byte))
abbrev zdZ:Nat×Bool×BKd:=(102,false,(.rows 49 AM))
abbrev zd1:KdL:=(lc [kb] qL6)
abbrev zd2:KdL:=(lc [.agg (lc [.slf 8 0] qL6)] zbt)
abbrev zd3:KdL:=(lc [.agg (lc [.slf 8 1] qL6)] zaR)
abbrev zd4:Ov:=(.reg [(3,{}),(5,{ids:=[100],md:=[1]})])
abbrev zd5:List Shp:=[⟨zaJ,[za0]⟩]
abbrev zd7:Nat×Bool×BKd:=(103,false,(.rows 71 qY0))
abbrev zd9:Nat×Bool×BKd:=(113,false,(.rows 71 qY0))
abbrev zea:HK:=[zbv,zaf,zfk,zfl]
abbrev zeb:Ov:=(tw [.reg [(2,{sh:=[0,1,2,3]})]] lf)
abbrev zed:Nat×Bool×BKd:=(0,false,(.rows 5 .byte))
abbrev zee:Ov:=(.reg [(2,{fn:=1})])
abbrev zef:Ov:=(.reg [(4,{fn:=3})])
abbrev zeg:Nat×Bool×BKd:=(5,false,(.rows 99 fY))
abbrev zeh:Nat×Bool×BKd:=(6,false,(.rows 99 fY))
abbrev zei:Nat×Bool×BKd:=(9,false,(.rows 99 fY))
abbrev zej:Shp:=⟨(lc [.own 0 0 0 0] qT),zaF⟩
abbrev zek:Shp:=⟨VF,[(100,false,(.vars IK))]⟩
abbrev zel:Shp:=⟨(lc [.p (.sl qY5)] zbq),zai⟩
abbrev zem:Shp:=⟨(lc [.p (.int .u8)] zaR),[]⟩
abbrev zen:Shp:=⟨(lc [.own 0 0 0 0] qL6),zaF⟩
abbrev zeo:Shp:=⟨(lc [.p (.sl qY2)] zb3),zbO⟩
abbrev zer:Nat×Bool×BKd:=(5,false,(.rows 73 qY5))
abbrev zes:Nat×Bool×BKd:=(116,false,(.vars AL))
abbrev zet:HK:=[(100,false,(.rows 3 ti))]
abbrev zeu:HK:=[zbc,zbu,(104,false,(.vars IK))]
abbrev zev:HK:=[(0,false,(.rows 34 (.sl .byte)))]
abbrev zew:Nat×Bool×BKd:=(111,false,(.vars (lc [.slf 8 110] qL6)))
abbrev zex:Ov:=(.reg [(9,{}),(13,{ids:=[100]})])
abbrev zez:Ov:=(.reg [(2,{ids:=[102],md:=[1]})])
abbrev zeA:Nat×Bool×BKd:=(1,false,(.vars (ln [.slf 4 102])))
abbrev zeB:Shp:=⟨zaJ,zbi⟩
abbrev zeC:Nat×Bool×BKd:=(103,false,TX)
abbrev zeF:Shp:=⟨(lc [.agg IK] qL6),[]⟩
abbrev zeG:Nat×Bool×BKd:=(0,false,(.vars (ln [.slf 4 2])))
abbrev zeH:Nat×Bool×BKd:=(1,false,(.vars (ln [.slf 4 4])))
abbrev zeI:Nat×Bool×BKd:=(1,false,(.vars (ln [.slf 4 2])))
abbrev zeJ:Nat×Bool×BKd:=(1,false,(.vars (ln [.slf 4 5])))
abbrev zeK:Nat×Bool×BKd:=(5,false,(.vars (ln [.slf 4 6])))
abbrev zeL:Nat×Bool×BKd:=(3,false,(.vars (ln [.slf 4 9])))
abbrev zeO:Ov:=(.reg [(13,{})])
abbrev zeP:Shp:=⟨(lc [.p qU] zcl),[]⟩
abbrev zeQ:Shp:=⟨(lc [ks] zbj),[]⟩
abbrev zeR:Shp:=⟨(lc [.p qU] zbF),[]⟩
abbrev zeT:Shp:=⟨(lc [.p AM] qL6),[]⟩
abbrev zeU:Nat×Bool×BKd:=(8,false,(.vars qL6))
abbrev zeV:KdL:=(lc [.fn 21 .nil oM] zaR)
abbrev zeW:Shp:=⟨VF,[zaT]⟩
abbrev zeX:KdL:=(lc [.own 0 100 0 0] qT)
abbrev zeY:Shp:=⟨(lc [.p qY0] qL6),[]⟩
abbrev zeZ:Ov:=(.reg [(2,{sh:=[1],fn:=1})])
abbrev ze0:Ov:=(.reg [(1,{md:=[2],fn:=1})])
abbrev ze2:KdL:=(lc [.own 0 102 0 0] qL6)
abbrev ze3:KdL:=(lc [.own 0 101 0 0] zb6)
abbrev ze4:KdL:=(lc [.own 0 111 0 0] zaa)
abbrev ze5:KdL:=(lc [.own 4 100 0 0] zaR)
abbrev ze6:KdL:=(lc [.own 4 100 0 0] zaa)
abbrev ze7:KdL:=(lc [.own 0 106 0 0] zaa)
abbrev ze8:KdL:=(lc [ki] zbX)
abbrev ze9:Ov:=(.reg [(3,{}),(7,{fn:=1})])
abbrev zfa:KdL:=(lc [.own 0 104 0 0] zaR)
abbrev zfb:KdL:=(lc [.own 0 106 0 0] zaR)
abbrev zff:Shp:=⟨zbD,[zaq]⟩
abbrev zfg:KdL:=(lc [.own 0 0 0 0] xK)
abbrev zfi:Shp:=⟨zaa,[zae]⟩
abbrev zfj:dM:=⟨[2,3,4],⟨IP,zaA⟩⟩
abbrev zfm:Shp:=⟨zbD,[(0,false,VE)]⟩
abbrev zfn:KdL:=(lc [.p (.sl qY5)] zaR)
abbrev zfo:Ov:=(.two zcH zab)
abbrev zfp:KdL:=(lc [.own 0 3 0 0] zaR)
abbrev zfq:Ov:=(.reg [(2,{ids:=[103]})])
abbrev zfr:Ov:=(.reg [(2,{ids:=[104]})])
abbrev zfs:Ov:=(.reg [(7,{ids:=[103]})])
abbrev zft:KdL:=(lc [.own 0 0 0 0] zbF)
abbrev zfu:Ov:=(.reg [(5,{ids:=[101]})])
abbrev zfv:HK:=[zaY,zdK,zcO,zaX,zaB,zaj]
abbrev zfw:Ov:=(.reg [(0,{ids:=[105]})])
abbrev zfx:KdL:=(lc [.own 0 2 0 0] qL6)
abbrev zfy:KdL:=(lc [.own 0 2 0 0] zaa)
abbrev zfA:dM:=⟨[1,2],⟨IQ,zao⟩⟩
abbrev zfB:Shp:=⟨VF,zcU⟩
abbrev zfD:dM:=⟨[1,2],⟨IQ,zbm⟩⟩
abbrev zfE:Ov:=(.reg [(4,{md:=[2,0]})])
abbrev zfF:Shp:=⟨VF,zcd⟩
abbrev zfG:Nat×Bool×BKd:=(102,false,(.rows 34 (.sl .byte)))
abbrev zfH:dM:=⟨[1,2],⟨IQ,zak⟩⟩
abbrev zfI:Nat×Bool×BKd:=(116,false,(.rows 34 (.sl .byte)))
abbrev zfJ:Ov:=(.two zck lf)
abbrev zfK:dM:=⟨[1],⟨zbI,[zaT]⟩⟩
abbrev zfL:Ov:=(.two zau lf)
abbrev zfM:HK:=[zaT,zbc,zbu]
abbrev zfN:KdL:=(lc [.slf 8 101] qL6)
abbrev zfO:KdL:=(lc [.slf 8 101] zaR)
abbrev zfP:Ov:=(tw [lf,zcw] lf)
abbrev zfS:KdL:=(lc [.slf 1 100] qL6)
theorem tk{T:List FnT}(fu:Nat){f:FuncId}{fn:Func}(fa:FnA){spec:fa.i.D->Option (cP fa.os)}(hT:∀e∈T,dY Tryz.prog e)(hf:Tryz.prog.funcs[f]? =some fn)(hb:(fn.body.isSome&&!(fn.name=="runtime.NumGoroutine"))=true)(hs:∀t,evF Tryz.prog T fu fn fa t=spec t):dY Tryz.prog ⟨f,fa.i,fa.os,spec⟩:=by
 have h:=(ZAF _ _).mp hb;exact uEZ hT mixed hf (by simpa using h.2) h.1 hs
def u2{a b W:Type}(F:a->b->W)(t:a×b):=F t.1 t.2
def u3{a b c W:Type}(F:a->b->c->W)(t:a×b×c):=u2 (F t.1) t.2
def u4{a b c d W:Type}(F:a->b->c->d->W)(t:a×b×c×d):=u3 (F t.1) t.2
def u5{a b c d e W:Type}(F:a->b->c->d->e->W)(t:a×b×c×d×e):=u4 (F t.1) t.2
def u6{a b c d e f W:Type}(F:a->b->c->d->e->f->W)(t:a×b×c×d×e×f):=u5 (F t.1) t.2
def u7{a b c d e f g W:Type}(F:a->b->c->d->e->f->g->W)(t:a×b×c×d×e×f×g):=u6 (F t.1) t.2
def u8{a b c d e f g h W:Type}(F:a->b->c->d->e->f->g->h->W)(t:a×b×c×d×e×f×g×h):=u7 (F t.1) t.2
def u9{a b c d e f g h i W:Type}(F:a->b->c->d->e->f->g->h->i->W)(t:a×b×c×d×e×f×g×h×i):=u8 (F t.1) t.2
def u10{a b c d e f g h i j W:Type}(F:a->b->c->d->e->f->g->h->i->j->W)(t:a×b×c×d×e×f×g×h×i×j):=u9 (F t.1) t.2
def u11{a b c d e f g h i j k W:Type}(F:a->b->c->d->e->f->g->h->i->j->k->W)(t:a×b×c×d×e×f×g×h×i×j×k):=u10 (F t.1) t.2
def u12{a b c d e f g h i j k l W:Type}(F:a->b->c->d->e->f->g->h->i->j->k->l->W)(t:a×b×c×d×e×f×g×h×i×j×k×l):=u11 (F t.1) t.2
def u13{a b c d e f g h i j k l m W:Type}(F:a->b->c->d->e->f->g->h->i->j->k->l->m->W)(t:a×b×c×d×e×f×g×h×i×j×k×l×m):=u12 (F t.1) t.2
def u14{a b c d e f g h i j k l m n W:Type}(F:a->b->c->d->e->f->g->h->i->j->k->l->m->n->W)(t:a×b×c×d×e×f×g×h×i×j×k×l×m×n):=u13 (F t.1) t.2
def u15{a b c d e f g h i j k l m n o W:Type}(F:a->b->c->d->e->f->g->h->i->j->k->l->m->n->o->W)(t:a×b×c×d×e×f×g×h×i×j×k×l×m×n×o):=u14 (F t.1) t.2
def u16{a b c d e f g h i j k l m n o p W:Type}(F:a->b->c->d->e->f->g->h->i->j->k->l->m->n->o->p->W)(t:a×b×c×d×e×f×g×h×i×j×k×l×m×n×o×p):=u15 (F t.1) t.2
def u17{a b c d e f g h i j k l m n o p q W:Type}(F:a->b->c->d->e->f->g->h->i->j->k->l->m->n->o->p->q->W)(t:a×b×c×d×e×f×g×h×i×j×k×l×m×n×o×p×q):=u16 (F t.1) t.2
def u18{a b c d e f g h i j k l m n o p q r W:Type}(F:a->b->c->d->e->f->g->h->i->j->k->l->m->n->o->p->q->r->W)(t:a×b×c×d×e×f×g×h×i×j×k×l×m×n×o×p×q×r):=u17 (F t.1) t.2
def u19{a b c d e f g h i j k l m n o p q r s W:Type}(F:a->b->c->d->e->f->g->h->i->j->k->l->m->n->o->p->q->r->s->W)(t:a×b×c×d×e×f×g×h×i×j×k×l×m×n×o×p×q×r×s):=u18 (F t.1) t.2
def u20{a b c d e f g h i j k l m n o p q r s x W:Type}(F:a->b->c->d->e->f->g->h->i->j->k->l->m->n->o->p->q->r->s->x->W)(t:a×b×c×d×e×f×g×h×i×j×k×l×m×n×o×p×q×r×s×x):=u19 (F t.1) t.2
def u21{a b c d e f g h i j k l m n o p q r s x y W:Type}(F:a->b->c->d->e->f->g->h->i->j->k->l->m->n->o->p->q->r->s->x->y->W)(t:a×b×c×d×e×f×g×h×i×j×k×l×m×n×o×p×q×r×s×x×y):=u20 (F t.1) t.2
def u22{a b c d e f g h i j k l m n o p q r s x y z W:Type}(F:a->b->c->d->e->f->g->h->i->j->k->l->m->n->o->p->q->r->s->x->y->z->W)(t:a×b×c×d×e×f×g×h×i×j×k×l×m×n×o×p×q×r×s×x×y×z):=u21 (F t.1) t.2
def u23{a b c d e f g h i j k l m n o p q r s x y z a1 W:Type}(F:a->b->c->d->e->f->g->h->i->j->k->l->m->n->o->p->q->r->s->x->y->z->a1->W)(t:a×b×c×d×e×f×g×h×i×j×k×l×m×n×o×p×q×r×s×x×y×z×a1):=u22 (F t.1) t.2
def u24{a b c d e f g h i j k l m n o p q r s x y z a1 b1 W:Type}(F:a->b->c->d->e->f->g->h->i->j->k->l->m->n->o->p->q->r->s->x->y->z->a1->b1->W)(t:a×b×c×d×e×f×g×h×i×j×k×l×m×n×o×p×q×r×s×x×y×z×a1×b1):=u23 (F t.1) t.2
def u25{a b c d e f g h i j k l m n o p q r s x y z a1 b1 c1 W:Type}(F:a->b->c->d->e->f->g->h->i->j->k->l->m->n->o->p->q->r->s->x->y->z->a1->b1->c1->W)(t:a×b×c×d×e×f×g×h×i×j×k×l×m×n×o×p×q×r×s×x×y×z×a1×b1×c1):=u24 (F t.1) t.2
def u26{a b c d e f g h i j k l m n o p q r s x y z a1 b1 c1 d1 W:Type}(F:a->b->c->d->e->f->g->h->i->j->k->l->m->n->o->p->q->r->s->x->y->z->a1->b1->c1->d1->W)(t:a×b×c×d×e×f×g×h×i×j×k×l×m×n×o×p×q×r×s×x×y×z×a1×b1×c1×d1):=u25 (F t.1) t.2
abbrev To(f:FuncId)(fa:FnA)(F:Nat->fa.i.D->Option (cP fa.os)):Prop:=∀fu,dY Tryz.prog ⟨f,fa.i,fa.os,F fu⟩
abbrev Ta(T:Nat->Tbl):Prop:=∀fu,∀e∈T fu,dY Tryz.prog e
theorem tz:Ta λ_=>[]:=λ_=>abZ
theorem ta{e:Nat->FnT}{T:Nat->Tbl}(h:∀fu,dY Tryz.prog (e fu))(r:Ta T):Ta λfu=>e fu::T fu:=λfu=>aaZ (h fu) (r fu)
theorem tj{T:Nat->Tbl}{f:FuncId}{fn:Func}{fa:FnA}{F:Nat->fa.i.D->Option (cP fa.os)}(hT:Ta T)(hf:Tryz.prog.funcs[f]? =some fn)(hb:(fn.body.isSome&&!(fn.name=="runtime.NumGoroutine"))=true:=by kernel_rfl)(hs:∀fu t,evF Tryz.prog (T fu) fu fn fa t=F fu t:=by intro _ _;kernel_rfl):To f fa F:=by
 have h:=(Bool.and_eq_true _ _).mp hb;exact λfu=>uEZ (hT fu) mixed hf (by simpa using h.2) h.1 (hs fu)
def v3{a b c W:Type}(F:Nat->a->b->c->W)(fu:Nat):a×b×c->W:=u3 (F fu)
def v4{a b c d W:Type}(F:Nat->a->b->c->d->W)(fu:Nat):a×b×c×d->W:=u4 (F fu)
def v5{a b c d e W:Type}(F:Nat->a->b->c->d->e->W)(fu:Nat):a×b×c×d×e->W:=u5 (F fu)
def v6{a b c d e f W:Type}(F:Nat->a->b->c->d->e->f->W)(fu:Nat):a×b×c×d×e×f->W:=u6 (F fu)
def v7{a b c d e f g W:Type}(F:Nat->a->b->c->d->e->f->g->W)(fu:Nat):a×b×c×d×e×f×g->W:=u7 (F fu)
def v8{a b c d e f g h W:Type}(F:Nat->a->b->c->d->e->f->g->h->W)(fu:Nat):a×b×c×d×e×f×g×h->W:=u8 (F fu)
def v9{a b c d e f g h i W:Type}(F:Nat->a->b->c->d->e->f->g->h->i->W)(fu:Nat):a×b×c×d×e×f×g×h×i->W:=u9 (F fu)
def v10{a b c d e f g h i j W:Type}(F:Nat->a->b->c->d->e->f->g->h->i->j->W)(fu:Nat):a×b×c×d×e×f×g×h×i×j->W:=u10 (F fu)
def v11{a b c d e f g h i j k W:Type}(F:Nat->a->b->c->d->e->f->g->h->i->j->k->W)(fu:Nat):a×b×c×d×e×f×g×h×i×j×k->W:=u11 (F fu)
def v12{a b c d e f g h i j k l W:Type}(F:Nat->a->b->c->d->e->f->g->h->i->j->k->l->W)(fu:Nat):a×b×c×d×e×f×g×h×i×j×k×l->W:=u12 (F fu)
def v15{a b c d e f g h i j k l m n o W:Type}(F:Nat->a->b->c->d->e->f->g->h->i->j->k->l->m->n->o->W)(fu:Nat):a×b×c×d×e×f×g×h×i×j×k×l×m×n×o->W:=u15 (F fu)
def v24{a b c d e f g h i j k l m n o p q r s x y z a1 b1 W:Type}(F:Nat->a->b->c->d->e->f->g->h->i->j->k->l->m->n->o->p->q->r->s->x->y->z->a1->b1->W)(fu:Nat):a×b×c×d×e×f×g×h×i×j×k×l×m×n×o×p×q×r×s×x×y×z×a1×b1->W:=u24 (F fu)
def v26{a b c d e f g h i j k l m n o p q r s x y z a1 b1 c1 d1 W:Type}(F:Nat->a->b->c->d->e->f->g->h->i->j->k->l->m->n->o->p->q->r->s->x->y->z->a1->b1->c1->d1->W)(fu:Nat):a×b×c×d×e×f×g×h×i×j×k×l×m×n×o×p×q×r×s×x×y×z×a1×b1×c1×d1->W:=u26 (F fu)
def kL(a:Nat)(x n:Int):oN Int:=bif decide (n<1) then some 0 else aP (!(decide (n=0)))<|bif (decide ((Int.tmod x n)<0)) then some (wI ((Int.tmod x n)+n)) else some (Int.tmod x n)
def DG:FnA:=⟨tw [lf,zau,lf] zdM,zdO,[za1],[0]⟩
theorem iqZ:To 23 DG λfu t=>kL fu t.1 t.2:=tj tz func23
def jB(a:Nat):oN (List (Int×List Int)):=some [(1,[0,1,2])]
def xN:FnA:=⟨.two lf zal,zbg,[zfm],[0]⟩
theorem dlZ:To 25 xN λfu t=>jB fu:=tj tz func25
def TF(a:Nat)(window:Int):oN (Int×Int):=Option.bind (α:=(Bool×Int)) (bif decide (window<1) then some (true,0) else some ((decide (window>100)),0)) λo=>bif o.1 then some (0,2) else some (window,0)
def OG:FnA:=⟨tw [zac,tw [.join ⟨[2,9],⟨VF,[(100,false,(.vars FH))]⟩⟩ false [] lf] zab] lf,za1,[⟨(lc [.agg FH] qL6),[]⟩],[0,0]⟩
theorem pKZ:To 55 OG TF:=tj tz func55
def OH(a:Nat)(s:List Int)(v x:Int):oN (Int⊕(Unit⊕Int)):=bif (decide (x<(s.length:Int))) then (aK x s.length).bind λq=>s[q]?.bind λr=>bif (v==r) then some (.inr (.inr x)) else some (.inl (wI (x+1))) else some (.inr (.inl ()))
def FI(b:Nat)(s:List Int)(v a:Int):oN (Unit⊕Int):=iter b (λa=>OH b s v a) a
def TZ(b:Nat)(s:List Int)(v:Int):oN Int:=(FI b s v 0).bind λo=>match o with
 |.inl c=>some (-1)
 |.inr a=>some a
def OI:FnA:=⟨tw [lf,.two lf (.one (.loop ⟨[8],za1⟩ true zca zcx))] lf,⟨zcb,[]⟩,[za1],[0]⟩
theorem qXZ:To 172 OI λfu t=>TZ fu t.1 t.2:=tj tz func172
def UA(a:Nat)(s:List Int)(v:Int):oN Bool:=(TZ a s v).bind λr=>some (decide (r>=0))
def OJ:FnA:=⟨.two lf zbT,⟨zcb,[]⟩,zay,[0]⟩
theorem p4Z:To 135 OJ λfu t=>UA fu t.1 t.2:=tj (ta qXZ tz) func135
def OK(e:Nat)(o:Bool×Int×List Int)(nodes x h:Int)(a:List Int):oN ((Int×Int×List Int)⊕(Unit⊕Bool)):=bif (decide (x<(o.2.2.length:Int))) then (aK x o.2.2.length).bind λq=>o.2.2[q]?.bind λr=>Option.bind (α:=(Bool×Int×List Int)) (bif decide (r<0) then some (true,h,a) else bif decide (r>=nodes) then some (true,h,a) else (bL x a.length).bind λc=>(UA e (List.take c a) r).bind λd=>some (d,h,a)) λb=>bif b.1 then some (.inr (.inr false)) else some (.inl ((wI (x+1)),b.2)) else some (.inr (.inl ()))
def FJ(a:Nat)(o:Bool×Int×List Int)(nodes:Int)(b:Int×Int×List Int):oN (Unit⊕Bool):=iter a (u3 (OK a o nodes)) b
def UB(c:Nat)(p:Int×List Int)(nodes:Int):oN Bool:=Option.bind (α:=(Bool×Int×List Int)) (bif decide (nodes<1) then some (true,p) else bif decide (nodes>256) then some (true,p) else bif decide (p.1<1) then some (true,p) else bif decide (p.1>1099511627776) then some (true,p) else bif (decide ((p.2.length:Int)<1)) then some (true,p) else some ((decide ((p.2.length:Int)>255)),p)) λo=>bif o.1 then some false else (FJ c o nodes (0,o.2)).bind λa=>match a with
  |.inl s=>some true
  |.inr b=>some b
def OL:FnA:=⟨tw [zac,tw [.join ⟨[2,34],⟨VF,zbk⟩⟩ false [] lf] zab,.two lf (.one (.loop ⟨[2,38],⟨zbH,zbk⟩⟩ true zca (tw [lf,lf,.one (tw [lf,.join ⟨[2,57],⟨VF,zbk⟩⟩ false [] zeO] zab)] lf)))] lf,⟨(lc [.p (.pair ti (.sl ti))] qL6),[]⟩,zay,[0]⟩
theorem qnZ:To 81 OL λfu t=>UB fu t.1 t.2:=tj (ta p4Z tz) func81
def SI(a:Nat)(p:Int×List Int):oN Bool:=(UB a p 256).bind λr=>some (!r)
def KJ:FnA:=⟨.two zac zfJ,⟨(lc [.p (.pair ti (.sl ti))] zaR),[]⟩,zay,[0]⟩
theorem ohZ:To 80 KJ SI:=tj (ta qnZ tz) func80
def AQ(b:Nat)(s:List (Int×List Int))(x:Int):oN (Int⊕(Unit⊕Int)):=bif (decide (x<(s.length:Int))) then (aK x s.length).bind λq=>s[q]?.bind λr=>(SI b r).bind λa=>bif a then some (.inr (.inr x)) else some (.inl (wI (x+1))) else some (.inr (.inl ()))
def vU(b:Nat)(s:List (Int×List Int))(a:Int):oN (Unit⊕Int):=iter b (λa=>AQ b s a) a
def zM(b:Nat)(s:List (Int×List Int)):oN Int:=(vU b s 0).bind λo=>match o with
 |.inl c=>some (-1)
 |.inr a=>some a
def AR:FnA:=⟨.two lf zaC,zcc,[za1],[0]⟩
theorem gUZ:To 136 AR zM:=tj (ta ohZ tz) func136
def VG(a:Nat)(s:List (Int×List Int)):oN Bool:=(zM a s).bind λr=>some (decide (r>=0))
def DI:FnA:=⟨.two lf zbT,zcc,zay,[0]⟩
theorem iQZ:To 82 DI VG:=tj (ta gUZ tz) func82
def OM(a:Nat)(l:List (Int×List Int)):oN Bool:=bif (decide ((l.length:Int)>=1)) then bif (decide ((l.length:Int)<=1000)) then (VG a l).bind λr=>some (!r) else some false else some false
def ON:FnA:=⟨tw [lf,lf] zfe,⟨zbQ,[]⟩,zay,[0]⟩
theorem jDZ:To 35 ON OM:=tj (ta iQZ tz) func35
def zN(a:Nat):oN (Int×List qT1):=some (0,[(1,1,true,true,0,[],1,[])])
def AS:FnA:=⟨tw [zac,.reg [(1,{ids:=[101]})]] lf,zbg,zd5,[0]⟩
theorem hgZ:To 56 AS λfu t=>zN fu:=tj tz func56
def pZ(a:Nat):oN (Int×List qT1×List (List UInt8)):=(zN a).bind λr=>some (r.1,r.2,(List.replicate (α:=List UInt8) 1 []))
def AT:FnA:=⟨tw [zac,.reg [(0,{ids:=[101]}),(1,{ids:=[102]})]] lf,zbg,[zbG],[0]⟩
theorem dYZ:To 26 AT λfu t=>pZ fu:=tj (ta hgZ tz) func26
def rE(a:Nat)(s:List qT1):oN (List qT1):=qP s.length λisNil=>bif isNil then some [] else aP ((Nat.ble ((0+s.length)*88) bG)&&(Nat.ble (0+s.length) bG))<|some s
def VN:FnA:=⟨.two lf zch,⟨(lc [.p (.sl qY0)] zaR),[]⟩,[⟨(lc [.slf 8 0] zaR),[za0]⟩],[81]⟩
theorem b3Z:To 124 VN rE:=tj tz func124
def tO(a:Nat)(s:List (Int×Int)):oN (List (Int×Int)):=qP s.length λisNil=>bif isNil then some [] else aP ((Nat.ble ((0+s.length)*16) bG)&&(Nat.ble (0+s.length) bG))<|some s
def KL:FnA:=⟨.two lf zch,⟨zfn,[]⟩,[zff],[83]⟩
theorem bZZ:To 105 KL tO:=tj tz func105
def vV(a:Nat)(s:List (List UInt8×Int)):oN (List (List UInt8×Int)):=qP s.length λisNil=>bif isNil then some [] else aP ((Nat.ble ((0+s.length)*24) bG)&&(Nat.ble (0+s.length) bG))<|some s
def OO:FnA:=⟨.two lf zch,⟨(lc [.p (.sl (.pair .str ti))] zaR),[]⟩,[⟨zbD,[(0,false,yS)]⟩],[128]⟩
theorem bLZ:To 104 OO vV:=tj tz func104
def AU(n:Nat)(r:List qT1)(x h:Int)(f:List qT1)(l:Int):oN ((Int×lF)⊕(lF)):=bif (decide (x<(r.length:Int))) then (aK x f.length).bind λq=>f[q]?.bind λo=>(tO n o.e).bind λj=>(aK x f.length).bind λp=>f[p]?.bind λs=>(vV n s.2.2.2.2.2.2.2).bind λt=>(aK x f.length).bind λi=>f[i]?.bind λa=>(aK x (List.set f i (a.1,a.2.1,a.b,a.c,a.d,j,a.E)).length).bind λm=>(List.set f i (a.1,a.2.1,a.b,a.c,a.d,j,a.E))[m]?.bind λg=>some (.inl ((wI (x+1)),h,(List.set (List.set f i (a.1,a.2.1,a.b,a.c,a.d,j,a.E)) m (g.1,g.2.1,g.b,g.c,g.d,g.e,g.2.2.2.2.2.2.1,t)),l)) else some (.inr (h,f,l))
def xO(b:Nat)(r:List qT1)(a:Int×lF):oN lF:=iter b (λa=>AU b r a.1 a.2.1 a.2.2.1 a.2.2.2) a
def KM(a:Nat)(t:List qT1×Int):oN (Int×List qT1):=(rE a t.1).bind λr=>(xO a r (0,t.2,r,0)).bind λo=>some (o.1,o.2.1)
def OP:FnA:=⟨.two zad zam,za9,zd5,[0]⟩
theorem jWZ:To 90 OP KM:=tj (ta b3Z (ta bZZ (ta bLZ tz))) func90
def KN(a:Nat)(s:List (Int×List Int)):oN (List (Int×List Int)):=qP s.length λisNil=>bif isNil then some [] else aP ((Nat.ble ((0+s.length)*32) bG)&&(Nat.ble (0+s.length) bG))<|some s
def KO:FnA:=⟨.two lf zch,⟨zbQ,[]⟩,[zfm],[133]⟩
theorem nMZ:To 100 KO KN:=tj tz func100
def KP(a:Nat)(s:List Int):oN (List Int):=qP s.length λisNil=>bif isNil then some [] else aP ((Nat.ble ((0+s.length)*8) bG)&&(Nat.ble (0+s.length) bG))<|some s
def KQ:FnA:=⟨.two lf zch,⟨zcQ,[]⟩,[zc0],[13]⟩
theorem ouZ:To 101 KQ KP:=tj tz func101
def GZ(a:Nat)(s:List bX):oN (List bX):=qP s.length λisNil=>bif isNil then some [] else aP ((Nat.ble ((0+s.length)*40) bG)&&(Nat.ble (0+s.length) bG))<|some s
def KT:FnA:=⟨.two lf zch,⟨(lc [.p kK] zaR),[]⟩,[⟨(lc [.slf 3 0] zaR),[(0,false,(.rows 141 (.pair ti (.pair ti (.sl qY2)))))]⟩],[151]⟩
theorem hSZ:To 102 KT GZ:=tj tz func102
def HB(a:Nat)(s:List qT3):oN (List qT3):=qP s.length λisNil=>bif isNil then some [] else aP ((Nat.ble ((0+s.length)*120) bG)&&(Nat.ble (0+s.length) bG))<|some s
def KU:FnA:=⟨.two lf zch,⟨(lc [.p (.sl qY2)] zaR),[]⟩,[⟨(lc [.slf 11 0] zaR),[(0,false,(.rows 40 qY2))]⟩],[50]⟩
theorem hFZ:To 103 KU HB:=tj tz func103
def rF(a:Nat)(s:List UInt8):oN (List UInt8):=qP s.length λisNil=>bif isNil then some [] else aP ((Nat.ble ((0+s.length)*1) bG)&&(Nat.ble (0+s.length) bG))<|some s
def KV:FnA:=⟨.two lf zch,⟨zdp,[]⟩,[⟨zd0,[zed]⟩],[15]⟩
theorem cOZ:To 70 KV rF:=tj tz func70
def iA(r:Nat)(m:List (Int×List Int))(x h b c:Int)(d:List bX)(e:List (Int×Int))(f:List qT1)(a:List (Int×List Int))(g i j:Int):oN ((Int×OE)⊕(OE)):=bif (decide (x<(m.length:Int))) then (aK x a.length).bind λq=>a[q]?.bind λn=>(KP r n.2).bind λo=>(aK x a.length).bind λl=>a[l]?.bind λp=>some (.inl ((wI (x+1)),h,b,c,d,e,f,(List.set a l (p.1,o)),g,i,j)) else some (.inr (h,b,c,d,e,f,a,g,i,j))
def nQ(a:Nat)(b:List (Int×List Int))(c:Int×OE):oN OE:=iter a (u11 (iA a b)) c
def iB(J:Nat)(K:qS)(k:Nat)(j l n o:Int)(p:List (Int×Int))(q:List qT1)(h:List qS)(r:List (Int×List Int))(t u w:Int)(i:List (Nat×List qT3)):oN ((Nat×Int×DC)⊕(DC)):=bif (decide (j<(((eJ (s:=qY2) K.A):Nat):Int))) then h[k]?.bind λy=>h[k]?.bind λz=>h[k]?.bind λB=>(vS B.A).bind λm=>(aK j m.A).bind λL=>i[m.1]?.bind λm1=>aP ((Nat.blt 0 m1.1)&&true)<|m1.2[(m.a+L)]?.bind λC=>(rF J C.f).bind λx=>h[k]?.bind λD=>(vS D.A).bind λm2=>(aK j m2.A).bind λM=>i[m2.1]?.bind λm3=>aP ((Nat.blt 0 m3.1)&&true)<|m3.2[(m2.a+M)]?.bind λE=>(vV J E.2.2.2.2.2.2.2.1).bind λG=>(vS y.A).bind λm4=>(aK j m4.A).bind λH=>i[m4.1]?.bind λm5=>aP (((Nat.beq m5.1 1)&&true)&&true)<|m5.2[(m4.a+H)]?.bind λb=>(vS z.A).bind λm6=>(aK j m6.A).bind λI=>(List.set i m4.1 (1,(List.set m5.2 (m4.a+H) (b.1,b.a,b.2.2.1,b.c,b.d,b.e,x,b.F))))[m6.1]?.bind λm7=>aP (((Nat.beq m7.1 1)&&true)&&true)<|m7.2[(m6.a+I)]?.bind λg=>some (.inl (k,(wI (j+1)),l,n,o,p,q,h,r,t,u,w,(List.set (List.set i m4.1 (1,(List.set m5.2 (m4.a+H) (b.1,b.a,b.2.2.1,b.c,b.d,b.e,x,b.F)))) m6.1 (1,(List.set m7.2 (m6.a+I) (g.1,g.a,g.2.2.1,g.c,g.d,g.e,g.f,G,g.2.2.2.2.2.2.2.2)))))) else some (.inr (l,n,o,p,q,h,r,t,u,w,i))
def jI(a:Nat)(b:qS)(c:Nat×Int×DC):oN DC:=iter a (u13 (iB a b)) c
def nA(q:Nat)(r:List bX)(o d e f:Int)(g:List (Int×Int))(h:List qT1)(a:List qS)(i:List (Int×List Int))(j l m:Int)(b:List (Nat×List qT3)):oN ((Int×DC)⊕(DC)):=bif (decide (o<(r.length:Int))) then (aK o a.length).bind λc=>a[c]?.bind λs=>(lY (.ref 1 qY2) s.2.2).bind λt=>(HB q t).bind λp=>a[c]?.bind λn=>(List.set a c (n.1,n.2.1,(.inr (some (b.length,0,p.length)))))[c]?.bind λu=>(jI q u (c,0,d,e,f,g,h,(List.set a c (n.1,n.2.1,(.inr (some (b.length,0,p.length))))),i,j,l,m,(b++[(1,p)]))).bind λw=>some (.inl ((wI (o+1)),w)) else some (.inr (d,e,f,g,h,a,i,j,l,m,b))
def gM(b:Nat)(c:List bX)(a:Int×DC):oN DC:=iter b (λa=>nA b c a.1 a.2.1 a.2.2.1 a.2.2.2.1 a.2.2.2.2.1 a.2.2.2.2.2.1 a.2.2.2.2.2.2.1 a.2.2.2.2.2.2.2.1 a.2.2.2.2.2.2.2.2.1 a.2.2.2.2.2.2.2.2.2.1 a.2.2.2.2.2.2.2.2.2.2.1 a.2.2.2.2.2.2.2.2.2.2.2) a
def eK(i:Nat)(s:gC):oN (Int×Int×Int×List bX×List qT1×List (Int×List Int)×List (Int×Int)):=(KM i s.2.1).bind λr=>(KN i s.c).bind λm=>(nQ i m (0,s.1,r.1,s.b.1,s.b.2,s.2.2.2.2,r.2,m,0,0,0)).bind λo=>(GZ i o.c).bind λn=>(gM i n (0,o.1,o.2.1,o.b,o.d,o.e,(List.map (bY mG) n),o.f,o.g,o.h,o.H,[])).bind λa=>(tO i a.c).bind λj=>(bE (aT [⟨1,qY2,(List.map aV a.I)⟩] mG) a.e).bind λl=>some (a.1,a.2.1,a.b,l,a.d,a.f,j)
def AW:FnA:=⟨tw [zad,zbl,.reg [(2,{ids:=[103],fn:=1})],.two lf (.one (.loop ⟨[1,2,18],⟨zaQ,za3⟩⟩ false [(0,⟨[1,2],⟨IQ,za3⟩⟩)] (tw [lf,lf,.one (.two lf (.reg [(9,{ids:=[104],fn:=2})]))] lf))),.reg [(3,{ids:=[105],fn:=3})],.two lf (.one (.pre (.newFam 1 40 qY2) (.pre (.toRef 105 mG) (.loop ⟨[1,2,44],⟨zaQ,zao⟩⟩ false [(2,zfA)] (tw [lf,lf,.one (tw [lf,lf,.reg [(5,{ids:=[106],md:=[3],fn:=4}),(8,{sh:=[106,999985]})],lf] (.one (.loop ⟨[1,2,5,65],⟨(lc [.own 0 100 0 0,.own 0 101 0 0,.ownx 3 105 0] qL6),zao⟩⟩ false [(4,zfA)] (tw [lf,lf,.one (.two lf (.reg [(17,{sh:=[999985]}),(18,{ids:=[107],fn:=5}),(26,{sh:=[999985]}),(27,{ids:=[108],fn:=6}),(30,{sh:=[999985]}),(33,{sh:=[999985]})]))] lf))))] lf))))),.reg [(2,{ids:=[109],fn:=7})],.pre (.pureCell 100 4) lf] lf,⟨(lc [.p AM] zaR),[]⟩,[za7],[0]⟩
theorem cAZ:To 47 AW eK:=tj (ta jWZ (ta nMZ (ta ouZ (ta hSZ (ta hFZ (ta cOZ (ta bLZ (ta bZZ tz)))))))) func47
def mH(b:Nat)(window:Int)(l:List (Int×List Int)):oN (Int×List qT1×Int×Int×List bX×List (Int×List Int)×List (Int×Int)×Int):=(TF b window).bind λr=>bif (!(r.2==0)) then some (0,[],0,0,[],[],[],r.2) else (OM b l).bind λd=>bif (!d) then some (0,[],0,0,[],[],[],2) else (pZ b).bind λc=>(eK b (0,(c.2.1,c.1),(r.1,[]),l,[])).bind λa=>some (a.1,a.2.2.2.2.1,a.2.1,a.2.2.1,a.2.2.2.1,a.2.2.2.2.2.1,a.2.2.2.2.2.2,0)
def AX:FnA:=⟨tw [zac,.reg [(1,{}),(5,{ids:=[101]})],zau,zfo,.reg [(0,{ids:=[102,103],fn:=2}),(5,{ids:=[104,105,106],md:=[1],fn:=3})]] lf,⟨(lc [ki] zbQ),[]⟩,[⟨(lc [.agg TS] qL6),[]⟩],[1,0]⟩
theorem dZZ:To 24 AX λfu t=>mH fu t.1 t.2:=tj (ta pKZ (ta jDZ (ta dYZ (ta cAZ tz)))) func24
def nB(i:Nat)(e:qT1)(x b:Int)(a:List qT1)(c:Int):oN (lF⊕((List qT1×Int)⊕(lF⊕(Unit⊕Bool)))):=bif (decide (b<(e.2.2.2.2.2.2.2.length:Int))) then (aK x a.length).bind λf=>a[f]?.bind λd=>(aK b d.2.2.2.2.2.2.2.length).bind λg=>d.2.2.2.2.2.2.2[g]?.bind λh=>bif (decide ((h.1.length:Int)>3000)) then some (.inr (.inr (.inr (.inr true)))) else some (.inl ((wI (b+1)),a,c)) else some (.inr (.inl (a,c)))
def jJ(b:Nat)(c:qT1)(x:Int)(a:lF):oN ((List qT1×Int)⊕(lF⊕(Unit⊕Bool))):=iter b (λa=>nB b c x a.1 a.2.1 a.2.2) a
def nC(i:Nat)(t:List qT1×Int)(x:Int)(h:List qT1)(a:Int):oN (lF⊕(Unit⊕Bool)):=bif (decide (x<(t.1.length:Int))) then Option.bind (α:=(Bool×List qT1×Int)) ((aK x h.length).bind λq=>h[q]?.bind λr=>bif (decide ((r.2.2.2.2.2.1.length:Int)>120)) then some (true,h,a) else (aK x h.length).bind λb=>h[b]?.bind λc=>some ((decide ((c.2.2.2.2.2.2.2.length:Int)>120)),h,a)) λo=>bif o.1 then some (.inr (.inr true)) else (aK x o.2.1.length).bind λd=>o.2.1[d]?.bind λe=>(jJ i e x (0,o.2)).bind λf=>match f with
   |.inl s=>some (.inl ((wI (x+1)),s))
   |.inr g=>some g else some (.inr (.inl ()))
def jK(b:Nat)(t:List qT1×Int)(a:lF):oN (Unit⊕Bool):=iter b (λa=>nC b t a.1 a.2.1 a.2.2) a
def qA(c:Nat)(t:List qT1×Int):oN Bool:=bif (decide ((t.1.length:Int)>40)) then some true else (jK c t (0,t)).bind λa=>match a with
  |.inl d=>some false
  |.inr b=>some b
def AY:FnA:=⟨tw [zac,zau,.two lf (.one (.loop ⟨[1,12],⟨zbH,[zaT]⟩⟩ true zca (tw [lf,lf,.one (tw [lf,tw [.join ⟨[1,32],zeW⟩ false [] lf] zab,lf] (.one (.loop ⟨[1,40],⟨zbH,[zaT]⟩⟩ true [(2,zfK)] zcx)))] lf)))] lf,za9,zay,[0]⟩
theorem gPZ:To 57 AY qA:=tj tz func57
def kM(d:Nat)(o:Bool×xM)(n x:Int)(h:List qT1)(b:Int)(a:List (List UInt8)):oN ((Int×Int×xM)⊕(Int)):=bif (decide (x<(o.2.2.2.length:Int))) then (aK x a.length).bind λq=>a[q]?.bind λc=>some (.inl ((wI (n+(c.length:Int))),(wI (x+1)),h,b,a)) else some (.inr n)
def iC(b:Nat)(o:Bool×xM)(a:Int×Int×xM):oN Int:=iter b (λa=>kM b o a.1 a.2.1 a.2.2.1 a.2.2.2.1 a.2.2.2.2) a
def lG(a:Nat)(m:(List qT1×Int)×List (List UInt8)):oN Bool:=Option.bind (α:=(Bool×xM)) ((qA a (m.1.1,m.1.2)).bind λr=>bif r then some (true,m.1.1,m.1.2,m.2) else some ((decide ((m.2.length:Int)>60)),m.1.1,m.1.2,m.2)) λo=>bif o.1 then some true else (iC a o (0,0,o.2.1,o.2.2.1,o.2.2.2)).bind λb=>some (decide (b>70000))
def xP:FnA:=⟨tw [zac,tw [.join ⟨[1,13],zfB⟩ false [] zd6] zab,lf,.two lf (.one (.loop ⟨[1,3,17],⟨zeX,zcU⟩⟩ false [(0,⟨[3],za1⟩)] (tw [lf,lf,.one lf] lf)))] lf,zdf,zay,[0]⟩
theorem fxZ:To 27 xP lG:=tj (ta gPZ tz) func27
def rG(n:Nat)(o:Bool×qR)(x h c d e f:Int)(g:Bool)(i:Int)(j:List UInt8)(a:List (List UInt8×Int))(l:Bool)(b:Int):oN ((Int×qR)⊕(Unit⊕Bool)):=bif (decide (x<(o.2.2.2.2.2.2.2.2.2.1.length:Int))) then (aK x a.length).bind λq=>a[q]?.bind λm=>bif (decide ((m.1.length:Int)>3000)) then some (.inr (.inr true)) else some (.inl ((wI (x+1)),h,c,d,e,f,g,i,j,a,l,b)) else some (.inr (.inl ()))
def mI(a:Nat)(o:Bool×qR)(b:Int×qR):oN (Unit⊕Bool):=iter a (u12 (rG a o)) b
def kN(i:Nat)(c:qT9)(r:qT3):oN Bool:=Option.bind (α:=(Bool×qR)) (bif (decide ((c.d.length:Int)>3000)) then some (true,r.1,r.a,r.b,r.c.1,r.c.2,r.C) else bif (decide ((c.f.length:Int)>3000)) then some (true,r.1,r.a,r.b,r.c.1,r.c.2,r.C) else bif (decide ((c.H.length:Int)>5000)) then some (true,r.1,r.a,r.b,r.c.1,r.c.2,r.C) else bif (decide ((r.f.length:Int)>5000)) then some (true,r.1,r.a,r.b,r.c.1,r.c.2,r.C) else some ((decide ((r.g.length:Int)>120)),r.1,r.a,r.b,r.c.1,r.c.2,r.C)) λo=>bif o.1 then some true else (mI i o (0,o.2)).bind λe=>match e with
  |.inl s=>some false
  |.inr h=>some h
def yT:FnA:=⟨tw [zad,tw [.join ⟨[3,33],⟨(lc [.own 0 101 0 0] zaa),[zc9]⟩⟩ false [] lf] zab,.two lf (.one (.loop ⟨[3,37],⟨ze1,[zc9]⟩⟩ true zca zcx))] lf,⟨(lc [.p mF] zdk),[]⟩,zay,[0]⟩
theorem fKZ:To 28 yT λfu t=>kN fu t.1 t.2:=tj tz func28
def OQ(a:Nat)(n:qT1):oN Bool:=bif (!n.2.2.1) then bif (!n.2.2.2.1) then bif (n.2.2.2.2.1==0) then bif (n.2.2.2.2.2.2.1==0) then some ((wI ((n.2.2.2.2.2.1.length:Int)+(n.2.2.2.2.2.2.2.length:Int)))==0) else some false else some false else some false else some false
def OR:FnA:=⟨.two zac lf,zdi,zay,[0]⟩
theorem qIZ:To 128 OR OQ:=tj tz func128
def HC(b:Nat)(e:List UInt8×Int)(h:List UInt8)(a:Int):oN (Bool×List UInt8×Int):=bif (decide ((e.1.length:Int)<1)) then some (true,e.1,a) else bif (decide ((e.1.length:Int)>30)) then some (true,e.1,a) else bif ((Op.bytesLess e.1 h)||(e.1==h)) then some (true,e.1,a) else bif decide (e.2<1) then some (true,e.1,a) else some ((decide (e.2>a)),e.1,a)
def KW:FnA:=⟨.two zac zau,⟨(lc [.p (.pair .str ti)] zfg),zb0⟩,[⟨zaa,zb0⟩],[0]⟩
theorem nyZ:To 168 KW (v3 HC):=tj tz func168
def oO(d:Nat)(s:List (List UInt8×Int))(x:Int)(b:List UInt8)(c:Int):oN ((Int×List UInt8×Int)⊕((List UInt8×Int)⊕(Int×List UInt8×Int))):=bif (decide (x<(s.length:Int))) then (aK x s.length).bind λq=>s[q]?.bind λr=>(HC d r b c).bind λa=>bif a.1 then some (.inr (.inr (x,a.2.1,a.2.2))) else some (.inl ((wI (x+1)),a.2.1,a.2.2)) else some (.inr (.inl (b,c)))
def oP(b:Nat)(s:List (List UInt8×Int))(a:Int×List UInt8×Int):oN ((List UInt8×Int)⊕(Int×List UInt8×Int)):=iter b (λa=>oO b s a.1 a.2.1 a.2.2) a
def xQ(d:Nat)(s:List (List UInt8×Int))(h:List UInt8)(b:Int):oN (Int×List UInt8×Int):=(oP d s (0,h,b)).bind λo=>match o with
 |.inl a=>some ((-1),a.1,a.2)
 |.inr c=>some c
def DJ:FnA:=⟨tw [lf,.two lf (.one (.loop ⟨[1,8],⟨(lc [.fn 168 .nil (lc [.own 0 0 0 0] xK)] qL6),zb0⟩⟩ true [(0,⟨[1],⟨zdl,zb0⟩⟩)] zcq))] lf,zbN,[⟨qL6,zb0⟩],[0]⟩
theorem iJZ:To 132 DJ (v3 xQ):=tj (ta nyZ tz) func132
def xR(b:Nat)(s:List (List UInt8×Int))(h:List UInt8)(a:Int):oN (Bool×List UInt8×Int):=(xQ b s h a).bind λr=>some ((decide (r.1>=0)),r.2.1,r.2.2)
def DK:FnA:=⟨tw [lf,zcM] lf,zbN,[⟨zaa,zb0⟩],[0]⟩
theorem i5Z:To 77 DK (v3 xR):=tj (ta iJZ tz) func77
def OS(a:Nat)(n:qT1)(many:Int):oN Bool:=bif (n.2.2.2.2.1==0) then bif ((n.2.2.2.2.2.1.length:Int)==0) then bif (decide ((n.2.2.2.2.2.2.2.length:Int)<=100)) then (xR a n.2.2.2.2.2.2.2 [] many).bind λr=>some (!r.1) else some false else some false else some false
def OT:FnA:=⟨tw [zad,zdF,lf,.reg [(19,{sh:=[102,101]})]] lf,zeY,zay,[0]⟩
theorem rvZ:To 129 OT λfu t=>OS fu t.1 t.2:=tj (ta i5Z tz) func129
def HD(b:Nat)(p:Int×Int)(h:bZ)(a:Int):oN (Bool×bZ×Int):=bif ((p.1==0)&&(p.2==0)) then some (false,h,a) else bif ((Option.getD (gX (k:=(.int .i64)) (v:=(.int .i64)) h p.1) 0)==1) then some (true,(iM (k:=(.int .i64)) (v:=(.int .i64)) h p.1 1),a) else bif decide (p.1<1) then some (true,(iM (k:=(.int .i64)) (v:=(.int .i64)) h p.1 1),a) else bif decide (p.1>a) then some (true,(iM (k:=(.int .i64)) (v:=(.int .i64)) h p.1 1),a) else bif decide (p.2<1) then some (true,(iM (k:=(.int .i64)) (v:=(.int .i64)) h p.1 1),a) else some ((decide (p.2>1099511627776)),(iM (k:=(.int .i64)) (v:=(.int .i64)) h p.1 1),a)
def KX:FnA:=⟨tw [zac,zau] zau,⟨(lc [.p qY5] zdD),zai⟩,[⟨zaa,zai⟩],[0]⟩
theorem nQZ:To 169 KX (v3 HD):=tj tz func169
def oQ(d:Nat)(s:List (Int×Int))(x:Int)(b:bZ)(c:Int):oN ((Int×bZ×Int)⊕((bZ×Int)⊕(Int×bZ×Int))):=bif (decide (x<(s.length:Int))) then (aK x s.length).bind λq=>s[q]?.bind λr=>(HD d r b c).bind λa=>bif a.1 then some (.inr (.inr (x,a.2.1,a.2.2))) else some (.inl ((wI (x+1)),a.2.1,a.2.2)) else some (.inr (.inl (b,c)))
def kO(b:Nat)(s:List (Int×Int))(a:Int×bZ×Int):oN ((bZ×Int)⊕(Int×bZ×Int)):=iter b (λa=>oQ b s a.1 a.2.1 a.2.2) a
def xS(d:Nat)(s:List (Int×Int))(h:bZ)(b:Int):oN (Int×bZ×Int):=(kO d s (0,h,b)).bind λo=>match o with
 |.inl a=>some ((-1),a.1,a.2)
 |.inr c=>some c
def DL:FnA:=⟨tw [lf,.two lf (.one (.loop ⟨[1,8],⟨(lc [.fn 169 .nil (ln [.own 0 0 0 0,.own 0 2 0 0])] qL6),zai⟩⟩ true [(0,⟨[1],⟨zbq,zai⟩⟩)] (tw [lf,lf,.one (tw [lf,.reg [(5,{sh:=[0,1,2]})]] zab)] lf)))] lf,zel,[⟨qL6,zai⟩],[0]⟩
theorem i0Z:To 115 DL (v3 xS):=tj (ta nQZ tz) func115
def xT(b:Nat)(s:List (Int×Int))(h:bZ)(a:Int):oN (Bool×bZ×Int):=(xS b s h a).bind λr=>some ((decide (r.1>=0)),r.2.1,r.2.2)
def VH:FnA:=⟨tw [lf,.reg [(2,{sh:=[0,1,2]})]] lf,zel,[⟨zaa,zai⟩],[0]⟩
theorem i6Z:To 84 VH (v3 xT):=tj (ta i0Z tz) func84
def AZ(a:Nat)(n:qT1)(stripe:Int)(h:bZ):oN (Bool×bZ):=bif decide (n.2.2.2.2.1>=0) then bif decide (n.2.2.2.2.1<=65536) then bif ((n.2.2.2.2.2.2.2.length:Int)==0) then bif (decide ((n.2.2.2.2.2.1.length:Int)<=4096)) then (xT a n.2.2.2.2.2.1 h stripe).bind λr=>some ((!r.1),r.2.1) else some (false,h) else some (false,h) else some (false,h) else some (false,h)
def IT:FnA:=⟨tw [zap,lf,.reg [(24,{sh:=[102,0,101]})]] lf,⟨(lc [.p qY0,ki,.mp 0] zaR),zdP⟩,[⟨zaa,zdP⟩],[0]⟩
theorem mdZ:To 130 IT (v3 AZ):=tj (ta i6Z tz) func130
def qB(d:Nat)(o:Bool×List qT1×Int)(t:List qT1×Int)(x:Int)(h:List qT1)(c:Int)(e:bZ):oN ((Int×List qT1×Int×bZ)⊕((List qT1×Int)⊕Bool)):=bif (decide (x<(o.2.1.length:Int))) then (aK x o.2.1.length).bind λq=>o.2.1[q]?.bind λr=>(OQ d r).bind λi=>Option.bind (α:=(Bool×List qT1×Int×bZ×qT1)) (bif r.2.2.1 then some (r.2.2.2.1,h,c,e,r) else some (false,h,c,e,r)) λb=>Option.bind (α:=(Bool×List qT1×Int×bZ×qT1)) (bif b.1 then (OS d b.2.2.2.2 (t.1.length:Int)).bind λj=>some (j,b.2) else Option.bind (α:=(Bool×List qT1×Int×bZ×qT1)) (bif b.2.2.2.2.2.2.1 then (AZ d b.2.2.2.2 b.2.2.1 b.2.2.2.1).bind λf=>some (f.1,b.2.1,b.2.2.1,f.2,b.2.2.2.2) else some (i,b.2)) λl=>some l) λa=>Option.bind (α:=(Bool×List qT1×Int×bZ)) (bif (!a.1) then some (true,a.2.1,a.2.2.1,a.2.2.2.1) else bif (!(a.2.2.2.2.1==(wI (x+1)))) then some (true,a.2.1,a.2.2.1,a.2.2.2.1) else bif decide (a.2.2.2.2.2.1<1) then some (true,a.2.1,a.2.2.1,a.2.2.2.1) else bif decide (a.2.2.2.2.2.1>1099511627776) then some (true,a.2.1,a.2.2.1,a.2.2.2.1) else bif a.2.2.2.2.2.2.1 then bif decide (a.2.2.2.2.2.2.2.2.2.2.1<1) then some (true,a.2.1,a.2.2.1,a.2.2.2.1) else some ((decide (a.2.2.2.2.2.2.2.2.2.2.1>(t.1.length:Int))),a.2.1,a.2.2.1,a.2.2.2.1) else some (false,a.2.1,a.2.2.1,a.2.2.2.1)) λg=>bif g.1 then some (.inr (.inr false)) else some (.inl ((wI (x+1)),g.2)) else some (.inr (.inl (h,c)))
def rW(b:Nat)(o:Bool×List qT1×Int)(t:List qT1×Int)(a:Int×List qT1×Int×bZ):oN ((List qT1×Int)⊕Bool):=iter b (λa=>qB b o t a.1 a.2.1 a.2.2.1 a.2.2.2) a
def DN(e:Nat)(t:List qT1×Int):oN Bool:=Option.bind (α:=(Bool×List qT1×Int)) (bif (decide ((t.1.length:Int)<1)) then some (true,t) else bif (decide ((t.1.length:Int)>500)) then some (true,t) else bif decide (t.2<0) then some (true,t) else some ((decide (t.2>1099511627776)),t)) λo=>bif o.1 then some false else (rW e o t (0,o.2.1,o.2.2,[],0)).bind λb=>match b with
  |.inl s=>(aK 0 s.1.length).bind λc=>s.1[c]?.bind λa=>bif a.2.2.1 then bif a.2.2.2.1 then some (a.2.2.2.2.2.2.1==1) else some false else some false
  |.inr d=>some d
def OU:FnA:=⟨tw [zac,lf,tw [.join ⟨[1,27],zeW⟩ false [] lf] zab,zdG,.two lf (.one (.loop ⟨[1,4,32],⟨(lc [.own 0 100 0 0,.mp 101] qL6),[zaT,zc5]⟩⟩ true [(0,zfK)] (tw [lf,lf,.one (tw [zdH,zck,.one (tw [.join ⟨[1,4,6,39],zaL⟩ false [] lf] (.join ⟨[1,4,6,7],zaL⟩ false [] (tw [zee,lf] (.join ⟨[1,4,6,7],zaL⟩ false [] (tw [.reg [(4,{sh:=[101],fn:=2})]] lf))))),.join ⟨[1,4,90],⟨(lc [.own 0 100 0 0,.mp 101] zaa),[zaT,zc5]⟩⟩ false [] lf] zab)] lf))),.reg [(4,{ids:=[103]})]] lf,za9,zay,[0]⟩
theorem eIZ:To 74 OU DN:=tj (ta qIZ (ta rvZ (ta mdZ tz))) func74
def BA(a:Nat)(s chars:List UInt8):oN Bool:=aP (Nat.beq chars.length 2&&chars.all (λb=>Nat.blt b.toNat 128)&&Nat.blt s.length 4294967281) (some (Go.Lib.containsAny s chars))
def FK(fu:Nat):FnT:=⟨131,⟨(.cons (.p .str) (.cons (.p .str) .nil)),[]⟩,[⟨(.cons (.p .bool) .nil),[]⟩],λt=>BA fu t.1 t.2⟩
theorem kpZ(fu:Nat):dY Tryz.prog (FK fu):=
 fvZ Tryz.ca131 (by kernel_rfl) ⟨_,_,func131,rfl,by kernel_rfl⟩
def BB(a:Nat)(s:List UInt8):oN Bool:=bif (decide ((s.length:Int)>=1)) then bif (decide ((s.length:Int)<=30)) then bif (!(s==[46])) then bif (!(s==[46,46])) then (BA a s [0,47]).bind λr=>some (!r) else some false else some false else some false else some false
def OV:FnA:=⟨tw [lf,.reg [(18,{})]] lf,⟨zbj,[]⟩,zay,[0]⟩
theorem dwZ:To 76 OV BB:=tj (ta kpZ tz) func76
def HE(t:Nat)(e:List UInt8×Int)(h:List Int)(b:List qT1)(f c g:Int)(i j:Bool)(l:Int)(m:List (Int×Int))(n:Int)(a:List (List UInt8×Int)):oN (Bool×List Int×List qT1×Int×qT1):=(aK e.2 h.length).bind λq=>h[q]?.bind λr=>(aK e.2 h.length).bind λd=>h[d]?.bind λu=>(aK (wI (e.2-1)) b.length).bind λp=>b[p]?.bind λo=>(BB t e.1).bind λs=>bif (!s) then some (true,(List.set h d (wI (r+1))),b,f,c,g,i,j,l,m,n,a) else bif (!o.2.2.1) then some (true,(List.set h d (wI (r+1))),b,f,c,g,i,j,l,m,n,a) else some ((!(o.2.2.2.2.2.2.1==c)),(List.set h d (wI (r+1))),b,f,c,g,i,j,l,m,n,a)
def KY:FnA:=⟨tw [zac,lf,.reg [(7,{ids:=[101]})]] zbT,⟨(lc [.p (.pair .str ti),.own 0 0 0 0,.own 0 2 0 0] zfp),zag⟩,[⟨zaa,zag⟩],[0]⟩
theorem o7Z:To 75 KY (v12 HE):=tj (ta dwZ tz) func75
def oR(n:Nat)(s:List (List UInt8×Int))(x:Int)(b:List Int)(c:List qT1)(d e f:Int)(g h:Bool)(i:Int)(j:List (Int×Int))(l:Int)(m:List (List UInt8×Int)):oN ((Int×List Int×List qT1×Int×qT1)⊕((List Int×List qT1×Int×qT1)⊕(Int×List Int×List qT1×Int×qT1))):=bif (decide (x<(s.length:Int))) then (aK x s.length).bind λq=>s[q]?.bind λr=>(HE n r b c d e f g h i j l m).bind λa=>bif a.1 then some (.inr (.inr (x,a.2.1,a.2.2.1,a.2.2.2.1,a.2.2.2.2.1,a.2.2.2.2.2.1,a.2.2.2.2.2.2.1,a.2.2.2.2.2.2.2.1,a.2.2.2.2.2.2.2.2.1,a.2.2.2.2.2.2.2.2.2.1,a.2.2.2.2.2.2.2.2.2.2.1,a.2.2.2.2.2.2.2.2.2.2.2))) else some (.inl ((wI (x+1)),a.2.1,a.2.2.1,a.2.2.2.1,a.2.2.2.2.1,a.2.2.2.2.2.1,a.2.2.2.2.2.2.1,a.2.2.2.2.2.2.2.1,a.2.2.2.2.2.2.2.2.1,a.2.2.2.2.2.2.2.2.2.1,a.2.2.2.2.2.2.2.2.2.2.1,a.2.2.2.2.2.2.2.2.2.2.2)) else some (.inr (.inl (b,c,d,e,f,g,h,i,j,l,m)))
def kQ(b:Nat)(s:List (List UInt8×Int))(a:Int×List Int×List qT1×Int×qT1):oN ((List Int×List qT1×Int×qT1)⊕(Int×List Int×List qT1×Int×qT1)):=iter b (λa=>oR b s a.1 a.2.1 a.2.2.1 a.2.2.2.1 a.2.2.2.2.1 a.2.2.2.2.2.1 a.2.2.2.2.2.2.1 a.2.2.2.2.2.2.2.1 a.2.2.2.2.2.2.2.2.1 a.2.2.2.2.2.2.2.2.2.1 a.2.2.2.2.2.2.2.2.2.2.1 a.2.2.2.2.2.2.2.2.2.2.2) a
def xU(p:Nat)(s:List (List UInt8×Int))(h:List Int)(c:List qT1)(d e f:Int)(g i:Bool)(j:Int)(l:List (Int×Int))(m:Int)(b:List (List UInt8×Int)):oN (Int×List Int×List qT1×Int×qT1):=(kQ p s (0,h,c,d,e,f,g,i,j,l,m,b)).bind λo=>match o with
 |.inl a=>some ((-1),a.1,a.2.1,a.2.2.1,a.2.2.2.1,a.2.2.2.2.1,a.2.2.2.2.2.1,a.2.2.2.2.2.2.1,a.2.2.2.2.2.2.2.1,a.2.2.2.2.2.2.2.2.1,a.2.2.2.2.2.2.2.2.2.1,a.2.2.2.2.2.2.2.2.2.2)
 |.inr n=>some n
def DO:FnA:=⟨tw [lf,.two lf (.one (.loop ⟨[1,8],⟨(lc [.fn 75 .nil (ln [.own 0 0 0 0,.own 0 2 0 0,.own 0 3 0 0])] qL6),zag⟩⟩ true [(0,⟨[1],⟨zbe,zag⟩⟩)] zcm))] lf,zda,[⟨qL6,zag⟩],[0]⟩
theorem jmZ:To 132 DO (v12 xU):=tj (ta o7Z tz) func132
def wG(m:Nat)(s:List (List UInt8×Int))(h:List Int)(b:List qT1)(c d e:Int)(f g:Bool)(i:Int)(j:List (Int×Int))(l:Int)(a:List (List UInt8×Int)):oN (Bool×List Int×List qT1×Int×qT1):=(xU m s h b c d e f g i j l a).bind λr=>some ((decide (r.1>=0)),r.2.1,r.2.2.1,r.2.2.2.1,r.2.2.2.2.1,r.2.2.2.2.2.1,r.2.2.2.2.2.2.1,r.2.2.2.2.2.2.2.1,r.2.2.2.2.2.2.2.2.1,r.2.2.2.2.2.2.2.2.2.1,r.2.2.2.2.2.2.2.2.2.2.1,r.2.2.2.2.2.2.2.2.2.2.2)
def FL:FnA:=⟨.two lf zeb,zda,[⟨zaa,zag⟩],[0]⟩
theorem jpZ:To 77 FL (v12 wG):=tj (ta jmZ tz) func77
def BC(d:Nat)(t:List qT1×Int)(id1 x:Int)(h:List qT1)(a:Int):oN ((Int×lF)⊕(Int⊕Bool)):=bif (decide (x<(t.1.length:Int))) then bif (id1==1) then some (.inr (.inr true)) else (aK (wI (id1-1)) h.length).bind λq=>h[q]?.bind λr=>bif (!r.2.2.1) then some (.inr (.inr false)) else (aK (wI (id1-1)) h.length).bind λb=>h[b]?.bind λc=>some (.inl (c.2.2.2.2.2.2.1,(wI (x+1)),h,a)) else some (.inr (.inl id1))
def rX(b:Nat)(t:List qT1×Int)(a:Int×lF):oN (Int⊕Bool):=iter b (λa=>BC b t a.1 a.2.1 a.2.2.1 a.2.2.2) a
def OW(b:Nat)(t:List qT1×Int)(id:Int):oN Bool:=(rX b t (id,0,t.1,t.2)).bind λo=>match o with
 |.inl s=>some (s==1)
 |.inr a=>some a
def OX:FnA:=⟨tw [zac,.two lf (.one (.loop ⟨[1,2,8],⟨(lc [ki] zbH),[zaT]⟩⟩ true [(0,⟨[1],za1⟩)] (tw [lf,lf,.one (.two zau zfL)] lf)))] lf,⟨(lc [.p qU] qL6),[]⟩,zay,[0]⟩
theorem p3Z:To 78 OX λfu t=>OW fu t.1 t.2:=tj tz func78
def BD(e:Nat)(t:List qT1×Int)(x:Int)(h:List qT1)(c:Int)(d:List Int):oN ((Int×List qT1×Int×List Int)⊕((List qT1×Int×List Int)⊕Bool)):=bif (decide (x<(t.1.length:Int))) then (aK x t.1.length).bind λf=>t.1[f]?.bind λb=>Option.bind (α:=(Bool×List qT1×Int×List Int)) ((wG e b.2.2.2.2.2.2.2 d h c b.1 b.2.1 b.2.2.1 b.2.2.2.1 b.2.2.2.2.1 b.2.2.2.2.2.1 b.2.2.2.2.2.2.1 b.2.2.2.2.2.2.2).bind λa=>bif a.1 then some (true,a.2.2.1,a.2.2.2.1,a.2.1) else bif a.2.2.2.2.2.2.1 then (OW e (a.2.2.1,a.2.2.2.1) a.2.2.2.2.1).bind λg=>some ((!g),a.2.2.1,a.2.2.2.1,a.2.1) else some (false,a.2.2.1,a.2.2.2.1,a.2.1)) λo=>bif o.1 then some (.inr (.inr false)) else some (.inl ((wI (x+1)),o.2.1,o.2.2.1,o.2.2.2)) else some (.inr (.inl (h,c,d)))
def rY(b:Nat)(t:List qT1×Int)(a:Int×List qT1×Int×List Int):oN ((List qT1×Int×List Int)⊕Bool):=iter b (λa=>BD b t a.1 a.2.1 a.2.2.1 a.2.2.2) a
def BE(i:Nat)(s:List qT1×Int×List Int)(c:Int)(e:List Int):oN ((Int×List Int)⊕(Unit⊕Bool)):=bif (decide (c<(s.1.length:Int))) then (aK c s.1.length).bind λf=>s.1[f]?.bind λb=>Option.bind (α:=(Bool×List Int×qT1)) (bif (b.1==1) then some (true,e,b) else some ((!b.2.2.1),e,b)) λd=>Option.bind (α:=(Int×List Int×qT1)) (bif d.1 then some (0,d.2) else some (1,d.2)) λa=>(aK a.2.2.1 a.2.1.length).bind λg=>a.2.1[g]?.bind λh=>bif (!(h==a.1)) then some (.inr (.inr false)) else some (.inl ((wI (c+1)),a.2.1)) else some (.inr (.inl ()))
def rZ(b:Nat)(s:List qT1×Int×List Int)(a:Int×List Int):oN (Unit⊕Bool):=iter b (λa=>BE b s a.1 a.2) a
def FM(a:Nat)(t:List qT1×Int):oN Bool:=(DN a (t.1,t.2)).bind λr=>bif (!r) then some false else (bL (wI ((t.1.length:Int)+1)) bG).bind λm=>(bL (wI ((t.1.length:Int)+1)) m).bind λq=>aP (Nat.ble (m*8) bG)<|(rY a t (0,t.1,t.2,(List.replicate (α:=Int) q 0))).bind λb=>match b with
  |.inl s=>(rZ a s (0,s.2.2)).bind λc=>match c with
   |.inl f=>some true
   |.inr d=>some d
  |.inr e=>some e
def OY:FnA:=⟨tw [zac,.two zck zab,.reg [(4,{ids:=[101]}),(5,{ids:=[102]})],.two lf (.one (.loop ⟨[1,3,21],⟨(lc [.own 0 100 0 0] ze2),zfM⟩⟩ true [(0,⟨[1,3],⟨zdq,zfM⟩⟩)] (tw [lf,lf,.one (tw [zfq,lf,.join ⟨[1,3,40],⟨(lc [.own 0 100 0 0] zcy),zfM⟩⟩ false [] (.reg [(3,{sh:=[102,101,100,103],fn:=1}),(11,{fn:=2})])] zab)] lf))),.two lf (.one (.loop ⟨[3,45],⟨ze2,[zbc,zbu]⟩⟩ true [(2,⟨[],zbg⟩)] (tw [lf,lf,.one (tw [zfr,lf,tw [.join ⟨[3,8,56],⟨zb6,zeu⟩⟩ false [] lf] (.join ⟨[3,8,9],⟨zdr,zeu⟩⟩ false [] lf)] zau)] lf)))] lf,za9,zay,[0]⟩
theorem fMZ:To 33 OY FM:=tj (ta eIZ (ta jpZ (ta p3Z tz))) func33
def BF(g:Nat)(o:Bool×xM)(x:Int)(h:List qT1)(c:Int)(a:List (List UInt8)):oN ((Int×xM)⊕(Unit⊕Bool)):=bif (decide (x<(o.2.1.length:Int))) then (aK x o.2.1.length).bind λq=>o.2.1[q]?.bind λd=>Option.bind (α:=(Bool×xM)) (bif (decide ((d.2.2.2.2.2.1.length:Int)>0)) then some (true,h,c,a) else (aK x a.length).bind λe=>a[e]?.bind λf=>some ((!((f.length:Int)==d.2.2.2.2.1)),h,c,a)) λb=>bif b.1 then some (.inr (.inr false)) else some (.inl ((wI (x+1)),b.2.1,b.2.2.1,b.2.2.2)) else some (.inr (.inl ()))
def sA(b:Nat)(o:Bool×xM)(a:Int×xM):oN (Unit⊕Bool):=iter b (λa=>BF b o a.1 a.2.1 a.2.2.1 a.2.2.2) a
def OZ(a:Nat)(m:(List qT1×Int)×List (List UInt8)):oN Bool:=Option.bind (α:=(Bool×xM)) ((FM a (m.1.1,m.1.2)).bind λr=>bif (!r) then some (true,m.1.1,m.1.2,m.2) else some ((!((m.2.length:Int)==(m.1.1.length:Int))),m.1.1,m.1.2,m.2)) λo=>bif o.1 then some false else (sA a o (0,o.2.1,o.2.2.1,o.2.2.2)).bind λb=>match b with
  |.inl s=>some true
  |.inr c=>some c
def PR:FnA:=⟨tw [zac,tw [.join ⟨[1,18],zfB⟩ false [] zd6] zab,.two lf (.one (.loop ⟨[1,23],⟨zbH,zcU⟩⟩ true zca (tw [lf,lf,.one (tw [.reg [(3,{ids:=[101]})],.join ⟨[1,42],zfB⟩ false [] lf] zab)] lf)))] lf,zdf,zay,[0]⟩
theorem pJZ:To 68 PR OZ:=tj (ta fMZ tz) func68
def zO(a:Nat):oN xL:=some (true,true,false,false,0,false)
def KZ:FnA:=⟨.two zac lf,zbg,zba,[0]⟩
theorem nPZ:To 137 KZ λfu t=>zO fu:=tj tz func137
def SJ(a:Nat):oN xL:=some (true,false,false,true,4096,false)
def LA:FnA:=⟨.two zac lf,zbg,zba,[0]⟩
theorem nWZ:To 138 LA λfu t=>SJ fu:=tj tz func138
def SK(a:Nat):oN xL:=some (true,false,false,true,0,true)
def LB:FnA:=⟨.two zac lf,zbg,zba,[0]⟩
theorem nUZ:To 139 LB λfu t=>SK fu:=tj tz func139
def SL(a:Nat):oN xL:=some (true,false,false,false,2147483648,false)
def LC:FnA:=⟨.two zac lf,zbg,zba,[0]⟩
theorem peZ:To 140 LC λfu t=>SL fu:=tj tz func140
def VW(a:Nat):oN xL:=some (true,true,true,false,0,false)
def LD:FnA:=⟨.two zac lf,zbg,zba,[0]⟩
theorem oMZ:To 141 LD λfu t=>VW fu:=tj tz func141
def SN(a:Nat):oN xL:=some (true,true,false,false,4096,false)
def LE:FnA:=⟨.two zac lf,zbg,zba,[0]⟩
theorem oEZ:To 142 LE λfu t=>SN fu:=tj tz func142
def SO(a:Nat):oN xL:=some (true,false,false,false,0,false)
def LF:FnA:=⟨.two zac lf,zbg,zba,[0]⟩
theorem nZZ:To 143 LF λfu t=>SO fu:=tj tz func143
def SP(a:Nat):oN xL:=some (false,false,false,false,0,false)
def LG:FnA:=⟨.two zac lf,zbg,zba,[0]⟩
theorem nTZ:To 144 LG λfu t=>SP fu:=tj tz func144
def PZ(g:Nat)(o:Int):oN (Bool×Bool×Bool×Bool×Int×Bool×Bool):=aP ((!((uO 2)==(uO 1)))&&true)<|aP ((!((uO 3)==(uO 1)))&&((!((uO 3)==(uO 2)))&&true))<|aP ((!((uO 7)==(uO 1)))&&((!((uO 7)==(uO 2)))&&((!((uO 7)==(uO 3)))&&true)))<|aP ((!((uO 8)==(uO 1)))&&((!((uO 8)==(uO 2)))&&((!((uO 8)==(uO 3)))&&((!((uO 8)==(uO 7)))&&true))))<|aP ((!((uO 4)==(uO 1)))&&((!((uO 4)==(uO 2)))&&((!((uO 4)==(uO 3)))&&((!((uO 4)==(uO 7)))&&((!((uO 4)==(uO 8)))&&true)))))<|aP ((!((uO 5)==(uO 1)))&&((!((uO 5)==(uO 2)))&&((!((uO 5)==(uO 3)))&&((!((uO 5)==(uO 7)))&&((!((uO 5)==(uO 8)))&&((!((uO 5)==(uO 4)))&&true))))))<|aP ((!((uO 6)==(uO 1)))&&((!((uO 6)==(uO 2)))&&((!((uO 6)==(uO 3)))&&((!((uO 6)==(uO 7)))&&((!((uO 6)==(uO 8)))&&((!((uO 6)==(uO 4)))&&((!((uO 6)==(uO 5)))&&true)))))))<|aP ((!((uO 9)==(uO 1)))&&((!((uO 9)==(uO 2)))&&((!((uO 9)==(uO 3)))&&((!((uO 9)==(uO 7)))&&((!((uO 9)==(uO 8)))&&((!((uO 9)==(uO 4)))&&((!((uO 9)==(uO 5)))&&((!((uO 9)==(uO 6)))&&true))))))))<|aP ((!((uO 10)==(uO 1)))&&((!((uO 10)==(uO 2)))&&((!((uO 10)==(uO 3)))&&((!((uO 10)==(uO 7)))&&((!((uO 10)==(uO 8)))&&((!((uO 10)==(uO 4)))&&((!((uO 10)==(uO 5)))&&((!((uO 10)==(uO 6)))&&((!((uO 10)==(uO 9)))&&true)))))))))<|aP ((!((uO 11)==(uO 1)))&&((!((uO 11)==(uO 2)))&&((!((uO 11)==(uO 3)))&&((!((uO 11)==(uO 7)))&&((!((uO 11)==(uO 8)))&&((!((uO 11)==(uO 4)))&&((!((uO 11)==(uO 5)))&&((!((uO 11)==(uO 6)))&&((!((uO 11)==(uO 9)))&&((!((uO 11)==(uO 10)))&&true))))))))))<|aP ((!((uO 12)==(uO 1)))&&((!((uO 12)==(uO 2)))&&((!((uO 12)==(uO 3)))&&((!((uO 12)==(uO 7)))&&((!((uO 12)==(uO 8)))&&((!((uO 12)==(uO 4)))&&((!((uO 12)==(uO 5)))&&((!((uO 12)==(uO 6)))&&((!((uO 12)==(uO 9)))&&((!((uO 12)==(uO 10)))&&((!((uO 12)==(uO 11)))&&true)))))))))))<|(oA o).bind λc=>bif (c==(uO 1)) then (zO g).bind λr=>some (r.1,r.a,r.b,r.c,r.d,r.D,true) else bif (c==(uO 2)) then (zO g).bind λh=>some (h.1,h.a,h.b,h.c,h.d,h.D,true) else bif (c==(uO 3)) then (zO g).bind λi=>some (i.1,i.a,i.b,i.c,i.d,i.D,true) else bif (c==(uO 7)) then (zO g).bind λj=>some (j.1,j.a,j.b,j.c,j.d,j.D,true) else bif (c==(uO 8)) then (zO g).bind λl=>some (l.1,l.a,l.b,l.c,l.d,l.D,true) else bif (c==(uO 4)) then (SJ g).bind λm=>some (m.1,m.a,m.b,m.c,m.d,m.D,true) else bif (c==(uO 5)) then (SK g).bind λn=>some (n.1,n.a,n.b,n.c,n.d,n.D,true) else bif (c==(uO 6)) then (SL g).bind λp=>some (p.1,p.a,p.b,p.c,p.d,p.D,true) else bif (c==(uO 9)) then (VW g).bind λq=>some (q.1,q.a,q.b,q.c,q.d,q.D,true) else bif (c==(uO 10)) then (SN g).bind λs=>some (s.1,s.a,s.b,s.c,s.d,s.D,true) else bif (c==(uO 11)) then (SO g).bind λe=>some (e.1,e.a,e.b,e.c,e.d,e.D,true) else bif (c==(uO 12)) then (SP g).bind λf=>some (f.1,f.a,f.b,f.c,f.d,f.D,true) else some (false,false,false,false,0,false,false)
def QA:FnA:=⟨tw [zac,lf,zdG,lf] (.sel (.slot 6 (.fn 137 .nil .nil)) (.two zab zfJ) (.sel (.slot 6 (.fn 138 .nil .nil)) (tw [zab,zcH] lf) (.sel (.slot 6 (.fn 139 .nil .nil)) (tw [zab,.reg [(1,{fn:=2})]] lf) (.sel (.slot 6 (.fn 140 .nil .nil)) (tw [zab,.reg [(1,{fn:=3})]] lf) (.sel (.slot 6 (.fn 141 .nil .nil)) (tw [zab,.reg [(1,{fn:=4})]] lf) (.sel (.slot 6 (.fn 142 .nil .nil)) (tw [zab,.reg [(1,{fn:=5})]] lf) (.sel (.slot 6 (.fn 143 .nil .nil)) (tw [zab,.reg [(1,{fn:=6})]] lf) (tw [zau,.reg [(1,{fn:=7})]] lf)))))))),zem,[⟨(lc [.agg TA] zaa),[]⟩],[0,0]⟩
theorem r2Z:To 85 QA PZ:=tj (ta nPZ (ta nWZ (ta nUZ (ta peZ (ta oMZ (ta oEZ (ta nZZ (ta nTZ tz)))))))) func85
def FN(a:Nat)(client xid:Int):oN Bool:=bif decide (client>=0) then bif decide (client<16) then bif decide (xid>=1) then some (decide (xid<=1099511627776)) else some false else some false else some false
def QB:FnA:=⟨.two lf lf,zdO,zay,[0]⟩
theorem kDZ:To 86 QB λfu t=>FN fu t.1 t.2:=tj tz func86
def FO(a:Nat)(h:Int×Int):oN Bool:=bif decide (h.1>=1) then bif decide (h.1<=500) then bif decide (h.2>=1) then some (decide (h.2<=1099511627776)) else some false else some false else some false
def QC:FnA:=⟨.two zac lf,⟨zcl,[]⟩,zay,[0]⟩
theorem jQZ:To 88 QC FO:=tj tz func88
def oS(a:Nat)(is_:Bool)(h:Int×Int):oN Bool:=bif is_ then (FO a h).bind λr=>bif r then some true else bif (!is_) then some ((h.1==0)&&(h.2==0)) else some false else bif (!is_) then some ((h.1==0)&&(h.2==0)) else some false
def VI:FnA:=⟨.two zac zcJ,⟨(lc [kb] zcl),[]⟩,zay,[0]⟩
theorem ieZ:To 87 VI λfu t=>oS fu t.1 t.2:=tj (ta jQZ tz) func87
def oT(a:Nat)(is_:Bool)(l:List UInt8):oN Bool:=bif (l==[]) then some true else bif is_ then some (decide ((l.length:Int)<=100)) else some false
def VJ:FnA:=⟨.two lf lf,⟨(lc [kb] zbj),[]⟩,zay,[0]⟩
theorem ifZ:To 89 VJ λfu t=>oT fu t.1 t.2:=tj tz func89
def nE(t:Nat)(c:qT9):oN Bool:=(PZ t (c.b.toNat:Int)).bind λr=>Option.bind (α:=(Bool×Int×Int×Int×Int×Int×List UInt8×Int×Int×List UInt8×Int×Int×List UInt8×xL)) (bif (!r.E) then some (true,c.1,c.a,(c.b.toNat:Int),c.c.1,c.c.2,c.d,c.e.1,c.e.2,c.f,c.g,c.h,c.H,r.1,r.a,r.b,r.c,r.d,r.e) else (FN t c.1 c.a).bind λw=>some ((!w),c.1,c.a,(c.b.toNat:Int),c.c.1,c.c.2,c.d,c.e.1,c.e.2,c.f,c.g,c.h,c.H,r.1,r.a,r.b,r.c,r.d,r.e)) λo=>bif o.1 then some false else Option.bind (α:=(Bool×Int×Int×Int×Int×Int×List UInt8×Int×Int×List UInt8×Int×Int×List UInt8×xL)) ((oS t o.m (o.d,o.e)).bind λx=>bif (!x) then some (true,o.2) else (oS t o.o (o.g,o.h)).bind λy=>bif (!y) then some (true,o.2) else (oT t o.n o.f).bind λz=>bif (!z) then some (true,o.2) else (oT t o.o o.i).bind λA=>some ((!A),o.2)) λs=>bif s.1 then some false else Option.bind (α:=(Bool×Int×Int×Int×Int×Int×List UInt8×Int×Int×List UInt8×Int×Int×List UInt8×xL)) (bif decide (s.j<0) then some (true,s.2) else bif decide (s.j>2147483648) then some (true,s.2) else bif (!s.p) then bif (!(s.j==0)) then some (true,s.2) else bif decide (s.k<0) then some (true,s.2) else some ((decide (s.k>s.q)),s.2) else bif decide (s.k<0) then some (true,s.2) else some ((decide (s.k>s.q)),s.2)) λu=>bif u.1 then some false else bif ((u.l.length:Int)==0) then some true else bif u.Q then some (decide ((u.l.length:Int)<=4096)) else some false
def FP:FnA:=⟨tw [zac,.reg [(2,{}),(6,{ids:=[101]})],tw [.join ⟨[1,3,22],zb2⟩ false [] (.reg [(7,{fn:=1})])] zab,lf,lf,tw [.join ⟨[1,3,56],zb2⟩ false [] (.reg [(5,{fn:=2}),(13,{fn:=2}),(22,{fn:=3}),(31,{fn:=3})])] zab,tw [.join ⟨[1,3,86],zb2⟩ false [] lf] zab] lf,⟨zcg,[]⟩,zay,[0]⟩
theorem crZ:To 41 FP nE:=tj (ta r2Z (ta kDZ (ta ieZ (ta ifZ tz)))) func41
def eW(a:Nat)(n:qT1):oN (Int×Int×Bool×Bool×Int×Int×List (Int×Int)×List (List UInt8×Int)):=(tO a n.2.2.2.2.2.1).bind λr=>(vV a n.2.2.2.2.2.2.2).bind λb=>some (n.1,n.2.1,n.2.2.1,n.2.2.2.1,n.2.2.2.2.1,n.2.2.2.2.2.2.1,r,b)
def BG:FnA:=⟨.two zad zc6,zdi,[⟨(lc [.agg (ln [ki,ki,kb,kb,ki,.slf 2 0,ki,.slf 2 1])] zaR),[zaq,(1,false,yS)]⟩],[0]⟩
theorem bGZ:To 163 BG eW:=tj (ta bZZ (ta bLZ tz)) func163
def gR(c:Nat)(t:List qT1×Int)(h:Int×Int):oN (Int×Int×Bool×Bool×Int×List (Int×Int)×Int×List (List UInt8×Int)×Int):=Option.bind (α:=(Bool×List qT1×Int×Int×Int×Int×Int×Bool×Bool×Int×Int)) (bif decide (h.1<1) then some (true,t.1,t.2,h.1,h.2,0,0,false,false,0,0) else some ((decide (h.1>(t.1.length:Int))),t.1,t.2,h.1,h.2,0,0,false,false,0,0)) λo=>bif o.1 then some (0,0,false,false,0,[],0,[],170) else (aK (wI (o.2.2.2.1-1)) o.2.1.length).bind λq=>o.2.1[q]?.bind λr=>Option.bind (α:=(Bool×Int×Int×Bool×Bool×Int×Int×qT1)) (bif (!r.2.2.1) then some (true,o.e,o.f,o.g,o.h,o.i,o.I,r) else some ((!(r.2.1==o.d)),o.e,o.f,o.g,o.h,o.i,o.I,r)) λb=>bif b.1 then some (0,0,false,false,0,[],0,[],170) else (eW c b.F).bind λa=>some (a.1,a.2.1,a.2.2.1,a.2.2.2.1,a.d,a.f,a.e,a.F,0)
def BH:FnA:=⟨tw [zap,tw [.join ⟨[2,3,4,17],⟨(lc [.own 0 100 0 0,.own 0 101 0 0] zcy),[zaT,zdb,zaN]⟩⟩ false [] lf] zab,zfs,tw [.join ⟨[4,6,35],zcR⟩ false [] lf] zab,.reg [(1,{ids:=[104,105]})]] lf,zeP,[zeF],[1,0]⟩
theorem c8Z:To 123 BH λfu t=>gR fu t.1 t.2:=tj (ta bGZ tz) func123
def FQ(a:Nat)(t:List qT1×Int)(h:Int×Int):oN (Int×Int×Bool×Bool×Int×List (Int×Int)×Int×List (List UInt8×Int)×Int):=(gR a (t.1,t.2) (h.1,h.2)).bind λr=>Option.bind (α:=(Bool×Int×Int×Bool×Bool×Int×Int×qT1)) (bif (r.2.2.2.2.2.2.2.2==0) then some ((!r.2.2.2.1),0,0,false,false,0,0,r.1,r.2.1,r.2.2.1,r.2.2.2.1,r.2.2.2.2.1,r.2.2.2.2.2.1,r.2.2.2.2.2.2.1,r.2.2.2.2.2.2.2.1) else some (false,0,0,false,false,0,0,r.1,r.2.1,r.2.2.1,r.2.2.2.1,r.2.2.2.2.1,r.2.2.2.2.2.1,r.2.2.2.2.2.2.1,r.2.2.2.2.2.2.2.1)) λo=>bif o.1 then some (0,0,false,false,0,[],0,[],173) else some (o.2.2.2.2.2.2.2.1,o.2.2.2.2.2.2.2.2.1,o.2.2.2.2.2.2.2.2.2.1,o.2.2.2.2.2.2.2.2.2.2.1,o.2.2.2.2.2.2.2.2.2.2.2.1,o.2.2.2.2.2.2.2.2.2.2.2.2.1,o.2.2.2.2.2.2.2.2.2.2.2.2.2.1,o.2.2.2.2.2.2.2.2.2.2.2.2.2.2,r.2.2.2.2.2.2.2.2)
def QD:FnA:=⟨tw [zap,.reg [(2,{}),(6,{ids:=[103]})],tw [.join ⟨[4,6,20],zcR⟩ false [] lf] zab] lf,zeP,[zeF],[0,0]⟩
theorem qPZ:To 185 QD λfu t=>FQ fu t.1 t.2:=tj (ta c8Z tz) func185
def nF(e:Nat)(l:List (Int×Int))(x:Int)(h:List qT1)(c:Int)(b:List qT1):oN ((Int×List qT1×Int×List qT1)⊕(List qT1⊕(Int×List qT1))):=bif (decide (x<(l.length:Int))) then (aK x l.length).bind λq=>l[q]?.bind λd=>(FQ e (h,c) (d.1,d.2)).bind λa=>bif (!(a.2.2.2.2.2.2.2.2==0)) then some (.inr (.inr (a.2.2.2.2.2.2.2.2,[]))) else aP ((Nat.ble ((b.length+1)*88) bG)&&(Nat.ble (b.length+1) bG))<|some (.inl ((wI (x+1)),h,c,(b++[(a.1,a.2.1,a.2.2.1,a.2.2.2.1,a.2.2.2.2.1,a.2.2.2.2.2.1,a.2.2.2.2.2.2.1,a.2.2.2.2.2.2.2.1)]))) else some (.inr (.inl b))
def iQ(b:Nat)(l:List (Int×Int))(a:Int×List qT1×Int×List qT1):oN (List qT1⊕(Int×List qT1)):=iter b (λa=>nF b l a.1 a.2.1 a.2.2.1 a.2.2.2) a
def qV(a:Nat)(t:List qT1×Int)(l:List (Int×Int)):oN (Int×List qT1):=(FM a (t.1,t.2)).bind λr=>bif (!r) then some (180,[]) else (iQ a l (0,t.1,t.2,[])).bind λo=>match o with
  |.inl s=>some (0,s)
  |.inr b=>some b
def QE:FnA:=⟨tw [zac,.two zck zab,lf,.two lf (.one (.pre (.ownNil 6 71 101) (.loop ⟨[2,6,16],⟨(lc [.own 0 100 0 0] zfN),[zaT,zcX]⟩⟩ true [(0,⟨[6],⟨zfO,[zcX]⟩⟩)] (tw [lf,lf,.one (tw [zbl,.reg [(2,{fn:=1}),(6,{ids:=[103]})],zau] (.reg [(2,{ids:=[104]}),(3,{ids:=[105]})]))] lf))))] lf,⟨(lc [.p qU] zfn),[]⟩,[⟨(lc [.slf 8 0] qL6),[za0]⟩],[81,0]⟩
theorem d0Z:To 153 QE λfu t=>qV fu t.1 t.2:=tj (ta fMZ (ta qPZ tz)) func153
def zP(c:Nat)(a b:List UInt8):oN Int:=some (Go.Lib.compareBytes a b)
def BI(fu:Nat):FnT:=⟨219,⟨(.cons (.p .str) (.cons (.p .str) .nil)),[]⟩,[⟨qL6,[]⟩],λt=>zP fu t.1 t.2⟩
theorem hbZ(fu:Nat):dY Tryz.prog (BI fu):=
 hcZ func219 (by kernel_rfl) (by kernel_rfl) (by kernel_rfl) (by kernel_rfl)
def zQ(c:Nat)(a b:List UInt8):oN Int:=(zP c a b).bind λr=>some r
def BJ:FnA:=⟨.two lf zbT,zeQ,[za1],[0]⟩
theorem hlZ:To 210 BJ λfu t=>zQ fu t.1 t.2:=tj (ta hbZ tz) func210
def UC(c:Nat)(a b:List UInt8):oN Int:=(zQ c a b).bind λr=>some r
def QF:FnA:=⟨.two lf zbT,zeQ,[za1],[0]⟩
theorem qsZ:To 188 QF λfu t=>UC fu t.1 t.2:=tj (ta hlZ tz) func188
def DR(a:Nat)(e:List UInt8×Int)(name:List UInt8):oN Int:=(UC a e.1 name).bind λr=>some r
def LH:FnA:=⟨.two zac zcJ,⟨(lc [.p (.pair .str ti)] zbj),[]⟩,[za1],[0]⟩
theorem ofZ:To 187 LH λfu t=>DR fu t.1 t.2:=tj (ta qsZ tz) func187
def iX(b:Nat)(x:List (List UInt8×Int))(target:List UInt8)(i j:Int):oN ((Int×Int)⊕(Int)):=bif decide (i<j) then (aK (wI (Int.fdiv (IntKind.wrap .u64 (wI (i+j))) 2)) x.length).bind λq=>x[q]?.bind λr=>(DR b r target).bind λa=>Option.bind (α:=(Int×Int)) (bif decide (a<0) then some ((wI ((wI (Int.fdiv (IntKind.wrap .u64 (wI (i+j))) 2))+1)),j) else some (i,(wI (Int.fdiv (IntKind.wrap .u64 (wI (i+j))) 2)))) λo=>some (.inl o) else some (.inr i)
def iR(b:Nat)(x:List (List UInt8×Int))(target:List UInt8)(a:Int×Int):oN Int:=iter b (λa=>iX b x target a.1 a.2) a
def sB(b:Nat)(x:List (List UInt8×Int))(target:List UInt8):oN (Int×Bool):=(iR b x target (0,(x.length:Int))).bind λa=>bif (decide (a<(x.length:Int))) then (aK a x.length).bind λc=>x[c]?.bind λd=>(DR b d target).bind λe=>some (a,(e==0)) else some (a,false)
def yU:FnA:=⟨.two lf zax,⟨(lc [.p (.sl (.pair .str ti)),ks,.fn 187 .nil .nil] zaR),[]⟩,zdS,[0,0]⟩
theorem g0Z:To 186 yU λfu t=>sB fu t.1 t.2:=tj (ta ofZ tz) func186
def vW(a:Nat)(n:qT1)(name:List UInt8):oN (Int×Bool):=(sB a n.2.2.2.2.2.2.2 name).bind λr=>some r
def QG:FnA:=⟨.two zac zcJ,⟨(lc [.p qY0] zbj),[]⟩,zdS,[0,0]⟩
theorem cgZ:To 154 QG λfu t=>vW fu t.1 t.2:=tj (ta g0Z tz) func154
def xV(a:Nat)(t:List qT1×Int)(dir:Int×Int)(name:List UInt8):oN (Int×Int×Int):=(qV a (t.1,t.2) [(dir.1,dir.2)]).bind λr=>bif (!(r.1==0)) then some (0,0,r.1) else (BB a name).bind λe=>bif (!e) then some (0,0,176) else (aK 0 r.2.length).bind λq=>r.2[q]?.bind λf=>(vW a f name).bind λb=>bif (!b.2) then some (0,0,171) else (aK 0 r.2.length).bind λg=>r.2[g]?.bind λc=>(aK b.1 c.2.2.2.2.2.2.2.length).bind λh=>c.2.2.2.2.2.2.2[h]?.bind λd=>(aK (wI (d.2-1)) t.1.length).bind λi=>t.1[i]?.bind λj=>some (d.2,j.2.1,0)
def QH:FnA:=⟨tw [zap,zds,zau,zfo,.reg [(4,{fn:=2})],zau] zab,⟨(lc [.p qU,.p qY5] zbj),[]⟩,[⟨zdQ,[]⟩],[0,0]⟩
theorem qqZ:To 116 QH (v3 xV):=tj (ta d0Z (ta dwZ (ta cgZ tz))) func116
def wH(D:Nat)(h:List qT1)(m:Int)(x:List (List UInt8))(y z A n o:Int)(p:List UInt8)(B a:Int)(b:List UInt8)(c d:Int)(e:List UInt8)(f g i s t:Int)(u:Bool)(w:Int)(j:Bool)(l:Int):oN (Int×rV):=(xV D (h,m) (n,o) p).bind λr=>bif (r.2.2==0) then (aK (wI (r.1-1)) h.length).bind λq=>h[q]?.bind λC=>some (r.2.2,h,m,x,y,z,A,n,o,p,B,a,b,c,d,e,f,g,i,r.1,r.2.1,C.2.2.2.1,C.2.2.2.2.1,j,l) else some (r.2.2,h,m,x,y,z,A,n,o,p,B,a,b,c,d,e,f,g,i,s,t,u,w,j,l)
def FR:FnA:=⟨tw [lf,.reg [(14,{}),(18,{ids:=[100]})],tw [lf,tw [.reg [(10,{ids:=[101]})]] lf] lf] lf,zbE,zcs,[0]⟩
theorem jCZ:To 58 FR (v24 wH):=tj (ta qqZ tz) func58
def BK(f:Nat)(r:List qT1)(x h:Int)(b:List qT1)(d:Int):oN ((Int×lF)⊕(lF)):=bif (decide (x<(r.length:Int))) then (aK x b.length).bind λq=>b[q]?.bind λg=>(tO f g.2.2.2.2.2.1).bind λe=>b[q]?.bind λi=>(vV f i.2.2.2.2.2.2.2).bind λj=>b[q]?.bind λa=>(List.set b q (a.1,a.2.1,a.2.2.1,a.2.2.2.1,a.2.2.2.2.1,e,a.2.2.2.2.2.2))[q]?.bind λc=>some (.inl ((wI (x+1)),h,(List.set (List.set b q (a.1,a.2.1,a.2.2.1,a.2.2.2.1,a.2.2.2.2.1,e,a.2.2.2.2.2.2)) q (c.1,c.2.1,c.2.2.1,c.2.2.2.1,c.2.2.2.2.1,c.2.2.2.2.2.1,c.2.2.2.2.2.2.1,j)),d)) else some (.inr (h,b,d))
def xW(b:Nat)(r:List qT1)(a:Int×lF):oN lF:=iter b (λa=>BK b r a.1 a.2.1 a.2.2.1 a.2.2.2) a
def qW(a:Nat)(t:List qT1×Int):oN (Int×List qT1):=(rE a t.1).bind λr=>(xW a r (0,t.2,r,0)).bind λo=>some (o.1,o.2.1)
def QI:FnA:=⟨tw [zad,zbl,.two lf (.one (.loop ⟨[1,2,12],⟨zaQ,zbx⟩⟩ false [(0,zfC)] (tw [lf,lf,.one (tw [lf,lf] (.reg [(6,{ids:=[103],fn:=1}),(11,{ids:=[104],fn:=2})]))] lf)))] lf,za9,zd5,[0]⟩
theorem guZ:To 155 QI qW:=tj (ta b3Z (ta bZZ (ta bLZ tz))) func155
def xX(i:Nat)(r:List qT1)(x h:Int)(c:List eA)(e:Int)(d:List cU):oN ((Int×Int×List eA×Int×List cU)⊕(Int×List eA×Int×List cU)):=bif (decide (x<(r.length:Int))) then (aK x c.length).bind λq=>c[q]?.bind λb=>(lY (.ref 1 (.pair .str (.int .i64))) b.2.2.2.2.2.2.2).bind λg=>(eW i (b.1,b.2.1,b.2.2.1,b.2.2.2.1,b.2.2.2.2.1,b.2.2.2.2.2.1,b.2.2.2.2.2.2.1,g)).bind λa=>(aK x c.length).bind λf=>c[f]?.bind λj=>some (.inl ((wI (x+1)),h,(List.set c f (a.1,a.2.1,a.2.2.1,a.2.2.2.1,a.2.2.2.2.1,a.2.2.2.2.2.2.1,a.2.2.2.2.2.1,(.inr (some (d.length,0,a.2.2.2.2.2.2.2.length))))),e,(d++[(1,a.2.2.2.2.2.2.2)]))) else some (.inr (h,c,e,d))
def vL(b:Nat)(r:List qT1)(a:Int×Int×List eA×Int×List cU):oN (Int×List eA×Int×List cU):=iter b (λa=>xX b r a.1 a.2.1 a.2.2.1 a.2.2.2.1 a.2.2.2.2) a
def HG(a:Nat)(t:List qT1×Int):oN (Int×List eA×List cU):=(rE a t.1).bind λr=>(vL a r (0,t.2,(List.map (bY qY8) r),0,[])).bind λo=>some (o.1,o.2.1,o.2.2.2)
def LI:FnA:=⟨tw [zad,zbl,.two lf (.one (.pre (.newFam 1 118 (.pair .str ti)) (.pre (.toRef 102 qY8) (.loop ⟨[1,2,10,12],⟨zbt,zbm⟩⟩ false [(0,zfD)] (tw [lf,lf,.one (.two zcK (.reg [(4,{ids:=[104,105],md:=[3],fn:=1}),(6,{sh:=[105,999985]})]))] lf)))))] lf,za9,[zeB],[0]⟩
theorem nCZ:To 189 LI HG:=tj (ta b3Z (ta bGZ tz)) func189
end
end Go.Ab.D
