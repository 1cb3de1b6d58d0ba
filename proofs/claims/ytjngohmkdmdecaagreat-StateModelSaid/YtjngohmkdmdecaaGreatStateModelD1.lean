/- Functions of the program, in plain words; what is told of each. -/
import Derived.Test.YtjngohmkdmdecaaGreatE4
import Derived.Test.YtjngohmkdmdecaaGreatProg
import Derived.KernelRfl
set_option linter.all false
namespace Go.Proofs
open Go.Shelf
def Tryz.ca131_ren:Go.Shelf.Ren:=⟨fun|150=>131|153=>170|152=>199|226=>200|227=>201|228=>202|137=>214|119=>215|224=>216|225=>217|217=>221|266=>223|n=>n,fun|9=>9|4=>4|3=>3|5=>5|21=>21|117=>262|116=>261|0=>0|46=>213|124=>277|n=>n,fun|n=>n⟩
theorem Tryz.ca131:Go.Proofs.Lays.n150 Tryz.prog Tryz.ca131_ren:={
 mixed:=by kernel_rfl
 f119:=Tryz.func215.trans (congrArg some (by kernel_rfl))
 f137:=Tryz.func214.trans (congrArg some (by kernel_rfl))
 f150:=Tryz.func131.trans (congrArg some (by kernel_rfl))
 f152:=Tryz.func199.trans (congrArg some (by kernel_rfl))
 f153:=Tryz.func170.trans (congrArg some (by kernel_rfl))
 f217:=Tryz.func221.trans (congrArg some (by kernel_rfl))
 f224:=Tryz.func216.trans (congrArg some (by kernel_rfl))
 f225:=Tryz.func217.trans (congrArg some (by kernel_rfl))
 f226:=Tryz.func200.trans (congrArg some (by kernel_rfl))
 f227:=Tryz.func201.trans (congrArg some (by kernel_rfl))
 f228:=Tryz.func202.trans (congrArg some (by kernel_rfl))
 f266:=Tryz.func223.trans (congrArg some (by kernel_rfl))
 t0:=Tryz.underlying0
 a0:=Tryz.isAgg0
 z0:=Tryz.sizeOf0
 v0:=Tryz.zeroValue0
 t3:=Tryz.underlying3
 a3:=Tryz.isAgg3
 z3:=Tryz.sizeOf3
 v3:=Tryz.zeroValue3
 t4:=Tryz.underlying4
 a4:=Tryz.isAgg4
 z4:=Tryz.sizeOf4
 v4:=Tryz.zeroValue4
 t5:=Tryz.underlying5
 a5:=Tryz.isAgg5
 z5:=Tryz.sizeOf5
 v5:=Tryz.zeroValue5
 t9:=Tryz.underlying9
 a9:=Tryz.isAgg9
 z9:=Tryz.sizeOf9
 v9:=Tryz.zeroValue9
 t21:=Tryz.underlying21
 a21:=Tryz.isAgg21
 z21:=Tryz.sizeOf21
 v21:=Tryz.zeroValue21
 t46:=Tryz.underlying213
 a46:=Tryz.isAgg213
 z46:=Tryz.sizeOf213
 v46:=Tryz.zeroValue213
 t116:=Tryz.underlying261
 a116:=Tryz.isAgg261
 z116:=Tryz.sizeOf261
 t117:=Tryz.underlying262
 a117:=Tryz.isAgg262
 z117:=Tryz.sizeOf262
 v117:=Tryz.zeroValue262
 t124:=Tryz.underlying277
 a124:=Tryz.isAgg277
 z124:=Tryz.sizeOf277
 v124:=Tryz.zeroValue277}
def Tryz.ins193_ren:Go.Shelf.Ren:=⟨fun|22=>193|29=>211|30=>212|36=>220|17=>222|n=>n,fun|24=>38|9=>118|3=>3|4=>4|0=>0|n=>n,fun|n=>n⟩
theorem Tryz.ins193:Go.Proofs.InsLay Tryz.prog Tryz.ins193_ren:={
 mixed:=by kernel_rfl
 f22:=⟨Tryz.f193.name,by decide,Tryz.func193.trans (congrArg some (by kernel_rfl))⟩
 x29:=by kernel_rfl
 t0:=Tryz.underlying0
 a0:=Tryz.isAgg0
 z0:=Tryz.sizeOf0
 v0:=Tryz.zeroValue0
 t3:=Tryz.underlying3
 a3:=Tryz.isAgg3
 z3:=Tryz.sizeOf3
 v3:=Tryz.zeroValue3
 t4:=Tryz.underlying4
 a4:=Tryz.isAgg4
 z4:=Tryz.sizeOf4
 v4:=Tryz.zeroValue4
 t24:=Tryz.underlying38
 a24:=Tryz.isAgg38
 z24:=Tryz.sizeOf38
 v24:=Tryz.zeroValue38}
def Tryz.ins110_ren:Go.Shelf.Ren:=⟨fun|22=>110|29=>147|30=>148|36=>173|17=>203|n=>n,fun|24=>43|9=>141|3=>3|4=>4|0=>0|n=>n,fun|n=>n⟩
theorem Tryz.ins110:Go.Proofs.InsLay Tryz.prog Tryz.ins110_ren:={
 mixed:=by kernel_rfl
 f22:=⟨Tryz.f110.name,by decide,Tryz.func110.trans (congrArg some (by kernel_rfl))⟩
 x29:=by kernel_rfl
 t0:=Tryz.underlying0
 a0:=Tryz.isAgg0
 z0:=Tryz.sizeOf0
 v0:=Tryz.zeroValue0
 t3:=Tryz.underlying3
 a3:=Tryz.isAgg3
 z3:=Tryz.sizeOf3
 v3:=Tryz.zeroValue3
 t4:=Tryz.underlying4
 a4:=Tryz.isAgg4
 z4:=Tryz.sizeOf4
 v4:=Tryz.zeroValue4
 t24:=Tryz.underlying43
 a24:=Tryz.isAgg43
 z24:=Tryz.sizeOf43
 v24:=Tryz.zeroValue43}
def Tryz.ins111_ren:Go.Shelf.Ren:=⟨fun|22=>111|29=>149|30=>150|36=>174|17=>204|n=>n,fun|24=>66|9=>40|3=>3|4=>4|0=>0|n=>n,fun|n=>n⟩
theorem Tryz.ins111:Go.Proofs.InsLay Tryz.prog Tryz.ins111_ren:={
 mixed:=by kernel_rfl
 f22:=⟨Tryz.f111.name,by decide,Tryz.func111.trans (congrArg some (by kernel_rfl))⟩
 x29:=by kernel_rfl
 t0:=Tryz.underlying0
 a0:=Tryz.isAgg0
 z0:=Tryz.sizeOf0
 v0:=Tryz.zeroValue0
 t3:=Tryz.underlying3
 a3:=Tryz.isAgg3
 z3:=Tryz.sizeOf3
 v3:=Tryz.zeroValue3
 t4:=Tryz.underlying4
 a4:=Tryz.isAgg4
 z4:=Tryz.sizeOf4
 v4:=Tryz.zeroValue4
 t24:=Tryz.underlying66
 a24:=Tryz.isAgg66
 z24:=Tryz.sizeOf66
 v24:=Tryz.zeroValue66}
def Tryz.del112_ren:Go.Shelf.Ren:=⟨fun|24=>112|n=>n,fun|24=>66|9=>40|3=>3|4=>4|0=>0|n=>n,fun|n=>n⟩
theorem Tryz.del112:Go.Proofs.DelLay Tryz.prog Tryz.del112_ren:={
 mixed:=by kernel_rfl
 f24:=⟨Tryz.f112.name,by decide,Tryz.func112.trans (congrArg some (by kernel_rfl))⟩
 t0:=Tryz.underlying0
 a0:=Tryz.isAgg0
 z0:=Tryz.sizeOf0
 v0:=Tryz.zeroValue0
 t3:=Tryz.underlying3
 a3:=Tryz.isAgg3
 z3:=Tryz.sizeOf3
 v3:=Tryz.zeroValue3
 t4:=Tryz.underlying4
 a4:=Tryz.isAgg4
 z4:=Tryz.sizeOf4
 v4:=Tryz.zeroValue4
 t24:=Tryz.underlying66
 a24:=Tryz.isAgg66
 z24:=Tryz.sizeOf66
 v24:=Tryz.zeroValue66}
def Tryz.sort113_ren:Go.Shelf.Ren:=⟨fun|6=>113|15=>152|14=>151|28=>183|29=>184|20=>175|21=>176|22=>177|23=>178|24=>179|25=>180|26=>181|27=>182|46=>205|47=>206|48=>207|49=>208|50=>209|57=>218|n=>n,fun|22=>47|24=>73|25=>180|3=>3|39=>213|0=>0|53=>247|55=>249|4=>4|46=>241|45=>240|50=>157|5=>5|9=>9|66=>267|70=>271|76=>278|77=>279|n=>n,fun|n=>n⟩
theorem Tryz.sort113:Go.Proofs.SlLaysF0.n6 Tryz.prog Tryz.sort113_ren:={
 mixed:=by kernel_rfl
 f6:=⟨Tryz.f113.name,by decide,Tryz.func113.trans (congrArg some (by kernel_rfl))⟩
 f14:=⟨Tryz.f151.name,by decide,Tryz.func151.trans (congrArg some (by kernel_rfl))⟩
 f15:=Tryz.func152.trans (congrArg some (by kernel_rfl))
 f20:=⟨Tryz.f175.name,by decide,Tryz.func175.trans (congrArg some (by kernel_rfl))⟩
 f21:=⟨Tryz.f176.name,by decide,Tryz.func176.trans (congrArg some (by kernel_rfl))⟩
 f22:=⟨Tryz.f177.name,by decide,Tryz.func177.trans (congrArg some (by kernel_rfl))⟩
 f23:=⟨Tryz.f178.name,by decide,Tryz.func178.trans (congrArg some (by kernel_rfl))⟩
 f24:=⟨Tryz.f179.name,by decide,Tryz.func179.trans (congrArg some (by kernel_rfl))⟩
 f25:=⟨Tryz.f180.name,by decide,Tryz.func180.trans (congrArg some (by kernel_rfl))⟩
 f26:=⟨Tryz.f181.name,by decide,Tryz.func181.trans (congrArg some (by kernel_rfl))⟩
 f27:=⟨Tryz.f182.name,by decide,Tryz.func182.trans (congrArg some (by kernel_rfl))⟩
 f28:=Tryz.func183.trans (congrArg some (by kernel_rfl))
 f29:=Tryz.func184.trans (congrArg some (by kernel_rfl))
 f46:=⟨Tryz.f205.name,by decide,Tryz.func205.trans (congrArg some (by kernel_rfl))⟩
 f47:=Tryz.func206.trans (congrArg some (by kernel_rfl))
 f48:=Tryz.func207.trans (congrArg some (by kernel_rfl))
 f49:=⟨Tryz.f208.name,by decide,Tryz.func208.trans (congrArg some (by kernel_rfl))⟩
 f50:=⟨Tryz.f209.name,by decide,Tryz.func209.trans (congrArg some (by kernel_rfl))⟩
 f57:=⟨Tryz.f218.name,by decide,Tryz.func218.trans (congrArg some (by kernel_rfl))⟩
 t0:=Tryz.underlying0
 a0:=Tryz.isAgg0
 z0:=Tryz.sizeOf0
 v0:=Tryz.zeroValue0
 t3:=Tryz.underlying3
 a3:=Tryz.isAgg3
 z3:=Tryz.sizeOf3
 v3:=Tryz.zeroValue3
 t4:=Tryz.underlying4
 a4:=Tryz.isAgg4
 z4:=Tryz.sizeOf4
 v4:=Tryz.zeroValue4
 t5:=Tryz.underlying5
 a5:=Tryz.isAgg5
 z5:=Tryz.sizeOf5
 v5:=Tryz.zeroValue5
 t9:=Tryz.underlying9
 a9:=Tryz.isAgg9
 z9:=Tryz.sizeOf9
 v9:=Tryz.zeroValue9
 t22:=Tryz.underlying47
 a22:=Tryz.isAgg47
 z22:=Tryz.sizeOf47
 v22:=Tryz.zeroValue47
 t25:=Tryz.underlying180
 a25:=Tryz.isAgg180
 z25:=Tryz.sizeOf180
 v25:=Tryz.zeroValue180
 t39:=Tryz.underlying213
 a39:=Tryz.isAgg213
 z39:=Tryz.sizeOf213
 v39:=Tryz.zeroValue213
 t45:=Tryz.underlying240
 a45:=Tryz.isAgg240
 z45:=Tryz.sizeOf240
 v45:=Tryz.zeroValue240
 t46:=Tryz.underlying241
 a46:=Tryz.isAgg241
 z46:=Tryz.sizeOf241
 v46:=Tryz.zeroValue241
 t50:=Tryz.underlying157
 a50:=Tryz.isAgg157
 z50:=Tryz.sizeOf157
 v50:=Tryz.zeroValue157
 t53:=Tryz.underlying247
 a53:=Tryz.isAgg247
 z53:=Tryz.sizeOf247
 v53:=Tryz.zeroValue247
 t55:=Tryz.underlying249
 a55:=Tryz.isAgg249
 z55:=Tryz.sizeOf249
 v55:=Tryz.zeroValue249
 t66:=Tryz.underlying267
 a66:=Tryz.isAgg267
 z66:=Tryz.sizeOf267
 v66:=Tryz.zeroValue267
 t70:=Tryz.underlying271
 a70:=Tryz.isAgg271
 z70:=Tryz.sizeOf271
 v70:=Tryz.zeroValue271
 t76:=Tryz.underlying278
 a76:=Tryz.isAgg278
 z76:=Tryz.sizeOf278
 v76:=Tryz.zeroValue278
 t77:=Tryz.underlying279
 a77:=Tryz.isAgg279
 z77:=Tryz.sizeOf279
 v77:=Tryz.zeroValue279}
end Go.Proofs
set_option maxRecDepth 100000
set_option maxHeartbeats 4000000
namespace Go.Ab
abbrev uO:=UInt8.ofNat
def wI:=Go.IntKind.wrap .i64
theorem uOt{x:UInt8}:uO x.toNat=x:=UInt8.ofNat_toNat
end Go.Ab
namespace Prod
variable{a0 b0 c0 d0 e0 f0 g0 h0 i0 j0 k0 l0 m0 n0 o0 p0 q0 r0 s0 t0 u0 v0 w0 x0 y0 z0 A0 B0 C0 D0 E0 F0 G0 H0 I0 J0 K0 L0 M0 N0 O0 P0 Q0 R0 S0 T0 U0 V0 W0 X0 Y0 Z0:Type}
def a(_o:a0×b0×c0):=_o.2.1
def b(_o:a0×b0×c0×d0):=_o.2.2.1
def c(_o:a0×b0×c0×d0×e0):=_o.2.2.2.1
def d(_o:a0×b0×c0×d0×e0×f0):=_o.2.2.2.2.1
def e(_o:a0×b0×c0×d0×e0×f0×g0):=_o.2.2.2.2.2.1
def f(_o:a0×b0×c0×d0×e0×f0×g0×h0):=_o.2.2.2.2.2.2.1
def g(_o:a0×b0×c0×d0×e0×f0×g0×h0×i0):=_o.2.2.2.2.2.2.2.1
def h(_o:a0×b0×c0×d0×e0×f0×g0×h0×i0×j0):=_o.2.2.2.2.2.2.2.2.1
def i(_o:a0×b0×c0×d0×e0×f0×g0×h0×i0×j0×k0):=_o.2.2.2.2.2.2.2.2.2.1
def j(_o:a0×b0×c0×d0×e0×f0×g0×h0×i0×j0×k0×l0):=_o.2.2.2.2.2.2.2.2.2.2.1
def k(_o:a0×b0×c0×d0×e0×f0×g0×h0×i0×j0×k0×l0×m0):=_o.2.2.2.2.2.2.2.2.2.2.2.1
def l(_o:a0×b0×c0×d0×e0×f0×g0×h0×i0×j0×k0×l0×m0×n0):=_o.2.2.2.2.2.2.2.2.2.2.2.2.1
def m(_o:a0×b0×c0×d0×e0×f0×g0×h0×i0×j0×k0×l0×m0×n0×o0):=_o.2.2.2.2.2.2.2.2.2.2.2.2.2.1
def n(_o:a0×b0×c0×d0×e0×f0×g0×h0×i0×j0×k0×l0×m0×n0×o0×p0):=_o.2.2.2.2.2.2.2.2.2.2.2.2.2.2.1
def o(_o:a0×b0×c0×d0×e0×f0×g0×h0×i0×j0×k0×l0×m0×n0×o0×p0×q0):=_o.2.2.2.2.2.2.2.2.2.2.2.2.2.2.2.1
def p(_o:a0×b0×c0×d0×e0×f0×g0×h0×i0×j0×k0×l0×m0×n0×o0×p0×q0×r0):=_o.2.2.2.2.2.2.2.2.2.2.2.2.2.2.2.2.1
def q(_o:a0×b0×c0×d0×e0×f0×g0×h0×i0×j0×k0×l0×m0×n0×o0×p0×q0×r0×s0):=_o.2.2.2.2.2.2.2.2.2.2.2.2.2.2.2.2.2.1
def r(_o:a0×b0×c0×d0×e0×f0×g0×h0×i0×j0×k0×l0×m0×n0×o0×p0×q0×r0×s0×t0):=_o.2.2.2.2.2.2.2.2.2.2.2.2.2.2.2.2.2.2.1
def s(_o:a0×b0×c0×d0×e0×f0×g0×h0×i0×j0×k0×l0×m0×n0×o0×p0×q0×r0×s0×t0×u0):=_o.2.2.2.2.2.2.2.2.2.2.2.2.2.2.2.2.2.2.2.1
def t(_o:a0×b0×c0×d0×e0×f0×g0×h0×i0×j0×k0×l0×m0×n0×o0×p0×q0×r0×s0×t0×u0×v0):=_o.2.2.2.2.2.2.2.2.2.2.2.2.2.2.2.2.2.2.2.2.1
def u(_o:a0×b0×c0×d0×e0×f0×g0×h0×i0×j0×k0×l0×m0×n0×o0×p0×q0×r0×s0×t0×u0×v0×w0):=_o.2.2.2.2.2.2.2.2.2.2.2.2.2.2.2.2.2.2.2.2.2.1
def v(_o:a0×b0×c0×d0×e0×f0×g0×h0×i0×j0×k0×l0×m0×n0×o0×p0×q0×r0×s0×t0×u0×v0×w0×x0):=_o.2.2.2.2.2.2.2.2.2.2.2.2.2.2.2.2.2.2.2.2.2.2.1
def w(_o:a0×b0×c0×d0×e0×f0×g0×h0×i0×j0×k0×l0×m0×n0×o0×p0×q0×r0×s0×t0×u0×v0×w0×x0×y0):=_o.2.2.2.2.2.2.2.2.2.2.2.2.2.2.2.2.2.2.2.2.2.2.2.1
def x(_o:a0×b0×c0×d0×e0×f0×g0×h0×i0×j0×k0×l0×m0×n0×o0×p0×q0×r0×s0×t0×u0×v0×w0×x0×y0×z0):=_o.2.2.2.2.2.2.2.2.2.2.2.2.2.2.2.2.2.2.2.2.2.2.2.2.1
def y(_o:a0×b0×c0×d0×e0×f0×g0×h0×i0×j0×k0×l0×m0×n0×o0×p0×q0×r0×s0×t0×u0×v0×w0×x0×y0×z0×A0):=_o.2.2.2.2.2.2.2.2.2.2.2.2.2.2.2.2.2.2.2.2.2.2.2.2.2.1
def z(_o:a0×b0×c0×d0×e0×f0×g0×h0×i0×j0×k0×l0×m0×n0×o0×p0×q0×r0×s0×t0×u0×v0×w0×x0×y0×z0×A0×B0):=_o.2.2.2.2.2.2.2.2.2.2.2.2.2.2.2.2.2.2.2.2.2.2.2.2.2.2.1
def za(_o:a0×b0×c0×d0×e0×f0×g0×h0×i0×j0×k0×l0×m0×n0×o0×p0×q0×r0×s0×t0×u0×v0×w0×x0×y0×z0×A0×B0×C0):=_o.2.2.2.2.2.2.2.2.2.2.2.2.2.2.2.2.2.2.2.2.2.2.2.2.2.2.2.1
def zb(_o:a0×b0×c0×d0×e0×f0×g0×h0×i0×j0×k0×l0×m0×n0×o0×p0×q0×r0×s0×t0×u0×v0×w0×x0×y0×z0×A0×B0×C0×D0):=_o.2.2.2.2.2.2.2.2.2.2.2.2.2.2.2.2.2.2.2.2.2.2.2.2.2.2.2.2.1
def zc(_o:a0×b0×c0×d0×e0×f0×g0×h0×i0×j0×k0×l0×m0×n0×o0×p0×q0×r0×s0×t0×u0×v0×w0×x0×y0×z0×A0×B0×C0×D0×E0):=_o.2.2.2.2.2.2.2.2.2.2.2.2.2.2.2.2.2.2.2.2.2.2.2.2.2.2.2.2.2.1
def zd(_o:a0×b0×c0×d0×e0×f0×g0×h0×i0×j0×k0×l0×m0×n0×o0×p0×q0×r0×s0×t0×u0×v0×w0×x0×y0×z0×A0×B0×C0×D0×E0×F0):=_o.2.2.2.2.2.2.2.2.2.2.2.2.2.2.2.2.2.2.2.2.2.2.2.2.2.2.2.2.2.2.1
def ze(_o:a0×b0×c0×d0×e0×f0×g0×h0×i0×j0×k0×l0×m0×n0×o0×p0×q0×r0×s0×t0×u0×v0×w0×x0×y0×z0×A0×B0×C0×D0×E0×F0×G0):=_o.2.2.2.2.2.2.2.2.2.2.2.2.2.2.2.2.2.2.2.2.2.2.2.2.2.2.2.2.2.2.2.1
def zf(_o:a0×b0×c0×d0×e0×f0×g0×h0×i0×j0×k0×l0×m0×n0×o0×p0×q0×r0×s0×t0×u0×v0×w0×x0×y0×z0×A0×B0×C0×D0×E0×F0×G0×H0):=_o.2.2.2.2.2.2.2.2.2.2.2.2.2.2.2.2.2.2.2.2.2.2.2.2.2.2.2.2.2.2.2.2.1
def zg(_o:a0×b0×c0×d0×e0×f0×g0×h0×i0×j0×k0×l0×m0×n0×o0×p0×q0×r0×s0×t0×u0×v0×w0×x0×y0×z0×A0×B0×C0×D0×E0×F0×G0×H0×I0):=_o.2.2.2.2.2.2.2.2.2.2.2.2.2.2.2.2.2.2.2.2.2.2.2.2.2.2.2.2.2.2.2.2.2.1
def zh(_o:a0×b0×c0×d0×e0×f0×g0×h0×i0×j0×k0×l0×m0×n0×o0×p0×q0×r0×s0×t0×u0×v0×w0×x0×y0×z0×A0×B0×C0×D0×E0×F0×G0×H0×I0×J0):=_o.2.2.2.2.2.2.2.2.2.2.2.2.2.2.2.2.2.2.2.2.2.2.2.2.2.2.2.2.2.2.2.2.2.2.1
def zi(_o:a0×b0×c0×d0×e0×f0×g0×h0×i0×j0×k0×l0×m0×n0×o0×p0×q0×r0×s0×t0×u0×v0×w0×x0×y0×z0×A0×B0×C0×D0×E0×F0×G0×H0×I0×J0×K0):=_o.2.2.2.2.2.2.2.2.2.2.2.2.2.2.2.2.2.2.2.2.2.2.2.2.2.2.2.2.2.2.2.2.2.2.2.1
def zj(_o:a0×b0×c0×d0×e0×f0×g0×h0×i0×j0×k0×l0×m0×n0×o0×p0×q0×r0×s0×t0×u0×v0×w0×x0×y0×z0×A0×B0×C0×D0×E0×F0×G0×H0×I0×J0×K0×L0):=_o.2.2.2.2.2.2.2.2.2.2.2.2.2.2.2.2.2.2.2.2.2.2.2.2.2.2.2.2.2.2.2.2.2.2.2.2.1
def zk(_o:a0×b0×c0×d0×e0×f0×g0×h0×i0×j0×k0×l0×m0×n0×o0×p0×q0×r0×s0×t0×u0×v0×w0×x0×y0×z0×A0×B0×C0×D0×E0×F0×G0×H0×I0×J0×K0×L0×M0):=_o.2.2.2.2.2.2.2.2.2.2.2.2.2.2.2.2.2.2.2.2.2.2.2.2.2.2.2.2.2.2.2.2.2.2.2.2.2.1
def zl(_o:a0×b0×c0×d0×e0×f0×g0×h0×i0×j0×k0×l0×m0×n0×o0×p0×q0×r0×s0×t0×u0×v0×w0×x0×y0×z0×A0×B0×C0×D0×E0×F0×G0×H0×I0×J0×K0×L0×M0×N0):=_o.2.2.2.2.2.2.2.2.2.2.2.2.2.2.2.2.2.2.2.2.2.2.2.2.2.2.2.2.2.2.2.2.2.2.2.2.2.2.1
def zm(_o:a0×b0×c0×d0×e0×f0×g0×h0×i0×j0×k0×l0×m0×n0×o0×p0×q0×r0×s0×t0×u0×v0×w0×x0×y0×z0×A0×B0×C0×D0×E0×F0×G0×H0×I0×J0×K0×L0×M0×N0×O0):=_o.2.2.2.2.2.2.2.2.2.2.2.2.2.2.2.2.2.2.2.2.2.2.2.2.2.2.2.2.2.2.2.2.2.2.2.2.2.2.2.1
def zn(_o:a0×b0×c0×d0×e0×f0×g0×h0×i0×j0×k0×l0×m0×n0×o0×p0×q0×r0×s0×t0×u0×v0×w0×x0×y0×z0×A0×B0×C0×D0×E0×F0×G0×H0×I0×J0×K0×L0×M0×N0×O0×P0):=_o.2.2.2.2.2.2.2.2.2.2.2.2.2.2.2.2.2.2.2.2.2.2.2.2.2.2.2.2.2.2.2.2.2.2.2.2.2.2.2.2.1
def zo(_o:a0×b0×c0×d0×e0×f0×g0×h0×i0×j0×k0×l0×m0×n0×o0×p0×q0×r0×s0×t0×u0×v0×w0×x0×y0×z0×A0×B0×C0×D0×E0×F0×G0×H0×I0×J0×K0×L0×M0×N0×O0×P0×Q0):=_o.2.2.2.2.2.2.2.2.2.2.2.2.2.2.2.2.2.2.2.2.2.2.2.2.2.2.2.2.2.2.2.2.2.2.2.2.2.2.2.2.2.1
def zp(_o:a0×b0×c0×d0×e0×f0×g0×h0×i0×j0×k0×l0×m0×n0×o0×p0×q0×r0×s0×t0×u0×v0×w0×x0×y0×z0×A0×B0×C0×D0×E0×F0×G0×H0×I0×J0×K0×L0×M0×N0×O0×P0×Q0×R0):=_o.2.2.2.2.2.2.2.2.2.2.2.2.2.2.2.2.2.2.2.2.2.2.2.2.2.2.2.2.2.2.2.2.2.2.2.2.2.2.2.2.2.2.1
def zq(_o:a0×b0×c0×d0×e0×f0×g0×h0×i0×j0×k0×l0×m0×n0×o0×p0×q0×r0×s0×t0×u0×v0×w0×x0×y0×z0×A0×B0×C0×D0×E0×F0×G0×H0×I0×J0×K0×L0×M0×N0×O0×P0×Q0×R0×S0):=_o.2.2.2.2.2.2.2.2.2.2.2.2.2.2.2.2.2.2.2.2.2.2.2.2.2.2.2.2.2.2.2.2.2.2.2.2.2.2.2.2.2.2.2.1
def zr(_o:a0×b0×c0×d0×e0×f0×g0×h0×i0×j0×k0×l0×m0×n0×o0×p0×q0×r0×s0×t0×u0×v0×w0×x0×y0×z0×A0×B0×C0×D0×E0×F0×G0×H0×I0×J0×K0×L0×M0×N0×O0×P0×Q0×R0×S0×T0):=_o.2.2.2.2.2.2.2.2.2.2.2.2.2.2.2.2.2.2.2.2.2.2.2.2.2.2.2.2.2.2.2.2.2.2.2.2.2.2.2.2.2.2.2.2.1
def zs(_o:a0×b0×c0×d0×e0×f0×g0×h0×i0×j0×k0×l0×m0×n0×o0×p0×q0×r0×s0×t0×u0×v0×w0×x0×y0×z0×A0×B0×C0×D0×E0×F0×G0×H0×I0×J0×K0×L0×M0×N0×O0×P0×Q0×R0×S0×T0×U0):=_o.2.2.2.2.2.2.2.2.2.2.2.2.2.2.2.2.2.2.2.2.2.2.2.2.2.2.2.2.2.2.2.2.2.2.2.2.2.2.2.2.2.2.2.2.2.1
def zt(_o:a0×b0×c0×d0×e0×f0×g0×h0×i0×j0×k0×l0×m0×n0×o0×p0×q0×r0×s0×t0×u0×v0×w0×x0×y0×z0×A0×B0×C0×D0×E0×F0×G0×H0×I0×J0×K0×L0×M0×N0×O0×P0×Q0×R0×S0×T0×U0×V0):=_o.2.2.2.2.2.2.2.2.2.2.2.2.2.2.2.2.2.2.2.2.2.2.2.2.2.2.2.2.2.2.2.2.2.2.2.2.2.2.2.2.2.2.2.2.2.2.1
def zu(_o:a0×b0×c0×d0×e0×f0×g0×h0×i0×j0×k0×l0×m0×n0×o0×p0×q0×r0×s0×t0×u0×v0×w0×x0×y0×z0×A0×B0×C0×D0×E0×F0×G0×H0×I0×J0×K0×L0×M0×N0×O0×P0×Q0×R0×S0×T0×U0×V0×W0):=_o.2.2.2.2.2.2.2.2.2.2.2.2.2.2.2.2.2.2.2.2.2.2.2.2.2.2.2.2.2.2.2.2.2.2.2.2.2.2.2.2.2.2.2.2.2.2.2.1
def zv(_o:a0×b0×c0×d0×e0×f0×g0×h0×i0×j0×k0×l0×m0×n0×o0×p0×q0×r0×s0×t0×u0×v0×w0×x0×y0×z0×A0×B0×C0×D0×E0×F0×G0×H0×I0×J0×K0×L0×M0×N0×O0×P0×Q0×R0×S0×T0×U0×V0×W0×X0):=_o.2.2.2.2.2.2.2.2.2.2.2.2.2.2.2.2.2.2.2.2.2.2.2.2.2.2.2.2.2.2.2.2.2.2.2.2.2.2.2.2.2.2.2.2.2.2.2.2.1
def zw(_o:a0×b0×c0×d0×e0×f0×g0×h0×i0×j0×k0×l0×m0×n0×o0×p0×q0×r0×s0×t0×u0×v0×w0×x0×y0×z0×A0×B0×C0×D0×E0×F0×G0×H0×I0×J0×K0×L0×M0×N0×O0×P0×Q0×R0×S0×T0×U0×V0×W0×X0×Y0):=_o.2.2.2.2.2.2.2.2.2.2.2.2.2.2.2.2.2.2.2.2.2.2.2.2.2.2.2.2.2.2.2.2.2.2.2.2.2.2.2.2.2.2.2.2.2.2.2.2.2.1
def zx(_o:a0×b0×c0×d0×e0×f0×g0×h0×i0×j0×k0×l0×m0×n0×o0×p0×q0×r0×s0×t0×u0×v0×w0×x0×y0×z0×A0×B0×C0×D0×E0×F0×G0×H0×I0×J0×K0×L0×M0×N0×O0×P0×Q0×R0×S0×T0×U0×V0×W0×X0×Y0×Z0):=_o.2.2.2.2.2.2.2.2.2.2.2.2.2.2.2.2.2.2.2.2.2.2.2.2.2.2.2.2.2.2.2.2.2.2.2.2.2.2.2.2.2.2.2.2.2.2.2.2.2.2.1
def A(_o:a0×b0×c0):=_o.2.2
def B(_o:a0×b0×c0×d0):=_o.2.2.2
def C(_o:a0×b0×c0×d0×e0):=_o.2.2.2.2
def D(_o:a0×b0×c0×d0×e0×f0):=_o.2.2.2.2.2
def E(_o:a0×b0×c0×d0×e0×f0×g0):=_o.2.2.2.2.2.2
def F(_o:a0×b0×c0×d0×e0×f0×g0×h0):=_o.2.2.2.2.2.2.2
def G(_o:a0×b0×c0×d0×e0×f0×g0×h0×i0):=_o.2.2.2.2.2.2.2.2
def H(_o:a0×b0×c0×d0×e0×f0×g0×h0×i0×j0):=_o.2.2.2.2.2.2.2.2.2
def I(_o:a0×b0×c0×d0×e0×f0×g0×h0×i0×j0×k0):=_o.2.2.2.2.2.2.2.2.2.2
def J(_o:a0×b0×c0×d0×e0×f0×g0×h0×i0×j0×k0×l0):=_o.2.2.2.2.2.2.2.2.2.2.2
def K(_o:a0×b0×c0×d0×e0×f0×g0×h0×i0×j0×k0×l0×m0):=_o.2.2.2.2.2.2.2.2.2.2.2.2
def L(_o:a0×b0×c0×d0×e0×f0×g0×h0×i0×j0×k0×l0×m0×n0):=_o.2.2.2.2.2.2.2.2.2.2.2.2.2
def M(_o:a0×b0×c0×d0×e0×f0×g0×h0×i0×j0×k0×l0×m0×n0×o0):=_o.2.2.2.2.2.2.2.2.2.2.2.2.2.2
def N(_o:a0×b0×c0×d0×e0×f0×g0×h0×i0×j0×k0×l0×m0×n0×o0×p0):=_o.2.2.2.2.2.2.2.2.2.2.2.2.2.2.2
def O(_o:a0×b0×c0×d0×e0×f0×g0×h0×i0×j0×k0×l0×m0×n0×o0×p0×q0):=_o.2.2.2.2.2.2.2.2.2.2.2.2.2.2.2.2
def P(_o:a0×b0×c0×d0×e0×f0×g0×h0×i0×j0×k0×l0×m0×n0×o0×p0×q0×r0):=_o.2.2.2.2.2.2.2.2.2.2.2.2.2.2.2.2.2
def Q(_o:a0×b0×c0×d0×e0×f0×g0×h0×i0×j0×k0×l0×m0×n0×o0×p0×q0×r0×s0):=_o.2.2.2.2.2.2.2.2.2.2.2.2.2.2.2.2.2.2
def S(_o:a0×b0×c0×d0×e0×f0×g0×h0×i0×j0×k0×l0×m0×n0×o0×p0×q0×r0×s0×t0×u0):=_o.2.2.2.2.2.2.2.2.2.2.2.2.2.2.2.2.2.2.2.2
def T(_o:a0×b0×c0×d0×e0×f0×g0×h0×i0×j0×k0×l0×m0×n0×o0×p0×q0×r0×s0×t0×u0×v0):=_o.2.2.2.2.2.2.2.2.2.2.2.2.2.2.2.2.2.2.2.2.2
def U(_o:a0×b0×c0×d0×e0×f0×g0×h0×i0×j0×k0×l0×m0×n0×o0×p0×q0×r0×s0×t0×u0×v0×w0):=_o.2.2.2.2.2.2.2.2.2.2.2.2.2.2.2.2.2.2.2.2.2.2
def V(_o:a0×b0×c0×d0×e0×f0×g0×h0×i0×j0×k0×l0×m0×n0×o0×p0×q0×r0×s0×t0×u0×v0×w0×x0):=_o.2.2.2.2.2.2.2.2.2.2.2.2.2.2.2.2.2.2.2.2.2.2.2
def W(_o:a0×b0×c0×d0×e0×f0×g0×h0×i0×j0×k0×l0×m0×n0×o0×p0×q0×r0×s0×t0×u0×v0×w0×x0×y0):=_o.2.2.2.2.2.2.2.2.2.2.2.2.2.2.2.2.2.2.2.2.2.2.2.2
def X(_o:a0×b0×c0×d0×e0×f0×g0×h0×i0×j0×k0×l0×m0×n0×o0×p0×q0×r0×s0×t0×u0×v0×w0×x0×y0×z0):=_o.2.2.2.2.2.2.2.2.2.2.2.2.2.2.2.2.2.2.2.2.2.2.2.2.2
def Y(_o:a0×b0×c0×d0×e0×f0×g0×h0×i0×j0×k0×l0×m0×n0×o0×p0×q0×r0×s0×t0×u0×v0×w0×x0×y0×z0×A0):=_o.2.2.2.2.2.2.2.2.2.2.2.2.2.2.2.2.2.2.2.2.2.2.2.2.2.2
def ZA(_o:a0×b0×c0×d0×e0×f0×g0×h0×i0×j0×k0×l0×m0×n0×o0×p0×q0×r0×s0×t0×u0×v0×w0×x0×y0×z0×A0×B0×C0):=_o.2.2.2.2.2.2.2.2.2.2.2.2.2.2.2.2.2.2.2.2.2.2.2.2.2.2.2.2
def ZC(_o:a0×b0×c0×d0×e0×f0×g0×h0×i0×j0×k0×l0×m0×n0×o0×p0×q0×r0×s0×t0×u0×v0×w0×x0×y0×z0×A0×B0×C0×D0×E0):=_o.2.2.2.2.2.2.2.2.2.2.2.2.2.2.2.2.2.2.2.2.2.2.2.2.2.2.2.2.2.2
def ZF(_o:a0×b0×c0×d0×e0×f0×g0×h0×i0×j0×k0×l0×m0×n0×o0×p0×q0×r0×s0×t0×u0×v0×w0×x0×y0×z0×A0×B0×C0×D0×E0×F0×G0×H0):=_o.2.2.2.2.2.2.2.2.2.2.2.2.2.2.2.2.2.2.2.2.2.2.2.2.2.2.2.2.2.2.2.2.2
def ZX(_o:a0×b0×c0×d0×e0×f0×g0×h0×i0×j0×k0×l0×m0×n0×o0×p0×q0×r0×s0×t0×u0×v0×w0×x0×y0×z0×A0×B0×C0×D0×E0×F0×G0×H0×I0×J0×K0×L0×M0×N0×O0×P0×Q0×R0×S0×T0×U0×V0×W0×X0×Y0×Z0):=_o.2.2.2.2.2.2.2.2.2.2.2.2.2.2.2.2.2.2.2.2.2.2.2.2.2.2.2.2.2.2.2.2.2.2.2.2.2.2.2.2.2.2.2.2.2.2.2.2.2.2.2
end Prod
namespace Go.Ab.D
abbrev ti:Ty:=.int .i64
abbrev ki:Kd:=.p ti
abbrev kb:Kd:=.p .bool
abbrev ks:Kd:=.p .str
abbrev lc(l:List Kd)(r:KdL):KdL:=l.foldr .cons r
abbrev ln(l:List Kd):=lc l .nil
abbrev tw(l:List Ov)(r:Ov):=l.foldr .two r
abbrev oN:=Option
open Go.Proofs Go.Proofs.Tryz
open Go Go.Ab
noncomputable section
abbrev qY0:Ty:=(.pair ti (.pair ti (.pair .bool (.pair .bool (.pair ti (.pair (.sl (.pair ti ti)) (.pair ti (.sl (.pair .str ti)))))))))
abbrev qT1:Type:=(Int×Int×Bool×Bool×Int×List ((Int×Int))×Int×List ((List UInt8×Int)))
abbrev qY2:Ty:=(.pair ti (.pair ti (.pair ti (.pair (.pair ti ti) (.pair .bool (.pair ti (.pair (.sl .byte) (.pair (.sl (.pair .str ti)) (.pair .bool ti)))))))))
abbrev qT3:Type:=(Int×Int×Int×(Int×Int)×Bool×Int×List (UInt8)×List ((List UInt8×Int))×Bool×Int)
abbrev qB4:BKd:=(.vars (ln [.p (.sl qY0),ki,.p (.sl (.sl .byte)),ki,ki,.p (.int .u8),ki,ki,ks,ki,ki,ks,ki,ki,.p (.sl .byte),ki,ki,ki,ki,ki,kb,ki,.nilp (.slice none 0 0),.nilp (.slice none 0 0),kb,ki]))
abbrev qY5:Ty:=(.pair ti ti)
abbrev qL6:KdL:=(ln [ki])
abbrev qY7:Ty:=(.pair ti (.pair ti (.pair .bool (.pair .bool (.pair ti (.pair (.sl qY5) (.pair ti (.ref 1 (.pair .str ti)))))))))
abbrev qB8:BKd:=(.vars (lc [ki,.p (.sl qY0),ki,ki,.p (.sl (.pair ti (.pair ti (.sl qY2)))),.p (.sl (.pair ti (.sl ti))),.p (.sl qY5),.mp 1,ki] qL6))
abbrev qT9:Type:=(Int×Int×UInt8×(Int×Int)×List UInt8×(Int×Int)×List UInt8×Int×Int×List (UInt8))
abbrev nN:Ty:=(.pair ti (.pair ti (.pair .byte (.pair qY5 (.pair .str (.pair qY5 (.pair .str (.pair ti (.pair ti (.sl .byte))))))))))
abbrev BL:KdL:=(lc [ki,ki,ki,ki,ki,kb,ki,.p (.sl .byte),.p (.sl (.pair .str ti)),kb] qL6)
abbrev TR:KdL:=(lc [ki,ki,ki,ki,ki,kb,ki,.nilp (.slice none 0 0),.nilp (.slice none 0 0),kb] qL6)
abbrev fG:Type:=((Int×Int×Bool×Bool×Int×List ((Int×Int))×Int×(List ((List UInt8×Int))⊕Option (Nat×Nat×Nat))))
abbrev JK:KdL:=(ln [ki,ki,kb,kb,ki,.p (.sl qY5),ki,.p (.sl (.pair .str ti))])
abbrev dD:Type:=((Int×Int×List (qT3)))
abbrev BN:Ty:=(.pair ti (.pair (.pair (.sl qY0) ti) (.pair (.pair ti (.sl (.pair ti (.pair ti (.sl qY2))))) (.pair (.sl (.pair ti (.sl ti))) (.sl qY5)))))
abbrev gW:Ty:=(.pair ti (.pair qY5 ti))
abbrev cX:Type:=((Int×(Int×Int)×Int))
abbrev jZ:Type:=(List ((((Int×Int)×List (UInt8))×Nat))×Nat)
abbrev sU:Type:=(List (qT1)×Int×List (List (UInt8))×Int×Int×Int×Int×Int×List UInt8×Int×Int×List UInt8×Int×Int×List (UInt8)×Int×Int×Int×Int×Int×Bool×Int×Bool×Int)
abbrev iJ:Type:=(Int×(List (qT1)×Int)×(Int×List dD)×List ((Int×List (Int)))×List ((Int×Int)))
abbrev JL:Type:=(Int×List (qT1)×Int×List (List (UInt8))×Int×Int×Int×Int×Int×List UInt8×Int×Int×List UInt8×Int×Int×List (UInt8)×Int×Int×Int×Int×Int×Int×Bool×Int×Bool×Int×List (qT1)×Int×List (List (UInt8))×Int×Int×Int×Int×Int×List UInt8×Int×Int×List UInt8×Int×Int×List (UInt8)×Int×Int×Int×Int×Int×Bool×Int×List (UInt8)×List ((List UInt8×Int))×Bool×Int)
abbrev mE:Ty:=(.sl (.pair ti (.pair ti (.sl qY2))))
abbrev UG:BKd:=(.vars (lc [.p (.sl qY0),ki,.p (.sl (.sl .byte)),ki,ki,.p (.int .u8),ki,ki,ks,ki,ki,ks,ki,ki,.p (.sl .byte)] BL))
abbrev DY:Ty:=(.pair ti (.pair ti (.pair .bool (.pair .bool (.pair ti (.pair (.ref 0 qY5) (.pair ti (.ref 2 (.pair .str ti)))))))))
abbrev uG:Type:=((Int×Int×Bool×Bool×Int×(List ((Int×Int))⊕Option (Nat×Nat×Nat))×Int×(List ((List UInt8×Int))⊕Option (Nat×Nat×Nat))))
abbrev UW:BKd:=(.vars (lc [ki,.p (.sl qY0),ki,ki,.p mE,.p (.sl (.pair ti (.sl ti))),.p (.sl qY5),.mp 102,ki] qL6))
abbrev zS:Type:=(Int×List (qT1)×Int×Int×List dD×List ((Int×List (Int)))×List ((Int×Int))×Int×Int×jZ×List (((List (qT1)×Int)×List (List (UInt8))))×List (qT1)×List (UInt8))
abbrev GB:Type:=(Int×List (qT1)×Int×Int×List dD×List ((Int×List (Int)))×List ((Int×Int))×Int×Int×jZ×List (qT9)×Int×Int×Int×Int×Int×Bool×Int×Bool×Int×List ((Int×qT3×List cX×List cX))×List (List (UInt8))×List (Int))
abbrev TS:BKd:=(.vars (ln [ki,ki,.p (.int .u8),ki,ki,ks,ki,ki,ks,ki,ki,.p (.sl .byte)]))
abbrev yH:Type:=(Int×List (qT1)×Int×Int×List dD×List ((Int×List (Int)))×List ((Int×Int))×Int×Int×jZ)
abbrev DZ:Type:=(Int×Int×Int×Int×Int×List UInt8×Int×Int×List UInt8×Int×Int×List (UInt8)×Int×Int×Int×Int×Int×Int×Bool×Int×Bool×Int×Int×List (qT1)×List (List (UInt8)))
abbrev eA:Type:=((Nat×List ((List UInt8×Int))))
abbrev rM:Type:=(Int×Int×Int×Int×Int×Bool×Int×List (UInt8)×List ((List UInt8×Int))×Bool×Int)
abbrev UH:KdL:=(ln [ki,.p (.sl qY0),ki,ki,.p mE,.p (.sl (.pair ti (.sl ti))),.p (.sl qY5)])
abbrev fD:Type:=(List (((Int×Int)×Nat))×Nat)
abbrev rN:Type:=(Int×Int×(List (qT3)⊕Option (Nat×Nat×Nat)))
abbrev GC:Ty:=(.pair ti (.pair ti (.pair .bool (.pair .bool (.pair ti (.pair (.ref 0 qY5) (.pair ti (.sl (.pair .str ti)))))))))
abbrev LD:Type:=(List (qT1)×Int×List (List (UInt8))×Int×Int×Int×Int×Int×List UInt8×Int×Int×List UInt8×Int×Int×List (UInt8)×Int×Int×Int×Int×Int×Bool×Int×List (UInt8)×List ((List UInt8×Int))×Bool×Int×Int×Int×List (qT1)×List (List (UInt8)))
abbrev LE:Type:=(Int×List (qT1)×Int×Int×List dD×List ((Int×List (Int)))×List ((Int×Int))×Int×Int×jZ×List (qT9)×Int×Int×Int×Int×Int×Bool×Int×Bool×Int×List ((Int×qT3×List cX×List cX))×List (List (UInt8))×List (Int)×Int×Int×Int×Int)
abbrev TT:KdL:=(ln [kb,kb,kb,kb,ki,kb])
abbrev GD:KdL:=(ln [ki,.nilp (.slice none 0 0)])
abbrev UI:BKd:=(.fam 118 (.pair .str ti))
abbrev nO:Ty:=(.pair ti (.pair ti (.ref 1 qY2)))
abbrev LF:Type:=(Int×List (qT1)×Int×Int×List dD×List ((Int×List (Int)))×List ((Int×Int))×Int×Int×jZ×List (qT9)×Int×Int×Int×Int×Int×Bool×Int×Bool×Int×List ((Int×qT3×List cX×List cX))×List (List (UInt8)))
abbrev JM:BKd:=(.rows 59 (.pair ti (.pair qY2 (.pair (.sl gW) (.sl gW)))))
abbrev UJ:BKd:=(.vars (ln [ki,.nilp (.slice none 0 0),ki,ki,.nilp (.slice none 0 0),.nilp (.slice none 0 0),.nilp (.slice none 0 0)]))
abbrev GE:BKd:=(.rows 123 (.pair ti (.sl ti)))
abbrev EA:Type:=(Int×Int×Int×List ((Int×Int))×List (qT1)×List (rN)×List ((Int×List (Int)))×Int×Int×Int×List ((Nat×List (qT3))))
abbrev TU:BKd:=(.vars (ln [ki,.slf 8 1,ki,ki,.p mE,.slf 2 2,.slf 2 3,ki,.slf 2 101]))
abbrev BO:Type:=(Int×Int×Int×List dD×Int×List (qT1)×List ((Int×List (Int)))×List ((Int×Int))×List ((Int×Int)))
abbrev rO:Ty:=(.pair (.sl qY0) ti)
abbrev JN:Type:=(Int×List (qT1)×Int×Int×List dD×List ((Int×List (Int)))×List ((Int×Int))×Int×Int×jZ×List (((List (qT1)×Int)×List (List (UInt8))))×List ((Int×Int)))
abbrev OU:BKd:=(.vars (lc [.nilp (.slice none 0 0)] qL6))
abbrev BP:Type:=(Int×Int×List (qT1)×Int×Int×List dD×List ((Int×List (Int)))×List ((Int×Int))×fD)
abbrev EB:Type:=((Int×Int×Bool×Bool×Int×(List ((Int×Int))⊕Option (Nat×Nat×Nat))×Int×List ((List UInt8×Int))))
abbrev UK:BKd:=(.vars (lc [.p (.sl qY0)] qL6))
abbrev uH:KdL:=(lc [ki] qL6)
abbrev rP:Type:=((List (qT1)×Int)×List (List (UInt8)))
abbrev JO:BKd:=(.map ti ti)
abbrev mF:Type:=(Int×qT3×List cX×List cX)
abbrev UL:BKd:=(.vars (ln [ki,ki,.p (.sl qY2)]))
abbrev LG:Type:=(Int×Int×Int×Int×List dD×Int×List (qT1)×List ((Int×List (Int)))×List ((Int×Int))×List ((Int×Int))×List (qT1)×Int)
abbrev EC:KdL:=(ln [.own 0 100 0 0,kb])
abbrev JP:KdL:=(ln [.own 0 0 0 0,.own 0 1 0 0,.own 0 2 0 0])
abbrev JQ:KdL:=(ln [.own 0 100 0 0,.own 0 101 0 0])
abbrev OV:BKd:=(.rows 30 (.pair rO (.sl (.sl .byte))))
abbrev OW:Type:=(Int×List (qT1)×Int×Int×List dD×List ((Int×List (Int)))×List ((Int×Int))×Int×Int×jZ×List (rP)×List ((Int×Int))×List (qT9))
abbrev LH:Type:=(Int×Int×Int×Int×Int×Bool×Int×List (UInt8)×List ((List UInt8×Int))×Bool×Int×Bool×yH)
abbrev zT:BKd:=(.rows 118 (.pair .str ti))
abbrev UM:BKd:=(.vars (ln [.p (.sl qY0),ki,.p (.sl (.sl .byte))]))
abbrev UX:BKd:=(.vars (ln [ki,.slf 8 102,ki,ki,.slf 3 105,.slf 2 103,.p (.sl qY5)]))
abbrev UY:BKd:=(.vars (ln [.fn 97 .nil (ln [.own 8 1 0 0,.own 0 2 0 0,.own 0 3 0 0,.own 0 4 0 0])]))
abbrev BQ:KdL:=(ln [.own 0 0 0 0])
abbrev mG:Type:=((Nat×List ((Int×Int))))
abbrev LI:BKd:=(.vars (ln [ks]))
abbrev TV:Type:=(Int×List (qT1)×Int×Int×List dD×List ((Int×List (Int)))×List ((Int×Int))×Int×Int×jZ×List (qT9)×Int×Int×Int×Int×Int×Bool×Int×Bool×Int×List (Int))
abbrev OX:Type:=(Int×Int×Int×List dD×Int×List (qT1)×List ((Int×List (Int)))×List ((Int×Int))×List ((Int×Int))×List ((Int×Int)))
abbrev UN:BKd:=(.vars (lc [.slf 8 102] qL6))
abbrev OY:Type:=(Int×Int×List (qT1)×Int×Int×List dD×List ((Int×List (Int)))×List ((Int×Int))×Int×Int×jZ×List (rP))
abbrev mH:Type:=(Int×List (qT1)×Int)
abbrev yI:Type:=(Bool×Bool×Bool×Bool×Int×Bool)
abbrev vS:Type:=(List ((List UInt8×Int))×List UInt8)
abbrev JR:KdL:=(ln [.own 0 0 0 0,.own 0 1 0 0])
abbrev JS:KdL:=(lc [.nilp (.slice none 0 0)] GD)
abbrev yJ:Type:=(List (qT1)×Int×List (List (UInt8)))
abbrev OZ:Type:=(Int×Int×Int×List dD×List ((Int×Int))×List (qT1)×List ((Int×List (Int)))×Int×Int×Int)
abbrev ED:Type:=(Int×List (rN)×Int×List ((Nat×List (qT3))))
abbrev UO:BKd:=(.vars (lc [.slf 8 1,ki,.slf 1 2,ki,ki,.p (.int .u8),ki,ki,ks,ki,ki,ks,ki,ki,.p (.sl .byte)] TR))
abbrev UZ:BKd:=(.vars (ln [ki,.p mE]))
abbrev PN:KdL:=(ln [.own 0 100 0 0,.own 0 101 0 0,kb])
abbrev BR:BKd:=(.vars (ln [.nilp (.slice none 0 0)]))
abbrev JT:Type:=(Int×Int×Int×Int×Int×Bool×Int×Bool×Int)
theorem mixed:Tryz.prog.follows .mixedOrders=true:=by kernel_rfl
abbrev lf:Ov:=.leaf
abbrev za8:KdL:=.nil
abbrev zaa:KdL:=(lc [kb] za8)
abbrev zab:Ov:=(.two lf lf)
abbrev zac:Ov:=(.reg [(0,{ids:=[100]})])
abbrev zad:Ov:=(.reg [(0,{ids:=[100]}),(1,{ids:=[101]})])
abbrev zae:Nat×Bool×BKd:=(0,false,(.vars qL6))
abbrev zaf:HK:=[(0,false,(.vars (ln [.slf 1 1]))),(1,false,(.rows 3 ti)),(2,false,UK),(3,false,(.vars JK))]
abbrev zag:Nat×Bool×BKd:=(1,false,(.map qY5 (.sl .byte)))
abbrev zbJ:Nat×Bool×BKd:=(2,false,(.vars qL6))
abbrev zah:HK:=[(0,false,(.vars (ln [.mp 1]))),(1,false,JO),zbJ]
abbrev zai:Nat×Bool×BKd:=(999985,false,UI)
abbrev zb9:Nat×Bool×BKd:=(999985,false,(.fam 40 qY2))
abbrev zaj:HK:=[(100,false,(.vars (ln [ki,.slf 3 102]))),(102,false,(.rows 141 nO)),(101,false,(.vars GD)),zb9]
abbrev zak:Ov:=(tw [.reg [(0,{ids:=[100]}),(2,{ids:=[101]})]] lf)
abbrev zbe:Ov:=(.reg [(2,{ids:=[102]})])
abbrev zeQ:KdL:=(lc [.own 0 101 0 0] qL6)
abbrev zaN:KdL:=(lc [.own 0 100 0 0] zeQ)
abbrev zb4:Nat×Bool×BKd:=(100,false,UN)
abbrev zbf:Nat×Bool×BKd:=(102,false,(.rows 71 qY0))
abbrev zaZ:Nat×Bool×BKd:=(101,false,OU)
abbrev zfs:HK:=[zb4,zbf,zaZ]
abbrev zee:fV:=⟨[1,2],⟨JQ,zfs⟩⟩
abbrev zal:Ov:=(tw [zbe,.two lf (.one (.loop ⟨[1,2,11],⟨zaN,zfs⟩⟩ false [(0,zee)] (tw [lf,lf,.one (.two lf (.reg [(12,{ids:=[103],fn:=1}),(19,{ids:=[104],fn:=2})]))] lf)))] lf)
abbrev zam:HK:=[(100,false,UX),zbf,(105,false,(.rows 141 nO)),(103,false,GE),(101,false,UJ),zb9]
abbrev zan:Nat×Bool×BKd:=(1,false,(.rows 71 qY0))
abbrev zfu:Nat×Bool×BKd:=(0,true,UG)
abbrev zcq:Nat×Bool×BKd:=(102,false,(.vars (ln [.slf 8 101,ki,.slf 1 103])))
abbrev zbS:Nat×Bool×BKd:=(101,false,(.rows 71 qY0))
abbrev zc5:Nat×Bool×BKd:=(103,false,(.rows 34 (.sl .byte)))
abbrev zao:HK:=[zfu,(100,false,(.vars JS)),zcq,zbS,zc5]
abbrev zeq:Nat×Bool×BKd:=(103,false,UW)
abbrev zcl:Nat×Bool×BKd:=(102,false,(.map qY5 (.sl .byte)))
abbrev zer:Nat×Bool×BKd:=(106,false,OV)
abbrev zap:HK:=[zeq,zcl,zer,(107,false,(.rows 33 qY5)),(108,false,(.rows 36 nN))]
abbrev zaq:Nat×Bool×BKd:=(999984,false,(.fam 73 qY5))
abbrev zar:Ov:=(.two lf zab)
abbrev zas:HK:=[zae,(1,false,(.vars UH)),(2,false,(.vars (ln [.mp 3]))),(3,false,JO)]
abbrev za9:Shp:=⟨qL6,[]⟩
abbrev zbo:Shp:=⟨za8,[]⟩
abbrev zbQ:List (Nat×fV):=[(0,⟨[],zbo⟩)]
abbrev zat:Ov:=(tw [.two lf (.one (.loop ⟨[8],za9⟩ true zbQ (tw [lf,lf,.one (tw [lf,.reg [(5,{})]] zab)] lf)))] lf)
abbrev zau:List Shp:=[⟨zaa,[]⟩]
abbrev zav:HK:=[zae,(1,false,(.vars qL6)),(2,false,(.vars (ln [.slf 1 3]))),(3,false,(.rows 5 .byte))]
abbrev zbm:Nat×Bool×BKd:=(0,false,qB8)
abbrev zbN:Nat×Bool×BKd:=(100,false,(.rows 36 nN))
abbrev zbd:Nat×Bool×BKd:=(101,false,(.vars TR))
abbrev zcC:Nat×Bool×BKd:=(102,false,JM)
abbrev zc6:Nat×Bool×BKd:=(108,false,(.rows 34 (.sl .byte)))
abbrev zbO:Nat×Bool×BKd:=(109,false,(.rows 3 ti))
abbrev zaw:HK:=[zbm,zag,zbN,zbd,zcC,zc6,zbO,(110,false,(.vars (lc [ki,ki] uH)))]
abbrev zdz:Shp:=⟨uH,[]⟩
abbrev ze0:Ov:=(tw [.reg [(11,{})]] lf)
abbrev zax:Ov:=(tw [lf,lf,.one (.loop ⟨[9,10],zdz⟩ false [(0,⟨[9],za9⟩)] (.two zab (.one (tw [lf,.reg [(6,{})]] (.join ⟨[9,10],zdz⟩ false [] lf)))))] ze0)
abbrev zay:HK:=[zbm,zag,(100,false,OV),zbS,(102,false,(.rows 5 .byte))]
abbrev zaz:Ov:=(.reg [(0,{ids:=[100]}),(1,{ids:=[101]}),(2,{ids:=[102]})])
abbrev zaA:HK:=[zbm,zag,zbN,zbd,zcC,zc6,zbO]
abbrev zbX:Nat×Bool×BKd:=(2,false,GE)
abbrev zbn:Nat×Bool×BKd:=(3,false,(.rows 73 qY5))
abbrev zdR:Nat×Bool×BKd:=(101,false,(.rows 73 qY5))
abbrev zc3:Nat×Bool×BKd:=(4,false,(.rows 71 qY0))
abbrev zep:Nat×Bool×BKd:=(100,false,(.vars (lc [.slf 8 4] qL6)))
abbrev zaB:HK:=[(0,false,TU),zan,zbX,zbn,zdR,zc3,zep]
abbrev zaC:HK:=[(0,false,qB4)]
abbrev zc4:Nat×Bool×BKd:=(4,false,(.rows 73 qY5))
abbrev zaD:HK:=[(0,false,(.vars (ln [ki,.slf 8 1,ki,ki,.p mE,.slf 2 2,.slf 2 100,ki,.slf 2 4]))),zan,zbX,(100,false,(.rows 73 qY5)),zc4]
abbrev zaE:HK:=[(0,false,(.vars (ln [ki,.slf 8 1,ki,ki,.p mE,.slf 2 2,.slf 2 3,ki,.slf 2 4]))),zan,zbX,zbn,zc4]
abbrev zaF:KdL:=(lc [.agg (lc [.slf 8 0] qL6)] za8)
abbrev ze1:Nat×Bool×BKd:=(0,false,UY)
abbrev zbh:Nat×Bool×BKd:=(1,true,(.rows 71 qY0))
abbrev zbA:Nat×Bool×BKd:=(100,false,(.rows 99 gW))
abbrev zd9:Nat×Bool×BKd:=(5,true,(.rows 36 nN))
abbrev zdt:Nat×Bool×BKd:=(6,false,(.vars qL6))
abbrev zb1:Nat×Bool×BKd:=(7,false,(.vars qL6))
abbrev zaG:HK:=[ze1,zbh,zbJ,(3,false,(.vars (ln [.slf 4 100]))),zbA,(4,false,(.vars (ln [.slf 4 101]))),(101,false,(.rows 99 gW)),zd9,zdt,zb1]
abbrev zct:KdL:=(lc [.own 0 102 0 0] zaa)
abbrev za7:Nat×Bool×BKd:=(100,false,UK)
abbrev zcV:Nat×Bool×BKd:=(101,false,JO)
abbrev zd8:Nat×Bool×BKd:=(102,false,(.vars JK))
abbrev zaH:Shp:=⟨(lc [.own 0 100 0 0,.mp 101] zct),[za7,zcV,zd8]⟩
abbrev zeD:Nat×Bool×BKd:=(0,false,(.vars (lc [.slf 8 1] qL6)))
abbrev zbU:Nat×Bool×BKd:=(999986,false,UI)
abbrev zaI:HK:=[zeD,(1,false,(.rows 71 DY)),zaq,zbU]
abbrev zaJ:Nat×Bool×BKd:=(0,false,(.vars (ln [.fn 97 .nil (ln [.own 8 1 0 0,.own 0 2 0 0,.own 0 3 0 0,.own 0 5 0 0])])))
abbrev zaK:Ov:=(tw [zar,.two lf (.one (.loop ⟨[5],za9⟩ true zbQ (tw [zab,.one zar] lf)))] lf)
abbrev zaL:Nat×Bool×BKd:=(102,false,(.vars (lc [ki,ki,kb,kb,ki] JS)))
abbrev zeZ:KdL:=(lc [.own 0 104 0 0] qL6)
abbrev zcw:Nat×Bool×BKd:=(103,false,(.vars TR))
abbrev zaM:fV:=⟨[2,3,4,5,6,8],⟨(lc [.own 0 100 0 0,.own 0 101 0 0,.own 0 102 0 0,.own 0 103 0 0] zeZ),[(100,false,UM),(101,false,TS),(102,false,(.vars JS)),zcw,(104,false,UG)]⟩⟩
abbrev zaO:HK:=[(0,false,LI),(1,false,(.vars qL6))]
abbrev zaP:HK:=[(100,false,(.vars (ln [ki,.slf 8 102,ki,ki,.p mE,.slf 2 103,.p (.sl qY5)]))),zbf,(103,false,GE),(101,false,UJ)]
abbrev zaQ:HK:=[zbm,zag,zbN,zbd,zcC,zc5]
abbrev zaR:KdL:=(lc [.fn 99 .nil (ln [.own 0 0 0 0,.own 12 5 0 0,.own 0 6 0 0,.own 0 7 0 0])] za8)
abbrev zc1:Nat×Bool×BKd:=(101,false,(.vars uH))
abbrev zcu:Nat×Bool×BKd:=(102,false,(.vars uH))
abbrev zaS:Shp:=⟨(lc [.own 0 100 0 0,.own 0 101 0 0,.own 0 102 0 0,.own 0 103 0 0,.slf 8 105] zaa),[za7,zc1,zcu,(103,false,OU),(105,false,(.rows 71 qY0))]⟩
abbrev zaT:Nat×Bool×BKd:=(100,false,(.rows 49 BN))
abbrev zaU:HK:=[(0,false,zT),(1,false,LI)]
abbrev zfx:KdL:=(lc [.slf 1 109] za8)
abbrev zaV:fV:=⟨[0,3,4,14],⟨(lc [.own 0 0 0 0,.own 12 100 0 0,.own 0 101 0 0] zfx),[zbm,zag,zbN,zbd,zbO]⟩⟩
abbrev zaW:Shp:=⟨(lc [.p rO] za8),[]⟩
abbrev zaX:HK:=[(101,false,TS),(102,false,(.vars JS)),zcw,(107,false,(.vars (ln [.slf 8 106,ki,.slf 1 108]))),(106,false,(.rows 71 qY0)),zc6]
abbrev zaY:List Shp:=[⟨(lc [.agg TT] za8),[]⟩]
abbrev za0:Nat×Bool×BKd:=(0,true,(.rows 71 qY7))
abbrev za1:HK:=[zeD,(1,false,(.rows 71 qY7)),zai]
abbrev za2:fV:=⟨[0,3,4,6,13,14,16,17],⟨(lc [.own 0 0 0 0,.own 12 100 0 0,.own 0 101 0 0,.own 14 102 0 0,.slf 1 108,.slf 1 109,.own 0 110 0 0] zaa),zaw⟩⟩
abbrev za3:Nat×Bool×BKd:=(102,false,(.vars (ln [.slf 1 101])))
abbrev zdo:KdL:=(lc [.p (.sl qY5)] qL6)
abbrev za4:KdL:=(lc [.agg (lc [.p (.sl qY0)] qL6)] zdo)
abbrev za5:KdL:=(lc [.fn 75 .nil (ln [.own 0 0 0 0,.own 0 2 0 0,.own 0 3 0 0])] za8)
abbrev zfy:KdL:=(lc [.slf 1 100] za8)
abbrev zb8:HK:=[zae,(100,false,(.rows 5 .byte))]
abbrev za6:fV:=⟨[2,7],⟨(lc [.own 0 0 0 0] zfy),zb8⟩⟩
abbrev zba:HK:=[zeq,zcl,zer,(107,false,(.rows 33 qY5))]
abbrev zbb:Nat×Bool×BKd:=(0,false,(.rows 71 qY0))
abbrev zbc:HK:=[(0,false,(.rows 71 qY7)),zai]
abbrev zbg:HK:=[zb4,(102,false,(.rows 71 qY7)),zaZ,zai]
abbrev zbi:Ov:=(.reg [(0,{ids:=[100]}),(1,{ids:=[101]}),(2,{ids:=[102]}),(3,{ids:=[103]})])
abbrev zej:Ov:=(.two lf zar)
abbrev zbj:Ov:=(tw [lf,lf,.one zej] lf)
abbrev zbk:KdL:=(lc [.own 0 100 0 0,.own 0 101 0 0,.slf 8 102] qL6)
abbrev zbl:Nat×Bool×BKd:=(101,false,(.rows 3 ti))
abbrev zbp:Ov:=(.join ⟨[10,11,12,14],⟨(lc [.own 0 103 0 0,.own 3 106 0 0,.slf 2 107,.own 12 108 0 0] za8),zap⟩⟩ false [] (tw [.reg [(8,{})]] lf))
abbrev zbq:KdL:=(lc [ks] za8)
abbrev zbr:Shp:=⟨(lc [.slf 2 0,.fn 196 .nil (ln [.own 0 1 0 0])] qL6),zaU⟩
abbrev zbs:Shp:=⟨(lc [.slf 2 0,.fn 196 .nil (ln [.own 0 1 0 0])] za8),zaU⟩
abbrev zbt:HK:=[(100,false,(.vars (ln [ki,.p (.sl ti)])))]
abbrev zbu:HK:=[(101,false,(.vars JS)),(103,false,(.vars (ln [.slf 8 102,ki,.slf 1 104]))),zbf,(104,false,(.rows 34 (.sl .byte)))]
abbrev zbv:KdL:=(lc [ki] zaa)
abbrev zbw:KdL:=(lc [.fn 169 .nil (ln [.own 0 0 0 0,.own 0 2 0 0])] za8)
abbrev zbx:Nat×Bool×BKd:=(3,false,(.vars (ln [.slf 4 4])))
abbrev zby:Nat×Bool×BKd:=(106,false,(.vars (ln [.fn 97 .nil (ln [.own 8 100 0 0,.own 0 101 0 0,.own 0 104 0 0,.own 0 105 0 0])])))
abbrev zbz:KdL:=(lc [.agg (lc [.slf 8 0] qL6),.own 0 101 0 0,.own 0 103 0 0,.ownx 8 102 0,.slf 2 620083] za8)
abbrev zbB:Shp:=⟨BQ,zaC⟩
abbrev zbC:KdL:=(lc [ki,ks] qL6)
abbrev zdW:HK:=[zbb,(1,false,(.rows 34 (.sl .byte)))]
abbrev zbD:Shp:=⟨(lc [.agg (ln [.slf 8 0,ki,.slf 1 1])] za8),zdW⟩
abbrev zbE:KdL:=(lc [.own 0 100 0 0] qL6)
abbrev zbF:KdL:=(lc [.own 0 100 0 0] za8)
abbrev zbG:Nat×Bool×BKd:=(4,false,(.rows 99 gW))
abbrev zbH:HK:=[zae,(1,false,UL)]
abbrev zbI:Nat×Bool×BKd:=(0,false,(.rows 73 qY5))
abbrev zbK:KdL:=(lc [.p (.sl (.pair ti (.sl ti)))] za8)
abbrev zdQ:Ov:=(.reg [(2,{})])
abbrev zbL:Ov:=(.two zdQ lf)
abbrev zbM:Nat×Bool×BKd:=(101,false,(.rows 36 nN))
abbrev zei:KdL:=(lc [.p (.sl (.sl .byte))] za8)
abbrev zbP:KdL:=(lc [.p (.sl gW)] zei)
abbrev zbR:Shp:=⟨(lc [.own 0 103 0 0,.own 3 106 0 0,.slf 2 107,.own 12 108 0 0] zaa),zap⟩
abbrev zbT:Nat×Bool×BKd:=(2,false,(.vars (ln [.slf 4 3])))
abbrev zbV:Shp:=⟨PN,[(100,false,TS),(101,false,(.vars TT))]⟩
abbrev zbW:Ov:=(.two lf zej)
abbrev zbY:KdL:=(lc [.p (.sl .byte)] za8)
abbrev zbZ:KdL:=(lc [.own 0 102 0 0,.own 0 104 0 0] zaa)
abbrev zb0:KdL:=(lc [.own 0 103 0 0] zaa)
abbrev zb2:Ov:=(tw [tw [.reg [(1,{ids:=[106],fn:=1})]] lf] lf)
abbrev zb3:KdL:=(lc [.slf 2 0] za8)
abbrev zb5:KdL:=(lc [.p (.sl ti)] qL6)
abbrev zb6:Shp:=⟨(lc [.p (.sl (.pair ti (.sl ti))),.fn 80 .nil .nil] za8),[]⟩
abbrev zb7:HK:=[(100,false,(.vars BL))]
abbrev zca:KdL:=(lc [.p nN] za8)
abbrev zcb:Ov:=(.two zar zak)
abbrev zcc:Ov:=(.reg [(2,{ids:=[101]})])
abbrev zcd:KdL:=(lc [.p (.pair rO (.sl (.sl .byte)))] za8)
abbrev zc9:Nat×Bool×BKd:=(100,false,(.vars qL6))
abbrev zce:Shp:=⟨(lc [.own 0 100 0 0,.own 12 101 0 0] zaa),[zc9,zbM]⟩
abbrev zcf:Ov:=(.reg [(1,{})])
abbrev zcg:KdL:=(lc [.p qY2] za8)
abbrev zch:KdL:=(lc [.p qY5] za8)
abbrev zci:Ov:=(tw [lf,lf,.one (tw [lf,.reg [(5,{sh:=[0,1,2,3]})]] zab)] lf)
abbrev zcj:fV:=⟨[2,5],⟨(lc [.own 7 100 0 0,.mp 101] za8),[zaT,zcV]⟩⟩
abbrev zez:KdL:=(lc [.fn 168 .nil JR] za8)
abbrev zck:Shp:=⟨(lc [.p (.sl (.pair .str ti))] zez),zaO⟩
abbrev zcm:Nat×Bool×BKd:=(100,false,UZ)
abbrev zcn:Ov:=(tw [lf,lf,.one (tw [lf,.reg [(5,{sh:=[0,1]})]] zab)] lf)
abbrev zco:HK:=[(0,false,TU),zan,zbX,zbn,zdR,(100,false,(.rows 73 qY5))]
abbrev zcp:List Shp:=[⟨qL6,zaC⟩]
abbrev zcr:Ov:=(tw [.reg [(1,{ids:=[107],fn:=1})]] lf)
abbrev zcs:Ov:=(tw [.reg [(1,{ids:=[108],fn:=1})]] lf)
abbrev zcv:Nat×Bool×BKd:=(104,false,(.vars (ln [.slf 1 103])))
abbrev zcx:KdL:=(lc [.fn 92 .nil (ln [.own 0 0 0 0,.own 8 1 0 0])] za8)
abbrev zcy:Shp:=⟨(lc [.p (.pair ti (.pair ti (.sl qY2)))] qL6),[]⟩
abbrev zcz:Shp:=⟨(lc [.own 7 100 0 0,.mp 101] qL6),[zaT,zcV]⟩
abbrev zeC:KdL:=(lc [.fn 164 .nil BQ] za8)
abbrev zcA:Shp:=⟨(lc [.p (.sl (.sl .byte))] zeC),[zae]⟩
abbrev zcB:Ov:=(.reg [(1,{fn:=1})])
abbrev zcD:KdL:=(lc [.p qY0] za8)
abbrev zcE:Ov:=(tw [.reg [(3,{})]] lf)
abbrev zcF:Ov:=(.reg [(3,{ids:=[103]})])
abbrev zcG:Ov:=(.reg [(1,{ids:=[100]})])
abbrev zcH:Nat×Bool×BKd:=(102,false,(.rows 71 GC))
abbrev zcI:KdL:=(lc [.agg (lc [.slf 8 0] qL6),.own 0 101 0 0] zb0)
abbrev zcJ:Nat×Bool×BKd:=(102,false,(.rows 71 DY))
abbrev zcK:KdL:=(lc [.p (.sl ti)] za8)
abbrev zcL:Shp:=⟨(lc [.own 0 102 0 0] zb0),[zaL,(103,false,(.vars JK))]⟩
abbrev zcM:Shp:=⟨(lc [.p rO,.p qY5,ks] zaa),[]⟩
abbrev zcN:HK:=[(100,false,UM)]
abbrev zeB:KdL:=(lc [.fn 133 .nil JR] za8)
abbrev zcO:Shp:=⟨(lc [.p (.sl qY2)] zeB),zbH⟩
abbrev zcP:Shp:=⟨(lc [.p (.sl gW),.fn 165 .nil .nil] za8),[]⟩
abbrev zeJ:KdL:=(lc [.fn 83 .nil JP] za8)
abbrev zcQ:Shp:=⟨(lc [.p (.sl qY5)] zeJ),zas⟩
abbrev zdK:KdL:=(lc [.slf 1 0] za8)
abbrev zcR:Shp:=⟨zdK,[(0,false,(.rows 3 ti))]⟩
abbrev zcS:Ov:=(.reg [(4,{ids:=[104],sh:=[620083],md:=[520083,0],fn:=3})])
abbrev zcT:Nat×Bool×BKd:=(2,false,(.rows 99 gW))
abbrev zcU:Nat×Bool×BKd:=(3,false,(.rows 99 gW))
abbrev zcW:Ov:=(tw [.reg [(2,{ids:=[102]}),(5,{ids:=[103],fn:=1})]] lf)
abbrev zcX:Ov:=(.two lf (.pre (.pureCell 0 0) (.pre (.pureCell 0 2) lf)))
abbrev zcY:Ov:=(.reg [(5,{md:=[2,0,0],fn:=2}),(10,{md:=[2,0,0],fn:=2})])
abbrev zcZ:Nat×Bool×BKd:=(101,false,(.vars BL))
abbrev zc0:Shp:=⟨(lc [.p (.sl (.pair .str ti))] za5),zaf⟩
abbrev zc2:Shp:=⟨(lc [.own 0 0 0 0,.slf 1 100] zaa),zb8⟩
abbrev zc7:HK:=[(0,false,(.vars (ln [.slf 4 100]))),zbA,zbh]
abbrev zc8:Nat×Bool×BKd:=(102,false,(.vars qL6))
abbrev zda:KdL:=(lc [.own 0 100 0 0,.own 0 102 0 0] za8)
abbrev zdb:KdL:=(lc [.own 0 102 0 0] zeZ)
abbrev zdc:Ov:=(.reg [(2,{ids:=[103]}),(3,{ids:=[104],md:=[0,1]})])
abbrev zdd:Ov:=(tw [lf,.reg [(5,{ids:=[102],fn:=1})]] zar)
abbrev zde:KdL:=(lc [ki] zca)
abbrev zdf:Ov:=(tw [.reg [(2,{ids:=[103]}),(3,{ids:=[104]})]] lf)
abbrev zdg:Ov:=(tw [tw [.reg [(1,{ids:=[109],fn:=1})]] lf] lf)
abbrev zdh:KdL:=(lc [.own 0 0 0 0,ki] zbq)
abbrev zdi:Shp:=⟨(lc [.agg (lc [.slf 8 0] qL6)] qL6),zbc⟩
abbrev zdj:Ov:=(.reg [(0,{ids:=[100]}),(1,{ids:=[101],md:=[1]})])
abbrev zdk:Ov:=(.reg [(1,{ids:=[103,999985]}),(2,{ids:=[104]})])
abbrev zdl:Ov:=(.reg [(1,{ids:=[102,999985]}),(2,{ids:=[103]})])
abbrev zdm:Shp:=⟨(lc [.p (.pair ti mE)] za8),[]⟩
abbrev zdn:KdL:=(lc [.p (.sl qY5)] za8)
abbrev zdp:Ov:=(.reg [(0,{ids:=[102]})])
abbrev zdq:Ov:=(.reg [(0,{ids:=[101]})])
abbrev zdr:Ov:=(.reg [(3,{ids:=[102]})])
abbrev zds:Ov:=(.reg [(2,{ids:=[103]})])
abbrev zdu:KdL:=(lc [.p (.sl (.pair .str ti))] za8)
abbrev zdv:Ov:=(.reg [(2,{sh:=[0,1]})])
abbrev zdw:fV:=⟨[0,5],⟨(lc [.slf 2 0] qL6),[zbI]⟩⟩
abbrev zdx:Ov:=(.two zab lf)
abbrev zdy:HK:=[za0,(1,false,(.rows 71 DY)),zaq,zai,zbU]
abbrev zdA:HK:=[(0,false,JO)]
abbrev zdB:KdL:=(lc [.agg uH] qL6)
abbrev zdC:Ov:=(.reg [(2,{ids:=[101]}),(3,{ids:=[102]})])
abbrev zdD:List Shp:=[⟨zbv,[]⟩]
abbrev zdE:Ov:=(.reg [(1,{sh:=[0]})])
abbrev zdF:KdL:=(lc [.agg (lc [.slf 8 0] qL6)] JQ)
abbrev zdG:Ov:=(.reg [(2,{sh:=[103,102,999985],fn:=1})])
abbrev zdH:Nat×Bool×BKd:=(102,false,(.rows 99 gW))
abbrev zdI:Nat×Bool×BKd:=(103,false,(.rows 5 .byte))
abbrev zdJ:Nat×Bool×BKd:=(102,false,(.rows 49 BN))
abbrev zdL:KdL:=(lc [kb] qL6)
abbrev zdM:KdL:=(lc [.agg (lc [.slf 8 0] qL6)] zbk)
abbrev zdN:KdL:=(lc [.agg (lc [.slf 8 1] qL6)] za8)
abbrev zdO:Ov:=(.reg [(3,{}),(5,{ids:=[100],md:=[1]})])
abbrev zdP:List Shp:=[⟨zaF,[zbb]⟩]
abbrev zdS:Nat×Bool×BKd:=(113,false,(.rows 71 qY0))
abbrev zdT:HK:=[zbm,zag]
abbrev zdU:Ov:=(tw [.reg [(45,{}),(52,{fn:=1})]] lf)
abbrev zdV:Ov:=(tw [.reg [(2,{sh:=[0,1,2,3]})]] lf)
abbrev zdX:Nat×Bool×BKd:=(0,false,(.rows 5 .byte))
abbrev zdY:Ov:=(.reg [(2,{fn:=1})])
abbrev zdZ:Ov:=(.reg [(4,{fn:=3})])
abbrev zd0:Nat×Bool×BKd:=(5,false,(.rows 99 gW))
abbrev zd1:Nat×Bool×BKd:=(6,false,(.rows 99 gW))
abbrev zd2:Nat×Bool×BKd:=(9,false,(.rows 99 gW))
abbrev zd3:Shp:=⟨(lc [.own 0 0 0 0] uH),zaC⟩
abbrev zd4:Shp:=⟨EC,[(100,false,(.vars JK))]⟩
abbrev zd5:Shp:=⟨(lc [.p (.sl qY5)] zbw),zah⟩
abbrev zd6:Shp:=⟨(lc [.p (.int .u8)] za8),[]⟩
abbrev zd7:Shp:=⟨(lc [.own 0 0 0 0] qL6),zaC⟩
abbrev zea:Nat×Bool×BKd:=(5,false,(.rows 73 qY5))
abbrev zeb:Nat×Bool×BKd:=(116,false,(.vars BL))
abbrev zec:HK:=[(100,false,(.rows 3 ti))]
abbrev zed:HK:=[za3,zbl,(104,false,(.vars JK))]
abbrev zef:HK:=[(0,false,(.rows 34 (.sl .byte)))]
abbrev zeg:Nat×Bool×BKd:=(111,false,(.vars (lc [.slf 8 110] qL6)))
abbrev zeh:Ov:=(.reg [(9,{}),(13,{ids:=[100]})])
abbrev zek:Ov:=(.reg [(2,{ids:=[102],md:=[1]})])
abbrev zel:Ov:=(.reg [(0,{ids:=[100],md:=[1]})])
abbrev zem:Nat×Bool×BKd:=(1,false,(.vars (ln [.slf 4 102])))
abbrev zen:Shp:=⟨zaF,zbc⟩
abbrev zeo:Nat×Bool×BKd:=(103,false,UN)
abbrev zes:Shp:=⟨(lc [.agg JK] qL6),[]⟩
abbrev zet:Nat×Bool×BKd:=(0,false,(.vars (ln [.slf 4 2])))
abbrev zeu:Nat×Bool×BKd:=(1,false,(.vars (ln [.slf 4 4])))
abbrev zev:Nat×Bool×BKd:=(1,false,(.vars (ln [.slf 4 2])))
abbrev zew:Nat×Bool×BKd:=(1,false,(.vars (ln [.slf 4 5])))
abbrev zex:Nat×Bool×BKd:=(5,false,(.vars (ln [.slf 4 6])))
abbrev zey:Nat×Bool×BKd:=(3,false,(.vars (ln [.slf 4 9])))
abbrev zeA:KdL:=(lc [.fn 213 .nil .nil] za8)
abbrev zeE:Ov:=(.reg [(13,{})])
abbrev zeF:Shp:=⟨(lc [.p rO] zch),[]⟩
abbrev zeG:Shp:=⟨(lc [ks] zbq),[]⟩
abbrev zeH:Shp:=⟨(lc [.p rO] zbC),[]⟩
abbrev zeI:HK:=[za0,zb4,zcJ,zaZ,zaq,zai,zbU]
abbrev zeK:Nat×Bool×BKd:=(8,false,(.vars qL6))
abbrev zeL:Shp:=⟨EC,[za7]⟩
abbrev zeM:KdL:=(lc [.own 0 100 0 0] uH)
abbrev zeN:Shp:=⟨(lc [.p qY0] qL6),[]⟩
abbrev zeO:Ov:=(.reg [(1,{md:=[2],fn:=1})])
abbrev zeP:HK:=[(103,false,(.rows 71 qY0))]
abbrev zeR:KdL:=(lc [.own 0 102 0 0] qL6)
abbrev zeS:KdL:=(lc [.own 0 101 0 0] zbZ)
abbrev zeT:KdL:=(lc [.own 0 111 0 0] zaa)
abbrev zeU:KdL:=(lc [.own 4 100 0 0] za8)
abbrev zeV:KdL:=(lc [.own 4 100 0 0] zaa)
abbrev zeW:KdL:=(lc [ki] zbP)
abbrev zeX:Ov:=(.reg [(3,{}),(7,{fn:=1})])
abbrev zeY:KdL:=(lc [.own 0 104 0 0] za8)
abbrev ze2:fV:=⟨[2,3,4],⟨JP,zav⟩⟩
abbrev ze3:Shp:=⟨zb3,[(0,false,GE)]⟩
abbrev ze4:Ov:=(.two zcB zab)
abbrev ze5:KdL:=(lc [.own 0 3 0 0] za8)
abbrev ze6:Ov:=(.reg [(2,{ids:=[104]})])
abbrev ze7:Ov:=(.reg [(7,{ids:=[103]})])
abbrev ze8:KdL:=(lc [.own 0 0 0 0] zbC)
abbrev ze9:Ov:=(.reg [(5,{ids:=[101]})])
abbrev zfa:Ov:=(.reg [(4,{ids:=[100]})])
abbrev zfb:HK:=[za0,zb4,zcH,zaZ,zaq,zai]
abbrev zfc:Ov:=(.reg [(0,{ids:=[105]})])
abbrev zfd:fV:=⟨[1,2],⟨JQ,zam⟩⟩
abbrev zfe:Shp:=⟨EC,zcN⟩
abbrev zff:fV:=⟨[1,2],⟨JQ,zbg⟩⟩
abbrev zfg:Ov:=(.reg [(4,{md:=[2,0]})])
abbrev zfh:Ov:=(.one zbW)
abbrev zfi:Shp:=⟨EC,zb7⟩
abbrev zfj:Nat×Bool×BKd:=(102,false,(.rows 34 (.sl .byte)))
abbrev zfk:fV:=⟨[1,2],⟨JQ,zaj⟩⟩
abbrev zfl:Nat×Bool×BKd:=(116,false,(.rows 34 (.sl .byte)))
abbrev zfm:List Shp:=[za9]
abbrev zfn:Ov:=(.two zcf lf)
abbrev zfo:fV:=⟨[1],⟨zbF,[za7]⟩⟩
abbrev zfp:HK:=[za7,za3,zbl]
abbrev zfq:KdL:=(lc [.slf 8 101] qL6)
abbrev zfr:KdL:=(lc [.slf 8 101] za8)
abbrev zft:Ov:=(tw [lf,zcs] lf)
abbrev zfv:KdL:=(lc [.slf 1 100] qL6)
abbrev zfw:KdL:=(lc [.slf 1 102] za8)
theorem tk{T:List FnT}(fu:Nat){f:FuncId}{fn:Func}(fa:FnA){spec:fa.i.D->Option (dW fa.os)}(hT:∀e∈T,fF Tryz.prog e)(hf:Tryz.prog.funcs[f]? =some fn)(hb:(fn.body.isSome&&!(fn.name=="runtime.NumGoroutine"))=true)(hs:∀t,evF Tryz.prog T fu fn fa t=spec t):fF Tryz.prog ⟨f,fa.i,fa.os,spec⟩:=by
 have h:=(ZAF _ _).mp hb;exact vlZ hT mixed hf (by simpa using h.2) h.1 hs
def u2{a b W:Type}(F:a->b->W)(t:a×b):=F t.1 t.2
def u3{a b c W:Type}(F:a->b->c->W)(t:a×b×c):=u2 (F t.1) t.2
def u4{a b c d W:Type}(F:a->b->c->d->W)(t:a×b×c×d):=u3 (F t.1) t.2
def u5{a b c d e W:Type}(F:a->b->c->d->e->W)(t:a×b×c×d×e):=u4 (F t.1) t.2
def u6{a b c d e f W:Type}(F:a->b->c->d->e->f->W)(t:a×b×c×d×e×f):=u5 (F t.1) t.2
def u7{a b c d e f g W:Type}(F:a->b->c->d->e->f->g->W)(t:a×b×c×d×e×f×g):=u6 (F t.1) t.2
def u8{a b c d e f g h W:Type}(F:a->b->c->d->e->f->g->h->W)(t:a×b×c×d×e×f×g×h):=u7 (F t.1) t.2
def u9{a b c d e f g h i W:Type}(F:a->b->c->d->e->f->g->h->i->W)(t:a×b×c×d×e×f×g×h×i):=u8 (F t.1) t.2
def u10{a b c d e f g h i j W:Type}(F:a->b->c->d->e->f->g->h->i->j->W)(t:a×b×c×d×e×f×g×h×i×j):=u9 (F t.1) t.2
def u11{a b c d e f g h i j k W:Type}(F:a->b->c->d->e->f->g->h->i->j->k->W)(t:a×b×c×d×e×f×g×h×i×j×k):=u10 (F t.1) t.2
def u12{a b c d e f g h i j k l W:Type}(F:a->b->c->d->e->f->g->h->i->j->k->l->W)(t:a×b×c×d×e×f×g×h×i×j×k×l):=u11 (F t.1) t.2
def u13{a b c d e f g h i j k l m W:Type}(F:a->b->c->d->e->f->g->h->i->j->k->l->m->W)(t:a×b×c×d×e×f×g×h×i×j×k×l×m):=u12 (F t.1) t.2
def u14{a b c d e f g h i j k l m n W:Type}(F:a->b->c->d->e->f->g->h->i->j->k->l->m->n->W)(t:a×b×c×d×e×f×g×h×i×j×k×l×m×n):=u13 (F t.1) t.2
def u15{a b c d e f g h i j k l m n o W:Type}(F:a->b->c->d->e->f->g->h->i->j->k->l->m->n->o->W)(t:a×b×c×d×e×f×g×h×i×j×k×l×m×n×o):=u14 (F t.1) t.2
def u16{a b c d e f g h i j k l m n o p W:Type}(F:a->b->c->d->e->f->g->h->i->j->k->l->m->n->o->p->W)(t:a×b×c×d×e×f×g×h×i×j×k×l×m×n×o×p):=u15 (F t.1) t.2
def u17{a b c d e f g h i j k l m n o p q W:Type}(F:a->b->c->d->e->f->g->h->i->j->k->l->m->n->o->p->q->W)(t:a×b×c×d×e×f×g×h×i×j×k×l×m×n×o×p×q):=u16 (F t.1) t.2
def u18{a b c d e f g h i j k l m n o p q r W:Type}(F:a->b->c->d->e->f->g->h->i->j->k->l->m->n->o->p->q->r->W)(t:a×b×c×d×e×f×g×h×i×j×k×l×m×n×o×p×q×r):=u17 (F t.1) t.2
def u19{a b c d e f g h i j k l m n o p q r s W:Type}(F:a->b->c->d->e->f->g->h->i->j->k->l->m->n->o->p->q->r->s->W)(t:a×b×c×d×e×f×g×h×i×j×k×l×m×n×o×p×q×r×s):=u18 (F t.1) t.2
def u20{a b c d e f g h i j k l m n o p q r s x W:Type}(F:a->b->c->d->e->f->g->h->i->j->k->l->m->n->o->p->q->r->s->x->W)(t:a×b×c×d×e×f×g×h×i×j×k×l×m×n×o×p×q×r×s×x):=u19 (F t.1) t.2
def u21{a b c d e f g h i j k l m n o p q r s x y W:Type}(F:a->b->c->d->e->f->g->h->i->j->k->l->m->n->o->p->q->r->s->x->y->W)(t:a×b×c×d×e×f×g×h×i×j×k×l×m×n×o×p×q×r×s×x×y):=u20 (F t.1) t.2
def u22{a b c d e f g h i j k l m n o p q r s x y z W:Type}(F:a->b->c->d->e->f->g->h->i->j->k->l->m->n->o->p->q->r->s->x->y->z->W)(t:a×b×c×d×e×f×g×h×i×j×k×l×m×n×o×p×q×r×s×x×y×z):=u21 (F t.1) t.2
def u23{a b c d e f g h i j k l m n o p q r s x y z a1 W:Type}(F:a->b->c->d->e->f->g->h->i->j->k->l->m->n->o->p->q->r->s->x->y->z->a1->W)(t:a×b×c×d×e×f×g×h×i×j×k×l×m×n×o×p×q×r×s×x×y×z×a1):=u22 (F t.1) t.2
def u24{a b c d e f g h i j k l m n o p q r s x y z a1 b1 W:Type}(F:a->b->c->d->e->f->g->h->i->j->k->l->m->n->o->p->q->r->s->x->y->z->a1->b1->W)(t:a×b×c×d×e×f×g×h×i×j×k×l×m×n×o×p×q×r×s×x×y×z×a1×b1):=u23 (F t.1) t.2
def u25{a b c d e f g h i j k l m n o p q r s x y z a1 b1 c1 W:Type}(F:a->b->c->d->e->f->g->h->i->j->k->l->m->n->o->p->q->r->s->x->y->z->a1->b1->c1->W)(t:a×b×c×d×e×f×g×h×i×j×k×l×m×n×o×p×q×r×s×x×y×z×a1×b1×c1):=u24 (F t.1) t.2
def u26{a b c d e f g h i j k l m n o p q r s x y z a1 b1 c1 d1 W:Type}(F:a->b->c->d->e->f->g->h->i->j->k->l->m->n->o->p->q->r->s->x->y->z->a1->b1->c1->d1->W)(t:a×b×c×d×e×f×g×h×i×j×k×l×m×n×o×p×q×r×s×x×y×z×a1×b1×c1×d1):=u25 (F t.1) t.2
abbrev To(f:FuncId)(fa:FnA)(F:Nat->fa.i.D->Option (dW fa.os)):Prop:=∀fu,fF Tryz.prog ⟨f,fa.i,fa.os,F fu⟩
abbrev Ta(T:Nat->Tbl):Prop:=∀fu,∀e∈T fu,fF Tryz.prog e
theorem tz:Ta λ_=>[]:=λ_=>abZ
theorem ta{e:Nat->FnT}{T:Nat->Tbl}(h:∀fu,fF Tryz.prog (e fu))(r:Ta T):Ta λfu=>e fu::T fu:=λfu=>aaZ (h fu) (r fu)
theorem tj{T:Nat->Tbl}{f:FuncId}{fn:Func}{fa:FnA}{F:Nat->fa.i.D->Option (dW fa.os)}(hT:Ta T)(hf:Tryz.prog.funcs[f]? =some fn)(hb:(fn.body.isSome&&!(fn.name=="runtime.NumGoroutine"))=true:=by kernel_rfl)(hs:∀fu t,evF Tryz.prog (T fu) fu fn fa t=F fu t:=by intro _ _;kernel_rfl):To f fa F:=by
 have h:=(Bool.and_eq_true _ _).mp hb;exact λfu=>vlZ (hT fu) mixed hf (by simpa using h.2) h.1 (hs fu)
def v3{a b c W:Type}(F:Nat->a->b->c->W)(fu:Nat):a×b×c->W:=u3 (F fu)
def v4{a b c d W:Type}(F:Nat->a->b->c->d->W)(fu:Nat):a×b×c×d->W:=u4 (F fu)
def v5{a b c d e W:Type}(F:Nat->a->b->c->d->e->W)(fu:Nat):a×b×c×d×e->W:=u5 (F fu)
def v6{a b c d e f W:Type}(F:Nat->a->b->c->d->e->f->W)(fu:Nat):a×b×c×d×e×f->W:=u6 (F fu)
def v7{a b c d e f g W:Type}(F:Nat->a->b->c->d->e->f->g->W)(fu:Nat):a×b×c×d×e×f×g->W:=u7 (F fu)
def v8{a b c d e f g h W:Type}(F:Nat->a->b->c->d->e->f->g->h->W)(fu:Nat):a×b×c×d×e×f×g×h->W:=u8 (F fu)
def v9{a b c d e f g h i W:Type}(F:Nat->a->b->c->d->e->f->g->h->i->W)(fu:Nat):a×b×c×d×e×f×g×h×i->W:=u9 (F fu)
def v10{a b c d e f g h i j W:Type}(F:Nat->a->b->c->d->e->f->g->h->i->j->W)(fu:Nat):a×b×c×d×e×f×g×h×i×j->W:=u10 (F fu)
def v11{a b c d e f g h i j k W:Type}(F:Nat->a->b->c->d->e->f->g->h->i->j->k->W)(fu:Nat):a×b×c×d×e×f×g×h×i×j×k->W:=u11 (F fu)
def v12{a b c d e f g h i j k l W:Type}(F:Nat->a->b->c->d->e->f->g->h->i->j->k->l->W)(fu:Nat):a×b×c×d×e×f×g×h×i×j×k×l->W:=u12 (F fu)
def v14{a b c d e f g h i j k l m n W:Type}(F:Nat->a->b->c->d->e->f->g->h->i->j->k->l->m->n->W)(fu:Nat):a×b×c×d×e×f×g×h×i×j×k×l×m×n->W:=u14 (F fu)
def v24{a b c d e f g h i j k l m n o p q r s x y z a1 b1 W:Type}(F:Nat->a->b->c->d->e->f->g->h->i->j->k->l->m->n->o->p->q->r->s->x->y->z->a1->b1->W)(fu:Nat):a×b×c×d×e×f×g×h×i×j×k×l×m×n×o×p×q×r×s×x×y×z×a1×b1->W:=u24 (F fu)
def v26{a b c d e f g h i j k l m n o p q r s x y z a1 b1 c1 d1 W:Type}(F:Nat->a->b->c->d->e->f->g->h->i->j->k->l->m->n->o->p->q->r->s->x->y->z->a1->b1->c1->d1->W)(fu:Nat):a×b×c×d×e×f×g×h×i×j×k×l×m×n×o×p×q×r×s×x×y×z×a1×b1×c1×d1->W:=u26 (F fu)
def lM(a:Nat)(x n:Int):oN Int:=bif decide (n<1) then some 0 else bO (!(decide (n=0)))<|bif (decide ((Int.tmod x n)<0)) then some (wI ((Int.tmod x n)+n)) else some (Int.tmod x n)
def EE:FnA:=⟨tw [lf,zar,lf] zdx,zdz,zfm,[0]⟩
theorem itZ:To 23 EE λfu t=>lM fu t.1 t.2:=tj tz func23
def kC(a:Nat):oN (List (Int×List Int)):=some [(1,[0,1,2])]
def yK:FnA:=⟨.two lf zak,zbo,[ze3],[0]⟩
theorem diZ:To 25 yK λfu t=>kC fu:=tj tz func25
def TW(a:Nat)(window:Int):oN (Int×Int):=Option.bind (α:=(Bool×Int)) (bif decide (window<1) then some (true,0) else some ((decide (window>100)),0)) λo=>bif o.1 then some (0,2) else some (window,0)
def PR:FnA:=⟨tw [zac,tw [.join ⟨[2,9],⟨EC,[(100,false,(.vars GD))]⟩⟩ false [] lf] zab] lf,za9,[⟨(lc [.agg GD] qL6),[]⟩],[0,0]⟩
theorem pGZ:To 55 PR TW:=tj tz func55
def PZ(a:Nat)(s:List Int)(v x:Int):oN (Int⊕(Unit⊕Int)):=bif (decide (x<(s.length:Int))) then (bJ x s.length).bind λq=>s[q]?.bind λr=>bif (v==r) then some (.inr (.inr x)) else some (.inl (wI (x+1))) else some (.inr (.inl ()))
def GF(b:Nat)(s:List Int)(v a:Int):oN (Unit⊕Int):=iter b (λa=>PZ b s v a) a
def UP(b:Nat)(s:List Int)(v:Int):oN Int:=(GF b s v 0).bind λo=>match o with
 |.inl c=>some (-1)
 |.inr a=>some a
def QA:FnA:=⟨tw [lf,.two lf (.one (.loop ⟨[8],za9⟩ true zbQ zbj))] lf,⟨zb5,[]⟩,zfm,[0]⟩
theorem qnZ:To 172 QA λfu t=>UP fu t.1 t.2:=tj tz func172
def UQ(a:Nat)(s:List Int)(v:Int):oN Bool:=(UP a s v).bind λr=>some (decide (r>=0))
def QB:FnA:=⟨.two lf zbL,⟨zb5,[]⟩,zau,[0]⟩
theorem qhZ:To 135 QB λfu t=>UQ fu t.1 t.2:=tj (ta qnZ tz) func135
def QC(e:Nat)(o:Bool×Int×List Int)(nodes x h:Int)(a:List Int):oN ((Int×Int×List Int)⊕(Unit⊕Bool)):=bif (decide (x<(o.2.2.length:Int))) then (bJ x o.2.2.length).bind λq=>o.2.2[q]?.bind λr=>Option.bind (α:=(Bool×Int×List Int)) (bif decide (r<0) then some (true,h,a) else bif decide (r>=nodes) then some (true,h,a) else (cO x a.length).bind λc=>(UQ e (List.take c a) r).bind λd=>some (d,h,a)) λb=>bif b.1 then some (.inr (.inr false)) else some (.inl ((wI (x+1)),b.2)) else some (.inr (.inl ()))
def GG(a:Nat)(o:Bool×Int×List Int)(nodes:Int)(b:Int×Int×List Int):oN (Unit⊕Bool):=iter a (u3 (QC a o nodes)) b
def UR(c:Nat)(p:Int×List Int)(nodes:Int):oN Bool:=Option.bind (α:=(Bool×Int×List Int)) (bif decide (nodes<1) then some (true,p) else bif decide (nodes>256) then some (true,p) else bif decide (p.1<1) then some (true,p) else bif decide (p.1>1099511627776) then some (true,p) else bif (decide ((p.2.length:Int)<1)) then some (true,p) else some ((decide ((p.2.length:Int)>255)),p)) λo=>bif o.1 then some false else (GG c o nodes (0,o.2)).bind λa=>match a with
  |.inl s=>some true
  |.inr b=>some b
def QD:FnA:=⟨tw [zac,tw [.join ⟨[2,34],⟨EC,zbt⟩⟩ false [] lf] zab,.two lf (.one (.loop ⟨[2,38],⟨zbE,zbt⟩⟩ true zbQ (tw [lf,lf,.one (tw [lf,.join ⟨[2,57],⟨EC,zbt⟩⟩ false [] zeE] zab)] lf)))] lf,⟨(lc [.p (.pair ti (.sl ti))] qL6),[]⟩,zau,[0]⟩
theorem ryZ:To 81 QD λfu t=>UR fu t.1 t.2:=tj (ta qhZ tz) func81
def TA(a:Nat)(p:Int×List Int):oN Bool:=(UR a p 256).bind λr=>some (!r)
def LJ:FnA:=⟨.two zac zfn,⟨(lc [.p (.pair ti (.sl ti))] za8),[]⟩,zau,[0]⟩
theorem oQZ:To 80 LJ TA:=tj (ta ryZ tz) func80
def BS(b:Nat)(s:List (Int×List Int))(x:Int):oN (Int⊕(Unit⊕Int)):=bif (decide (x<(s.length:Int))) then (bJ x s.length).bind λq=>s[q]?.bind λr=>(TA b r).bind λa=>bif a then some (.inr (.inr x)) else some (.inl (wI (x+1))) else some (.inr (.inl ()))
def wT(b:Nat)(s:List (Int×List Int))(a:Int):oN (Unit⊕Int):=iter b (λa=>BS b s a) a
def AL(b:Nat)(s:List (Int×List Int)):oN Int:=(wT b s 0).bind λo=>match o with
 |.inl c=>some (-1)
 |.inr a=>some a
def BT:FnA:=⟨.two lf zat,zb6,zfm,[0]⟩
theorem hrZ:To 136 BT AL:=tj (ta oQZ tz) func136
def EF(a:Nat)(s:List (Int×List Int)):oN Bool:=(AL a s).bind λr=>some (decide (r>=0))
def EG:FnA:=⟨.two lf zbL,zb6,zau,[0]⟩
theorem jeZ:To 82 EG EF:=tj (ta hrZ tz) func82
def QE(a:Nat)(l:List (Int×List Int)):oN Bool:=bif (decide ((l.length:Int)>=1)) then bif (decide ((l.length:Int)<=1000)) then (EF a l).bind λr=>some (!r) else some false else some false
def QF:FnA:=⟨tw [lf,lf] ze0,⟨zbK,[]⟩,zau,[0]⟩
theorem kVZ:To 35 QF QE:=tj (ta jeZ tz) func35
def AM(a:Nat):oN (Int×List qT1):=some (0,[(1,1,true,true,0,[],1,[])])
def BU:FnA:=⟨tw [zac,.reg [(1,{ids:=[101]})]] lf,zbo,zdP,[0]⟩
theorem h1Z:To 56 BU λfu t=>AM fu:=tj tz func56
def qS(a:Nat):oN (Int×List qT1×List (List UInt8)):=(AM a).bind λr=>some (r.1,r.2,(List.replicate (α:=List UInt8) 1 []))
def BV:FnA:=⟨tw [zac,.reg [(0,{ids:=[101]}),(1,{ids:=[102]})]] lf,zbo,[zbD],[0]⟩
theorem dZZ:To 26 BV λfu t=>qS fu:=tj (ta h1Z tz) func26
def sA(a:Nat)(s:List qT1):oN (List qT1):=rK s.length λisNil=>bif isNil then some [] else bO ((Nat.ble ((0+s.length)*88) cL)&&(Nat.ble (0+s.length) cL))<|some s
def LK:FnA:=⟨.two lf zcb,⟨(lc [.p (.sl qY0)] za8),[]⟩,[⟨(lc [.slf 8 0] za8),[zbb]⟩],[81]⟩
theorem b9Z:To 124 LK sA:=tj tz func124
def uI(a:Nat)(s:List (Int×Int)):oN (List (Int×Int)):=rK s.length λisNil=>bif isNil then some [] else bO ((Nat.ble ((0+s.length)*16) cL)&&(Nat.ble (0+s.length) cL))<|some s
def LL:FnA:=⟨.two lf zcb,⟨zdn,[]⟩,[⟨zb3,[zbI]⟩],[83]⟩
theorem bXZ:To 105 LL uI:=tj tz func105
def wU(a:Nat)(s:List (List UInt8×Int)):oN (List (List UInt8×Int)):=rK s.length λisNil=>bif isNil then some [] else bO ((Nat.ble ((0+s.length)*24) cL)&&(Nat.ble (0+s.length) cL))<|some s
def QG:FnA:=⟨.two lf zcb,⟨zdu,[]⟩,[⟨zb3,[(0,false,zT)]⟩],[128]⟩
theorem bOZ:To 104 QG wU:=tj tz func104
def BW(n:Nat)(r:List qT1)(x h:Int)(f:List qT1)(l:Int):oN ((Int×mH)⊕(mH)):=bif (decide (x<(r.length:Int))) then (bJ x f.length).bind λq=>f[q]?.bind λo=>(uI n o.e).bind λj=>(bJ x f.length).bind λp=>f[p]?.bind λs=>(wU n s.2.2.2.2.2.2.2).bind λt=>(bJ x f.length).bind λi=>f[i]?.bind λa=>(bJ x (List.set f i (a.1,a.2.1,a.b,a.c,a.d,j,a.E)).length).bind λm=>(List.set f i (a.1,a.2.1,a.b,a.c,a.d,j,a.E))[m]?.bind λg=>some (.inl ((wI (x+1)),h,(List.set (List.set f i (a.1,a.2.1,a.b,a.c,a.d,j,a.E)) m (g.1,g.2.1,g.b,g.c,g.d,g.e,g.2.2.2.2.2.2.1,t)),l)) else some (.inr (h,f,l))
def yL(b:Nat)(r:List qT1)(a:Int×mH):oN mH:=iter b (λa=>BW b r a.1 a.2.1 a.2.2.1 a.2.2.2) a
def LM(a:Nat)(t:List qT1×Int):oN (Int×List qT1):=(sA a t.1).bind λr=>(yL a r (0,t.2,r,0)).bind λo=>some (o.1,o.2.1)
def QH:FnA:=⟨.two zad zal,zaW,zdP,[0]⟩
theorem k6Z:To 90 QH LM:=tj (ta b9Z (ta bXZ (ta bOZ tz))) func90
def LN(a:Nat)(s:List (Int×List Int)):oN (List (Int×List Int)):=rK s.length λisNil=>bif isNil then some [] else bO ((Nat.ble ((0+s.length)*32) cL)&&(Nat.ble (0+s.length) cL))<|some s
def LO:FnA:=⟨.two lf zcb,⟨zbK,[]⟩,[ze3],[133]⟩
theorem oAZ:To 100 LO LN:=tj tz func100
def LP(a:Nat)(s:List Int):oN (List Int):=rK s.length λisNil=>bif isNil then some [] else bO ((Nat.ble ((0+s.length)*8) cL)&&(Nat.ble (0+s.length) cL))<|some s
def LQ:FnA:=⟨.two lf zcb,⟨zcK,[]⟩,[zcR],[13]⟩
theorem nVZ:To 101 LQ LP:=tj tz func101
def IH(a:Nat)(s:List dD):oN (List dD):=rK s.length λisNil=>bif isNil then some [] else bO ((Nat.ble ((0+s.length)*40) cL)&&(Nat.ble (0+s.length) cL))<|some s
def LR:FnA:=⟨.two lf zcb,⟨(lc [.p mE] za8),[]⟩,[⟨(lc [.slf 3 0] za8),[(0,false,(.rows 141 (.pair ti (.pair ti (.sl qY2)))))]⟩],[151]⟩
theorem hQZ:To 102 LR IH:=tj tz func102
def II(a:Nat)(s:List qT3):oN (List qT3):=rK s.length λisNil=>bif isNil then some [] else bO ((Nat.ble ((0+s.length)*120) cL)&&(Nat.ble (0+s.length) cL))<|some s
def LS:FnA:=⟨.two lf zcb,⟨(lc [.p (.sl qY2)] za8),[]⟩,[⟨(lc [.slf 11 0] za8),[(0,false,(.rows 40 qY2))]⟩],[50]⟩
theorem hIZ:To 103 LS II:=tj tz func103
def sB(a:Nat)(s:List UInt8):oN (List UInt8):=rK s.length λisNil=>bif isNil then some [] else bO ((Nat.ble ((0+s.length)*1) cL)&&(Nat.ble (0+s.length) cL))<|some s
def LT:FnA:=⟨.two lf zcb,⟨zbY,[]⟩,[⟨zdK,[zdX]⟩],[15]⟩
theorem cOZ:To 70 LT sB:=tj tz func70
def iX(r:Nat)(m:List (Int×List Int))(x h b c:Int)(d:List dD)(e:List (Int×Int))(f:List qT1)(a:List (Int×List Int))(g i j:Int):oN ((Int×OZ)⊕(OZ)):=bif (decide (x<(m.length:Int))) then (bJ x a.length).bind λq=>a[q]?.bind λn=>(LP r n.2).bind λo=>(bJ x a.length).bind λl=>a[l]?.bind λp=>some (.inl ((wI (x+1)),h,b,c,d,e,f,(List.set a l (p.1,o)),g,i,j)) else some (.inr (h,b,c,d,e,f,a,g,i,j))
def oX(a:Nat)(b:List (Int×List Int))(c:Int×OZ):oN OZ:=iter a (u11 (iX a b)) c
def iY(J:Nat)(K:rN)(k:Nat)(j l n o:Int)(p:List (Int×Int))(q:List qT1)(h:List rN)(r:List (Int×List Int))(t u w:Int)(i:List (Nat×List qT3)):oN ((Nat×Int×EA)⊕(EA)):=bif (decide (j<(((fQ (s:=qY2) K.A):Nat):Int))) then h[k]?.bind λy=>h[k]?.bind λz=>h[k]?.bind λB=>(wR B.A).bind λm=>(bJ j m.A).bind λL=>i[m.1]?.bind λm1=>bO ((Nat.blt 0 m1.1)&&true)<|m1.2[(m.a+L)]?.bind λC=>(sB J C.f).bind λx=>h[k]?.bind λD=>(wR D.A).bind λm2=>(bJ j m2.A).bind λM=>i[m2.1]?.bind λm3=>bO ((Nat.blt 0 m3.1)&&true)<|m3.2[(m2.a+M)]?.bind λE=>(wU J E.2.2.2.2.2.2.2.1).bind λG=>(wR y.A).bind λm4=>(bJ j m4.A).bind λH=>i[m4.1]?.bind λm5=>bO (((Nat.beq m5.1 1)&&true)&&true)<|m5.2[(m4.a+H)]?.bind λb=>(wR z.A).bind λm6=>(bJ j m6.A).bind λI=>(List.set i m4.1 (1,(List.set m5.2 (m4.a+H) (b.1,b.a,b.2.2.1,b.c,b.d,b.e,x,b.F))))[m6.1]?.bind λm7=>bO (((Nat.beq m7.1 1)&&true)&&true)<|m7.2[(m6.a+I)]?.bind λg=>some (.inl (k,(wI (j+1)),l,n,o,p,q,h,r,t,u,w,(List.set (List.set i m4.1 (1,(List.set m5.2 (m4.a+H) (b.1,b.a,b.2.2.1,b.c,b.d,b.e,x,b.F)))) m6.1 (1,(List.set m7.2 (m6.a+I) (g.1,g.a,g.2.2.1,g.c,g.d,g.e,g.f,G,g.2.2.2.2.2.2.2.2)))))) else some (.inr (l,n,o,p,q,h,r,t,u,w,i))
def kJ(a:Nat)(b:rN)(c:Nat×Int×EA):oN EA:=iter a (u13 (iY a b)) c
def oG(q:Nat)(r:List dD)(o d e f:Int)(g:List (Int×Int))(h:List qT1)(a:List rN)(i:List (Int×List Int))(j l m:Int)(b:List (Nat×List qT3)):oN ((Int×EA)⊕(EA)):=bif (decide (o<(r.length:Int))) then (bJ o a.length).bind λc=>a[c]?.bind λs=>(nG (.ref 1 qY2) s.2.2).bind λt=>(II q t).bind λp=>a[c]?.bind λn=>(List.set a c (n.1,n.2.1,(.inr (some (b.length,0,p.length)))))[c]?.bind λu=>(kJ q u (c,0,d,e,f,g,h,(List.set a c (n.1,n.2.1,(.inr (some (b.length,0,p.length))))),i,j,l,m,(b++[(1,p)]))).bind λw=>some (.inl ((wI (o+1)),w)) else some (.inr (d,e,f,g,h,a,i,j,l,m,b))
def iG(b:Nat)(c:List dD)(a:Int×EA):oN EA:=iter b (λa=>oG b c a.1 a.2.1 a.2.2.1 a.2.2.2.1 a.2.2.2.2.1 a.2.2.2.2.2.1 a.2.2.2.2.2.2.1 a.2.2.2.2.2.2.2.1 a.2.2.2.2.2.2.2.2.1 a.2.2.2.2.2.2.2.2.2.1 a.2.2.2.2.2.2.2.2.2.2.1 a.2.2.2.2.2.2.2.2.2.2.2) a
def gA(i:Nat)(s:iJ):oN (Int×Int×Int×List dD×List qT1×List (Int×List Int)×List (Int×Int)):=(LM i s.2.1).bind λr=>(LN i s.c).bind λm=>(oX i m (0,s.1,r.1,s.b.1,s.b.2,s.2.2.2.2,r.2,m,0,0,0)).bind λo=>(IH i o.c).bind λn=>(iG i n (0,o.1,o.2.1,o.b,o.d,o.e,(List.map (dE nO) n),o.f,o.g,o.h,o.H,[])).bind λa=>(uI i a.c).bind λj=>(cJ (bU [⟨1,qY2,(List.map bV a.I)⟩] nO) a.e).bind λl=>some (a.1,a.2.1,a.b,l,a.d,a.f,j)
def BX:FnA:=⟨tw [zad,zbe,.reg [(2,{ids:=[103],fn:=1})],.two lf (.one (.loop ⟨[1,2,18],⟨zaN,zaP⟩⟩ false [(0,⟨[1,2],⟨JQ,zaP⟩⟩)] (tw [lf,lf,.one (.two lf (.reg [(9,{ids:=[104],fn:=2})]))] lf))),.reg [(3,{ids:=[105],fn:=3})],.two lf (.one (.pre (.newFam 1 40 qY2) (.pre (.toRef 105 nO) (.loop ⟨[1,2,44],⟨zaN,zam⟩⟩ false [(2,zfd)] (tw [lf,lf,.one (tw [lf,lf,.reg [(5,{ids:=[106],md:=[3],fn:=4}),(8,{sh:=[106,999985]})],lf] (.one (.loop ⟨[1,2,5,65],⟨(lc [.own 0 100 0 0,.own 0 101 0 0,.ownx 3 105 0] qL6),zam⟩⟩ false [(4,zfd)] (tw [lf,lf,.one (.two lf (.reg [(17,{sh:=[999985]}),(18,{ids:=[107],fn:=5}),(26,{sh:=[999985]}),(27,{ids:=[108],fn:=6}),(30,{sh:=[999985]}),(33,{sh:=[999985]})]))] lf))))] lf))))),.reg [(2,{ids:=[109],fn:=7})],.pre (.pureCell 100 4) lf] lf,⟨(lc [.p BN] za8),[]⟩,[⟨(lc [.agg (ln [ki,.slf 8 0,ki,ki,.p mE,.slf 2 1,.slf 2 2])] za8),[zbb,(1,false,GE),(2,false,(.rows 73 qY5))]⟩],[0]⟩
theorem dYZ:To 47 BX gA:=tj (ta k6Z (ta oAZ (ta nVZ (ta hQZ (ta hIZ (ta cOZ (ta bOZ (ta bXZ tz)))))))) func47
def nP(b:Nat)(window:Int)(l:List (Int×List Int)):oN (Int×List qT1×Int×Int×List dD×List (Int×List Int)×List (Int×Int)×Int):=(TW b window).bind λr=>bif (!(r.2==0)) then some (0,[],0,0,[],[],[],r.2) else (QE b l).bind λd=>bif (!d) then some (0,[],0,0,[],[],[],2) else (qS b).bind λc=>(gA b (0,(c.2.1,c.1),(r.1,[]),l,[])).bind λa=>some (a.1,a.2.2.2.2.1,a.2.1,a.2.2.1,a.2.2.2.1,a.2.2.2.2.2.1,a.2.2.2.2.2.2,0)
def BY:FnA:=⟨tw [zac,.reg [(1,{}),(5,{ids:=[101]})],zar,ze4,.reg [(0,{ids:=[102,103],fn:=2}),(5,{ids:=[104,105,106],md:=[1],fn:=3})]] lf,⟨(lc [ki] zbK),[]⟩,[⟨(lc [.agg UH] qL6),[]⟩],[1,0]⟩
theorem ebZ:To 24 BY λfu t=>nP fu t.1 t.2:=tj (ta pGZ (ta kVZ (ta dZZ (ta dYZ tz)))) func24
def oH(i:Nat)(e:qT1)(x b:Int)(a:List qT1)(c:Int):oN (mH⊕((List qT1×Int)⊕(mH⊕(Unit⊕Bool)))):=bif (decide (b<(e.2.2.2.2.2.2.2.length:Int))) then (bJ x a.length).bind λf=>a[f]?.bind λd=>(bJ b d.2.2.2.2.2.2.2.length).bind λg=>d.2.2.2.2.2.2.2[g]?.bind λh=>bif (decide ((h.1.length:Int)>3000)) then some (.inr (.inr (.inr (.inr true)))) else some (.inl ((wI (b+1)),a,c)) else some (.inr (.inl (a,c)))
def kK(b:Nat)(c:qT1)(x:Int)(a:mH):oN ((List qT1×Int)⊕(mH⊕(Unit⊕Bool))):=iter b (λa=>oH b c x a.1 a.2.1 a.2.2) a
def oI(i:Nat)(t:List qT1×Int)(x:Int)(h:List qT1)(a:Int):oN (mH⊕(Unit⊕Bool)):=bif (decide (x<(t.1.length:Int))) then Option.bind (α:=(Bool×List qT1×Int)) ((bJ x h.length).bind λq=>h[q]?.bind λr=>bif (decide ((r.2.2.2.2.2.1.length:Int)>120)) then some (true,h,a) else (bJ x h.length).bind λb=>h[b]?.bind λc=>some ((decide ((c.2.2.2.2.2.2.2.length:Int)>120)),h,a)) λo=>bif o.1 then some (.inr (.inr true)) else (bJ x o.2.1.length).bind λd=>o.2.1[d]?.bind λe=>(kK i e x (0,o.2)).bind λf=>match f with
   |.inl s=>some (.inl ((wI (x+1)),s))
   |.inr g=>some g else some (.inr (.inl ()))
def kL(b:Nat)(t:List qT1×Int)(a:mH):oN (Unit⊕Bool):=iter b (λa=>oI b t a.1 a.2.1 a.2.2) a
def qT(c:Nat)(t:List qT1×Int):oN Bool:=bif (decide ((t.1.length:Int)>40)) then some true else (kL c t (0,t)).bind λa=>match a with
  |.inl d=>some false
  |.inr b=>some b
def BZ:FnA:=⟨tw [zac,zar,.two lf (.one (.loop ⟨[1,12],⟨zbE,[za7]⟩⟩ true zbQ (tw [lf,lf,.one (tw [lf,tw [.join ⟨[1,32],zeL⟩ false [] lf] zab,lf] (.one (.loop ⟨[1,40],⟨zbE,[za7]⟩⟩ true [(2,zfo)] zbj)))] lf)))] lf,zaW,zau,[0]⟩
theorem hyZ:To 57 BZ qT:=tj tz func57
def lN(d:Nat)(o:Bool×yJ)(n x:Int)(h:List qT1)(b:Int)(a:List (List UInt8)):oN ((Int×Int×yJ)⊕(Int)):=bif (decide (x<(o.2.2.2.length:Int))) then (bJ x a.length).bind λq=>a[q]?.bind λc=>some (.inl ((wI (n+(c.length:Int))),(wI (x+1)),h,b,a)) else some (.inr n)
def iZ(b:Nat)(o:Bool×yJ)(a:Int×Int×yJ):oN Int:=iter b (λa=>lN b o a.1 a.2.1 a.2.2.1 a.2.2.2.1 a.2.2.2.2) a
def mK(a:Nat)(m:rP):oN Bool:=Option.bind (α:=(Bool×yJ)) ((qT a (m.1.1,m.1.2)).bind λr=>bif r then some (true,m.1.1,m.1.2,m.2) else some ((decide ((m.2.length:Int)>60)),m.1.1,m.1.2,m.2)) λo=>bif o.1 then some true else (iZ a o (0,0,o.2.1,o.2.2.1,o.2.2.2)).bind λb=>some (decide (b>70000))
def yM:FnA:=⟨tw [zac,tw [.join ⟨[1,13],zfe⟩ false [] zdQ] zab,lf,.two lf (.one (.loop ⟨[1,3,17],⟨zeM,zcN⟩⟩ false [(0,⟨[3],za9⟩)] (tw [lf,lf,.one lf] lf)))] lf,⟨zcd,[]⟩,zau,[0]⟩
theorem f8Z:To 27 yM mK:=tj (ta hyZ tz) func27
def sC(n:Nat)(o:Bool×rM)(x h c d e f:Int)(g:Bool)(i:Int)(j:List UInt8)(a:List (List UInt8×Int))(l:Bool)(b:Int):oN ((Int×rM)⊕(Unit⊕Bool)):=bif (decide (x<(o.2.2.2.2.2.2.2.2.2.1.length:Int))) then (bJ x a.length).bind λq=>a[q]?.bind λm=>bif (decide ((m.1.length:Int)>3000)) then some (.inr (.inr true)) else some (.inl ((wI (x+1)),h,c,d,e,f,g,i,j,a,l,b)) else some (.inr (.inl ()))
def nQ(a:Nat)(o:Bool×rM)(b:Int×rM):oN (Unit⊕Bool):=iter a (u12 (sC a o)) b
def lO(i:Nat)(c:qT9)(r:qT3):oN Bool:=Option.bind (α:=(Bool×rM)) (bif (decide ((c.d.length:Int)>3000)) then some (true,r.1,r.a,r.b,r.c.1,r.c.2,r.C) else bif (decide ((c.f.length:Int)>3000)) then some (true,r.1,r.a,r.b,r.c.1,r.c.2,r.C) else bif (decide ((c.H.length:Int)>5000)) then some (true,r.1,r.a,r.b,r.c.1,r.c.2,r.C) else bif (decide ((r.f.length:Int)>5000)) then some (true,r.1,r.a,r.b,r.c.1,r.c.2,r.C) else some ((decide ((r.g.length:Int)>120)),r.1,r.a,r.b,r.c.1,r.c.2,r.C)) λo=>bif o.1 then some true else (nQ i o (0,o.2)).bind λe=>match e with
  |.inl s=>some false
  |.inr h=>some h
def zU:FnA:=⟨tw [zad,tw [.join ⟨[3,33],⟨(lc [.own 0 101 0 0] zaa),[zcZ]⟩⟩ false [] lf] zab,.two lf (.one (.loop ⟨[3,37],⟨zeQ,[zcZ]⟩⟩ true zbQ zbj))] lf,⟨(lc [.p nN] zcg),[]⟩,zau,[0]⟩
theorem gMZ:To 28 zU λfu t=>lO fu t.1 t.2:=tj tz func28
def QI(a:Nat)(n:qT1):oN Bool:=bif (!n.2.2.1) then bif (!n.2.2.2.1) then bif (n.2.2.2.2.1==0) then bif (n.2.2.2.2.2.2.1==0) then some ((wI ((n.2.2.2.2.2.1.length:Int)+(n.2.2.2.2.2.2.2.length:Int)))==0) else some false else some false else some false else some false
def QJ:FnA:=⟨.two zac lf,⟨zcD,[]⟩,zau,[0]⟩
theorem pUZ:To 128 QJ QI:=tj tz func128
def IJ(b:Nat)(e:List UInt8×Int)(h:List UInt8)(a:Int):oN (Bool×List UInt8×Int):=bif (decide ((e.1.length:Int)<1)) then some (true,e.1,a) else bif (decide ((e.1.length:Int)>30)) then some (true,e.1,a) else bif ((Op.bytesLess e.1 h)||(e.1==h)) then some (true,e.1,a) else bif decide (e.2<1) then some (true,e.1,a) else some ((decide (e.2>a)),e.1,a)
def LU:FnA:=⟨.two zac zar,⟨(lc [.p (.pair .str ti)] JR),zaO⟩,[⟨zaa,zaO⟩],[0]⟩
theorem oGZ:To 168 LU (v3 IJ):=tj tz func168
def pN(d:Nat)(s:List (List UInt8×Int))(x:Int)(b:List UInt8)(c:Int):oN ((Int×List UInt8×Int)⊕((List UInt8×Int)⊕(Int×List UInt8×Int))):=bif (decide (x<(s.length:Int))) then (bJ x s.length).bind λq=>s[q]?.bind λr=>(IJ d r b c).bind λa=>bif a.1 then some (.inr (.inr (x,a.2.1,a.2.2))) else some (.inl ((wI (x+1)),a.2.1,a.2.2)) else some (.inr (.inl (b,c)))
def pO(b:Nat)(s:List (List UInt8×Int))(a:Int×List UInt8×Int):oN ((List UInt8×Int)⊕(Int×List UInt8×Int)):=iter b (λa=>pN b s a.1 a.2.1 a.2.2) a
def yN(d:Nat)(s:List (List UInt8×Int))(h:List UInt8)(b:Int):oN (Int×List UInt8×Int):=(pO d s (0,h,b)).bind λo=>match o with
 |.inl a=>some ((-1),a.1,a.2)
 |.inr c=>some c
def EH:FnA:=⟨tw [lf,.two lf (.one (.loop ⟨[1,8],⟨(lc [.fn 168 .nil JR] qL6),zaO⟩⟩ true [(0,⟨[1],⟨zez,zaO⟩⟩)] zcn))] lf,zck,[⟨qL6,zaO⟩],[0]⟩
theorem iwZ:To 132 EH (v3 yN):=tj (ta oGZ tz) func132
def yO(b:Nat)(s:List (List UInt8×Int))(h:List UInt8)(a:Int):oN (Bool×List UInt8×Int):=(yN b s h a).bind λr=>some ((decide (r.1>=0)),r.2.1,r.2.2)
def EI:FnA:=⟨tw [lf,zdv] lf,zck,[⟨zaa,zaO⟩],[0]⟩
theorem isZ:To 77 EI (v3 yO):=tj (ta iwZ tz) func77
def QK(a:Nat)(n:qT1)(many:Int):oN Bool:=bif (n.2.2.2.2.1==0) then bif ((n.2.2.2.2.2.1.length:Int)==0) then bif (decide ((n.2.2.2.2.2.2.2.length:Int)<=100)) then (yO a n.2.2.2.2.2.2.2 [] many).bind λr=>some (!r.1) else some false else some false else some false
def QL:FnA:=⟨tw [zad,zdp,lf,.reg [(19,{sh:=[102,101]})]] lf,zeN,zau,[0]⟩
theorem p1Z:To 129 QL λfu t=>QK fu t.1 t.2:=tj (ta isZ tz) func129
def IK(b:Nat)(p:Int×Int)(h:fD)(a:Int):oN (Bool×fD×Int):=bif ((p.1==0)&&(p.2==0)) then some (false,h,a) else bif ((Option.getD (kX (k:=(.int .i64)) (v:=(.int .i64)) h p.1) 0)==1) then some (true,(mQ (k:=(.int .i64)) (v:=(.int .i64)) h p.1 1),a) else bif decide (p.1<1) then some (true,(mQ (k:=(.int .i64)) (v:=(.int .i64)) h p.1 1),a) else bif decide (p.1>a) then some (true,(mQ (k:=(.int .i64)) (v:=(.int .i64)) h p.1 1),a) else bif decide (p.2<1) then some (true,(mQ (k:=(.int .i64)) (v:=(.int .i64)) h p.1 1),a) else some ((decide (p.2>1099511627776)),(mQ (k:=(.int .i64)) (v:=(.int .i64)) h p.1 1),a)
def LV:FnA:=⟨tw [zac,zar] zar,⟨(lc [.p qY5,.own 0 0 0 0,.own 0 2 0 0] za8),zah⟩,[⟨zaa,zah⟩],[0]⟩
theorem pvZ:To 169 LV (v3 IK):=tj tz func169
def pP(d:Nat)(s:List (Int×Int))(x:Int)(b:fD)(c:Int):oN ((Int×fD×Int)⊕((fD×Int)⊕(Int×fD×Int))):=bif (decide (x<(s.length:Int))) then (bJ x s.length).bind λq=>s[q]?.bind λr=>(IK d r b c).bind λa=>bif a.1 then some (.inr (.inr (x,a.2.1,a.2.2))) else some (.inl ((wI (x+1)),a.2.1,a.2.2)) else some (.inr (.inl (b,c)))
def lP(b:Nat)(s:List (Int×Int))(a:Int×fD×Int):oN ((fD×Int)⊕(Int×fD×Int)):=iter b (λa=>pP b s a.1 a.2.1 a.2.2) a
def yP(d:Nat)(s:List (Int×Int))(h:fD)(b:Int):oN (Int×fD×Int):=(lP d s (0,h,b)).bind λo=>match o with
 |.inl a=>some ((-1),a.1,a.2)
 |.inr c=>some c
def EJ:FnA:=⟨tw [lf,.two lf (.one (.loop ⟨[1,8],⟨(lc [.fn 169 .nil (ln [.own 0 0 0 0,.own 0 2 0 0])] qL6),zah⟩⟩ true [(0,⟨[1],⟨zbw,zah⟩⟩)] (tw [lf,lf,.one (tw [lf,.reg [(5,{sh:=[0,1,2]})]] zab)] lf)))] lf,zd5,[⟨qL6,zah⟩],[0]⟩
theorem iOZ:To 115 EJ (v3 yP):=tj (ta pvZ tz) func115
def yQ(b:Nat)(s:List (Int×Int))(h:fD)(a:Int):oN (Bool×fD×Int):=(yP b s h a).bind λr=>some ((decide (r.1>=0)),r.2.1,r.2.2)
def EK:FnA:=⟨tw [lf,.reg [(2,{sh:=[0,1,2]})]] lf,zd5,[⟨zaa,zah⟩],[0]⟩
theorem jrZ:To 84 EK (v3 yQ):=tj (ta iOZ tz) func84
def CA(a:Nat)(n:qT1)(stripe:Int)(h:fD):oN (Bool×fD):=bif decide (n.2.2.2.2.1>=0) then bif decide (n.2.2.2.2.1<=65536) then bif ((n.2.2.2.2.2.2.2.length:Int)==0) then bif (decide ((n.2.2.2.2.2.1.length:Int)<=4096)) then (yQ a n.2.2.2.2.2.1 h stripe).bind λr=>some ((!r.1),r.2.1) else some (false,h) else some (false,h) else some (false,h) else some (false,h)
def JU:FnA:=⟨tw [zaz,lf,.reg [(24,{sh:=[102,0,101]})]] lf,⟨(lc [.p qY0,ki,.mp 0] za8),zdA⟩,[⟨zaa,zdA⟩],[0]⟩
theorem lwZ:To 130 JU (v3 CA):=tj (ta jrZ tz) func130
def qU(d:Nat)(o:Bool×List qT1×Int)(t:List qT1×Int)(x:Int)(h:List qT1)(c:Int)(e:fD):oN ((Int×List qT1×Int×fD)⊕((List qT1×Int)⊕Bool)):=bif (decide (x<(o.2.1.length:Int))) then (bJ x o.2.1.length).bind λq=>o.2.1[q]?.bind λr=>(QI d r).bind λi=>Option.bind (α:=(Bool×List qT1×Int×fD×qT1)) (bif r.2.2.1 then some (r.2.2.2.1,h,c,e,r) else some (false,h,c,e,r)) λb=>Option.bind (α:=(Bool×List qT1×Int×fD×qT1)) (bif b.1 then (QK d b.2.2.2.2 (t.1.length:Int)).bind λj=>some (j,b.2) else Option.bind (α:=(Bool×List qT1×Int×fD×qT1)) (bif b.2.2.2.2.2.2.1 then (CA d b.2.2.2.2 b.2.2.1 b.2.2.2.1).bind λf=>some (f.1,b.2.1,b.2.2.1,f.2,b.2.2.2.2) else some (i,b.2)) λl=>some l) λa=>Option.bind (α:=(Bool×List qT1×Int×fD)) (bif (!a.1) then some (true,a.2.1,a.2.2.1,a.2.2.2.1) else bif (!(a.2.2.2.2.1==(wI (x+1)))) then some (true,a.2.1,a.2.2.1,a.2.2.2.1) else bif decide (a.2.2.2.2.2.1<1) then some (true,a.2.1,a.2.2.1,a.2.2.2.1) else bif decide (a.2.2.2.2.2.1>1099511627776) then some (true,a.2.1,a.2.2.1,a.2.2.2.1) else bif a.2.2.2.2.2.2.1 then bif decide (a.2.2.2.2.2.2.2.2.2.2.1<1) then some (true,a.2.1,a.2.2.1,a.2.2.2.1) else some ((decide (a.2.2.2.2.2.2.2.2.2.2.1>(t.1.length:Int))),a.2.1,a.2.2.1,a.2.2.2.1) else some (false,a.2.1,a.2.2.1,a.2.2.2.1)) λg=>bif g.1 then some (.inr (.inr false)) else some (.inl ((wI (x+1)),g.2)) else some (.inr (.inl (h,c)))
def sV(b:Nat)(o:Bool×List qT1×Int)(t:List qT1×Int)(a:Int×List qT1×Int×fD):oN ((List qT1×Int)⊕Bool):=iter b (λa=>qU b o t a.1 a.2.1 a.2.2.1 a.2.2.2) a
def EL(e:Nat)(t:List qT1×Int):oN Bool:=Option.bind (α:=(Bool×List qT1×Int)) (bif (decide ((t.1.length:Int)<1)) then some (true,t) else bif (decide ((t.1.length:Int)>500)) then some (true,t) else bif decide (t.2<0) then some (true,t) else some ((decide (t.2>1099511627776)),t)) λo=>bif o.1 then some false else (sV e o t (0,o.2.1,o.2.2,[],0)).bind λb=>match b with
  |.inl s=>(bJ 0 s.1.length).bind λc=>s.1[c]?.bind λa=>bif a.2.2.1 then bif a.2.2.2.1 then some (a.2.2.2.2.2.2.1==1) else some false else some false
  |.inr d=>some d
def QM:FnA:=⟨tw [zac,lf,tw [.join ⟨[1,27],zeL⟩ false [] lf] zab,zdq,.two lf (.one (.loop ⟨[1,4,32],⟨(lc [.own 0 100 0 0,.mp 101] qL6),[za7,zcV]⟩⟩ true [(0,zfo)] (tw [lf,lf,.one (tw [zdr,zcf,.one (tw [.join ⟨[1,4,6,39],zaH⟩ false [] lf] (.join ⟨[1,4,6,7],zaH⟩ false [] (tw [zdY,lf] (.join ⟨[1,4,6,7],zaH⟩ false [] (tw [.reg [(4,{sh:=[101],fn:=2})]] lf))))),.join ⟨[1,4,90],⟨(lc [.own 0 100 0 0,.mp 101] zaa),[za7,zcV]⟩⟩ false [] lf] zab)] lf))),.reg [(4,{ids:=[103]})]] lf,zaW,zau,[0]⟩
theorem e7Z:To 74 QM EL:=tj (ta pUZ (ta p1Z (ta lwZ tz))) func74
def CB(a:Nat)(s chars:List UInt8):oN Bool:=bO (Nat.beq chars.length 2&&chars.all (λb=>Nat.blt b.toNat 128)&&Nat.blt s.length 4294967281) (some (Go.Lib.containsAny s chars))
def GH(fu:Nat):FnT:=⟨131,⟨(.cons (.p .str) (.cons (.p .str) .nil)),[]⟩,[⟨(.cons (.p .bool) .nil),[]⟩],λt=>CB fu t.1 t.2⟩
theorem kIZ(fu:Nat):fF Tryz.prog (GH fu):=
 f5Z Tryz.ca131 (by kernel_rfl) ⟨_,_,func131,rfl,by kernel_rfl⟩
def CD(a:Nat)(s:List UInt8):oN Bool:=bif (decide ((s.length:Int)>=1)) then bif (decide ((s.length:Int)<=30)) then bif (!(s==[46])) then bif (!(s==[46,46])) then (CB a s [0,47]).bind λr=>some (!r) else some false else some false else some false else some false
def QN:FnA:=⟨tw [lf,.reg [(18,{})]] lf,⟨zbq,[]⟩,zau,[0]⟩
theorem dqZ:To 76 QN CD:=tj (ta kIZ tz) func76
def IL(t:Nat)(e:List UInt8×Int)(h:List Int)(b:List qT1)(f c g:Int)(i j:Bool)(l:Int)(m:List (Int×Int))(n:Int)(a:List (List UInt8×Int)):oN (Bool×List Int×List qT1×Int×qT1):=(bJ e.2 h.length).bind λq=>h[q]?.bind λr=>(bJ e.2 h.length).bind λd=>h[d]?.bind λu=>(bJ (wI (e.2-1)) b.length).bind λp=>b[p]?.bind λo=>(CD t e.1).bind λs=>bif (!s) then some (true,(List.set h d (wI (r+1))),b,f,c,g,i,j,l,m,n,a) else bif (!o.2.2.1) then some (true,(List.set h d (wI (r+1))),b,f,c,g,i,j,l,m,n,a) else some ((!(o.2.2.2.2.2.2.1==c)),(List.set h d (wI (r+1))),b,f,c,g,i,j,l,m,n,a)
def LW:FnA:=⟨tw [zac,lf,.reg [(7,{ids:=[101]})]] zbL,⟨(lc [.p (.pair .str ti),.own 0 0 0 0,.own 0 2 0 0] ze5),zaf⟩,[⟨zaa,zaf⟩],[0]⟩
theorem oeZ:To 75 LW (v12 IL):=tj (ta dqZ tz) func75
def pQ(n:Nat)(s:List (List UInt8×Int))(x:Int)(b:List Int)(c:List qT1)(d e f:Int)(g h:Bool)(i:Int)(j:List (Int×Int))(l:Int)(m:List (List UInt8×Int)):oN ((Int×List Int×List qT1×Int×qT1)⊕((List Int×List qT1×Int×qT1)⊕(Int×List Int×List qT1×Int×qT1))):=bif (decide (x<(s.length:Int))) then (bJ x s.length).bind λq=>s[q]?.bind λr=>(IL n r b c d e f g h i j l m).bind λa=>bif a.1 then some (.inr (.inr (x,a.2.1,a.2.2.1,a.2.2.2.1,a.2.2.2.2.1,a.2.2.2.2.2.1,a.2.2.2.2.2.2.1,a.2.2.2.2.2.2.2.1,a.2.2.2.2.2.2.2.2.1,a.2.2.2.2.2.2.2.2.2.1,a.2.2.2.2.2.2.2.2.2.2.1,a.2.2.2.2.2.2.2.2.2.2.2))) else some (.inl ((wI (x+1)),a.2.1,a.2.2.1,a.2.2.2.1,a.2.2.2.2.1,a.2.2.2.2.2.1,a.2.2.2.2.2.2.1,a.2.2.2.2.2.2.2.1,a.2.2.2.2.2.2.2.2.1,a.2.2.2.2.2.2.2.2.2.1,a.2.2.2.2.2.2.2.2.2.2.1,a.2.2.2.2.2.2.2.2.2.2.2)) else some (.inr (.inl (b,c,d,e,f,g,h,i,j,l,m)))
def lQ(b:Nat)(s:List (List UInt8×Int))(a:Int×List Int×List qT1×Int×qT1):oN ((List Int×List qT1×Int×qT1)⊕(Int×List Int×List qT1×Int×qT1)):=iter b (λa=>pQ b s a.1 a.2.1 a.2.2.1 a.2.2.2.1 a.2.2.2.2.1 a.2.2.2.2.2.1 a.2.2.2.2.2.2.1 a.2.2.2.2.2.2.2.1 a.2.2.2.2.2.2.2.2.1 a.2.2.2.2.2.2.2.2.2.1 a.2.2.2.2.2.2.2.2.2.2.1 a.2.2.2.2.2.2.2.2.2.2.2) a
def yR(p:Nat)(s:List (List UInt8×Int))(h:List Int)(c:List qT1)(d e f:Int)(g i:Bool)(j:Int)(l:List (Int×Int))(m:Int)(b:List (List UInt8×Int)):oN (Int×List Int×List qT1×Int×qT1):=(lQ p s (0,h,c,d,e,f,g,i,j,l,m,b)).bind λo=>match o with
 |.inl a=>some ((-1),a.1,a.2.1,a.2.2.1,a.2.2.2.1,a.2.2.2.2.1,a.2.2.2.2.2.1,a.2.2.2.2.2.2.1,a.2.2.2.2.2.2.2.1,a.2.2.2.2.2.2.2.2.1,a.2.2.2.2.2.2.2.2.2.1,a.2.2.2.2.2.2.2.2.2.2)
 |.inr n=>some n
def EM:FnA:=⟨tw [lf,.two lf (.one (.loop ⟨[1,8],⟨(lc [.fn 75 .nil (ln [.own 0 0 0 0,.own 0 2 0 0,.own 0 3 0 0])] qL6),zaf⟩⟩ true [(0,⟨[1],⟨za5,zaf⟩⟩)] zci))] lf,zc0,[⟨qL6,zaf⟩],[0]⟩
theorem j8Z:To 132 EM (v12 yR):=tj (ta oeZ tz) func132
def xE(m:Nat)(s:List (List UInt8×Int))(h:List Int)(b:List qT1)(c d e:Int)(f g:Bool)(i:Int)(j:List (Int×Int))(l:Int)(a:List (List UInt8×Int)):oN (Bool×List Int×List qT1×Int×qT1):=(yR m s h b c d e f g i j l a).bind λr=>some ((decide (r.1>=0)),r.2.1,r.2.2.1,r.2.2.2.1,r.2.2.2.2.1,r.2.2.2.2.2.1,r.2.2.2.2.2.2.1,r.2.2.2.2.2.2.2.1,r.2.2.2.2.2.2.2.2.1,r.2.2.2.2.2.2.2.2.2.1,r.2.2.2.2.2.2.2.2.2.2.1,r.2.2.2.2.2.2.2.2.2.2.2)
def GI:FnA:=⟨.two lf zdV,zc0,[⟨zaa,zaf⟩],[0]⟩
theorem ldZ:To 77 GI (v12 xE):=tj (ta j8Z tz) func77
def CE(d:Nat)(t:List qT1×Int)(id1 x:Int)(h:List qT1)(a:Int):oN ((Int×mH)⊕(Int⊕Bool)):=bif (decide (x<(t.1.length:Int))) then bif (id1==1) then some (.inr (.inr true)) else (bJ (wI (id1-1)) h.length).bind λq=>h[q]?.bind λr=>bif (!r.2.2.1) then some (.inr (.inr false)) else (bJ (wI (id1-1)) h.length).bind λb=>h[b]?.bind λc=>some (.inl (c.2.2.2.2.2.2.1,(wI (x+1)),h,a)) else some (.inr (.inl id1))
def sW(b:Nat)(t:List qT1×Int)(a:Int×mH):oN (Int⊕Bool):=iter b (λa=>CE b t a.1 a.2.1 a.2.2.1 a.2.2.2) a
def QO(b:Nat)(t:List qT1×Int)(id:Int):oN Bool:=(sW b t (id,0,t.1,t.2)).bind λo=>match o with
 |.inl s=>some (s==1)
 |.inr a=>some a
def QP:FnA:=⟨tw [zac,.two lf (.one (.loop ⟨[1,2,8],⟨(lc [ki] zbE),[za7]⟩⟩ true [(0,⟨[1],za9⟩)] (tw [lf,lf,.one (tw [zar,zar] lf)] lf)))] lf,⟨(lc [.p rO] qL6),[]⟩,zau,[0]⟩
theorem q1Z:To 78 QP λfu t=>QO fu t.1 t.2:=tj tz func78
def CF(e:Nat)(t:List qT1×Int)(x:Int)(h:List qT1)(c:Int)(d:List Int):oN ((Int×List qT1×Int×List Int)⊕((List qT1×Int×List Int)⊕Bool)):=bif (decide (x<(t.1.length:Int))) then (bJ x t.1.length).bind λf=>t.1[f]?.bind λb=>Option.bind (α:=(Bool×List qT1×Int×List Int)) ((xE e b.2.2.2.2.2.2.2 d h c b.1 b.2.1 b.2.2.1 b.2.2.2.1 b.2.2.2.2.1 b.2.2.2.2.2.1 b.2.2.2.2.2.2.1 b.2.2.2.2.2.2.2).bind λa=>bif a.1 then some (true,a.2.2.1,a.2.2.2.1,a.2.1) else bif a.2.2.2.2.2.2.1 then (QO e (a.2.2.1,a.2.2.2.1) a.2.2.2.2.1).bind λg=>some ((!g),a.2.2.1,a.2.2.2.1,a.2.1) else some (false,a.2.2.1,a.2.2.2.1,a.2.1)) λo=>bif o.1 then some (.inr (.inr false)) else some (.inl ((wI (x+1)),o.2.1,o.2.2.1,o.2.2.2)) else some (.inr (.inl (h,c,d)))
def sX(b:Nat)(t:List qT1×Int)(a:Int×List qT1×Int×List Int):oN ((List qT1×Int×List Int)⊕Bool):=iter b (λa=>CF b t a.1 a.2.1 a.2.2.1 a.2.2.2) a
def CG(i:Nat)(s:List qT1×Int×List Int)(c:Int)(e:List Int):oN ((Int×List Int)⊕(Unit⊕Bool)):=bif (decide (c<(s.1.length:Int))) then (bJ c s.1.length).bind λf=>s.1[f]?.bind λb=>Option.bind (α:=(Bool×List Int×qT1)) (bif (b.1==1) then some (true,e,b) else some ((!b.2.2.1),e,b)) λd=>Option.bind (α:=(Int×List Int×qT1)) (bif d.1 then some (0,d.2) else some (1,d.2)) λa=>(bJ a.2.2.1 a.2.1.length).bind λg=>a.2.1[g]?.bind λh=>bif (!(h==a.1)) then some (.inr (.inr false)) else some (.inl ((wI (c+1)),a.2.1)) else some (.inr (.inl ()))
def sY(b:Nat)(s:List qT1×Int×List Int)(a:Int×List Int):oN (Unit⊕Bool):=iter b (λa=>CG b s a.1 a.2) a
def GJ(a:Nat)(t:List qT1×Int):oN Bool:=(EL a (t.1,t.2)).bind λr=>bif (!r) then some false else (cO (wI ((t.1.length:Int)+1)) cL).bind λm=>(cO (wI ((t.1.length:Int)+1)) m).bind λq=>bO (Nat.ble (m*8) cL)<|(sX a t (0,t.1,t.2,(List.replicate (α:=Int) q 0))).bind λb=>match b with
  |.inl s=>(sY a s (0,s.2.2)).bind λc=>match c with
   |.inl f=>some true
   |.inr d=>some d
  |.inr e=>some e
def QQ:FnA:=⟨tw [zac,.two zcf zab,.reg [(4,{ids:=[101]}),(5,{ids:=[102]})],.two lf (.one (.loop ⟨[1,3,21],⟨(lc [.own 0 100 0 0] zeR),zfp⟩⟩ true [(0,⟨[1,3],⟨zda,zfp⟩⟩)] (tw [lf,lf,.one (tw [zds,lf,.join ⟨[1,3,40],⟨(lc [.own 0 100 0 0] zct),zfp⟩⟩ false [] (.reg [(3,{sh:=[102,101,100,103],fn:=1}),(11,{fn:=2})])] zab)] lf))),.two lf (.one (.loop ⟨[3,45],⟨zeR,[za3,zbl]⟩⟩ true [(2,⟨[],zbo⟩)] (tw [lf,lf,.one (tw [ze6,lf,tw [.join ⟨[3,8,56],⟨zbZ,zed⟩⟩ false [] lf] (.join ⟨[3,8,9],⟨zdb,zed⟩⟩ false [] lf)] zar)] lf)))] lf,zaW,zau,[0]⟩
theorem gWZ:To 33 QQ GJ:=tj (ta e7Z (ta ldZ (ta q1Z tz))) func33
def CH(g:Nat)(o:Bool×yJ)(x:Int)(h:List qT1)(c:Int)(a:List (List UInt8)):oN ((Int×yJ)⊕(Unit⊕Bool)):=bif (decide (x<(o.2.1.length:Int))) then (bJ x o.2.1.length).bind λq=>o.2.1[q]?.bind λd=>Option.bind (α:=(Bool×yJ)) (bif (decide ((d.2.2.2.2.2.1.length:Int)>0)) then some (true,h,c,a) else (bJ x a.length).bind λe=>a[e]?.bind λf=>some ((!((f.length:Int)==d.2.2.2.2.1)),h,c,a)) λb=>bif b.1 then some (.inr (.inr false)) else some (.inl ((wI (x+1)),b.2.1,b.2.2.1,b.2.2.2)) else some (.inr (.inl ()))
def sZ(b:Nat)(o:Bool×yJ)(a:Int×yJ):oN (Unit⊕Bool):=iter b (λa=>CH b o a.1 a.2.1 a.2.2.1 a.2.2.2) a
def QR(a:Nat)(m:rP):oN Bool:=Option.bind (α:=(Bool×yJ)) ((GJ a (m.1.1,m.1.2)).bind λr=>bif (!r) then some (true,m.1.1,m.1.2,m.2) else some ((!((m.2.length:Int)==(m.1.1.length:Int))),m.1.1,m.1.2,m.2)) λo=>bif o.1 then some false else (sZ a o (0,o.2.1,o.2.2.1,o.2.2.2)).bind λb=>match b with
  |.inl s=>some true
  |.inr c=>some c
def QS:FnA:=⟨tw [zac,tw [.join ⟨[1,18],zfe⟩ false [] zdQ] zab,.two lf (.one (.loop ⟨[1,23],⟨zbE,zcN⟩⟩ true zbQ (tw [lf,lf,.one (tw [.reg [(3,{ids:=[101]})],.join ⟨[1,42],zfe⟩ false [] lf] zab)] lf)))] lf,⟨zcd,[]⟩,zau,[0]⟩
theorem qRZ:To 68 QS QR:=tj (ta gWZ tz) func68
def AN(a:Nat):oN yI:=some (true,true,false,false,0,false)
def LX:FnA:=⟨.two zac lf,zbo,zaY,[0]⟩
theorem nGZ:To 137 LX λfu t=>AN fu:=tj tz func137
def TB(a:Nat):oN yI:=some (true,false,false,true,4096,false)
def LY:FnA:=⟨.two zac lf,zbo,zaY,[0]⟩
theorem okZ:To 138 LY λfu t=>TB fu:=tj tz func138
def TC(a:Nat):oN yI:=some (true,false,false,true,0,true)
def LZ:FnA:=⟨.two zac lf,zbo,zaY,[0]⟩
theorem pqZ:To 139 LZ λfu t=>TC fu:=tj tz func139
def TF(a:Nat):oN yI:=some (true,false,false,false,2147483648,false)
def MC:FnA:=⟨.two zac lf,zbo,zaY,[0]⟩
theorem puZ:To 140 MC λfu t=>TF fu:=tj tz func140
def TG(a:Nat):oN yI:=some (true,true,true,false,0,false)
def MF:FnA:=⟨.two zac lf,zbo,zaY,[0]⟩
theorem psZ:To 141 MF λfu t=>TG fu:=tj tz func141
def TH(a:Nat):oN yI:=some (true,true,false,false,4096,false)
def MG:FnA:=⟨.two zac lf,zbo,zaY,[0]⟩
theorem ozZ:To 142 MG λfu t=>TH fu:=tj tz func142
def TI(a:Nat):oN yI:=some (true,false,false,false,0,false)
def MH:FnA:=⟨.two zac lf,zbo,zaY,[0]⟩
theorem oVZ:To 143 MH λfu t=>TI fu:=tj tz func143
def TJ(a:Nat):oN yI:=some (false,false,false,false,0,false)
def MI:FnA:=⟨.two zac lf,zbo,zaY,[0]⟩
theorem o6Z:To 144 MI λfu t=>TJ fu:=tj tz func144
def QT(g:Nat)(o:Int):oN (Bool×Bool×Bool×Bool×Int×Bool×Bool):=bO ((!((uO 2)==(uO 1)))&&true)<|bO ((!((uO 3)==(uO 1)))&&((!((uO 3)==(uO 2)))&&true))<|bO ((!((uO 7)==(uO 1)))&&((!((uO 7)==(uO 2)))&&((!((uO 7)==(uO 3)))&&true)))<|bO ((!((uO 8)==(uO 1)))&&((!((uO 8)==(uO 2)))&&((!((uO 8)==(uO 3)))&&((!((uO 8)==(uO 7)))&&true))))<|bO ((!((uO 4)==(uO 1)))&&((!((uO 4)==(uO 2)))&&((!((uO 4)==(uO 3)))&&((!((uO 4)==(uO 7)))&&((!((uO 4)==(uO 8)))&&true)))))<|bO ((!((uO 5)==(uO 1)))&&((!((uO 5)==(uO 2)))&&((!((uO 5)==(uO 3)))&&((!((uO 5)==(uO 7)))&&((!((uO 5)==(uO 8)))&&((!((uO 5)==(uO 4)))&&true))))))<|bO ((!((uO 6)==(uO 1)))&&((!((uO 6)==(uO 2)))&&((!((uO 6)==(uO 3)))&&((!((uO 6)==(uO 7)))&&((!((uO 6)==(uO 8)))&&((!((uO 6)==(uO 4)))&&((!((uO 6)==(uO 5)))&&true)))))))<|bO ((!((uO 9)==(uO 1)))&&((!((uO 9)==(uO 2)))&&((!((uO 9)==(uO 3)))&&((!((uO 9)==(uO 7)))&&((!((uO 9)==(uO 8)))&&((!((uO 9)==(uO 4)))&&((!((uO 9)==(uO 5)))&&((!((uO 9)==(uO 6)))&&true))))))))<|bO ((!((uO 10)==(uO 1)))&&((!((uO 10)==(uO 2)))&&((!((uO 10)==(uO 3)))&&((!((uO 10)==(uO 7)))&&((!((uO 10)==(uO 8)))&&((!((uO 10)==(uO 4)))&&((!((uO 10)==(uO 5)))&&((!((uO 10)==(uO 6)))&&((!((uO 10)==(uO 9)))&&true)))))))))<|bO ((!((uO 11)==(uO 1)))&&((!((uO 11)==(uO 2)))&&((!((uO 11)==(uO 3)))&&((!((uO 11)==(uO 7)))&&((!((uO 11)==(uO 8)))&&((!((uO 11)==(uO 4)))&&((!((uO 11)==(uO 5)))&&((!((uO 11)==(uO 6)))&&((!((uO 11)==(uO 9)))&&((!((uO 11)==(uO 10)))&&true))))))))))<|bO ((!((uO 12)==(uO 1)))&&((!((uO 12)==(uO 2)))&&((!((uO 12)==(uO 3)))&&((!((uO 12)==(uO 7)))&&((!((uO 12)==(uO 8)))&&((!((uO 12)==(uO 4)))&&((!((uO 12)==(uO 5)))&&((!((uO 12)==(uO 6)))&&((!((uO 12)==(uO 9)))&&((!((uO 12)==(uO 10)))&&((!((uO 12)==(uO 11)))&&true)))))))))))<|(pB o).bind λc=>bif (c==(uO 1)) then (AN g).bind λr=>some (r.1,r.a,r.b,r.c,r.d,r.D,true) else bif (c==(uO 2)) then (AN g).bind λh=>some (h.1,h.a,h.b,h.c,h.d,h.D,true) else bif (c==(uO 3)) then (AN g).bind λi=>some (i.1,i.a,i.b,i.c,i.d,i.D,true) else bif (c==(uO 7)) then (AN g).bind λj=>some (j.1,j.a,j.b,j.c,j.d,j.D,true) else bif (c==(uO 8)) then (AN g).bind λl=>some (l.1,l.a,l.b,l.c,l.d,l.D,true) else bif (c==(uO 4)) then (TB g).bind λm=>some (m.1,m.a,m.b,m.c,m.d,m.D,true) else bif (c==(uO 5)) then (TC g).bind λn=>some (n.1,n.a,n.b,n.c,n.d,n.D,true) else bif (c==(uO 6)) then (TF g).bind λp=>some (p.1,p.a,p.b,p.c,p.d,p.D,true) else bif (c==(uO 9)) then (TG g).bind λq=>some (q.1,q.a,q.b,q.c,q.d,q.D,true) else bif (c==(uO 10)) then (TH g).bind λs=>some (s.1,s.a,s.b,s.c,s.d,s.D,true) else bif (c==(uO 11)) then (TI g).bind λe=>some (e.1,e.a,e.b,e.c,e.d,e.D,true) else bif (c==(uO 12)) then (TJ g).bind λf=>some (f.1,f.a,f.b,f.c,f.d,f.D,true) else some (false,false,false,false,0,false,false)
def QU:FnA:=⟨tw [zac,lf,zdq,lf] (.sel (.slot 6 (.fn 137 .nil .nil)) (.two zab zfn) (.sel (.slot 6 (.fn 138 .nil .nil)) (tw [zab,zcB] lf) (.sel (.slot 6 (.fn 139 .nil .nil)) (tw [zab,.reg [(1,{fn:=2})]] lf) (.sel (.slot 6 (.fn 140 .nil .nil)) (tw [zab,.reg [(1,{fn:=3})]] lf) (.sel (.slot 6 (.fn 141 .nil .nil)) (tw [zab,.reg [(1,{fn:=4})]] lf) (.sel (.slot 6 (.fn 142 .nil .nil)) (tw [zab,.reg [(1,{fn:=5})]] lf) (.sel (.slot 6 (.fn 143 .nil .nil)) (tw [zab,.reg [(1,{fn:=6})]] lf) (tw [zar,.reg [(1,{fn:=7})]] lf)))))))),zd6,[⟨(lc [.agg TT] zaa),[]⟩],[0,0]⟩
theorem ruZ:To 85 QU QT:=tj (ta nGZ (ta okZ (ta pqZ (ta puZ (ta psZ (ta ozZ (ta oVZ (ta o6Z tz)))))))) func85
def GK(a:Nat)(client xid:Int):oN Bool:=bif decide (client>=0) then bif decide (client<16) then bif decide (xid>=1) then some (decide (xid<=1099511627776)) else some false else some false else some false
def QV:FnA:=⟨.two lf lf,zdz,zau,[0]⟩
theorem jGZ:To 86 QV λfu t=>GK fu t.1 t.2:=tj tz func86
def GL(a:Nat)(h:Int×Int):oN Bool:=bif decide (h.1>=1) then bif decide (h.1<=500) then bif decide (h.2>=1) then some (decide (h.2<=1099511627776)) else some false else some false else some false
def QW:FnA:=⟨.two zac lf,⟨zch,[]⟩,zau,[0]⟩
theorem kfZ:To 88 QW GL:=tj tz func88
def pR(a:Nat)(is_:Bool)(h:Int×Int):oN Bool:=bif is_ then (GL a h).bind λr=>bif r then some true else bif (!is_) then some ((h.1==0)&&(h.2==0)) else some false else bif (!is_) then some ((h.1==0)&&(h.2==0)) else some false
def EN:FnA:=⟨.two zac zcE,⟨(lc [kb] zch),[]⟩,zau,[0]⟩
theorem iJZ:To 87 EN λfu t=>pR fu t.1 t.2:=tj (ta kfZ tz) func87
def pS(a:Nat)(is_:Bool)(l:List UInt8):oN Bool:=bif (l==[]) then some true else bif is_ then some (decide ((l.length:Int)<=100)) else some false
def EO:FnA:=⟨.two lf lf,⟨(lc [kb] zbq),[]⟩,zau,[0]⟩
theorem iNZ:To 89 EO λfu t=>pS fu t.1 t.2:=tj tz func89
def oJ(t:Nat)(c:qT9):oN Bool:=(QT t (c.b.toNat:Int)).bind λr=>Option.bind (α:=(Bool×Int×Int×Int×Int×Int×List UInt8×Int×Int×List UInt8×Int×Int×List UInt8×yI)) (bif (!r.E) then some (true,c.1,c.a,(c.b.toNat:Int),c.c.1,c.c.2,c.d,c.e.1,c.e.2,c.f,c.g,c.h,c.H,r.1,r.a,r.b,r.c,r.d,r.e) else (GK t c.1 c.a).bind λw=>some ((!w),c.1,c.a,(c.b.toNat:Int),c.c.1,c.c.2,c.d,c.e.1,c.e.2,c.f,c.g,c.h,c.H,r.1,r.a,r.b,r.c,r.d,r.e)) λo=>bif o.1 then some false else Option.bind (α:=(Bool×Int×Int×Int×Int×Int×List UInt8×Int×Int×List UInt8×Int×Int×List UInt8×yI)) ((pR t o.m (o.d,o.e)).bind λx=>bif (!x) then some (true,o.2) else (pR t o.o (o.g,o.h)).bind λy=>bif (!y) then some (true,o.2) else (pS t o.n o.f).bind λz=>bif (!z) then some (true,o.2) else (pS t o.o o.i).bind λA=>some ((!A),o.2)) λs=>bif s.1 then some false else Option.bind (α:=(Bool×Int×Int×Int×Int×Int×List UInt8×Int×Int×List UInt8×Int×Int×List UInt8×yI)) (bif decide (s.j<0) then some (true,s.2) else bif decide (s.j>2147483648) then some (true,s.2) else bif (!s.p) then bif (!(s.j==0)) then some (true,s.2) else bif decide (s.k<0) then some (true,s.2) else some ((decide (s.k>s.q)),s.2) else bif decide (s.k<0) then some (true,s.2) else some ((decide (s.k>s.q)),s.2)) λu=>bif u.1 then some false else bif ((u.l.length:Int)==0) then some true else bif u.Q then some (decide ((u.l.length:Int)<=4096)) else some false
def GN:FnA:=⟨tw [zac,.reg [(2,{}),(6,{ids:=[101]})],tw [.join ⟨[1,3,22],zbV⟩ false [] (.reg [(7,{fn:=1})])] zab,lf,lf,tw [.join ⟨[1,3,56],zbV⟩ false [] (.reg [(5,{fn:=2}),(13,{fn:=2}),(22,{fn:=3}),(31,{fn:=3})])] zab,tw [.join ⟨[1,3,86],zbV⟩ false [] lf] zab] lf,⟨zca,[]⟩,zau,[0]⟩
theorem cxZ:To 41 GN oJ:=tj (ta ruZ (ta jGZ (ta iJZ (ta iNZ tz)))) func41
def gB(a:Nat)(n:qT1):oN (Int×Int×Bool×Bool×Int×Int×List (Int×Int)×List (List UInt8×Int)):=(uI a n.2.2.2.2.2.1).bind λr=>(wU a n.2.2.2.2.2.2.2).bind λb=>some (n.1,n.2.1,n.2.2.1,n.2.2.2.1,n.2.2.2.2.1,n.2.2.2.2.2.2.1,r,b)
def CI:FnA:=⟨.two zad zcW,⟨zcD,[]⟩,[⟨(lc [.agg (ln [ki,ki,kb,kb,ki,.slf 2 0,ki,.slf 2 1])] za8),[zbI,(1,false,zT)]⟩],[0]⟩
theorem bBZ:To 163 CI gB:=tj (ta bXZ (ta bOZ tz)) func163
def iQ(c:Nat)(t:List qT1×Int)(h:Int×Int):oN (Int×Int×Bool×Bool×Int×List (Int×Int)×Int×List (List UInt8×Int)×Int):=Option.bind (α:=(Bool×List qT1×Int×Int×Int×Int×Int×Bool×Bool×Int×Int)) (bif decide (h.1<1) then some (true,t.1,t.2,h.1,h.2,0,0,false,false,0,0) else some ((decide (h.1>(t.1.length:Int))),t.1,t.2,h.1,h.2,0,0,false,false,0,0)) λo=>bif o.1 then some (0,0,false,false,0,[],0,[],170) else (bJ (wI (o.2.2.2.1-1)) o.2.1.length).bind λq=>o.2.1[q]?.bind λr=>Option.bind (α:=(Bool×Int×Int×Bool×Bool×Int×Int×qT1)) (bif (!r.2.2.1) then some (true,o.e,o.f,o.g,o.h,o.i,o.I,r) else some ((!(r.2.1==o.d)),o.e,o.f,o.g,o.h,o.i,o.I,r)) λb=>bif b.1 then some (0,0,false,false,0,[],0,[],170) else (gB c b.F).bind λa=>some (a.1,a.2.1,a.2.2.1,a.2.2.2.1,a.d,a.f,a.e,a.F,0)
def CJ:FnA:=⟨tw [zaz,tw [.join ⟨[2,3,4,17],⟨(lc [.own 0 100 0 0,.own 0 101 0 0] zct),[za7,zc1,zaL]⟩⟩ false [] lf] zab,ze7,tw [.join ⟨[4,6,35],zcL⟩ false [] lf] zab,.reg [(1,{ids:=[104,105]})]] lf,zeF,[zes],[1,0]⟩
theorem c7Z:To 123 CJ λfu t=>iQ fu t.1 t.2:=tj (ta bBZ tz) func123
def GO(a:Nat)(t:List qT1×Int)(h:Int×Int):oN (Int×Int×Bool×Bool×Int×List (Int×Int)×Int×List (List UInt8×Int)×Int):=(iQ a (t.1,t.2) (h.1,h.2)).bind λr=>Option.bind (α:=(Bool×Int×Int×Bool×Bool×Int×Int×qT1)) (bif (r.2.2.2.2.2.2.2.2==0) then some ((!r.2.2.2.1),0,0,false,false,0,0,r.1,r.2.1,r.2.2.1,r.2.2.2.1,r.2.2.2.2.1,r.2.2.2.2.2.1,r.2.2.2.2.2.2.1,r.2.2.2.2.2.2.2.1) else some (false,0,0,false,false,0,0,r.1,r.2.1,r.2.2.1,r.2.2.2.1,r.2.2.2.2.1,r.2.2.2.2.2.1,r.2.2.2.2.2.2.1,r.2.2.2.2.2.2.2.1)) λo=>bif o.1 then some (0,0,false,false,0,[],0,[],173) else some (o.2.2.2.2.2.2.2.1,o.2.2.2.2.2.2.2.2.1,o.2.2.2.2.2.2.2.2.2.1,o.2.2.2.2.2.2.2.2.2.2.1,o.2.2.2.2.2.2.2.2.2.2.2.1,o.2.2.2.2.2.2.2.2.2.2.2.2.1,o.2.2.2.2.2.2.2.2.2.2.2.2.2.1,o.2.2.2.2.2.2.2.2.2.2.2.2.2.2,r.2.2.2.2.2.2.2.2)
def QX:FnA:=⟨tw [zaz,.reg [(2,{}),(6,{ids:=[103]})],tw [.join ⟨[4,6,20],zcL⟩ false [] lf] zab] lf,zeF,[zes],[0,0]⟩
theorem qUZ:To 185 QX λfu t=>GO fu t.1 t.2:=tj (ta c7Z tz) func185
def oK(e:Nat)(l:List (Int×Int))(x:Int)(h:List qT1)(c:Int)(b:List qT1):oN ((Int×List qT1×Int×List qT1)⊕(List qT1⊕(Int×List qT1))):=bif (decide (x<(l.length:Int))) then (bJ x l.length).bind λq=>l[q]?.bind λd=>(GO e (h,c) (d.1,d.2)).bind λa=>bif (!(a.2.2.2.2.2.2.2.2==0)) then some (.inr (.inr (a.2.2.2.2.2.2.2.2,[]))) else bO ((Nat.ble ((b.length+1)*88) cL)&&(Nat.ble (b.length+1) cL))<|some (.inl ((wI (x+1)),h,c,(b++[(a.1,a.2.1,a.2.2.1,a.2.2.2.1,a.2.2.2.2.1,a.2.2.2.2.2.1,a.2.2.2.2.2.2.1,a.2.2.2.2.2.2.2.1)]))) else some (.inr (.inl b))
def jQ(b:Nat)(l:List (Int×Int))(a:Int×List qT1×Int×List qT1):oN (List qT1⊕(Int×List qT1)):=iter b (λa=>oK b l a.1 a.2.1 a.2.2.1 a.2.2.2) a
def rQ(a:Nat)(t:List qT1×Int)(l:List (Int×Int)):oN (Int×List qT1):=(GJ a (t.1,t.2)).bind λr=>bif (!r) then some (180,[]) else (jQ a l (0,t.1,t.2,[])).bind λo=>match o with
  |.inl s=>some (0,s)
  |.inr b=>some b
def QY:FnA:=⟨tw [zac,.two zcf zab,lf,.two lf (.one (.pre (.ownNil 6 71 101) (.loop ⟨[2,6,16],⟨(lc [.own 0 100 0 0] zfq),[za7,zbS]⟩⟩ true [(0,⟨[6],⟨zfr,[zbS]⟩⟩)] (tw [lf,lf,.one (tw [zbe,.reg [(2,{fn:=1}),(6,{ids:=[103]})],zar] (.reg [(2,{ids:=[104]}),(3,{ids:=[105]})]))] lf))))] lf,⟨(lc [.p rO] zdn),[]⟩,[⟨(lc [.slf 8 0] qL6),[zbb]⟩],[81,0]⟩
theorem d3Z:To 153 QY λfu t=>rQ fu t.1 t.2:=tj (ta gWZ (ta qUZ tz)) func153
def AO(c:Nat)(a b:List UInt8):oN Int:=some (Go.Lib.compareBytes a b)
def CK(fu:Nat):FnT:=⟨219,⟨(.cons (.p .str) (.cons (.p .str) .nil)),[]⟩,[⟨qL6,[]⟩],λt=>AO fu t.1 t.2⟩
theorem hzZ(fu:Nat):fF Tryz.prog (CK fu):=
 hpZ func219 (by kernel_rfl) (by kernel_rfl) (by kernel_rfl) (by kernel_rfl)
def AP(c:Nat)(a b:List UInt8):oN Int:=(AO c a b).bind λr=>some r
def CL:FnA:=⟨.two lf zbL,zeG,zfm,[0]⟩
theorem hhZ:To 210 CL λfu t=>AP fu t.1 t.2:=tj (ta hzZ tz) func210
def US(c:Nat)(a b:List UInt8):oN Int:=(AP c a b).bind λr=>some r
def QZ:FnA:=⟨.two lf zbL,zeG,zfm,[0]⟩
theorem pRZ:To 188 QZ λfu t=>US fu t.1 t.2:=tj (ta hhZ tz) func188
def EP(a:Nat)(e:List UInt8×Int)(name:List UInt8):oN Int:=(US a e.1 name).bind λr=>some r
def MJ:FnA:=⟨.two zac zcE,⟨(lc [.p (.pair .str ti)] zbq),[]⟩,zfm,[0]⟩
theorem pbZ:To 187 MJ λfu t=>EP fu t.1 t.2:=tj (ta pRZ tz) func187
def jV(b:Nat)(x:List (List UInt8×Int))(target:List UInt8)(i j:Int):oN ((Int×Int)⊕(Int)):=bif decide (i<j) then (bJ (wI (Int.fdiv (IntKind.wrap .u64 (wI (i+j))) 2)) x.length).bind λq=>x[q]?.bind λr=>(EP b r target).bind λa=>Option.bind (α:=(Int×Int)) (bif decide (a<0) then some ((wI ((wI (Int.fdiv (IntKind.wrap .u64 (wI (i+j))) 2))+1)),j) else some (i,(wI (Int.fdiv (IntKind.wrap .u64 (wI (i+j))) 2)))) λo=>some (.inl o) else some (.inr i)
def jR(b:Nat)(x:List (List UInt8×Int))(target:List UInt8)(a:Int×Int):oN Int:=iter b (λa=>jV b x target a.1 a.2) a
def tC(b:Nat)(x:List (List UInt8×Int))(target:List UInt8):oN (Int×Bool):=(jR b x target (0,(x.length:Int))).bind λa=>bif (decide (a<(x.length:Int))) then (bJ a x.length).bind λc=>x[c]?.bind λd=>(EP b d target).bind λe=>some (a,(e==0)) else some (a,false)
def zV:FnA:=⟨.two lf zax,⟨(lc [.p (.sl (.pair .str ti)),ks,.fn 187 .nil .nil] za8),[]⟩,zdD,[0,0]⟩
theorem gKZ:To 186 zV λfu t=>tC fu t.1 t.2:=tj (ta pbZ tz) func186
def wV(a:Nat)(n:qT1)(name:List UInt8):oN (Int×Bool):=(tC a n.2.2.2.2.2.2.2 name).bind λr=>some r
def RA:FnA:=⟨.two zac zcE,⟨(lc [.p qY0] zbq),[]⟩,zdD,[0,0]⟩
theorem cdZ:To 154 RA λfu t=>wV fu t.1 t.2:=tj (ta gKZ tz) func154
def yS(a:Nat)(t:List qT1×Int)(dir:Int×Int)(name:List UInt8):oN (Int×Int×Int):=(rQ a (t.1,t.2) [(dir.1,dir.2)]).bind λr=>bif (!(r.1==0)) then some (0,0,r.1) else (CD a name).bind λe=>bif (!e) then some (0,0,176) else (bJ 0 r.2.length).bind λq=>r.2[q]?.bind λf=>(wV a f name).bind λb=>bif (!b.2) then some (0,0,171) else (bJ 0 r.2.length).bind λg=>r.2[g]?.bind λc=>(bJ b.1 c.2.2.2.2.2.2.2.length).bind λh=>c.2.2.2.2.2.2.2[h]?.bind λd=>(bJ (wI (d.2-1)) t.1.length).bind λi=>t.1[i]?.bind λj=>some (d.2,j.2.1,0)
def RC:FnA:=⟨tw [zaz,zdc,zar,ze4,.reg [(4,{fn:=2})],zar] zab,⟨(lc [.p rO,.p qY5] zbq),[]⟩,[⟨zdB,[]⟩],[0,0]⟩
theorem rsZ:To 116 RC (v3 yS):=tj (ta d3Z (ta dqZ (ta cdZ tz))) func116
def xF(D:Nat)(h:List qT1)(m:Int)(x:List (List UInt8))(y z A n o:Int)(p:List UInt8)(B a:Int)(b:List UInt8)(c d:Int)(e:List UInt8)(f g i s t:Int)(u:Bool)(w:Int)(j:Bool)(l:Int):oN (Int×sU):=(yS D (h,m) (n,o) p).bind λr=>bif (r.2.2==0) then (bJ (wI (r.1-1)) h.length).bind λq=>h[q]?.bind λC=>some (r.2.2,h,m,x,y,z,A,n,o,p,B,a,b,c,d,e,f,g,i,r.1,r.2.1,C.2.2.2.1,C.2.2.2.2.1,j,l) else some (r.2.2,h,m,x,y,z,A,n,o,p,B,a,b,c,d,e,f,g,i,s,t,u,w,j,l)
def GP:FnA:=⟨tw [lf,.reg [(14,{}),(18,{ids:=[100]})],tw [lf,tw [.reg [(10,{ids:=[101]})]] lf] lf] lf,zbB,zcp,[0]⟩
theorem lbZ:To 58 GP (v24 xF):=tj (ta rsZ tz) func58
def CM(f:Nat)(r:List qT1)(x h:Int)(b:List qT1)(d:Int):oN ((Int×mH)⊕(mH)):=bif (decide (x<(r.length:Int))) then (bJ x b.length).bind λq=>b[q]?.bind λg=>(uI f g.2.2.2.2.2.1).bind λe=>b[q]?.bind λi=>(wU f i.2.2.2.2.2.2.2).bind λj=>b[q]?.bind λa=>(List.set b q (a.1,a.2.1,a.2.2.1,a.2.2.2.1,a.2.2.2.2.1,e,a.2.2.2.2.2.2))[q]?.bind λc=>some (.inl ((wI (x+1)),h,(List.set (List.set b q (a.1,a.2.1,a.2.2.1,a.2.2.2.1,a.2.2.2.2.1,e,a.2.2.2.2.2.2)) q (c.1,c.2.1,c.2.2.1,c.2.2.2.1,c.2.2.2.2.1,c.2.2.2.2.2.1,c.2.2.2.2.2.2.1,j)),d)) else some (.inr (h,b,d))
def yT(b:Nat)(r:List qT1)(a:Int×mH):oN mH:=iter b (λa=>CM b r a.1 a.2.1 a.2.2.1 a.2.2.2) a
def rR(a:Nat)(t:List qT1×Int):oN (Int×List qT1):=(sA a t.1).bind λr=>(yT a r (0,t.2,r,0)).bind λo=>some (o.1,o.2.1)
def RD:FnA:=⟨tw [zad,zbe,.two lf (.one (.loop ⟨[1,2,12],⟨zaN,zfs⟩⟩ false [(0,zee)] (tw [lf,lf,.one (tw [lf,lf] (.reg [(6,{ids:=[103],fn:=1}),(11,{ids:=[104],fn:=2})]))] lf)))] lf,zaW,zdP,[0]⟩
theorem geZ:To 155 RD rR:=tj (ta b9Z (ta bXZ (ta bOZ tz))) func155
def yU(i:Nat)(r:List qT1)(x h:Int)(c:List fG)(e:Int)(d:List eA):oN ((Int×Int×List fG×Int×List eA)⊕(Int×List fG×Int×List eA)):=bif (decide (x<(r.length:Int))) then (bJ x c.length).bind λq=>c[q]?.bind λb=>(nG (.ref 1 (.pair .str (.int .i64))) b.2.2.2.2.2.2.2).bind λg=>(gB i (b.1,b.2.1,b.2.2.1,b.2.2.2.1,b.2.2.2.2.1,b.2.2.2.2.2.1,b.2.2.2.2.2.2.1,g)).bind λa=>(bJ x c.length).bind λf=>c[f]?.bind λj=>some (.inl ((wI (x+1)),h,(List.set c f (a.1,a.2.1,a.2.2.1,a.2.2.2.1,a.2.2.2.2.1,a.2.2.2.2.2.2.1,a.2.2.2.2.2.1,(.inr (some (d.length,0,a.2.2.2.2.2.2.2.length))))),e,(d++[(1,a.2.2.2.2.2.2.2)]))) else some (.inr (h,c,e,d))
def wH(b:Nat)(r:List qT1)(a:Int×Int×List fG×Int×List eA):oN (Int×List fG×Int×List eA):=iter b (λa=>yU b r a.1 a.2.1 a.2.2.1 a.2.2.2.1 a.2.2.2.2) a
def IM(a:Nat)(t:List qT1×Int):oN (Int×List fG×List eA):=(sA a t.1).bind λr=>(wH a r (0,t.2,(List.map (dE qY7) r),0,[])).bind λo=>some (o.1,o.2.1,o.2.2.2)
def MK:FnA:=⟨tw [zad,zbe,.two lf (.one (.pre (.newFam 1 118 (.pair .str ti)) (.pre (.toRef 102 qY7) (.loop ⟨[1,2,10,12],⟨zbk,zbg⟩⟩ false [(0,zff)] (tw [lf,lf,.one (.two zcF (.reg [(4,{ids:=[104,105],md:=[3],fn:=1}),(6,{sh:=[105,999985]})]))] lf)))))] lf,zaW,[zen],[0]⟩
theorem oYZ:To 189 MK IM:=tj (ta b9Z (ta bBZ tz)) func189
end
end Go.Ab.D
