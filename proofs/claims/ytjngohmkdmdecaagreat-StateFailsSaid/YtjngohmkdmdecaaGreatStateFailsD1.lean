/- Functions, and what is told of them. -/
import Derived.Test.YtjngohmkdmdecaaGreatE4
import Derived.Test.YtjngohmkdmdecaaGreatProg
import Derived.KernelRfl
set_option linter.all false
namespace Go.Proofs
open Go.Shelf
def Tryz.ca131_ren:Go.Shelf.Ren:=⟨fun|150=>131|153=>170|152=>199|226=>200|227=>201|228=>202|137=>214|119=>215|224=>216|225=>217|217=>221|266=>223|n=>n,fun|9=>9|4=>4|3=>3|5=>5|21=>21|117=>262|116=>261|0=>0|46=>213|124=>277|n=>n,fun|n=>n⟩
theorem Tryz.ca131:Go.Proofs.Lays.n150 Tryz.prog Tryz.ca131_ren:={
 mixed:=by kernel_rfl
 f119:=Tryz.func215.trans (congrArg some (by kernel_rfl))
 f137:=Tryz.func214.trans (congrArg some (by kernel_rfl))
 f150:=Tryz.func131.trans (congrArg some (by kernel_rfl))
 f152:=Tryz.func199.trans (congrArg some (by kernel_rfl))
 f153:=Tryz.func170.trans (congrArg some (by kernel_rfl))
 f217:=Tryz.func221.trans (congrArg some (by kernel_rfl))
 f224:=Tryz.func216.trans (congrArg some (by kernel_rfl))
 f225:=Tryz.func217.trans (congrArg some (by kernel_rfl))
 f226:=Tryz.func200.trans (congrArg some (by kernel_rfl))
 f227:=Tryz.func201.trans (congrArg some (by kernel_rfl))
 f228:=Tryz.func202.trans (congrArg some (by kernel_rfl))
 f266:=Tryz.func223.trans (congrArg some (by kernel_rfl))
 t0:=Tryz.underlying0
 a0:=Tryz.isAgg0
 z0:=Tryz.sizeOf0
 v0:=Tryz.zeroValue0
 t3:=Tryz.underlying3
 a3:=Tryz.isAgg3
 z3:=Tryz.sizeOf3
 v3:=Tryz.zeroValue3
 t4:=Tryz.underlying4
 a4:=Tryz.isAgg4
 z4:=Tryz.sizeOf4
 v4:=Tryz.zeroValue4
 t5:=Tryz.underlying5
 a5:=Tryz.isAgg5
 z5:=Tryz.sizeOf5
 v5:=Tryz.zeroValue5
 t9:=Tryz.underlying9
 a9:=Tryz.isAgg9
 z9:=Tryz.sizeOf9
 v9:=Tryz.zeroValue9
 t21:=Tryz.underlying21
 a21:=Tryz.isAgg21
 z21:=Tryz.sizeOf21
 v21:=Tryz.zeroValue21
 t46:=Tryz.underlying213
 a46:=Tryz.isAgg213
 z46:=Tryz.sizeOf213
 v46:=Tryz.zeroValue213
 t116:=Tryz.underlying261
 a116:=Tryz.isAgg261
 z116:=Tryz.sizeOf261
 t117:=Tryz.underlying262
 a117:=Tryz.isAgg262
 z117:=Tryz.sizeOf262
 v117:=Tryz.zeroValue262
 t124:=Tryz.underlying277
 a124:=Tryz.isAgg277
 z124:=Tryz.sizeOf277
 v124:=Tryz.zeroValue277}
def Tryz.ins193_ren:Go.Shelf.Ren:=⟨fun|22=>193|29=>211|30=>212|36=>220|17=>222|n=>n,fun|24=>38|9=>118|3=>3|4=>4|0=>0|n=>n,fun|n=>n⟩
theorem Tryz.ins193:Go.Proofs.InsLay Tryz.prog Tryz.ins193_ren:={
 mixed:=by kernel_rfl
 f22:=⟨Tryz.f193.name,by decide,Tryz.func193.trans (congrArg some (by kernel_rfl))⟩
 x29:=by kernel_rfl
 t0:=Tryz.underlying0
 a0:=Tryz.isAgg0
 z0:=Tryz.sizeOf0
 v0:=Tryz.zeroValue0
 t3:=Tryz.underlying3
 a3:=Tryz.isAgg3
 z3:=Tryz.sizeOf3
 v3:=Tryz.zeroValue3
 t4:=Tryz.underlying4
 a4:=Tryz.isAgg4
 z4:=Tryz.sizeOf4
 v4:=Tryz.zeroValue4
 t24:=Tryz.underlying38
 a24:=Tryz.isAgg38
 z24:=Tryz.sizeOf38
 v24:=Tryz.zeroValue38}
def Tryz.ins110_ren:Go.Shelf.Ren:=⟨fun|22=>110|29=>147|30=>148|36=>173|17=>203|n=>n,fun|24=>43|9=>141|3=>3|4=>4|0=>0|n=>n,fun|n=>n⟩
theorem Tryz.ins110:Go.Proofs.InsLay Tryz.prog Tryz.ins110_ren:={
 mixed:=by kernel_rfl
 f22:=⟨Tryz.f110.name,by decide,Tryz.func110.trans (congrArg some (by kernel_rfl))⟩
 x29:=by kernel_rfl
 t0:=Tryz.underlying0
 a0:=Tryz.isAgg0
 z0:=Tryz.sizeOf0
 v0:=Tryz.zeroValue0
 t3:=Tryz.underlying3
 a3:=Tryz.isAgg3
 z3:=Tryz.sizeOf3
 v3:=Tryz.zeroValue3
 t4:=Tryz.underlying4
 a4:=Tryz.isAgg4
 z4:=Tryz.sizeOf4
 v4:=Tryz.zeroValue4
 t24:=Tryz.underlying43
 a24:=Tryz.isAgg43
 z24:=Tryz.sizeOf43
 v24:=Tryz.zeroValue43}
def Tryz.ins111_ren:Go.Shelf.Ren:=⟨fun|22=>111|29=>149|30=>150|36=>174|17=>204|n=>n,fun|24=>66|9=>40|3=>3|4=>4|0=>0|n=>n,fun|n=>n⟩
theorem Tryz.ins111:Go.Proofs.InsLay Tryz.prog Tryz.ins111_ren:={
 mixed:=by kernel_rfl
 f22:=⟨Tryz.f111.name,by decide,Tryz.func111.trans (congrArg some (by kernel_rfl))⟩
 x29:=by kernel_rfl
 t0:=Tryz.underlying0
 a0:=Tryz.isAgg0
 z0:=Tryz.sizeOf0
 v0:=Tryz.zeroValue0
 t3:=Tryz.underlying3
 a3:=Tryz.isAgg3
 z3:=Tryz.sizeOf3
 v3:=Tryz.zeroValue3
 t4:=Tryz.underlying4
 a4:=Tryz.isAgg4
 z4:=Tryz.sizeOf4
 v4:=Tryz.zeroValue4
 t24:=Tryz.underlying66
 a24:=Tryz.isAgg66
 z24:=Tryz.sizeOf66
 v24:=Tryz.zeroValue66}
def Tryz.del112_ren:Go.Shelf.Ren:=⟨fun|24=>112|n=>n,fun|24=>66|9=>40|3=>3|4=>4|0=>0|n=>n,fun|n=>n⟩
theorem Tryz.del112:Go.Proofs.DelLay Tryz.prog Tryz.del112_ren:={
 mixed:=by kernel_rfl
 f24:=⟨Tryz.f112.name,by decide,Tryz.func112.trans (congrArg some (by kernel_rfl))⟩
 t0:=Tryz.underlying0
 a0:=Tryz.isAgg0
 z0:=Tryz.sizeOf0
 v0:=Tryz.zeroValue0
 t3:=Tryz.underlying3
 a3:=Tryz.isAgg3
 z3:=Tryz.sizeOf3
 v3:=Tryz.zeroValue3
 t4:=Tryz.underlying4
 a4:=Tryz.isAgg4
 z4:=Tryz.sizeOf4
 v4:=Tryz.zeroValue4
 t24:=Tryz.underlying66
 a24:=Tryz.isAgg66
 z24:=Tryz.sizeOf66
 v24:=Tryz.zeroValue66}
def Tryz.sort113_ren:Go.Shelf.Ren:=⟨fun|6=>113|15=>152|14=>151|28=>183|29=>184|20=>175|21=>176|22=>177|23=>178|24=>179|25=>180|26=>181|27=>182|46=>205|47=>206|48=>207|49=>208|50=>209|57=>218|n=>n,fun|22=>47|24=>73|25=>180|3=>3|39=>213|0=>0|53=>247|55=>249|4=>4|46=>241|45=>240|50=>157|5=>5|9=>9|66=>267|70=>271|76=>278|77=>279|n=>n,fun|n=>n⟩
theorem Tryz.sort113:Go.Proofs.SlLaysF0.n6 Tryz.prog Tryz.sort113_ren:={
 mixed:=by kernel_rfl
 f6:=⟨Tryz.f113.name,by decide,Tryz.func113.trans (congrArg some (by kernel_rfl))⟩
 f14:=⟨Tryz.f151.name,by decide,Tryz.func151.trans (congrArg some (by kernel_rfl))⟩
 f15:=Tryz.func152.trans (congrArg some (by kernel_rfl))
 f20:=⟨Tryz.f175.name,by decide,Tryz.func175.trans (congrArg some (by kernel_rfl))⟩
 f21:=⟨Tryz.f176.name,by decide,Tryz.func176.trans (congrArg some (by kernel_rfl))⟩
 f22:=⟨Tryz.f177.name,by decide,Tryz.func177.trans (congrArg some (by kernel_rfl))⟩
 f23:=⟨Tryz.f178.name,by decide,Tryz.func178.trans (congrArg some (by kernel_rfl))⟩
 f24:=⟨Tryz.f179.name,by decide,Tryz.func179.trans (congrArg some (by kernel_rfl))⟩
 f25:=⟨Tryz.f180.name,by decide,Tryz.func180.trans (congrArg some (by kernel_rfl))⟩
 f26:=⟨Tryz.f181.name,by decide,Tryz.func181.trans (congrArg some (by kernel_rfl))⟩
 f27:=⟨Tryz.f182.name,by decide,Tryz.func182.trans (congrArg some (by kernel_rfl))⟩
 f28:=Tryz.func183.trans (congrArg some (by kernel_rfl))
 f29:=Tryz.func184.trans (congrArg some (by kernel_rfl))
 f46:=⟨Tryz.f205.name,by decide,Tryz.func205.trans (congrArg some (by kernel_rfl))⟩
 f47:=Tryz.func206.trans (congrArg some (by kernel_rfl))
 f48:=Tryz.func207.trans (congrArg some (by kernel_rfl))
 f49:=⟨Tryz.f208.name,by decide,Tryz.func208.trans (congrArg some (by kernel_rfl))⟩
 f50:=⟨Tryz.f209.name,by decide,Tryz.func209.trans (congrArg some (by kernel_rfl))⟩
 f57:=⟨Tryz.f218.name,by decide,Tryz.func218.trans (congrArg some (by kernel_rfl))⟩
 t0:=Tryz.underlying0
 a0:=Tryz.isAgg0
 z0:=Tryz.sizeOf0
 v0:=Tryz.zeroValue0
 t3:=Tryz.underlying3
 a3:=Tryz.isAgg3
 z3:=Tryz.sizeOf3
 v3:=Tryz.zeroValue3
 t4:=Tryz.underlying4
 a4:=Tryz.isAgg4
 z4:=Tryz.sizeOf4
 v4:=Tryz.zeroValue4
 t5:=Tryz.underlying5
 a5:=Tryz.isAgg5
 z5:=Tryz.sizeOf5
 v5:=Tryz.zeroValue5
 t9:=Tryz.underlying9
 a9:=Tryz.isAgg9
 z9:=Tryz.sizeOf9
 v9:=Tryz.zeroValue9
 t22:=Tryz.underlying47
 a22:=Tryz.isAgg47
 z22:=Tryz.sizeOf47
 v22:=Tryz.zeroValue47
 t25:=Tryz.underlying180
 a25:=Tryz.isAgg180
 z25:=Tryz.sizeOf180
 v25:=Tryz.zeroValue180
 t39:=Tryz.underlying213
 a39:=Tryz.isAgg213
 z39:=Tryz.sizeOf213
 v39:=Tryz.zeroValue213
 t45:=Tryz.underlying240
 a45:=Tryz.isAgg240
 z45:=Tryz.sizeOf240
 v45:=Tryz.zeroValue240
 t46:=Tryz.underlying241
 a46:=Tryz.isAgg241
 z46:=Tryz.sizeOf241
 v46:=Tryz.zeroValue241
 t50:=Tryz.underlying157
 a50:=Tryz.isAgg157
 z50:=Tryz.sizeOf157
 v50:=Tryz.zeroValue157
 t53:=Tryz.underlying247
 a53:=Tryz.isAgg247
 z53:=Tryz.sizeOf247
 v53:=Tryz.zeroValue247
 t55:=Tryz.underlying249
 a55:=Tryz.isAgg249
 z55:=Tryz.sizeOf249
 v55:=Tryz.zeroValue249
 t66:=Tryz.underlying267
 a66:=Tryz.isAgg267
 z66:=Tryz.sizeOf267
 v66:=Tryz.zeroValue267
 t70:=Tryz.underlying271
 a70:=Tryz.isAgg271
 z70:=Tryz.sizeOf271
 v70:=Tryz.zeroValue271
 t76:=Tryz.underlying278
 a76:=Tryz.isAgg278
 z76:=Tryz.sizeOf278
 v76:=Tryz.zeroValue278
 t77:=Tryz.underlying279
 a77:=Tryz.isAgg279
 z77:=Tryz.sizeOf279
 v77:=Tryz.zeroValue279}
end Go.Proofs
set_option maxRecDepth 100000
set_option maxHeartbeats 4000000
namespace Go.Ab
abbrev uO:=UInt8.ofNat
def wI:=Go.IntKind.wrap .i64
theorem uOt{x:UInt8}:uO x.toNat=x:=UInt8.ofNat_toNat
end Go.Ab
namespace Prod
variable{a0 b0 c0 d0 e0 f0 g0 h0 i0 j0 k0 l0 m0 n0 o0 p0 q0 r0 s0 t0 u0 v0 w0 x0 y0 z0 A0 B0 C0 D0 E0 F0 G0 H0 I0 J0 K0 L0 M0 N0 O0 P0 Q0 R0 S0 T0 U0 V0 W0 X0 Y0 Z0:Type}
def a(_o:a0×b0×c0):=_o.2.1
def b(_o:a0×b0×c0×d0):=_o.2.2.1
def c(_o:a0×b0×c0×d0×e0):=_o.2.2.2.1
def d(_o:a0×b0×c0×d0×e0×f0):=_o.2.2.2.2.1
def e(_o:a0×b0×c0×d0×e0×f0×g0):=_o.2.2.2.2.2.1
def f(_o:a0×b0×c0×d0×e0×f0×g0×h0):=_o.2.2.2.2.2.2.1
def g(_o:a0×b0×c0×d0×e0×f0×g0×h0×i0):=_o.2.2.2.2.2.2.2.1
def h(_o:a0×b0×c0×d0×e0×f0×g0×h0×i0×j0):=_o.2.2.2.2.2.2.2.2.1
def i(_o:a0×b0×c0×d0×e0×f0×g0×h0×i0×j0×k0):=_o.2.2.2.2.2.2.2.2.2.1
def j(_o:a0×b0×c0×d0×e0×f0×g0×h0×i0×j0×k0×l0):=_o.2.2.2.2.2.2.2.2.2.2.1
def k(_o:a0×b0×c0×d0×e0×f0×g0×h0×i0×j0×k0×l0×m0):=_o.2.2.2.2.2.2.2.2.2.2.2.1
def l(_o:a0×b0×c0×d0×e0×f0×g0×h0×i0×j0×k0×l0×m0×n0):=_o.2.2.2.2.2.2.2.2.2.2.2.2.1
def m(_o:a0×b0×c0×d0×e0×f0×g0×h0×i0×j0×k0×l0×m0×n0×o0):=_o.2.2.2.2.2.2.2.2.2.2.2.2.2.1
def n(_o:a0×b0×c0×d0×e0×f0×g0×h0×i0×j0×k0×l0×m0×n0×o0×p0):=_o.2.2.2.2.2.2.2.2.2.2.2.2.2.2.1
def o(_o:a0×b0×c0×d0×e0×f0×g0×h0×i0×j0×k0×l0×m0×n0×o0×p0×q0):=_o.2.2.2.2.2.2.2.2.2.2.2.2.2.2.2.1
def p(_o:a0×b0×c0×d0×e0×f0×g0×h0×i0×j0×k0×l0×m0×n0×o0×p0×q0×r0):=_o.2.2.2.2.2.2.2.2.2.2.2.2.2.2.2.2.1
def q(_o:a0×b0×c0×d0×e0×f0×g0×h0×i0×j0×k0×l0×m0×n0×o0×p0×q0×r0×s0):=_o.2.2.2.2.2.2.2.2.2.2.2.2.2.2.2.2.2.1
def r(_o:a0×b0×c0×d0×e0×f0×g0×h0×i0×j0×k0×l0×m0×n0×o0×p0×q0×r0×s0×t0):=_o.2.2.2.2.2.2.2.2.2.2.2.2.2.2.2.2.2.2.1
def s(_o:a0×b0×c0×d0×e0×f0×g0×h0×i0×j0×k0×l0×m0×n0×o0×p0×q0×r0×s0×t0×u0):=_o.2.2.2.2.2.2.2.2.2.2.2.2.2.2.2.2.2.2.2.1
def t(_o:a0×b0×c0×d0×e0×f0×g0×h0×i0×j0×k0×l0×m0×n0×o0×p0×q0×r0×s0×t0×u0×v0):=_o.2.2.2.2.2.2.2.2.2.2.2.2.2.2.2.2.2.2.2.2.1
def u(_o:a0×b0×c0×d0×e0×f0×g0×h0×i0×j0×k0×l0×m0×n0×o0×p0×q0×r0×s0×t0×u0×v0×w0):=_o.2.2.2.2.2.2.2.2.2.2.2.2.2.2.2.2.2.2.2.2.2.1
def v(_o:a0×b0×c0×d0×e0×f0×g0×h0×i0×j0×k0×l0×m0×n0×o0×p0×q0×r0×s0×t0×u0×v0×w0×x0):=_o.2.2.2.2.2.2.2.2.2.2.2.2.2.2.2.2.2.2.2.2.2.2.1
def w(_o:a0×b0×c0×d0×e0×f0×g0×h0×i0×j0×k0×l0×m0×n0×o0×p0×q0×r0×s0×t0×u0×v0×w0×x0×y0):=_o.2.2.2.2.2.2.2.2.2.2.2.2.2.2.2.2.2.2.2.2.2.2.2.1
def x(_o:a0×b0×c0×d0×e0×f0×g0×h0×i0×j0×k0×l0×m0×n0×o0×p0×q0×r0×s0×t0×u0×v0×w0×x0×y0×z0):=_o.2.2.2.2.2.2.2.2.2.2.2.2.2.2.2.2.2.2.2.2.2.2.2.2.1
def y(_o:a0×b0×c0×d0×e0×f0×g0×h0×i0×j0×k0×l0×m0×n0×o0×p0×q0×r0×s0×t0×u0×v0×w0×x0×y0×z0×A0):=_o.2.2.2.2.2.2.2.2.2.2.2.2.2.2.2.2.2.2.2.2.2.2.2.2.2.1
def z(_o:a0×b0×c0×d0×e0×f0×g0×h0×i0×j0×k0×l0×m0×n0×o0×p0×q0×r0×s0×t0×u0×v0×w0×x0×y0×z0×A0×B0):=_o.2.2.2.2.2.2.2.2.2.2.2.2.2.2.2.2.2.2.2.2.2.2.2.2.2.2.1
def za(_o:a0×b0×c0×d0×e0×f0×g0×h0×i0×j0×k0×l0×m0×n0×o0×p0×q0×r0×s0×t0×u0×v0×w0×x0×y0×z0×A0×B0×C0):=_o.2.2.2.2.2.2.2.2.2.2.2.2.2.2.2.2.2.2.2.2.2.2.2.2.2.2.2.1
def zb(_o:a0×b0×c0×d0×e0×f0×g0×h0×i0×j0×k0×l0×m0×n0×o0×p0×q0×r0×s0×t0×u0×v0×w0×x0×y0×z0×A0×B0×C0×D0):=_o.2.2.2.2.2.2.2.2.2.2.2.2.2.2.2.2.2.2.2.2.2.2.2.2.2.2.2.2.1
def zc(_o:a0×b0×c0×d0×e0×f0×g0×h0×i0×j0×k0×l0×m0×n0×o0×p0×q0×r0×s0×t0×u0×v0×w0×x0×y0×z0×A0×B0×C0×D0×E0):=_o.2.2.2.2.2.2.2.2.2.2.2.2.2.2.2.2.2.2.2.2.2.2.2.2.2.2.2.2.2.1
def zd(_o:a0×b0×c0×d0×e0×f0×g0×h0×i0×j0×k0×l0×m0×n0×o0×p0×q0×r0×s0×t0×u0×v0×w0×x0×y0×z0×A0×B0×C0×D0×E0×F0):=_o.2.2.2.2.2.2.2.2.2.2.2.2.2.2.2.2.2.2.2.2.2.2.2.2.2.2.2.2.2.2.1
def ze(_o:a0×b0×c0×d0×e0×f0×g0×h0×i0×j0×k0×l0×m0×n0×o0×p0×q0×r0×s0×t0×u0×v0×w0×x0×y0×z0×A0×B0×C0×D0×E0×F0×G0):=_o.2.2.2.2.2.2.2.2.2.2.2.2.2.2.2.2.2.2.2.2.2.2.2.2.2.2.2.2.2.2.2.1
def zf(_o:a0×b0×c0×d0×e0×f0×g0×h0×i0×j0×k0×l0×m0×n0×o0×p0×q0×r0×s0×t0×u0×v0×w0×x0×y0×z0×A0×B0×C0×D0×E0×F0×G0×H0):=_o.2.2.2.2.2.2.2.2.2.2.2.2.2.2.2.2.2.2.2.2.2.2.2.2.2.2.2.2.2.2.2.2.1
def zg(_o:a0×b0×c0×d0×e0×f0×g0×h0×i0×j0×k0×l0×m0×n0×o0×p0×q0×r0×s0×t0×u0×v0×w0×x0×y0×z0×A0×B0×C0×D0×E0×F0×G0×H0×I0):=_o.2.2.2.2.2.2.2.2.2.2.2.2.2.2.2.2.2.2.2.2.2.2.2.2.2.2.2.2.2.2.2.2.2.1
def zh(_o:a0×b0×c0×d0×e0×f0×g0×h0×i0×j0×k0×l0×m0×n0×o0×p0×q0×r0×s0×t0×u0×v0×w0×x0×y0×z0×A0×B0×C0×D0×E0×F0×G0×H0×I0×J0):=_o.2.2.2.2.2.2.2.2.2.2.2.2.2.2.2.2.2.2.2.2.2.2.2.2.2.2.2.2.2.2.2.2.2.2.1
def zi(_o:a0×b0×c0×d0×e0×f0×g0×h0×i0×j0×k0×l0×m0×n0×o0×p0×q0×r0×s0×t0×u0×v0×w0×x0×y0×z0×A0×B0×C0×D0×E0×F0×G0×H0×I0×J0×K0):=_o.2.2.2.2.2.2.2.2.2.2.2.2.2.2.2.2.2.2.2.2.2.2.2.2.2.2.2.2.2.2.2.2.2.2.2.1
def zj(_o:a0×b0×c0×d0×e0×f0×g0×h0×i0×j0×k0×l0×m0×n0×o0×p0×q0×r0×s0×t0×u0×v0×w0×x0×y0×z0×A0×B0×C0×D0×E0×F0×G0×H0×I0×J0×K0×L0):=_o.2.2.2.2.2.2.2.2.2.2.2.2.2.2.2.2.2.2.2.2.2.2.2.2.2.2.2.2.2.2.2.2.2.2.2.2.1
def zk(_o:a0×b0×c0×d0×e0×f0×g0×h0×i0×j0×k0×l0×m0×n0×o0×p0×q0×r0×s0×t0×u0×v0×w0×x0×y0×z0×A0×B0×C0×D0×E0×F0×G0×H0×I0×J0×K0×L0×M0):=_o.2.2.2.2.2.2.2.2.2.2.2.2.2.2.2.2.2.2.2.2.2.2.2.2.2.2.2.2.2.2.2.2.2.2.2.2.2.1
def zl(_o:a0×b0×c0×d0×e0×f0×g0×h0×i0×j0×k0×l0×m0×n0×o0×p0×q0×r0×s0×t0×u0×v0×w0×x0×y0×z0×A0×B0×C0×D0×E0×F0×G0×H0×I0×J0×K0×L0×M0×N0):=_o.2.2.2.2.2.2.2.2.2.2.2.2.2.2.2.2.2.2.2.2.2.2.2.2.2.2.2.2.2.2.2.2.2.2.2.2.2.2.1
def zm(_o:a0×b0×c0×d0×e0×f0×g0×h0×i0×j0×k0×l0×m0×n0×o0×p0×q0×r0×s0×t0×u0×v0×w0×x0×y0×z0×A0×B0×C0×D0×E0×F0×G0×H0×I0×J0×K0×L0×M0×N0×O0):=_o.2.2.2.2.2.2.2.2.2.2.2.2.2.2.2.2.2.2.2.2.2.2.2.2.2.2.2.2.2.2.2.2.2.2.2.2.2.2.2.1
def zn(_o:a0×b0×c0×d0×e0×f0×g0×h0×i0×j0×k0×l0×m0×n0×o0×p0×q0×r0×s0×t0×u0×v0×w0×x0×y0×z0×A0×B0×C0×D0×E0×F0×G0×H0×I0×J0×K0×L0×M0×N0×O0×P0):=_o.2.2.2.2.2.2.2.2.2.2.2.2.2.2.2.2.2.2.2.2.2.2.2.2.2.2.2.2.2.2.2.2.2.2.2.2.2.2.2.2.1
def zo(_o:a0×b0×c0×d0×e0×f0×g0×h0×i0×j0×k0×l0×m0×n0×o0×p0×q0×r0×s0×t0×u0×v0×w0×x0×y0×z0×A0×B0×C0×D0×E0×F0×G0×H0×I0×J0×K0×L0×M0×N0×O0×P0×Q0):=_o.2.2.2.2.2.2.2.2.2.2.2.2.2.2.2.2.2.2.2.2.2.2.2.2.2.2.2.2.2.2.2.2.2.2.2.2.2.2.2.2.2.1
def zp(_o:a0×b0×c0×d0×e0×f0×g0×h0×i0×j0×k0×l0×m0×n0×o0×p0×q0×r0×s0×t0×u0×v0×w0×x0×y0×z0×A0×B0×C0×D0×E0×F0×G0×H0×I0×J0×K0×L0×M0×N0×O0×P0×Q0×R0):=_o.2.2.2.2.2.2.2.2.2.2.2.2.2.2.2.2.2.2.2.2.2.2.2.2.2.2.2.2.2.2.2.2.2.2.2.2.2.2.2.2.2.2.1
def zq(_o:a0×b0×c0×d0×e0×f0×g0×h0×i0×j0×k0×l0×m0×n0×o0×p0×q0×r0×s0×t0×u0×v0×w0×x0×y0×z0×A0×B0×C0×D0×E0×F0×G0×H0×I0×J0×K0×L0×M0×N0×O0×P0×Q0×R0×S0):=_o.2.2.2.2.2.2.2.2.2.2.2.2.2.2.2.2.2.2.2.2.2.2.2.2.2.2.2.2.2.2.2.2.2.2.2.2.2.2.2.2.2.2.2.1
def zr(_o:a0×b0×c0×d0×e0×f0×g0×h0×i0×j0×k0×l0×m0×n0×o0×p0×q0×r0×s0×t0×u0×v0×w0×x0×y0×z0×A0×B0×C0×D0×E0×F0×G0×H0×I0×J0×K0×L0×M0×N0×O0×P0×Q0×R0×S0×T0):=_o.2.2.2.2.2.2.2.2.2.2.2.2.2.2.2.2.2.2.2.2.2.2.2.2.2.2.2.2.2.2.2.2.2.2.2.2.2.2.2.2.2.2.2.2.1
def zs(_o:a0×b0×c0×d0×e0×f0×g0×h0×i0×j0×k0×l0×m0×n0×o0×p0×q0×r0×s0×t0×u0×v0×w0×x0×y0×z0×A0×B0×C0×D0×E0×F0×G0×H0×I0×J0×K0×L0×M0×N0×O0×P0×Q0×R0×S0×T0×U0):=_o.2.2.2.2.2.2.2.2.2.2.2.2.2.2.2.2.2.2.2.2.2.2.2.2.2.2.2.2.2.2.2.2.2.2.2.2.2.2.2.2.2.2.2.2.2.1
def zt(_o:a0×b0×c0×d0×e0×f0×g0×h0×i0×j0×k0×l0×m0×n0×o0×p0×q0×r0×s0×t0×u0×v0×w0×x0×y0×z0×A0×B0×C0×D0×E0×F0×G0×H0×I0×J0×K0×L0×M0×N0×O0×P0×Q0×R0×S0×T0×U0×V0):=_o.2.2.2.2.2.2.2.2.2.2.2.2.2.2.2.2.2.2.2.2.2.2.2.2.2.2.2.2.2.2.2.2.2.2.2.2.2.2.2.2.2.2.2.2.2.2.1
def zu(_o:a0×b0×c0×d0×e0×f0×g0×h0×i0×j0×k0×l0×m0×n0×o0×p0×q0×r0×s0×t0×u0×v0×w0×x0×y0×z0×A0×B0×C0×D0×E0×F0×G0×H0×I0×J0×K0×L0×M0×N0×O0×P0×Q0×R0×S0×T0×U0×V0×W0):=_o.2.2.2.2.2.2.2.2.2.2.2.2.2.2.2.2.2.2.2.2.2.2.2.2.2.2.2.2.2.2.2.2.2.2.2.2.2.2.2.2.2.2.2.2.2.2.2.1
def zv(_o:a0×b0×c0×d0×e0×f0×g0×h0×i0×j0×k0×l0×m0×n0×o0×p0×q0×r0×s0×t0×u0×v0×w0×x0×y0×z0×A0×B0×C0×D0×E0×F0×G0×H0×I0×J0×K0×L0×M0×N0×O0×P0×Q0×R0×S0×T0×U0×V0×W0×X0):=_o.2.2.2.2.2.2.2.2.2.2.2.2.2.2.2.2.2.2.2.2.2.2.2.2.2.2.2.2.2.2.2.2.2.2.2.2.2.2.2.2.2.2.2.2.2.2.2.2.1
def zw(_o:a0×b0×c0×d0×e0×f0×g0×h0×i0×j0×k0×l0×m0×n0×o0×p0×q0×r0×s0×t0×u0×v0×w0×x0×y0×z0×A0×B0×C0×D0×E0×F0×G0×H0×I0×J0×K0×L0×M0×N0×O0×P0×Q0×R0×S0×T0×U0×V0×W0×X0×Y0):=_o.2.2.2.2.2.2.2.2.2.2.2.2.2.2.2.2.2.2.2.2.2.2.2.2.2.2.2.2.2.2.2.2.2.2.2.2.2.2.2.2.2.2.2.2.2.2.2.2.2.1
def zx(_o:a0×b0×c0×d0×e0×f0×g0×h0×i0×j0×k0×l0×m0×n0×o0×p0×q0×r0×s0×t0×u0×v0×w0×x0×y0×z0×A0×B0×C0×D0×E0×F0×G0×H0×I0×J0×K0×L0×M0×N0×O0×P0×Q0×R0×S0×T0×U0×V0×W0×X0×Y0×Z0):=_o.2.2.2.2.2.2.2.2.2.2.2.2.2.2.2.2.2.2.2.2.2.2.2.2.2.2.2.2.2.2.2.2.2.2.2.2.2.2.2.2.2.2.2.2.2.2.2.2.2.2.1
def A(_o:a0×b0×c0):=_o.2.2
def B(_o:a0×b0×c0×d0):=_o.2.2.2
def C(_o:a0×b0×c0×d0×e0):=_o.2.2.2.2
def D(_o:a0×b0×c0×d0×e0×f0):=_o.2.2.2.2.2
def E(_o:a0×b0×c0×d0×e0×f0×g0):=_o.2.2.2.2.2.2
def F(_o:a0×b0×c0×d0×e0×f0×g0×h0):=_o.2.2.2.2.2.2.2
def G(_o:a0×b0×c0×d0×e0×f0×g0×h0×i0):=_o.2.2.2.2.2.2.2.2
def H(_o:a0×b0×c0×d0×e0×f0×g0×h0×i0×j0):=_o.2.2.2.2.2.2.2.2.2
def I(_o:a0×b0×c0×d0×e0×f0×g0×h0×i0×j0×k0):=_o.2.2.2.2.2.2.2.2.2.2
def J(_o:a0×b0×c0×d0×e0×f0×g0×h0×i0×j0×k0×l0):=_o.2.2.2.2.2.2.2.2.2.2.2
def K(_o:a0×b0×c0×d0×e0×f0×g0×h0×i0×j0×k0×l0×m0):=_o.2.2.2.2.2.2.2.2.2.2.2.2
def L(_o:a0×b0×c0×d0×e0×f0×g0×h0×i0×j0×k0×l0×m0×n0):=_o.2.2.2.2.2.2.2.2.2.2.2.2.2
def M(_o:a0×b0×c0×d0×e0×f0×g0×h0×i0×j0×k0×l0×m0×n0×o0):=_o.2.2.2.2.2.2.2.2.2.2.2.2.2.2
def O(_o:a0×b0×c0×d0×e0×f0×g0×h0×i0×j0×k0×l0×m0×n0×o0×p0×q0):=_o.2.2.2.2.2.2.2.2.2.2.2.2.2.2.2.2
def P(_o:a0×b0×c0×d0×e0×f0×g0×h0×i0×j0×k0×l0×m0×n0×o0×p0×q0×r0):=_o.2.2.2.2.2.2.2.2.2.2.2.2.2.2.2.2.2
def Q(_o:a0×b0×c0×d0×e0×f0×g0×h0×i0×j0×k0×l0×m0×n0×o0×p0×q0×r0×s0):=_o.2.2.2.2.2.2.2.2.2.2.2.2.2.2.2.2.2.2
def S(_o:a0×b0×c0×d0×e0×f0×g0×h0×i0×j0×k0×l0×m0×n0×o0×p0×q0×r0×s0×t0×u0):=_o.2.2.2.2.2.2.2.2.2.2.2.2.2.2.2.2.2.2.2.2
def T(_o:a0×b0×c0×d0×e0×f0×g0×h0×i0×j0×k0×l0×m0×n0×o0×p0×q0×r0×s0×t0×u0×v0):=_o.2.2.2.2.2.2.2.2.2.2.2.2.2.2.2.2.2.2.2.2.2
def U(_o:a0×b0×c0×d0×e0×f0×g0×h0×i0×j0×k0×l0×m0×n0×o0×p0×q0×r0×s0×t0×u0×v0×w0):=_o.2.2.2.2.2.2.2.2.2.2.2.2.2.2.2.2.2.2.2.2.2.2
def V(_o:a0×b0×c0×d0×e0×f0×g0×h0×i0×j0×k0×l0×m0×n0×o0×p0×q0×r0×s0×t0×u0×v0×w0×x0):=_o.2.2.2.2.2.2.2.2.2.2.2.2.2.2.2.2.2.2.2.2.2.2.2
def W(_o:a0×b0×c0×d0×e0×f0×g0×h0×i0×j0×k0×l0×m0×n0×o0×p0×q0×r0×s0×t0×u0×v0×w0×x0×y0):=_o.2.2.2.2.2.2.2.2.2.2.2.2.2.2.2.2.2.2.2.2.2.2.2.2
def X(_o:a0×b0×c0×d0×e0×f0×g0×h0×i0×j0×k0×l0×m0×n0×o0×p0×q0×r0×s0×t0×u0×v0×w0×x0×y0×z0):=_o.2.2.2.2.2.2.2.2.2.2.2.2.2.2.2.2.2.2.2.2.2.2.2.2.2
def Y(_o:a0×b0×c0×d0×e0×f0×g0×h0×i0×j0×k0×l0×m0×n0×o0×p0×q0×r0×s0×t0×u0×v0×w0×x0×y0×z0×A0):=_o.2.2.2.2.2.2.2.2.2.2.2.2.2.2.2.2.2.2.2.2.2.2.2.2.2.2
def ZA(_o:a0×b0×c0×d0×e0×f0×g0×h0×i0×j0×k0×l0×m0×n0×o0×p0×q0×r0×s0×t0×u0×v0×w0×x0×y0×z0×A0×B0×C0):=_o.2.2.2.2.2.2.2.2.2.2.2.2.2.2.2.2.2.2.2.2.2.2.2.2.2.2.2.2
def ZC(_o:a0×b0×c0×d0×e0×f0×g0×h0×i0×j0×k0×l0×m0×n0×o0×p0×q0×r0×s0×t0×u0×v0×w0×x0×y0×z0×A0×B0×C0×D0×E0):=_o.2.2.2.2.2.2.2.2.2.2.2.2.2.2.2.2.2.2.2.2.2.2.2.2.2.2.2.2.2.2
def ZF(_o:a0×b0×c0×d0×e0×f0×g0×h0×i0×j0×k0×l0×m0×n0×o0×p0×q0×r0×s0×t0×u0×v0×w0×x0×y0×z0×A0×B0×C0×D0×E0×F0×G0×H0):=_o.2.2.2.2.2.2.2.2.2.2.2.2.2.2.2.2.2.2.2.2.2.2.2.2.2.2.2.2.2.2.2.2.2
def ZX(_o:a0×b0×c0×d0×e0×f0×g0×h0×i0×j0×k0×l0×m0×n0×o0×p0×q0×r0×s0×t0×u0×v0×w0×x0×y0×z0×A0×B0×C0×D0×E0×F0×G0×H0×I0×J0×K0×L0×M0×N0×O0×P0×Q0×R0×S0×T0×U0×V0×W0×X0×Y0×Z0):=_o.2.2.2.2.2.2.2.2.2.2.2.2.2.2.2.2.2.2.2.2.2.2.2.2.2.2.2.2.2.2.2.2.2.2.2.2.2.2.2.2.2.2.2.2.2.2.2.2.2.2.2
end Prod
namespace Go.Ab.D
abbrev ti:Ty:=.int .i64
abbrev ki:Kd:=.p ti
abbrev kb:Kd:=.p .bool
abbrev ks:Kd:=.p .str
abbrev lc(l:List Kd)(r:KdL):KdL:=l.foldr .cons r
abbrev ln(l:List Kd):=lc l .nil
abbrev tw(l:List Ov)(r:Ov):=l.foldr .two r
abbrev oN:=Option
open Go.Proofs Go.Proofs.Tryz
open Go Go.Ab
noncomputable section
abbrev qY0:Ty:=(.pair ti (.pair ti (.pair .bool (.pair .bool (.pair ti (.pair (.sl (.pair ti ti)) (.pair ti (.sl (.pair .str ti)))))))))
abbrev qT1:Type:=(Int×Int×Bool×Bool×Int×List ((Int×Int))×Int×List ((List UInt8×Int)))
abbrev qY2:Ty:=(.pair ti (.pair ti (.pair ti (.pair (.pair ti ti) (.pair .bool (.pair ti (.pair (.sl .byte) (.pair (.sl (.pair .str ti)) (.pair .bool ti)))))))))
abbrev qT3:Type:=(Int×Int×Int×(Int×Int)×Bool×Int×List (UInt8)×List ((List UInt8×Int))×Bool×Int)
abbrev qB4:BKd:=(.vars (ln [.p (.sl qY0),ki,.p (.sl (.sl .byte)),ki,ki,.p (.int .u8),ki,ki,ks,ki,ki,ks,ki,ki,.p (.sl .byte),ki,ki,ki,ki,ki,kb,ki,.nilp (.slice none 0 0),.nilp (.slice none 0 0),kb,ki]))
abbrev qY5:Ty:=(.pair ti ti)
abbrev qL6:KdL:=(ln [ki])
abbrev qT7:Type:=(Int×Int×UInt8×(Int×Int)×List UInt8×(Int×Int)×List UInt8×Int×Int×List (UInt8))
abbrev qY8:Ty:=(.pair ti (.pair ti (.pair .bool (.pair .bool (.pair ti (.pair (.sl qY5) (.pair ti (.ref 1 (.pair .str ti)))))))))
abbrev qY9:Ty:=(.pair ti (.pair ti (.pair .byte (.pair qY5 (.pair .str (.pair qY5 (.pair .str (.pair ti (.pair ti (.sl .byte))))))))))
abbrev qL10:KdL:=(lc [ki,ki,ki,ki,ki,kb,ki,.p (.sl .byte),.p (.sl (.pair .str ti)),kb] qL6)
abbrev qL11:KdL:=(lc [ki,ki,ki,ki,ki,kb,ki,.nilp (.slice none 0 0),.nilp (.slice none 0 0),kb] qL6)
abbrev qT12:Type:=((Int×Int×Bool×Bool×Int×List ((Int×Int))×Int×(List ((List UInt8×Int))⊕Option (Nat×Nat×Nat))))
abbrev qB13:BKd:=(.vars (lc [ki,.p (.sl qY0),ki,ki,.p (.sl (.pair ti (.pair ti (.sl qY2)))),.p (.sl (.pair ti (.sl ti))),.p (.sl qY5),.mp 1,ki] qL6))
abbrev qY14:Ty:=(.pair ti (.pair (.pair (.sl qY0) ti) (.pair (.pair ti (.sl (.pair ti (.pair ti (.sl qY2))))) (.pair (.sl (.pair ti (.sl ti))) (.sl qY5)))))
abbrev qL15:KdL:=(ln [ki,ki,kb,kb,ki,.p (.sl qY5),ki,.p (.sl (.pair .str ti))])
abbrev qY16:Ty:=(.pair ti (.pair qY5 ti))
abbrev qT17:Type:=(Int×(List (qT1)×Int)×(Int×List ((Int×Int×List (qT3))))×List ((Int×List (Int)))×List ((Int×Int)))
abbrev qT18:Type:=((Int×(Int×Int)×Int))
abbrev qT19:Type:=(List (qT1)×Int×List (List (UInt8))×Int×Int×Int×Int×Int×List UInt8×Int×Int×List UInt8×Int×Int×List (UInt8)×Int×Int×Int×Int×Int×Bool×Int×Bool×Int)
abbrev qT20:Type:=((Int×Int×List (qT3)))
abbrev qT21:Type:=(Int×List (qT1)×Int×List (List (UInt8))×Int×Int×Int×Int×Int×List UInt8×Int×Int×List UInt8×Int×Int×List (UInt8)×Int×Int×Int×Int×Int×Int×Bool×Int×Bool×Int×List (qT1)×Int×List (List (UInt8))×Int×Int×Int×Int×Int×List UInt8×Int×Int×List UInt8×Int×Int×List (UInt8)×Int×Int×Int×Int×Int×Bool×Int×List (UInt8)×List ((List UInt8×Int))×Bool×Int)
abbrev qY22:Ty:=(.sl (.pair ti (.pair ti (.sl qY2))))
abbrev qB23:BKd:=(.vars (lc [.p (.sl qY0),ki,.p (.sl (.sl .byte)),ki,ki,.p (.int .u8),ki,ki,ks,ki,ki,ks,ki,ki,.p (.sl .byte)] qL10))
abbrev qY24:Ty:=(.pair ti (.pair ti (.pair .bool (.pair .bool (.pair ti (.pair (.ref 0 qY5) (.pair ti (.ref 2 (.pair .str ti)))))))))
abbrev qT25:Type:=(List ((((Int×Int)×List (UInt8))×Nat))×Nat)
abbrev qT26:Type:=((Int×Int×Bool×Bool×Int×(List ((Int×Int))⊕Option (Nat×Nat×Nat))×Int×(List ((List UInt8×Int))⊕Option (Nat×Nat×Nat))))
abbrev qB27:BKd:=(.vars (lc [ki,.p (.sl qY0),ki,ki,.p qY22,.p (.sl (.pair ti (.sl ti))),.p (.sl qY5),.mp 102,ki] qL6))
abbrev qT28:Type:=(Int×List (qT1)×Int×Int×List qT20×List ((Int×List (Int)))×List ((Int×Int))×Int×Int×qT25×List (qT7)×Int×Int×Int×Int×Int×Bool×Int×Bool×Int×List ((Int×qT3×List qT18×List qT18))×List (List (UInt8))×List (Int))
abbrev qB29:BKd:=(.vars (ln [ki,ki,.p (.int .u8),ki,ki,ks,ki,ki,ks,ki,ki,.p (.sl .byte)]))
abbrev qT30:Type:=(Int×Int×Int×Int×Int×List UInt8×Int×Int×List UInt8×Int×Int×List (UInt8)×Int×Int×Int×Int×Int×Int×Bool×Int×Bool×Int×Int×List (qT1)×List (List (UInt8)))
abbrev qT31:Type:=((Nat×List ((List UInt8×Int))))
abbrev qT32:Type:=(Int×Int×Int×Int×Int×Bool×Int×List (UInt8)×List ((List UInt8×Int))×Bool×Int)
abbrev qL33:KdL:=(ln [ki,.p (.sl qY0),ki,ki,.p qY22,.p (.sl (.pair ti (.sl ti))),.p (.sl qY5)])
abbrev qT34:Type:=(List (((Int×Int)×Nat))×Nat)
abbrev qT35:Type:=(Int×Int×(List (qT3)⊕Option (Nat×Nat×Nat)))
abbrev qY36:Ty:=(.pair ti (.pair ti (.pair .bool (.pair .bool (.pair ti (.pair (.ref 0 qY5) (.pair ti (.sl (.pair .str ti)))))))))
abbrev qT37:Type:=(List (qT1)×Int×List (List (UInt8))×Int×Int×Int×Int×Int×List UInt8×Int×Int×List UInt8×Int×Int×List (UInt8)×Int×Int×Int×Int×Int×Bool×Int×List (UInt8)×List ((List UInt8×Int))×Bool×Int×Int×Int×List (qT1)×List (List (UInt8)))
abbrev qT38:Type:=(Int×List (qT1)×Int×Int×List qT20×List ((Int×List (Int)))×List ((Int×Int))×Int×Int×qT25×List (qT7)×Int×Int×Int×Int×Int×Bool×Int×Bool×Int×List ((Int×qT3×List qT18×List qT18))×List (List (UInt8))×List (Int)×Int×Int×Int×Int)
abbrev qL39:KdL:=(ln [kb,kb,kb,kb,ki,kb])
abbrev qB40:BKd:=(.rows 59 (.pair ti (.pair qY2 (.pair (.sl qY16) (.sl qY16)))))
abbrev qL41:KdL:=(ln [ki,.nilp (.slice none 0 0)])
abbrev qB42:BKd:=(.fam 118 (.pair .str ti))
abbrev qY43:Ty:=(.pair ti (.pair ti (.ref 1 qY2)))
abbrev qT44:Type:=(Int×List (qT1)×Int×Int×List qT20×List ((Int×List (Int)))×List ((Int×Int))×Int×Int×qT25×List (qT7)×Int×Int×Int×Int×Int×Bool×Int×Bool×Int×List ((Int×qT3×List qT18×List qT18))×List (List (UInt8)))
abbrev qB45:BKd:=(.vars (ln [ki,.nilp (.slice none 0 0),ki,ki,.nilp (.slice none 0 0),.nilp (.slice none 0 0),.nilp (.slice none 0 0)]))
abbrev qB46:BKd:=(.rows 123 (.pair ti (.sl ti)))
abbrev qT47:Type:=(Int×Int×Int×List ((Int×Int))×List (qT1)×List (qT35)×List ((Int×List (Int)))×Int×Int×Int×List ((Nat×List (qT3))))
abbrev qB48:BKd:=(.vars (ln [ki,.slf 8 1,ki,ki,.p qY22,.slf 2 2,.slf 2 3,ki,.slf 2 101]))
abbrev qT49:Type:=(Int×Int×Int×List qT20×Int×List (qT1)×List ((Int×List (Int)))×List ((Int×Int))×List ((Int×Int)))
abbrev qT50:Type:=(Int×Int×Int×Int×Int×Bool×Int×List (UInt8)×List ((List UInt8×Int))×Bool×Int×Bool×Int×List (qT1)×Int×Int×List qT20×List ((Int×List (Int)))×List ((Int×Int))×Int×Int×qT25)
abbrev qT51:Type:=(Int×List (qT1)×Int×Int×List qT20×List ((Int×List (Int)))×List ((Int×Int))×Int×Int×qT25×List (((List (qT1)×Int)×List (List (UInt8))))×List ((Int×Int)))
abbrev qB52:BKd:=(.vars (lc [.p (.sl qY0)] qL6))
abbrev qB53:BKd:=(.vars (lc [.nilp (.slice none 0 0)] qL6))
abbrev qT54:Type:=(Int×Int×List (qT1)×Int×Int×List qT20×List ((Int×List (Int)))×List ((Int×Int))×qT34)
abbrev qT55:Type:=((Int×Int×Bool×Bool×Int×(List ((Int×Int))⊕Option (Nat×Nat×Nat))×Int×List ((List UInt8×Int))))
abbrev qY56:Ty:=(.pair (.sl qY0) ti)
abbrev qL57:KdL:=(lc [ki] qL6)
abbrev qT58:Type:=(Int×qT3×List qT18×List qT18)
abbrev qB59:BKd:=(.map ti ti)
abbrev qT60:Type:=(Int×List (qT1)×Int×Int×List qT20×List ((Int×List (Int)))×List ((Int×Int))×Int×Int×qT25×List (((List (qT1)×Int)×List (List (UInt8))))×List ((Int×Int))×List (qT7))
abbrev qB61:BKd:=(.vars (ln [ki,ki,.p (.sl qY2)]))
abbrev qT62:Type:=(Int×Int×Int×Int×List qT20×Int×List (qT1)×List ((Int×List (Int)))×List ((Int×Int))×List ((Int×Int))×List (qT1)×Int)
abbrev qL63:KdL:=(ln [.own 0 100 0 0,kb])
abbrev qL64:KdL:=(ln [.own 0 0 0 0,.own 0 1 0 0,.own 0 2 0 0])
abbrev qL65:KdL:=(ln [.own 0 100 0 0,.own 0 101 0 0])
abbrev qT66:Type:=(Int×List (qT1)×Int)
abbrev qB67:BKd:=(.rows 118 (.pair .str ti))
abbrev qB68:BKd:=(.vars (ln [.p (.sl qY0),ki,.p (.sl (.sl .byte))]))
abbrev qB69:BKd:=(.vars (ln [ki,.slf 8 102,ki,ki,.slf 3 105,.slf 2 103,.p (.sl qY5)]))
abbrev qB70:BKd:=(.vars (ln [.fn 97 .nil (ln [.own 8 1 0 0,.own 0 2 0 0,.own 0 3 0 0,.own 0 4 0 0])]))
abbrev qT71:Type:=((Nat×List ((Int×Int))))
abbrev qB72:BKd:=(.vars (ln [ks]))
abbrev qT73:Type:=(Int×List (qT1)×Int×Int×List qT20×List ((Int×List (Int)))×List ((Int×Int))×Int×Int×qT25×List (qT7)×Int×Int×Int×Int×Int×Bool×Int×Bool×Int×List (Int))
abbrev qT74:Type:=(Int×Int×Int×List qT20×Int×List (qT1)×List ((Int×List (Int)))×List ((Int×Int))×List ((Int×Int))×List ((Int×Int)))
abbrev qB75:BKd:=(.vars (lc [.slf 8 102] qL6))
abbrev qL76:KdL:=(ln [.own 0 0 0 0])
abbrev qT77:Type:=(Bool×Bool×Bool×Bool×Int×Bool)
abbrev qT78:Type:=(List ((List UInt8×Int))×List UInt8)
abbrev qL79:KdL:=(ln [.own 0 100 0 0,.own 0 101 0 0,kb])
abbrev qL80:KdL:=(ln [.own 0 0 0 0,.own 0 1 0 0])
abbrev qL81:KdL:=(lc [.nilp (.slice none 0 0)] qL41)
abbrev qT82:Type:=(List (qT1)×Int×List (List (UInt8)))
abbrev qT83:Type:=(Int×Int×Int×List qT20×List ((Int×Int))×List (qT1)×List ((Int×List (Int)))×Int×Int×Int)
abbrev qT84:Type:=(Int×List (qT35)×Int×List ((Nat×List (qT3))))
abbrev qB85:BKd:=(.vars (lc [.slf 8 1,ki,.slf 1 2,ki,ki,.p (.int .u8),ki,ki,ks,ki,ki,ks,ki,ki,.p (.sl .byte)] qL11))
abbrev qB86:BKd:=(.vars (ln [ki,.p qY22]))
abbrev qL87:KdL:=(lc [.own 0 100 0 0,.own 0 101 0 0] qL6)
abbrev qB88:BKd:=(.vars (ln [.nilp (.slice none 0 0)]))
abbrev qT89:Type:=(Int×Int×Int×Int×Int×Bool×Int×Bool×Int)
theorem mixed:Tryz.prog.follows .mixedOrders=true:=by kernel_rfl
abbrev lf:Ov:=.leaf
abbrev zba:KdL:=.nil
abbrev zaa:KdL:=(lc [kb] zba)
abbrev zab:Ov:=(.two lf lf)
abbrev zac:Ov:=(.reg [(0,{ids:=[100]})])
abbrev zad:Ov:=(.reg [(0,{ids:=[100]}),(1,{ids:=[101]})])
abbrev zae:Nat×Bool×BKd:=(0,false,(.vars qL6))
abbrev zaf:HK:=[(0,false,(.vars (ln [.slf 1 1]))),(1,false,(.rows 3 ti)),(2,false,qB52),(3,false,(.vars qL15))]
abbrev zbG:Nat×Bool×BKd:=(2,false,(.vars qL6))
abbrev zag:HK:=[(0,false,(.vars (ln [.mp 1]))),(1,false,qB59),zbG]
abbrev zbI:Nat×Bool×BKd:=(0,false,qB13)
abbrev zay:Nat×Bool×BKd:=(1,false,(.map qY5 (.sl .byte)))
abbrev zbP:Nat×Bool×BKd:=(100,false,(.rows 36 qY9))
abbrev zbc:Nat×Bool×BKd:=(101,false,(.vars qL11))
abbrev zcy:Nat×Bool×BKd:=(102,false,qB40)
abbrev zc5:Nat×Bool×BKd:=(108,false,(.rows 34 (.sl .byte)))
abbrev zbK:Nat×Bool×BKd:=(109,false,(.rows 3 ti))
abbrev zah:HK:=[zbI,zay,zbP,zbc,zcy,zc5,zbK,(110,false,(.vars (lc [ki,ki] qL57)))]
abbrev zen:Nat×Bool×BKd:=(103,false,qB27)
abbrev zcc:Nat×Bool×BKd:=(102,false,(.map qY5 (.sl .byte)))
abbrev zbj:Nat×Bool×BKd:=(106,false,(.rows 30 (.pair qY56 (.sl (.sl .byte)))))
abbrev zai:HK:=[zen,zcc,zbj,(107,false,(.rows 33 qY5)),(108,false,(.rows 36 qY9))]
abbrev zaj:Nat×Bool×BKd:=(999985,false,qB42)
abbrev zb4:Nat×Bool×BKd:=(999985,false,(.fam 40 qY2))
abbrev zak:HK:=[(100,false,(.vars (ln [ki,.slf 3 102]))),(102,false,(.rows 141 qY43)),(101,false,(.vars qL41)),zb4]
abbrev zal:Ov:=(tw [.reg [(0,{ids:=[100]}),(2,{ids:=[101]})]] lf)
abbrev zcO:Nat×Bool×BKd:=(102,false,(.rows 71 qY0))
abbrev zam:HK:=[(100,false,qB69),zcO,(105,false,(.rows 141 qY43)),(103,false,qB46),(101,false,qB45),zb4]
abbrev zan:Nat×Bool×BKd:=(1,false,(.rows 71 qY0))
abbrev zfp:Nat×Bool×BKd:=(0,true,qB23)
abbrev zck:Nat×Bool×BKd:=(102,false,(.vars (ln [.slf 8 101,ki,.slf 1 103])))
abbrev zcM:Nat×Bool×BKd:=(101,false,(.rows 71 qY0))
abbrev zc4:Nat×Bool×BKd:=(103,false,(.rows 34 (.sl .byte)))
abbrev zao:HK:=[zfp,(100,false,(.vars qL81)),zck,zcM,zc4]
abbrev zap:HK:=[zbI,zay,zbP,zbc,zcy,zc5,zbK]
abbrev zaq:Nat×Bool×BKd:=(999984,false,(.fam 73 qY5))
abbrev zbd:Ov:=(.reg [(2,{ids:=[102]})])
abbrev zdv:Nat×Bool×BKd:=(100,false,qB75)
abbrev za0:Nat×Bool×BKd:=(101,false,qB53)
abbrev zbk:HK:=[zdv,zcO,za0]
abbrev zfb:LShp:=⟨[1,2],⟨qL65,zbk⟩⟩
abbrev zar:Ov:=(tw [zbd,.two lf (.one (.loop ⟨[1,2,11],⟨qL87,zbk⟩⟩ false [(0,zfb)] (tw [lf,lf,.one (.two lf (.reg [(12,{ids:=[103],fn:=1}),(19,{ids:=[104],fn:=2})]))] lf)))] lf)
abbrev zas:HK:=[zae,(1,false,(.vars qL33)),(2,false,(.vars (ln [.mp 3]))),(3,false,qB59)]
abbrev zat:Ov:=(.two lf zab)
abbrev zau:List Shp:=[⟨zaa,[]⟩]
abbrev zaU:Shp:=⟨qL6,[]⟩
abbrev zbO:Shp:=⟨zba,[]⟩
abbrev zaM:List (Nat×LShp):=[(0,⟨[],zbO⟩)]
abbrev zav:Ov:=(tw [.two lf (.one (.loop ⟨[8],zaU⟩ true zaM (tw [lf,lf,.one (tw [lf,.reg [(5,{})]] zab)] lf)))] lf)
abbrev zaw:HK:=[zae,(1,false,(.vars qL6)),(2,false,(.vars (ln [.slf 1 3]))),(3,false,(.rows 5 .byte))]
abbrev zdz:Shp:=⟨qL57,[]⟩
abbrev zeT:Ov:=(.reg [(6,{})])
abbrev zeV:Ov:=(tw [.reg [(11,{})]] lf)
abbrev zax:Ov:=(tw [lf,lf,.one (.loop ⟨[9,10],zdz⟩ false [(0,⟨[9],zaU⟩)] (.two zab (.one (tw [lf,zeT] (.join ⟨[9,10],zdz⟩ false [] lf)))))] zeV)
abbrev zaz:Ov:=(.reg [(0,{ids:=[100]}),(1,{ids:=[101]}),(2,{ids:=[102]})])
abbrev zbU:Nat×Bool×BKd:=(2,false,qB46)
abbrev zbl:Nat×Bool×BKd:=(3,false,(.rows 73 qY5))
abbrev zdS:Nat×Bool×BKd:=(101,false,(.rows 73 qY5))
abbrev zc1:Nat×Bool×BKd:=(4,false,(.rows 71 qY0))
abbrev zem:Nat×Bool×BKd:=(100,false,(.vars (lc [.slf 8 4] qL6)))
abbrev zaA:HK:=[(0,false,qB48),zan,zbU,zbl,zdS,zc1,zem]
abbrev zaB:HK:=[(0,false,qB4)]
abbrev zaC:Nat×Bool×BKd:=(100,false,qB52)
abbrev zc2:Nat×Bool×BKd:=(4,false,(.rows 73 qY5))
abbrev zaD:HK:=[(0,false,(.vars (ln [ki,.slf 8 1,ki,ki,.p qY22,.slf 2 2,.slf 2 100,ki,.slf 2 4]))),zan,zbU,(100,false,(.rows 73 qY5)),zc2]
abbrev zaE:HK:=[(0,false,(.vars (ln [ki,.slf 8 1,ki,ki,.p qY22,.slf 2 2,.slf 2 3,ki,.slf 2 4]))),zan,zbU,zbl,zc2]
abbrev zaF:KdL:=(lc [.agg (lc [.slf 8 0] qL6)] zba)
abbrev zeW:Nat×Bool×BKd:=(0,false,qB70)
abbrev zbf:Nat×Bool×BKd:=(1,true,(.rows 71 qY0))
abbrev zbm:Nat×Bool×BKd:=(100,false,(.rows 99 qY16))
abbrev zej:Nat×Bool×BKd:=(5,true,(.rows 36 qY9))
abbrev zds:Nat×Bool×BKd:=(6,false,(.vars qL6))
abbrev zbX:Nat×Bool×BKd:=(7,false,(.vars qL6))
abbrev zaG:HK:=[zeW,zbf,zbG,(3,false,(.vars (ln [.slf 4 100]))),zbm,(4,false,(.vars (ln [.slf 4 101]))),(101,false,(.rows 99 qY16)),zej,zds,zbX]
abbrev zez:Nat×Bool×BKd:=(0,false,(.vars (lc [.slf 8 1] qL6)))
abbrev zbR:Nat×Bool×BKd:=(999986,false,qB42)
abbrev zaH:HK:=[zez,(1,false,(.rows 71 qY24)),zaq,zbR]
abbrev zaI:Nat×Bool×BKd:=(0,false,(.vars (ln [.fn 97 .nil (ln [.own 8 1 0 0,.own 0 2 0 0,.own 0 3 0 0,.own 0 5 0 0])])))
abbrev zaJ:HK:=[zen,zcc,zbj,(107,false,(.rows 33 qY5))]
abbrev zaK:Nat×Bool×BKd:=(102,false,(.vars (lc [ki,ki,kb,kb,ki] qL81)))
abbrev zeU:KdL:=(lc [.own 0 104 0 0] qL6)
abbrev zcs:Nat×Bool×BKd:=(103,false,(.vars qL11))
abbrev zaL:LShp:=⟨[2,3,4,5,6,8],⟨(lc [.own 0 100 0 0,.own 0 101 0 0,.own 0 102 0 0,.own 0 103 0 0] zeU),[(100,false,qB68),(101,false,qB29),(102,false,(.vars qL81)),zcs,(104,false,qB23)]⟩⟩
abbrev zaN:HK:=[(0,false,qB72),(1,false,(.vars qL6))]
abbrev zcp:KdL:=(lc [.own 0 102 0 0] zaa)
abbrev zcT:Nat×Bool×BKd:=(101,false,qB59)
abbrev zd8:Nat×Bool×BKd:=(102,false,(.vars qL15))
abbrev zaO:Shp:=⟨(lc [.own 0 100 0 0,.mp 101] zcp),[zaC,zcT,zd8]⟩
abbrev zaP:HK:=[(100,false,(.vars (ln [ki,.slf 8 102,ki,ki,.p qY22,.slf 2 103,.p (.sl qY5)]))),zcO,(103,false,qB46),(101,false,qB45)]
abbrev zaQ:HK:=[zbI,zay,zbP,zbc,zcy,zc4]
abbrev zaR:KdL:=(lc [.fn 99 .nil (ln [.own 0 0 0 0,.own 12 5 0 0,.own 0 6 0 0,.own 0 7 0 0])] zba)
abbrev zaS:Nat×Bool×BKd:=(100,false,(.rows 49 qY14))
abbrev zcZ:Nat×Bool×BKd:=(101,false,(.vars qL57))
abbrev zcq:Nat×Bool×BKd:=(102,false,(.vars qL57))
abbrev zaT:Shp:=⟨(lc [.own 0 100 0 0,.own 0 101 0 0,.own 0 102 0 0,.own 0 103 0 0,.slf 8 105] zaa),[zaC,zcZ,zcq,(103,false,qB53),(105,false,(.rows 71 qY0))]⟩
abbrev zaV:HK:=[(0,false,qB67),(1,false,qB72)]
abbrev zfs:KdL:=(lc [.slf 1 109] zba)
abbrev zaW:LShp:=⟨[0,3,4,14],⟨(lc [.own 0 0 0 0,.own 12 100 0 0,.own 0 101 0 0] zfs),[zbI,zay,zbP,zbc,zbK]⟩⟩
abbrev zaX:Shp:=⟨(lc [.p qY56] zba),[]⟩
abbrev zaY:HK:=[(101,false,qB29),(102,false,(.vars qL81)),zcs,(107,false,(.vars (ln [.slf 8 106,ki,.slf 1 108]))),(106,false,(.rows 71 qY0)),zc5]
abbrev zaZ:List Shp:=[⟨(lc [.agg qL39] zba),[]⟩]
abbrev za1:Nat×Bool×BKd:=(0,true,(.rows 71 qY8))
abbrev za2:HK:=[zez,(1,false,(.rows 71 qY8)),zaj]
abbrev za3:LShp:=⟨[0,3,4,6,13,14,16,17],⟨(lc [.own 0 0 0 0,.own 12 100 0 0,.own 0 101 0 0,.own 14 102 0 0,.slf 1 108,.slf 1 109,.own 0 110 0 0] zaa),zah⟩⟩
abbrev za4:Nat×Bool×BKd:=(102,false,(.vars (ln [.slf 1 101])))
abbrev zdo:KdL:=(lc [.p (.sl qY5)] qL6)
abbrev za5:KdL:=(lc [.agg (lc [.p (.sl qY0)] qL6)] zdo)
abbrev za6:KdL:=(lc [.fn 75 .nil (ln [.own 0 0 0 0,.own 0 2 0 0,.own 0 3 0 0])] zba)
abbrev zft:KdL:=(lc [.slf 1 100] zba)
abbrev zb3:HK:=[zae,(100,false,(.rows 5 .byte))]
abbrev za7:LShp:=⟨[2,7],⟨(lc [.own 0 0 0 0] zft),zb3⟩⟩
abbrev za8:Nat×Bool×BKd:=(0,false,(.rows 71 qY0))
abbrev za9:HK:=[(101,false,(.vars qL81)),(103,false,(.vars (ln [.slf 8 102,ki,.slf 1 104]))),zcO,(104,false,(.rows 34 (.sl .byte)))]
abbrev zbb:HK:=[(0,false,(.rows 71 qY8)),zaj]
abbrev zbe:HK:=[zdv,(102,false,(.rows 71 qY8)),za0,zaj]
abbrev zbg:Ov:=(.reg [(0,{ids:=[100]}),(1,{ids:=[101]}),(2,{ids:=[102]}),(3,{ids:=[103]})])
abbrev zbh:KdL:=(lc [.own 0 100 0 0,.own 0 101 0 0,.slf 8 102] qL6)
abbrev zbi:Nat×Bool×BKd:=(101,false,(.rows 3 ti))
abbrev zbn:Shp:=⟨qL76,zaB⟩
abbrev zbo:KdL:=(lc [ki,ks] qL6)
abbrev zbp:Ov:=(tw [zat,.two lf (.one (.loop ⟨[5],zaU⟩ true zaM (tw [zab,.one zat] lf)))] lf)
abbrev zbq:Ov:=(.join ⟨[10,11,12,14],⟨(lc [.own 0 103 0 0,.own 3 106 0 0,.slf 2 107,.own 12 108 0 0] zba),zai⟩⟩ false [] (tw [.reg [(8,{})]] lf))
abbrev zbr:KdL:=(lc [ks] zba)
abbrev zbs:Shp:=⟨(lc [.slf 2 0,.fn 196 .nil (ln [.own 0 1 0 0])] qL6),zaV⟩
abbrev zbt:Shp:=⟨(lc [.slf 2 0,.fn 196 .nil (ln [.own 0 1 0 0])] zba),zaV⟩
abbrev zbu:HK:=[(100,false,(.vars (ln [ki,.p (.sl ti)])))]
abbrev zbv:KdL:=(lc [ki] zaa)
abbrev zbw:KdL:=(lc [.fn 169 .nil (ln [.own 0 0 0 0,.own 0 2 0 0])] zba)
abbrev zbx:Nat×Bool×BKd:=(3,false,(.vars (ln [.slf 4 4])))
abbrev zby:Nat×Bool×BKd:=(106,false,(.vars (ln [.fn 97 .nil (ln [.own 8 100 0 0,.own 0 101 0 0,.own 0 104 0 0,.own 0 105 0 0])])))
abbrev zbz:KdL:=(lc [.agg (lc [.slf 8 0] qL6),.own 0 101 0 0,.own 0 103 0 0,.ownx 8 102 0,.slf 2 620083] zba)
abbrev zdW:HK:=[za8,(1,false,(.rows 34 (.sl .byte)))]
abbrev zbA:Shp:=⟨(lc [.agg (ln [.slf 8 0,ki,.slf 1 1])] zba),zdW⟩
abbrev zbB:KdL:=(lc [.own 0 100 0 0] qL6)
abbrev zbC:KdL:=(lc [.own 0 100 0 0] zba)
abbrev zbD:Nat×Bool×BKd:=(4,false,(.rows 99 qY16))
abbrev zbE:HK:=[zae,(1,false,qB61)]
abbrev zbF:Nat×Bool×BKd:=(0,false,(.rows 73 qY5))
abbrev zbH:KdL:=(lc [.p (.sl (.pair ti (.sl ti)))] zba)
abbrev zdR:Ov:=(.reg [(2,{})])
abbrev zbJ:Ov:=(.two zdR lf)
abbrev zeg:KdL:=(lc [.p (.sl (.sl .byte))] zba)
abbrev zbL:KdL:=(lc [.p (.sl qY16)] zeg)
abbrev zc9:Nat×Bool×BKd:=(100,false,(.vars qL6))
abbrev zce:Nat×Bool×BKd:=(101,false,(.rows 36 qY9))
abbrev zbM:Shp:=⟨(lc [.own 0 100 0 0,.own 12 101 0 0] zaa),[zc9,zce]⟩
abbrev zbN:Shp:=⟨(lc [.own 0 103 0 0,.own 3 106 0 0,.slf 2 107,.own 12 108 0 0] zaa),zai⟩
abbrev zbQ:Nat×Bool×BKd:=(2,false,(.vars (ln [.slf 4 3])))
abbrev zbS:Shp:=⟨qL79,[(100,false,qB29),(101,false,(.vars qL39))]⟩
abbrev zbT:Ov:=(.two lf zat)
abbrev zbV:KdL:=(lc [.own 0 102 0 0,.own 0 104 0 0] zaa)
abbrev zbW:KdL:=(lc [.own 0 103 0 0] zaa)
abbrev zbY:Ov:=(tw [tw [.reg [(1,{ids:=[106],fn:=1})]] lf] lf)
abbrev zbZ:KdL:=(lc [.slf 2 0] zba)
abbrev zb0:KdL:=(lc [.p (.sl ti)] qL6)
abbrev zb1:Shp:=⟨(lc [.p (.sl (.pair ti (.sl ti))),.fn 80 .nil .nil] zba),[]⟩
abbrev zb2:HK:=[(100,false,(.vars qL10))]
abbrev zb5:Ov:=(.two zat zal)
abbrev zb6:Ov:=(.reg [(2,{ids:=[101]})])
abbrev zb7:Ov:=(.reg [(1,{})])
abbrev zb8:KdL:=(lc [.p qY2] zba)
abbrev zb9:KdL:=(lc [.p qY5] zba)
abbrev zca:KdL:=(lc [.p qY9] zba)
abbrev zcb:Ov:=(tw [lf,lf,.one (tw [lf,.reg [(5,{sh:=[0,1,2,3]})]] zab)] lf)
abbrev zcd:LShp:=⟨[2,5],⟨(lc [.own 7 100 0 0,.mp 101] zba),[zaS,zcT]⟩⟩
abbrev zev:KdL:=(lc [.fn 168 .nil qL80] zba)
abbrev zcf:Shp:=⟨(lc [.p (.sl (.pair .str ti))] zev),zaN⟩
abbrev zcg:Nat×Bool×BKd:=(100,false,qB86)
abbrev zch:Ov:=(tw [lf,lf,.one (tw [lf,.reg [(5,{sh:=[0,1]})]] zab)] lf)
abbrev zci:HK:=[(0,false,qB48),zan,zbU,zbl,zdS,(100,false,(.rows 73 qY5))]
abbrev zcj:List Shp:=[⟨qL6,zaB⟩]
abbrev zcl:Ov:=(tw [.reg [(1,{ids:=[107],fn:=1})]] lf)
abbrev zcm:Ov:=(tw [.reg [(1,{ids:=[108],fn:=1})]] lf)
abbrev zcn:Ov:=(tw [lf,lf,.one zbT] lf)
abbrev zco:KdL:=(lc [.p (.sl .byte)] zba)
abbrev zcr:Nat×Bool×BKd:=(104,false,(.vars (ln [.slf 1 103])))
abbrev zct:KdL:=(lc [.fn 92 .nil (ln [.own 0 0 0 0,.own 8 1 0 0])] zba)
abbrev zcu:Shp:=⟨(lc [.p (.pair ti (.pair ti (.sl qY2)))] qL6),[]⟩
abbrev zcv:Shp:=⟨(lc [.own 7 100 0 0,.mp 101] qL6),[zaS,zcT]⟩
abbrev zey:KdL:=(lc [.fn 164 .nil qL76] zba)
abbrev zcw:Shp:=⟨(lc [.p (.sl (.sl .byte))] zey),[zae]⟩
abbrev zcx:Ov:=(.reg [(1,{fn:=1})])
abbrev zcz:KdL:=(lc [.p qY0] zba)
abbrev zcA:Ov:=(tw [.reg [(3,{})]] lf)
abbrev zcB:Ov:=(.reg [(3,{ids:=[103]})])
abbrev zcC:Ov:=(.reg [(1,{ids:=[100]})])
abbrev zdH:Nat×Bool×BKd:=(102,false,(.rows 71 qY24))
abbrev zcD:HK:=[za1,zdv,zdH,za0,zaq,zaj,zbR]
abbrev zcE:Nat×Bool×BKd:=(102,false,(.rows 71 qY36))
abbrev zcF:KdL:=(lc [.agg (lc [.slf 8 0] qL6),.own 0 101 0 0] zbW)
abbrev zcG:KdL:=(lc [.p (.sl ti)] zba)
abbrev zcH:Shp:=⟨(lc [.own 0 102 0 0] zbW),[zaK,(103,false,(.vars qL15))]⟩
abbrev zcI:Shp:=⟨(lc [.p qY56,.p qY5,ks] zaa),[]⟩
abbrev zcJ:HK:=[(100,false,qB68)]
abbrev zex:KdL:=(lc [.fn 133 .nil qL80] zba)
abbrev zcK:Shp:=⟨(lc [.p (.sl qY2)] zex),zbE⟩
abbrev zcL:Shp:=⟨(lc [.p (.sl qY16),.fn 165 .nil .nil] zba),[]⟩
abbrev zeE:KdL:=(lc [.fn 83 .nil qL64] zba)
abbrev zcN:Shp:=⟨(lc [.p (.sl qY5)] zeE),zas⟩
abbrev zdL:KdL:=(lc [.slf 1 0] zba)
abbrev zcP:Shp:=⟨zdL,[(0,false,(.rows 3 ti))]⟩
abbrev zcQ:Ov:=(.reg [(4,{ids:=[104],sh:=[620083],md:=[520083,0],fn:=3})])
abbrev zcR:Nat×Bool×BKd:=(2,false,(.rows 99 qY16))
abbrev zcS:Nat×Bool×BKd:=(3,false,(.rows 99 qY16))
abbrev zcU:Ov:=(tw [.reg [(2,{ids:=[102]}),(5,{ids:=[103],fn:=1})]] lf)
abbrev zcV:Ov:=(.two lf (.pre (.pureCell 0 0) (.pre (.pureCell 0 2) lf)))
abbrev zcW:Ov:=(.reg [(5,{md:=[2,0,0],fn:=2}),(10,{md:=[2,0,0],fn:=2})])
abbrev zcX:Nat×Bool×BKd:=(101,false,(.vars qL10))
abbrev zcY:Shp:=⟨(lc [.p (.sl (.pair .str ti))] za6),zaf⟩
abbrev zc0:Shp:=⟨(lc [.own 0 0 0 0,.slf 1 100] zaa),zb3⟩
abbrev zc3:Shp:=⟨(lc [.p (.pair qY56 (.sl (.sl .byte)))] zba),[]⟩
abbrev zfq:Ov:=(.two lf zbT)
abbrev zc6:Ov:=(.one zfq)
abbrev zc7:HK:=[(0,false,(.vars (ln [.slf 4 100]))),zbm,zbf]
abbrev zc8:Nat×Bool×BKd:=(102,false,(.vars qL6))
abbrev zda:KdL:=(lc [.own 0 100 0 0,.own 0 102 0 0] zba)
abbrev zdb:KdL:=(lc [.own 0 102 0 0] zeU)
abbrev zdc:Ov:=(.reg [(2,{ids:=[103]}),(3,{ids:=[104],md:=[0,1]})])
abbrev zdd:Ov:=(tw [lf,.reg [(5,{ids:=[102],fn:=1})]] zat)
abbrev zde:KdL:=(lc [ki] zca)
abbrev zdf:Ov:=(tw [.reg [(2,{ids:=[103]}),(3,{ids:=[104]})]] lf)
abbrev zdg:Ov:=(tw [tw [.reg [(1,{ids:=[109],fn:=1})]] lf] lf)
abbrev zdh:KdL:=(lc [.own 0 0 0 0,ki] zbr)
abbrev zdi:Shp:=⟨(lc [.agg (lc [.slf 8 0] qL6)] qL6),zbb⟩
abbrev zdj:Ov:=(.reg [(0,{ids:=[100]}),(1,{ids:=[101],md:=[1]})])
abbrev zdk:Ov:=(.reg [(1,{ids:=[103,999985]}),(2,{ids:=[104]})])
abbrev zdl:Ov:=(.reg [(1,{ids:=[102,999985]}),(2,{ids:=[103]})])
abbrev zdm:Shp:=⟨(lc [.p (.pair ti qY22)] zba),[]⟩
abbrev zdn:KdL:=(lc [.p (.sl qY5)] zba)
abbrev zdp:Ov:=(.reg [(0,{ids:=[102]})])
abbrev zdq:Ov:=(.reg [(0,{ids:=[101]})])
abbrev zdr:Ov:=(.reg [(3,{ids:=[102]})])
abbrev zdt:KdL:=(lc [.p (.sl (.pair .str ti))] zba)
abbrev zdu:Ov:=(.reg [(2,{sh:=[0,1]})])
abbrev zdw:LShp:=⟨[0,5],⟨(lc [.slf 2 0] qL6),[zbF]⟩⟩
abbrev zdx:Ov:=(.two zab lf)
abbrev zdy:HK:=[za1,(1,false,(.rows 71 qY24)),zaq,zaj,zbR]
abbrev zdA:HK:=[(0,false,qB59)]
abbrev zdB:KdL:=(lc [.agg qL57] qL6)
abbrev zdC:Ov:=(.reg [(2,{ids:=[101]}),(3,{ids:=[102]})])
abbrev zdD:List Shp:=[⟨zbv,[]⟩]
abbrev zdE:Ov:=(.reg [(1,{sh:=[0]})])
abbrev zdF:KdL:=(lc [.agg (lc [.slf 8 0] qL6)] qL65)
abbrev zdG:Ov:=(.reg [(2,{sh:=[103,102,999985],fn:=1})])
abbrev zdI:Nat×Bool×BKd:=(102,false,(.rows 99 qY16))
abbrev zdJ:Nat×Bool×BKd:=(103,false,(.rows 5 .byte))
abbrev zdK:Nat×Bool×BKd:=(102,false,(.rows 49 qY14))
abbrev zdM:KdL:=(lc [kb] qL6)
abbrev zdN:KdL:=(lc [.agg (lc [.slf 8 0] qL6)] zbh)
abbrev zdO:KdL:=(lc [.agg (lc [.slf 8 1] qL6)] zba)
abbrev zdP:Ov:=(.reg [(3,{}),(5,{ids:=[100],md:=[1]})])
abbrev zdQ:List Shp:=[⟨zaF,[za8]⟩]
abbrev zdT:Nat×Bool×BKd:=(113,false,(.rows 71 qY0))
abbrev zdU:Ov:=(tw [.reg [(45,{}),(52,{fn:=1})]] lf)
abbrev zdV:Ov:=(tw [.reg [(2,{sh:=[0,1,2,3]})]] lf)
abbrev zdX:Nat×Bool×BKd:=(0,false,(.rows 5 .byte))
abbrev zdY:Ov:=(.reg [(2,{fn:=1})])
abbrev zdZ:Ov:=(.reg [(4,{fn:=3})])
abbrev zd0:Nat×Bool×BKd:=(5,false,(.rows 99 qY16))
abbrev zd1:Nat×Bool×BKd:=(6,false,(.rows 99 qY16))
abbrev zd2:Nat×Bool×BKd:=(9,false,(.rows 99 qY16))
abbrev zd3:Shp:=⟨(lc [.own 0 0 0 0] qL57),zaB⟩
abbrev zd4:Shp:=⟨qL63,[(100,false,(.vars qL15))]⟩
abbrev zd5:Shp:=⟨(lc [.p (.sl qY5)] zbw),zag⟩
abbrev zd6:Shp:=⟨(lc [.p (.int .u8)] zba),[]⟩
abbrev zd7:Shp:=⟨(lc [.own 0 0 0 0] qL6),zaB⟩
abbrev zd9:Nat×Bool×BKd:=(5,false,(.rows 73 qY5))
abbrev zea:Nat×Bool×BKd:=(116,false,(.vars qL10))
abbrev zeb:HK:=[(100,false,(.rows 3 ti))]
abbrev zec:HK:=[za4,zbi,(104,false,(.vars qL15))]
abbrev zed:HK:=[(0,false,(.rows 34 (.sl .byte)))]
abbrev zee:Nat×Bool×BKd:=(111,false,(.vars (lc [.slf 8 110] qL6)))
abbrev zef:Ov:=(.reg [(9,{}),(13,{ids:=[100]})])
abbrev zeh:Ov:=(.reg [(2,{ids:=[102],md:=[1]})])
abbrev zei:Nat×Bool×BKd:=(1,false,(.vars (ln [.slf 4 102])))
abbrev zek:Shp:=⟨zaF,zbb⟩
abbrev zel:Nat×Bool×BKd:=(103,false,qB75)
abbrev zeo:Shp:=⟨(lc [.agg qL15] qL6),[]⟩
abbrev zep:Nat×Bool×BKd:=(0,false,(.vars (ln [.slf 4 2])))
abbrev zeq:Nat×Bool×BKd:=(1,false,(.vars (ln [.slf 4 4])))
abbrev zer:Nat×Bool×BKd:=(1,false,(.vars (ln [.slf 4 2])))
abbrev zes:Nat×Bool×BKd:=(1,false,(.vars (ln [.slf 4 5])))
abbrev zet:Nat×Bool×BKd:=(5,false,(.vars (ln [.slf 4 6])))
abbrev zeu:Nat×Bool×BKd:=(3,false,(.vars (ln [.slf 4 9])))
abbrev zew:KdL:=(lc [.fn 213 .nil .nil] zba)
abbrev zeA:Ov:=(.reg [(13,{})])
abbrev zeB:Shp:=⟨(lc [.p qY56] zb9),[]⟩
abbrev zeC:Shp:=⟨(lc [ks] zbr),[]⟩
abbrev zeD:Shp:=⟨(lc [.p qY56] zbo),[]⟩
abbrev zeF:Nat×Bool×BKd:=(8,false,(.vars qL6))
abbrev zeG:Shp:=⟨qL63,[zaC]⟩
abbrev zeH:KdL:=(lc [.own 0 100 0 0] qL57)
abbrev zeI:Shp:=⟨(lc [.p qY0] qL6),[]⟩
abbrev zeJ:Ov:=(.reg [(1,{md:=[2],fn:=1})])
abbrev zeK:HK:=[(103,false,(.rows 71 qY0))]
abbrev zeL:KdL:=(lc [.own 0 102 0 0] qL6)
abbrev zeM:KdL:=(lc [.own 0 101 0 0] zbV)
abbrev zeN:KdL:=(lc [.own 0 111 0 0] zaa)
abbrev zeO:KdL:=(lc [.own 4 100 0 0] zba)
abbrev zeP:KdL:=(lc [.own 4 100 0 0] zaa)
abbrev zeQ:KdL:=(lc [ki] zbL)
abbrev zeR:Ov:=(.reg [(3,{}),(7,{fn:=1})])
abbrev zeS:KdL:=(lc [.own 0 104 0 0] zba)
abbrev zeX:LShp:=⟨[2,3,4],⟨qL64,zaw⟩⟩
abbrev zeY:Shp:=⟨zbZ,[(0,false,qB46)]⟩
abbrev zeZ:Ov:=(.two zcx zab)
abbrev ze0:KdL:=(lc [.own 0 3 0 0] zba)
abbrev ze1:Ov:=(.reg [(2,{ids:=[103]})])
abbrev ze2:Ov:=(.reg [(2,{ids:=[104]})])
abbrev ze3:Ov:=(.reg [(7,{ids:=[103]})])
abbrev ze4:KdL:=(lc [.own 0 0 0 0] zbo)
abbrev ze5:Ov:=(.reg [(5,{ids:=[101]})])
abbrev ze6:Ov:=(.reg [(4,{ids:=[100]})])
abbrev ze7:HK:=[za1,zdv,zcE,za0,zaq,zaj]
abbrev ze8:Ov:=(.reg [(0,{ids:=[105]})])
abbrev ze9:LShp:=⟨[1,2],⟨qL65,zam⟩⟩
abbrev zfa:Shp:=⟨qL63,zcJ⟩
abbrev zfc:LShp:=⟨[1,2],⟨qL65,zbe⟩⟩
abbrev zfd:Ov:=(.reg [(4,{md:=[2,0]})])
abbrev zfe:Shp:=⟨qL63,zb2⟩
abbrev zff:Nat×Bool×BKd:=(102,false,(.rows 34 (.sl .byte)))
abbrev zfg:LShp:=⟨[1,2],⟨qL65,zak⟩⟩
abbrev zfh:Nat×Bool×BKd:=(116,false,(.rows 34 (.sl .byte)))
abbrev zfi:List Shp:=[zaU]
abbrev zfj:Ov:=(.two zb7 lf)
abbrev zfk:LShp:=⟨[1],⟨zbC,[zaC]⟩⟩
abbrev zfl:HK:=[zaC,za4,zbi]
abbrev zfm:KdL:=(lc [.slf 8 101] qL6)
abbrev zfn:KdL:=(lc [.slf 8 101] zba)
abbrev zfo:Ov:=(tw [lf,zcm] lf)
abbrev zfr:KdL:=(lc [.slf 1 100] qL6)
theorem tk{T:List FnT}(fu:Nat){f:FuncId}{fn:Func}(fa:FnA){spec:fa.i.D->Option (OutS fa.os)}(hT:∀e∈T,Told Tryz.prog e)(hf:Tryz.prog.funcs[f]? =some fn)(hb:(fn.body.isSome&&!(fn.name=="runtime.NumGoroutine"))=true)(hs:∀t,evF Tryz.prog T fu fn fa t=spec t):Told Tryz.prog ⟨f,fa.i,fa.os,spec⟩:=by
 have h:=(ZAF _ _).mp hb;exact uLZ hT mixed hf (by simpa using h.2) h.1 hs
def u2{a b W:Type}(F:a->b->W)(t:a×b):=F t.1 t.2
def u3{a b c W:Type}(F:a->b->c->W)(t:a×b×c):=u2 (F t.1) t.2
def u4{a b c d W:Type}(F:a->b->c->d->W)(t:a×b×c×d):=u3 (F t.1) t.2
def u5{a b c d e W:Type}(F:a->b->c->d->e->W)(t:a×b×c×d×e):=u4 (F t.1) t.2
def u6{a b c d e f W:Type}(F:a->b->c->d->e->f->W)(t:a×b×c×d×e×f):=u5 (F t.1) t.2
def u7{a b c d e f g W:Type}(F:a->b->c->d->e->f->g->W)(t:a×b×c×d×e×f×g):=u6 (F t.1) t.2
def u8{a b c d e f g h W:Type}(F:a->b->c->d->e->f->g->h->W)(t:a×b×c×d×e×f×g×h):=u7 (F t.1) t.2
def u9{a b c d e f g h i W:Type}(F:a->b->c->d->e->f->g->h->i->W)(t:a×b×c×d×e×f×g×h×i):=u8 (F t.1) t.2
def u10{a b c d e f g h i j W:Type}(F:a->b->c->d->e->f->g->h->i->j->W)(t:a×b×c×d×e×f×g×h×i×j):=u9 (F t.1) t.2
def u11{a b c d e f g h i j k W:Type}(F:a->b->c->d->e->f->g->h->i->j->k->W)(t:a×b×c×d×e×f×g×h×i×j×k):=u10 (F t.1) t.2
def u12{a b c d e f g h i j k l W:Type}(F:a->b->c->d->e->f->g->h->i->j->k->l->W)(t:a×b×c×d×e×f×g×h×i×j×k×l):=u11 (F t.1) t.2
def u13{a b c d e f g h i j k l m W:Type}(F:a->b->c->d->e->f->g->h->i->j->k->l->m->W)(t:a×b×c×d×e×f×g×h×i×j×k×l×m):=u12 (F t.1) t.2
def u14{a b c d e f g h i j k l m n W:Type}(F:a->b->c->d->e->f->g->h->i->j->k->l->m->n->W)(t:a×b×c×d×e×f×g×h×i×j×k×l×m×n):=u13 (F t.1) t.2
def u15{a b c d e f g h i j k l m n o W:Type}(F:a->b->c->d->e->f->g->h->i->j->k->l->m->n->o->W)(t:a×b×c×d×e×f×g×h×i×j×k×l×m×n×o):=u14 (F t.1) t.2
def u16{a b c d e f g h i j k l m n o p W:Type}(F:a->b->c->d->e->f->g->h->i->j->k->l->m->n->o->p->W)(t:a×b×c×d×e×f×g×h×i×j×k×l×m×n×o×p):=u15 (F t.1) t.2
def u17{a b c d e f g h i j k l m n o p q W:Type}(F:a->b->c->d->e->f->g->h->i->j->k->l->m->n->o->p->q->W)(t:a×b×c×d×e×f×g×h×i×j×k×l×m×n×o×p×q):=u16 (F t.1) t.2
def u18{a b c d e f g h i j k l m n o p q r W:Type}(F:a->b->c->d->e->f->g->h->i->j->k->l->m->n->o->p->q->r->W)(t:a×b×c×d×e×f×g×h×i×j×k×l×m×n×o×p×q×r):=u17 (F t.1) t.2
def u19{a b c d e f g h i j k l m n o p q r s W:Type}(F:a->b->c->d->e->f->g->h->i->j->k->l->m->n->o->p->q->r->s->W)(t:a×b×c×d×e×f×g×h×i×j×k×l×m×n×o×p×q×r×s):=u18 (F t.1) t.2
def u20{a b c d e f g h i j k l m n o p q r s x W:Type}(F:a->b->c->d->e->f->g->h->i->j->k->l->m->n->o->p->q->r->s->x->W)(t:a×b×c×d×e×f×g×h×i×j×k×l×m×n×o×p×q×r×s×x):=u19 (F t.1) t.2
def u21{a b c d e f g h i j k l m n o p q r s x y W:Type}(F:a->b->c->d->e->f->g->h->i->j->k->l->m->n->o->p->q->r->s->x->y->W)(t:a×b×c×d×e×f×g×h×i×j×k×l×m×n×o×p×q×r×s×x×y):=u20 (F t.1) t.2
def u22{a b c d e f g h i j k l m n o p q r s x y z W:Type}(F:a->b->c->d->e->f->g->h->i->j->k->l->m->n->o->p->q->r->s->x->y->z->W)(t:a×b×c×d×e×f×g×h×i×j×k×l×m×n×o×p×q×r×s×x×y×z):=u21 (F t.1) t.2
def u23{a b c d e f g h i j k l m n o p q r s x y z a1 W:Type}(F:a->b->c->d->e->f->g->h->i->j->k->l->m->n->o->p->q->r->s->x->y->z->a1->W)(t:a×b×c×d×e×f×g×h×i×j×k×l×m×n×o×p×q×r×s×x×y×z×a1):=u22 (F t.1) t.2
def u24{a b c d e f g h i j k l m n o p q r s x y z a1 b1 W:Type}(F:a->b->c->d->e->f->g->h->i->j->k->l->m->n->o->p->q->r->s->x->y->z->a1->b1->W)(t:a×b×c×d×e×f×g×h×i×j×k×l×m×n×o×p×q×r×s×x×y×z×a1×b1):=u23 (F t.1) t.2
def u25{a b c d e f g h i j k l m n o p q r s x y z a1 b1 c1 W:Type}(F:a->b->c->d->e->f->g->h->i->j->k->l->m->n->o->p->q->r->s->x->y->z->a1->b1->c1->W)(t:a×b×c×d×e×f×g×h×i×j×k×l×m×n×o×p×q×r×s×x×y×z×a1×b1×c1):=u24 (F t.1) t.2
def u26{a b c d e f g h i j k l m n o p q r s x y z a1 b1 c1 d1 W:Type}(F:a->b->c->d->e->f->g->h->i->j->k->l->m->n->o->p->q->r->s->x->y->z->a1->b1->c1->d1->W)(t:a×b×c×d×e×f×g×h×i×j×k×l×m×n×o×p×q×r×s×x×y×z×a1×b1×c1×d1):=u25 (F t.1) t.2
abbrev To(f:FuncId)(fa:FnA)(F:Nat->fa.i.D->Option (OutS fa.os)):Prop:=∀fu,Told Tryz.prog ⟨f,fa.i,fa.os,F fu⟩
abbrev Ta(T:Nat->Tbl):Prop:=∀fu,∀e∈T fu,Told Tryz.prog e
theorem tz:Ta λ_=>[]:=λ_=>abZ
theorem ta{e:Nat->FnT}{T:Nat->Tbl}(h:∀fu,Told Tryz.prog (e fu))(r:Ta T):Ta λfu=>e fu::T fu:=λfu=>aaZ (h fu) (r fu)
theorem tj{T:Nat->Tbl}{f:FuncId}{fn:Func}{fa:FnA}{F:Nat->fa.i.D->Option (OutS fa.os)}(hT:Ta T)(hf:Tryz.prog.funcs[f]? =some fn)(hb:(fn.body.isSome&&!(fn.name=="runtime.NumGoroutine"))=true:=by kernel_rfl)(hs:∀fu t,evF Tryz.prog (T fu) fu fn fa t=F fu t:=by intro _ _;kernel_rfl):To f fa F:=by
 have h:=(Bool.and_eq_true _ _).mp hb;exact λfu=>uLZ (hT fu) mixed hf (by simpa using h.2) h.1 (hs fu)
def v3{a b c W:Type}(F:Nat->a->b->c->W)(fu:Nat):a×b×c->W:=u3 (F fu)
def v4{a b c d W:Type}(F:Nat->a->b->c->d->W)(fu:Nat):a×b×c×d->W:=u4 (F fu)
def v5{a b c d e W:Type}(F:Nat->a->b->c->d->e->W)(fu:Nat):a×b×c×d×e->W:=u5 (F fu)
def v6{a b c d e f W:Type}(F:Nat->a->b->c->d->e->f->W)(fu:Nat):a×b×c×d×e×f->W:=u6 (F fu)
def v7{a b c d e f g W:Type}(F:Nat->a->b->c->d->e->f->g->W)(fu:Nat):a×b×c×d×e×f×g->W:=u7 (F fu)
def v8{a b c d e f g h W:Type}(F:Nat->a->b->c->d->e->f->g->h->W)(fu:Nat):a×b×c×d×e×f×g×h->W:=u8 (F fu)
def v9{a b c d e f g h i W:Type}(F:Nat->a->b->c->d->e->f->g->h->i->W)(fu:Nat):a×b×c×d×e×f×g×h×i->W:=u9 (F fu)
def v10{a b c d e f g h i j W:Type}(F:Nat->a->b->c->d->e->f->g->h->i->j->W)(fu:Nat):a×b×c×d×e×f×g×h×i×j->W:=u10 (F fu)
def v11{a b c d e f g h i j k W:Type}(F:Nat->a->b->c->d->e->f->g->h->i->j->k->W)(fu:Nat):a×b×c×d×e×f×g×h×i×j×k->W:=u11 (F fu)
def v12{a b c d e f g h i j k l W:Type}(F:Nat->a->b->c->d->e->f->g->h->i->j->k->l->W)(fu:Nat):a×b×c×d×e×f×g×h×i×j×k×l->W:=u12 (F fu)
def v14{a b c d e f g h i j k l m n W:Type}(F:Nat->a->b->c->d->e->f->g->h->i->j->k->l->m->n->W)(fu:Nat):a×b×c×d×e×f×g×h×i×j×k×l×m×n->W:=u14 (F fu)
def v24{a b c d e f g h i j k l m n o p q r s x y z a1 b1 W:Type}(F:Nat->a->b->c->d->e->f->g->h->i->j->k->l->m->n->o->p->q->r->s->x->y->z->a1->b1->W)(fu:Nat):a×b×c×d×e×f×g×h×i×j×k×l×m×n×o×p×q×r×s×x×y×z×a1×b1->W:=u24 (F fu)
def v26{a b c d e f g h i j k l m n o p q r s x y z a1 b1 c1 d1 W:Type}(F:Nat->a->b->c->d->e->f->g->h->i->j->k->l->m->n->o->p->q->r->s->x->y->z->a1->b1->c1->d1->W)(fu:Nat):a×b×c×d×e×f×g×h×i×j×k×l×m×n×o×p×q×r×s×x×y×z×a1×b1×c1×d1->W:=u26 (F fu)
def kit_Pick(a:Nat)(x n:Int):oN Int:=bif decide (n<1) then some 0 else need (!(decide (n=0)))<|bif (decide ((Int.tmod x n)<0)) then some (wI ((Int.tmod x n)+n)) else some (Int.tmod x n)
def kit_Pick_fa:FnA:=⟨tw [lf,zat,lf] zdx,zdz,zfi,[0]⟩
theorem iOZ:To 23 kit_Pick_fa λfu t=>kit_Pick fu t.1 t.2:=tj tz func23
def law25_three(a:Nat):oN (List (Int×List Int)):=some [(1,[0,1,2])]
def law25_three_fa:FnA:=⟨.two lf zal,zbO,[zeY],[0]⟩
theorem deZ:To 25 law25_three_fa λfu t=>law25_three fu:=tj tz func25
def rNew(a:Nat)(window:Int):oN (Int×Int):=Option.bind (α:=(Bool×Int)) (bif decide (window<1) then some (true,0) else some ((decide (window>100)),0)) λo=>bif o.1 then some (0,2) else some (window,0)
def rNew_fa:FnA:=⟨tw [zac,tw [.join ⟨[2,9],⟨qL63,[(100,false,(.vars qL41))]⟩⟩ false [] lf] zab] lf,zaU,[⟨(lc [.agg qL41] qL6),[]⟩],[0,0]⟩
theorem pHZ:To 55 rNew_fa rNew:=tj tz func55
def sInd_l0(a:Nat)(s:List Int)(v x:Int):oN (Int⊕(Unit⊕Int)):=bif (decide (x<(s.length:Int))) then (idx? x s.length).bind λq=>s[q]?.bind λr=>bif (v==r) then some (.inr (.inr x)) else some (.inl (wI (x+1))) else some (.inr (.inl ()))
def sInd_l0_it(b:Nat)(s:List Int)(v a:Int):oN (Unit⊕Int):=iter b (λa=>sInd_l0 b s v a) a
def sInd(b:Nat)(s:List Int)(v:Int):oN Int:=(sInd_l0_it b s v 0).bind λo=>match o with
 |.inl c=>some (-1)
 |.inr a=>some a
def sInd_fa:FnA:=⟨tw [lf,.two lf (.one (.loop ⟨[8],zaU⟩ true zaM zcn))] lf,⟨zb0,[]⟩,zfi,[0]⟩
theorem qkZ:To 172 sInd_fa λfu t=>sInd fu t.1 t.2:=tj tz func172
def sCon(a:Nat)(s:List Int)(v:Int):oN Bool:=(sInd a s v).bind λr=>some (decide (r>=0))
def sCon_fa:FnA:=⟨.two lf zbJ,⟨zb0,[]⟩,zau,[0]⟩
theorem rnZ:To 135 sCon_fa λfu t=>sCon fu t.1 t.2:=tj (ta qkZ tz) func135
def pRig_l0(e:Nat)(o:Bool×Int×List Int)(nodes x h:Int)(a:List Int):oN ((Int×Int×List Int)⊕(Unit⊕Bool)):=bif (decide (x<(o.2.2.length:Int))) then (idx? x o.2.2.length).bind λq=>o.2.2[q]?.bind λr=>Option.bind (α:=(Bool×Int×List Int)) (bif decide (r<0) then some (true,h,a) else bif decide (r>=nodes) then some (true,h,a) else (upto? x a.length).bind λc=>(sCon e (List.take c a) r).bind λd=>some (d,h,a)) λb=>bif b.1 then some (.inr (.inr false)) else some (.inl ((wI (x+1)),b.2)) else some (.inr (.inl ()))
def pRig_l0_it(a:Nat)(o:Bool×Int×List Int)(nodes:Int)(b:Int×Int×List Int):oN (Unit⊕Bool):=iter a (u3 (pRig_l0 a o nodes)) b
def pRig(c:Nat)(p:Int×List Int)(nodes:Int):oN Bool:=Option.bind (α:=(Bool×Int×List Int)) (bif decide (nodes<1) then some (true,p) else bif decide (nodes>256) then some (true,p) else bif decide (p.1<1) then some (true,p) else bif decide (p.1>1099511627776) then some (true,p) else bif (decide ((p.2.length:Int)<1)) then some (true,p) else some ((decide ((p.2.length:Int)>255)),p)) λo=>bif o.1 then some false else (pRig_l0_it c o nodes (0,o.2)).bind λa=>match a with
  |.inl s=>some true
  |.inr b=>some b
def pRig_fa:FnA:=⟨tw [zac,tw [.join ⟨[2,34],⟨qL63,zbu⟩⟩ false [] lf] zab,.two lf (.one (.loop ⟨[2,38],⟨zbB,zbu⟩⟩ true zaM (tw [lf,lf,.one (tw [lf,.join ⟨[2,57],⟨qL63,zbu⟩⟩ false [] zeA] zab)] lf)))] lf,⟨(lc [.p (.pair ti (.sl ti))] qL6),[]⟩,zau,[0]⟩
theorem pOZ:To 81 pRig_fa λfu t=>pRig fu t.1 t.2:=tj (ta rnZ tz) func81
def spla1(a:Nat)(p:Int×List Int):oN Bool:=(pRig a p 256).bind λr=>some (!r)
def spla1_fa:FnA:=⟨.two zac zfj,⟨(lc [.p (.pair ti (.sl ti))] zba),[]⟩,zau,[0]⟩
theorem nPZ:To 80 spla1_fa spla1:=tj (ta pOZ tz) func80
def sIndFun11_l0(b:Nat)(s:List (Int×List Int))(x:Int):oN (Int⊕(Unit⊕Int)):=bif (decide (x<(s.length:Int))) then (idx? x s.length).bind λq=>s[q]?.bind λr=>(spla1 b r).bind λa=>bif a then some (.inr (.inr x)) else some (.inl (wI (x+1))) else some (.inr (.inl ()))
def sIndFun11_l0_it(b:Nat)(s:List (Int×List Int))(a:Int):oN (Unit⊕Int):=iter b (λa=>sIndFun11_l0 b s a) a
def sIndFun11(b:Nat)(s:List (Int×List Int)):oN Int:=(sIndFun11_l0_it b s 0).bind λo=>match o with
 |.inl c=>some (-1)
 |.inr a=>some a
def sIndFun11_fa:FnA:=⟨.two lf zav,zb1,zfi,[0]⟩
theorem hkZ:To 136 sIndFun11_fa sIndFun11:=tj (ta nPZ tz) func136
def sConFun7(a:Nat)(s:List (Int×List Int)):oN Bool:=(sIndFun11 a s).bind λr=>some (decide (r>=0))
def sConFun7_fa:FnA:=⟨.two lf zbJ,zb1,zau,[0]⟩
theorem jqZ:To 82 sConFun7_fa sConFun7:=tj (ta hkZ tz) func82
def spla(a:Nat)(l:List (Int×List Int)):oN Bool:=bif (decide ((l.length:Int)>=1)) then bif (decide ((l.length:Int)<=1000)) then (sConFun7 a l).bind λr=>some (!r) else some false else some false
def spla_fa:FnA:=⟨tw [lf,lf] zeV,⟨zbH,[]⟩,zau,[0]⟩
theorem j3Z:To 35 spla_fa spla:=tj (ta jqZ tz) func35
def inode_New(a:Nat):oN (Int×List qT1):=some (0,[(1,1,true,true,0,[],1,[])])
def inode_New_fa:FnA:=⟨tw [zac,.reg [(1,{ids:=[101]})]] lf,zbO,zdQ,[0]⟩
theorem gXZ:To 56 inode_New_fa λfu t=>inode_New fu:=tj tz func56
def model_New(a:Nat):oN (Int×List qT1×List (List UInt8)):=(inode_New a).bind λr=>some (r.1,r.2,(List.replicate (α:=List UInt8) 1 []))
def model_New_fa:FnA:=⟨tw [zac,.reg [(0,{ids:=[101]}),(1,{ids:=[102]})]] lf,zbO,[zbA],[0]⟩
theorem dRZ:To 26 model_New_fa λfu t=>model_New fu:=tj (ta gXZ tz) func26
def sClo2(a:Nat)(s:List qT1):oN (List qT1):=nilQ s.length λisNil=>bif isNil then some [] else need ((Nat.ble ((0+s.length)*88) room)&&(Nat.ble (0+s.length) room))<|some s
def sClo2_fa:FnA:=⟨.two lf zb5,⟨(lc [.p (.sl qY0)] zba),[]⟩,[⟨(lc [.slf 8 0] zba),[za8]⟩],[81]⟩
theorem b9Z:To 124 sClo2_fa sClo2:=tj tz func124
def sClo3(a:Nat)(s:List (Int×Int)):oN (List (Int×Int)):=nilQ s.length λisNil=>bif isNil then some [] else need ((Nat.ble ((0+s.length)*16) room)&&(Nat.ble (0+s.length) room))<|some s
def sClo3_fa:FnA:=⟨.two lf zb5,⟨zdn,[]⟩,[⟨zbZ,[zbF]⟩],[83]⟩
theorem bXZ:To 105 sClo3_fa sClo3:=tj tz func105
def sClo(a:Nat)(s:List (List UInt8×Int)):oN (List (List UInt8×Int)):=nilQ s.length λisNil=>bif isNil then some [] else need ((Nat.ble ((0+s.length)*24) room)&&(Nat.ble (0+s.length) room))<|some s
def sClo_fa:FnA:=⟨.two lf zb5,⟨zdt,[]⟩,[⟨zbZ,[(0,false,qB67)]⟩],[128]⟩
theorem bMZ:To 104 sClo_fa sClo:=tj tz func104
def scop_l0(n:Nat)(r:List qT1)(x h:Int)(f:List qT1)(l:Int):oN ((Int×qT66)⊕(qT66)):=bif (decide (x<(r.length:Int))) then (idx? x f.length).bind λq=>f[q]?.bind λo=>(sClo3 n o.e).bind λj=>(idx? x f.length).bind λp=>f[p]?.bind λs=>(sClo n s.2.2.2.2.2.2.2).bind λt=>(idx? x f.length).bind λi=>f[i]?.bind λa=>(idx? x (List.set f i (a.1,a.2.1,a.b,a.c,a.d,j,a.E)).length).bind λm=>(List.set f i (a.1,a.2.1,a.b,a.c,a.d,j,a.E))[m]?.bind λg=>some (.inl ((wI (x+1)),h,(List.set (List.set f i (a.1,a.2.1,a.b,a.c,a.d,j,a.E)) m (g.1,g.2.1,g.b,g.c,g.d,g.e,g.2.2.2.2.2.2.1,t)),l)) else some (.inr (h,f,l))
def scop_l0_it(b:Nat)(r:List qT1)(a:Int×qT66):oN qT66:=iter b (λa=>scop_l0 b r a.1 a.2.1 a.2.2.1 a.2.2.2) a
def scop(a:Nat)(t:List qT1×Int):oN (Int×List qT1):=(sClo2 a t.1).bind λr=>(scop_l0_it a r (0,t.2,r,0)).bind λo=>some (o.1,o.2.1)
def scop_fa:FnA:=⟨.two zad zar,zaX,zdQ,[0]⟩
theorem kGZ:To 90 scop_fa scop:=tj (ta b9Z (ta bXZ (ta bMZ tz))) func90
def sClo7(a:Nat)(s:List (Int×List Int)):oN (List (Int×List Int)):=nilQ s.length λisNil=>bif isNil then some [] else need ((Nat.ble ((0+s.length)*32) room)&&(Nat.ble (0+s.length) room))<|some s
def sClo7_fa:FnA:=⟨.two lf zb5,⟨zbH,[]⟩,[zeY],[133]⟩
theorem nXZ:To 100 sClo7_fa sClo7:=tj tz func100
def sClo9(a:Nat)(s:List Int):oN (List Int):=nilQ s.length λisNil=>bif isNil then some [] else need ((Nat.ble ((0+s.length)*8) room)&&(Nat.ble (0+s.length) room))<|some s
def sClo9_fa:FnA:=⟨.two lf zb5,⟨zcG,[]⟩,[zcP],[13]⟩
theorem n9Z:To 101 sClo9_fa sClo9:=tj tz func101
def sClo6(a:Nat)(s:List qT20):oN (List qT20):=nilQ s.length λisNil=>bif isNil then some [] else need ((Nat.ble ((0+s.length)*40) room)&&(Nat.ble (0+s.length) room))<|some s
def sClo6_fa:FnA:=⟨.two lf zb5,⟨(lc [.p qY22] zba),[]⟩,[⟨(lc [.slf 3 0] zba),[(0,false,(.rows 141 (.pair ti (.pair ti (.sl qY2)))))]⟩],[151]⟩
theorem hIZ:To 102 sClo6_fa sClo6:=tj tz func102
def sClo5(a:Nat)(s:List qT3):oN (List qT3):=nilQ s.length λisNil=>bif isNil then some [] else need ((Nat.ble ((0+s.length)*120) room)&&(Nat.ble (0+s.length) room))<|some s
def sClo5_fa:FnA:=⟨.two lf zb5,⟨(lc [.p (.sl qY2)] zba),[]⟩,[⟨(lc [.slf 11 0] zba),[(0,false,(.rows 40 qY2))]⟩],[50]⟩
theorem hLZ:To 103 sClo5_fa sClo5:=tj tz func103
def sClo4(a:Nat)(s:List UInt8):oN (List UInt8):=nilQ s.length λisNil=>bif isNil then some [] else need ((Nat.ble ((0+s.length)*1) room)&&(Nat.ble (0+s.length) room))<|some s
def sClo4_fa:FnA:=⟨.two lf zb5,⟨zco,[]⟩,[⟨zdL,[zdX]⟩],[15]⟩
theorem cMZ:To 70 sClo4_fa sClo4:=tj tz func70
def state_own_l0(r:Nat)(m:List (Int×List Int))(x h b c:Int)(d:List qT20)(e:List (Int×Int))(f:List qT1)(a:List (Int×List Int))(g i j:Int):oN ((Int×qT83)⊕(qT83)):=bif (decide (x<(m.length:Int))) then (idx? x a.length).bind λq=>a[q]?.bind λn=>(sClo9 r n.2).bind λo=>(idx? x a.length).bind λl=>a[l]?.bind λp=>some (.inl ((wI (x+1)),h,b,c,d,e,f,(List.set a l (p.1,o)),g,i,j)) else some (.inr (h,b,c,d,e,f,a,g,i,j))
def state_own_l0_it(a:Nat)(b:List (Int×List Int))(c:Int×qT83):oN qT83:=iter a (u11 (state_own_l0 a b)) c
def state_own_l1(J:Nat)(K:qT35)(k:Nat)(j l n o:Int)(p:List (Int×Int))(q:List qT1)(h:List qT35)(r:List (Int×List Int))(t u w:Int)(i:List (Nat×List qT3)):oN ((Nat×Int×qT47)⊕(qT47)):=bif (decide (j<(((refLen (s:=qY2) K.A):Nat):Int))) then h[k]?.bind λy=>h[k]?.bind λz=>h[k]?.bind λB=>(refO B.A).bind λm=>(idx? j m.A).bind λL=>i[m.1]?.bind λm1=>need ((Nat.blt 0 m1.1)&&true)<|m1.2[(m.a+L)]?.bind λC=>(sClo4 J C.f).bind λx=>h[k]?.bind λD=>(refO D.A).bind λm2=>(idx? j m2.A).bind λM=>i[m2.1]?.bind λm3=>need ((Nat.blt 0 m3.1)&&true)<|m3.2[(m2.a+M)]?.bind λE=>(sClo J E.2.2.2.2.2.2.2.1).bind λG=>(refO y.A).bind λm4=>(idx? j m4.A).bind λH=>i[m4.1]?.bind λm5=>need (((Nat.beq m5.1 1)&&true)&&true)<|m5.2[(m4.a+H)]?.bind λb=>(refO z.A).bind λm6=>(idx? j m6.A).bind λI=>(List.set i m4.1 (1,(List.set m5.2 (m4.a+H) (b.1,b.a,b.2.2.1,b.c,b.d,b.e,x,b.F))))[m6.1]?.bind λm7=>need (((Nat.beq m7.1 1)&&true)&&true)<|m7.2[(m6.a+I)]?.bind λg=>some (.inl (k,(wI (j+1)),l,n,o,p,q,h,r,t,u,w,(List.set (List.set i m4.1 (1,(List.set m5.2 (m4.a+H) (b.1,b.a,b.2.2.1,b.c,b.d,b.e,x,b.F)))) m6.1 (1,(List.set m7.2 (m6.a+I) (g.1,g.a,g.2.2.1,g.c,g.d,g.e,g.f,G,g.2.2.2.2.2.2.2.2)))))) else some (.inr (l,n,o,p,q,h,r,t,u,w,i))
def state_own_l1_it(a:Nat)(b:qT35)(c:Nat×Int×qT47):oN qT47:=iter a (u13 (state_own_l1 a b)) c
def state_own_l2(q:Nat)(r:List qT20)(o d e f:Int)(g:List (Int×Int))(h:List qT1)(a:List qT35)(i:List (Int×List Int))(j l m:Int)(b:List (Nat×List qT3)):oN ((Int×qT47)⊕(qT47)):=bif (decide (o<(r.length:Int))) then (idx? o a.length).bind λc=>a[c]?.bind λs=>(lowD (.ref 1 qY2) s.2.2).bind λt=>(sClo5 q t).bind λp=>a[c]?.bind λn=>(List.set a c (n.1,n.2.1,(.inr (some (b.length,0,p.length)))))[c]?.bind λu=>(state_own_l1_it q u (c,0,d,e,f,g,h,(List.set a c (n.1,n.2.1,(.inr (some (b.length,0,p.length))))),i,j,l,m,(b++[(1,p)]))).bind λw=>some (.inl ((wI (o+1)),w)) else some (.inr (d,e,f,g,h,a,i,j,l,m,b))
def state_own_l2_it(b:Nat)(c:List qT20)(a:Int×qT47):oN qT47:=iter b (λa=>state_own_l2 b c a.1 a.2.1 a.2.2.1 a.2.2.2.1 a.2.2.2.2.1 a.2.2.2.2.2.1 a.2.2.2.2.2.2.1 a.2.2.2.2.2.2.2.1 a.2.2.2.2.2.2.2.2.1 a.2.2.2.2.2.2.2.2.2.1 a.2.2.2.2.2.2.2.2.2.2.1 a.2.2.2.2.2.2.2.2.2.2.2) a
def state_own(i:Nat)(s:qT17):oN (Int×Int×Int×List qT20×List qT1×List (Int×List Int)×List (Int×Int)):=(scop i s.2.1).bind λr=>(sClo7 i s.c).bind λm=>(state_own_l0_it i m (0,s.1,r.1,s.b.1,s.b.2,s.2.2.2.2,r.2,m,0,0,0)).bind λo=>(sClo6 i o.c).bind λn=>(state_own_l2_it i n (0,o.1,o.2.1,o.b,o.d,o.e,(List.map (liftT qY43) n),o.f,o.g,o.h,o.H,[])).bind λa=>(sClo3 i a.c).bind λj=>(unrefL (unrefD [⟨1,qY2,(List.map frz1 a.I)⟩] qY43) a.e).bind λl=>some (a.1,a.2.1,a.b,l,a.d,a.f,j)
def state_own_fa:FnA:=⟨tw [zad,zbd,.reg [(2,{ids:=[103],fn:=1})],.two lf (.one (.loop ⟨[1,2,18],⟨qL87,zaP⟩⟩ false [(0,⟨[1,2],⟨qL65,zaP⟩⟩)] (tw [lf,lf,.one (.two lf (.reg [(9,{ids:=[104],fn:=2})]))] lf))),.reg [(3,{ids:=[105],fn:=3})],.two lf (.one (.pre (.newFam 1 40 qY2) (.pre (.toRef 105 qY43) (.loop ⟨[1,2,44],⟨qL87,zam⟩⟩ false [(2,ze9)] (tw [lf,lf,.one (tw [lf,lf,.reg [(5,{ids:=[106],md:=[3],fn:=4}),(8,{sh:=[106,999985]})],lf] (.one (.loop ⟨[1,2,5,65],⟨(lc [.own 0 100 0 0,.own 0 101 0 0,.ownx 3 105 0] qL6),zam⟩⟩ false [(4,ze9)] (tw [lf,lf,.one (.two lf (.reg [(17,{sh:=[999985]}),(18,{ids:=[107],fn:=5}),(26,{sh:=[999985]}),(27,{ids:=[108],fn:=6}),(30,{sh:=[999985]}),(33,{sh:=[999985]})]))] lf))))] lf))))),.reg [(2,{ids:=[109],fn:=7})],.pre (.pureCell 100 4) lf] lf,⟨(lc [.p qY14] zba),[]⟩,[⟨(lc [.agg (ln [ki,.slf 8 0,ki,ki,.p qY22,.slf 2 1,.slf 2 2])] zba),[za8,(1,false,qB46),(2,false,(.rows 73 qY5))]⟩],[0]⟩
theorem dPZ:To 47 state_own_fa state_own:=tj (ta kGZ (ta nXZ (ta n9Z (ta hIZ (ta hLZ (ta cMZ (ta bMZ (ta bXZ tz)))))))) func47
def state_New(b:Nat)(window:Int)(l:List (Int×List Int)):oN (Int×List qT1×Int×Int×List qT20×List (Int×List Int)×List (Int×Int)×Int):=(rNew b window).bind λr=>bif (!(r.2==0)) then some (0,[],0,0,[],[],[],r.2) else (spla b l).bind λd=>bif (!d) then some (0,[],0,0,[],[],[],2) else (model_New b).bind λc=>(state_own b (0,(c.2.1,c.1),(r.1,[]),l,[])).bind λa=>some (a.1,a.2.2.2.2.1,a.2.1,a.2.2.1,a.2.2.2.1,a.2.2.2.2.2.1,a.2.2.2.2.2.2,0)
def state_New_fa:FnA:=⟨tw [zac,.reg [(1,{}),(5,{ids:=[101]})],zat,zeZ,.reg [(0,{ids:=[102,103],fn:=2}),(5,{ids:=[104,105,106],md:=[1],fn:=3})]] lf,⟨(lc [ki] zbH),[]⟩,[⟨(lc [.agg qL33] qL6),[]⟩],[1,0]⟩
theorem dWZ:To 24 state_New_fa λfu t=>state_New fu t.1 t.2:=tj (ta pHZ (ta j3Z (ta dRZ (ta dPZ tz)))) func24
def kit_Great_l0(i:Nat)(e:qT1)(x b:Int)(a:List qT1)(c:Int):oN (qT66⊕((List qT1×Int)⊕(qT66⊕(Unit⊕Bool)))):=bif (decide (b<(e.2.2.2.2.2.2.2.length:Int))) then (idx? x a.length).bind λf=>a[f]?.bind λd=>(idx? b d.2.2.2.2.2.2.2.length).bind λg=>d.2.2.2.2.2.2.2[g]?.bind λh=>bif (decide ((h.1.length:Int)>3000)) then some (.inr (.inr (.inr (.inr true)))) else some (.inl ((wI (b+1)),a,c)) else some (.inr (.inl (a,c)))
def kit_Great_l0_it(b:Nat)(c:qT1)(x:Int)(a:qT66):oN ((List qT1×Int)⊕(qT66⊕(Unit⊕Bool))):=iter b (λa=>kit_Great_l0 b c x a.1 a.2.1 a.2.2) a
def kit_Great_l1(i:Nat)(t:List qT1×Int)(x:Int)(h:List qT1)(a:Int):oN (qT66⊕(Unit⊕Bool)):=bif (decide (x<(t.1.length:Int))) then Option.bind (α:=(Bool×List qT1×Int)) ((idx? x h.length).bind λq=>h[q]?.bind λr=>bif (decide ((r.2.2.2.2.2.1.length:Int)>120)) then some (true,h,a) else (idx? x h.length).bind λb=>h[b]?.bind λc=>some ((decide ((c.2.2.2.2.2.2.2.length:Int)>120)),h,a)) λo=>bif o.1 then some (.inr (.inr true)) else (idx? x o.2.1.length).bind λd=>o.2.1[d]?.bind λe=>(kit_Great_l0_it i e x (0,o.2)).bind λf=>match f with
   |.inl s=>some (.inl ((wI (x+1)),s))
   |.inr g=>some g else some (.inr (.inl ()))
def kit_Great_l1_it(b:Nat)(t:List qT1×Int)(a:qT66):oN (Unit⊕Bool):=iter b (λa=>kit_Great_l1 b t a.1 a.2.1 a.2.2) a
def kit_Great(c:Nat)(t:List qT1×Int):oN Bool:=bif (decide ((t.1.length:Int)>40)) then some true else (kit_Great_l1_it c t (0,t)).bind λa=>match a with
  |.inl d=>some false
  |.inr b=>some b
def kit_Great_fa:FnA:=⟨tw [zac,zat,.two lf (.one (.loop ⟨[1,12],⟨zbB,[zaC]⟩⟩ true zaM (tw [lf,lf,.one (tw [lf,tw [.join ⟨[1,32],zeG⟩ false [] lf] zab,lf] (.one (.loop ⟨[1,40],⟨zbB,[zaC]⟩⟩ true [(2,zfk)] zcn)))] lf)))] lf,zaX,zau,[0]⟩
theorem hbZ:To 57 kit_Great_fa kit_Great:=tj tz func57
def law22_Great_l0(d:Nat)(o:Bool×qT82)(n x:Int)(h:List qT1)(b:Int)(a:List (List UInt8)):oN ((Int×Int×qT82)⊕(Int)):=bif (decide (x<(o.2.2.2.length:Int))) then (idx? x a.length).bind λq=>a[q]?.bind λc=>some (.inl ((wI (n+(c.length:Int))),(wI (x+1)),h,b,a)) else some (.inr n)
def law22_Great_l0_it(b:Nat)(o:Bool×qT82)(a:Int×Int×qT82):oN Int:=iter b (λa=>law22_Great_l0 b o a.1 a.2.1 a.2.2.1 a.2.2.2.1 a.2.2.2.2) a
def law22_Great(a:Nat)(m:(List qT1×Int)×List (List UInt8)):oN Bool:=Option.bind (α:=(Bool×qT82)) ((kit_Great a (m.1.1,m.1.2)).bind λr=>bif r then some (true,m.1.1,m.1.2,m.2) else some ((decide ((m.2.length:Int)>60)),m.1.1,m.1.2,m.2)) λo=>bif o.1 then some true else (law22_Great_l0_it a o (0,0,o.2.1,o.2.2.1,o.2.2.2)).bind λb=>some (decide (b>70000))
def law22_Great_fa:FnA:=⟨tw [zac,tw [.join ⟨[1,13],zfa⟩ false [] zdR] zab,lf,.two lf (.one (.loop ⟨[1,3,17],⟨zeH,zcJ⟩⟩ false [(0,⟨[3],zaU⟩)] (tw [lf,lf,.one lf] lf)))] lf,zc3,zau,[0]⟩
theorem f4Z:To 27 law22_Great_fa law22_Great:=tj (ta hbZ tz) func27
def law21_Huge_l0(n:Nat)(o:Bool×qT32)(x h c d e f:Int)(g:Bool)(i:Int)(j:List UInt8)(a:List (List UInt8×Int))(l:Bool)(b:Int):oN ((Int×qT32)⊕(Unit⊕Bool)):=bif (decide (x<(o.2.2.2.2.2.2.2.2.2.1.length:Int))) then (idx? x a.length).bind λq=>a[q]?.bind λm=>bif (decide ((m.1.length:Int)>3000)) then some (.inr (.inr true)) else some (.inl ((wI (x+1)),h,c,d,e,f,g,i,j,a,l,b)) else some (.inr (.inl ()))
def law21_Huge_l0_it(a:Nat)(o:Bool×qT32)(b:Int×qT32):oN (Unit⊕Bool):=iter a (u12 (law21_Huge_l0 a o)) b
def law21_Huge(i:Nat)(c:qT7)(r:qT3):oN Bool:=Option.bind (α:=(Bool×qT32)) (bif (decide ((c.d.length:Int)>3000)) then some (true,r.1,r.a,r.b,r.c.1,r.c.2,r.C) else bif (decide ((c.f.length:Int)>3000)) then some (true,r.1,r.a,r.b,r.c.1,r.c.2,r.C) else bif (decide ((c.H.length:Int)>5000)) then some (true,r.1,r.a,r.b,r.c.1,r.c.2,r.C) else bif (decide ((r.f.length:Int)>5000)) then some (true,r.1,r.a,r.b,r.c.1,r.c.2,r.C) else some ((decide ((r.g.length:Int)>120)),r.1,r.a,r.b,r.c.1,r.c.2,r.C)) λo=>bif o.1 then some true else (law21_Huge_l0_it i o (0,o.2)).bind λe=>match e with
  |.inl s=>some false
  |.inr h=>some h
def law21_Huge_fa:FnA:=⟨tw [zad,tw [.join ⟨[3,33],⟨(lc [.own 0 101 0 0] zaa),[zcX]⟩⟩ false [] lf] zab,.two lf (.one (.loop ⟨[3,37],⟨(lc [.own 0 101 0 0] qL6),[zcX]⟩⟩ true zaM zcn))] lf,⟨(lc [.p qY9] zb8),[]⟩,zau,[0]⟩
theorem gnZ:To 28 law21_Huge_fa λfu t=>law21_Huge fu t.1 t.2:=tj tz func28
def ibar(a:Nat)(n:qT1):oN Bool:=bif (!n.2.2.1) then bif (!n.2.2.2.1) then bif (n.2.2.2.2.1==0) then bif (n.2.2.2.2.2.2.1==0) then some ((wI ((n.2.2.2.2.2.1.length:Int)+(n.2.2.2.2.2.2.2.length:Int)))==0) else some false else some false else some false else some false
def ibar_fa:FnA:=⟨.two zac lf,⟨zcz,[]⟩,zau,[0]⟩
theorem qbZ:To 128 ibar_fa ibar:=tj tz func128
def idir1(b:Nat)(e:List UInt8×Int)(h:List UInt8)(a:Int):oN (Bool×List UInt8×Int):=bif (decide ((e.1.length:Int)<1)) then some (true,e.1,a) else bif (decide ((e.1.length:Int)>30)) then some (true,e.1,a) else bif ((Op.bytesLess e.1 h)||(e.1==h)) then some (true,e.1,a) else bif decide (e.2<1) then some (true,e.1,a) else some ((decide (e.2>a)),e.1,a)
def idir1_fa:FnA:=⟨.two zac zat,⟨(lc [.p (.pair .str ti)] qL80),zaN⟩,[⟨zaa,zaN⟩],[0]⟩
theorem ogZ:To 168 idir1_fa (v3 idir1):=tj tz func168
def sIndFun8_l0(d:Nat)(s:List (List UInt8×Int))(x:Int)(b:List UInt8)(c:Int):oN ((Int×List UInt8×Int)⊕((List UInt8×Int)⊕(Int×List UInt8×Int))):=bif (decide (x<(s.length:Int))) then (idx? x s.length).bind λq=>s[q]?.bind λr=>(idir1 d r b c).bind λa=>bif a.1 then some (.inr (.inr (x,a.2.1,a.2.2))) else some (.inl ((wI (x+1)),a.2.1,a.2.2)) else some (.inr (.inl (b,c)))
def sIndFun8_l0_it(b:Nat)(s:List (List UInt8×Int))(a:Int×List UInt8×Int):oN ((List UInt8×Int)⊕(Int×List UInt8×Int)):=iter b (λa=>sIndFun8_l0 b s a.1 a.2.1 a.2.2) a
def sIndFun8(d:Nat)(s:List (List UInt8×Int))(h:List UInt8)(a:Int):oN (Int×List UInt8×Int):=(sIndFun8_l0_it d s (0,h,a)).bind λo=>match o with
 |.inl b=>some ((-1),b)
 |.inr c=>some c
def sIndFun8_fa:FnA:=⟨tw [lf,.two lf (.one (.loop ⟨[1,8],⟨(lc [.fn 168 .nil qL80] qL6),zaN⟩⟩ true [(0,⟨[1],⟨zev,zaN⟩⟩)] zch))] lf,zcf,[⟨qL6,zaN⟩],[0]⟩
theorem iCZ:To 132 sIndFun8_fa (v3 sIndFun8):=tj (ta ogZ tz) func132
def sConFun5(b:Nat)(s:List (List UInt8×Int))(h:List UInt8)(a:Int):oN (Bool×List UInt8×Int):=(sIndFun8 b s h a).bind λr=>some ((decide (r.1>=0)),r.2)
def sConFun5_fa:FnA:=⟨tw [lf,zdu] lf,zcf,[⟨zaa,zaN⟩],[0]⟩
theorem ixZ:To 77 sConFun5_fa (v3 sConFun5):=tj (ta iCZ tz) func77
def idir(a:Nat)(n:qT1)(many:Int):oN Bool:=bif (n.2.2.2.2.1==0) then bif ((n.2.2.2.2.2.1.length:Int)==0) then bif (decide ((n.2.2.2.2.2.2.2.length:Int)<=100)) then (sConFun5 a n.2.2.2.2.2.2.2 [] many).bind λr=>some (!r.1) else some false else some false else some false
def idir_fa:FnA:=⟨tw [zad,zdp,lf,.reg [(19,{sh:=[102,101]})]] lf,zeI,zau,[0]⟩
theorem rxZ:To 129 idir_fa λfu t=>idir fu t.1 t.2:=tj (ta ixZ tz) func129
def ifil1(b:Nat)(p:Int×Int)(h:qT34)(a:Int):oN (Bool×qT34×Int):=bif ((p.1==0)&&(p.2==0)) then some (false,h,a) else bif ((Option.getD (mget (k:=(.int .i64)) (v:=(.int .i64)) h p.1) 0)==1) then some (true,(mput (k:=(.int .i64)) (v:=(.int .i64)) h p.1 1),a) else bif decide (p.1<1) then some (true,(mput (k:=(.int .i64)) (v:=(.int .i64)) h p.1 1),a) else bif decide (p.1>a) then some (true,(mput (k:=(.int .i64)) (v:=(.int .i64)) h p.1 1),a) else bif decide (p.2<1) then some (true,(mput (k:=(.int .i64)) (v:=(.int .i64)) h p.1 1),a) else some ((decide (p.2>1099511627776)),(mput (k:=(.int .i64)) (v:=(.int .i64)) h p.1 1),a)
def ifil1_fa:FnA:=⟨tw [zac,zat] zat,⟨(lc [.p qY5,.own 0 0 0 0,.own 0 2 0 0] zba),zag⟩,[⟨zaa,zag⟩],[0]⟩
theorem pjZ:To 169 ifil1_fa (v3 ifil1):=tj tz func169
def sIndFun6_l0(d:Nat)(s:List (Int×Int))(x:Int)(b:qT34)(c:Int):oN ((Int×qT34×Int)⊕((qT34×Int)⊕(Int×qT34×Int))):=bif (decide (x<(s.length:Int))) then (idx? x s.length).bind λq=>s[q]?.bind λr=>(ifil1 d r b c).bind λa=>bif a.1 then some (.inr (.inr (x,a.2))) else some (.inl ((wI (x+1)),a.2)) else some (.inr (.inl (b,c)))
def sIndFun6_l0_it(b:Nat)(s:List (Int×Int))(a:Int×qT34×Int):oN ((qT34×Int)⊕(Int×qT34×Int)):=iter b (λa=>sIndFun6_l0 b s a.1 a.2.1 a.2.2) a
def sIndFun6(d:Nat)(s:List (Int×Int))(h:qT34)(a:Int):oN (Int×qT34×Int):=(sIndFun6_l0_it d s (0,h,a)).bind λo=>match o with
 |.inl b=>some ((-1),b)
 |.inr c=>some c
def sIndFun6_fa:FnA:=⟨tw [lf,.two lf (.one (.loop ⟨[1,8],⟨(lc [.fn 169 .nil (ln [.own 0 0 0 0,.own 0 2 0 0])] qL6),zag⟩⟩ true [(0,⟨[1],⟨zbw,zag⟩⟩)] (tw [lf,lf,.one (tw [lf,.reg [(5,{sh:=[0,1,2]})]] zab)] lf)))] lf,zd5,[⟨qL6,zag⟩],[0]⟩
theorem iFZ:To 115 sIndFun6_fa (v3 sIndFun6):=tj (ta pjZ tz) func115
def sConFun4(b:Nat)(s:List (Int×Int))(h:qT34)(a:Int):oN (Bool×qT34×Int):=(sIndFun6 b s h a).bind λr=>some ((decide (r.1>=0)),r.2)
def sConFun4_fa:FnA:=⟨tw [lf,.reg [(2,{sh:=[0,1,2]})]] lf,zd5,[⟨zaa,zag⟩],[0]⟩
theorem jlZ:To 84 sConFun4_fa (v3 sConFun4):=tj (ta iFZ tz) func84
def ifilm2(a:Nat)(n:qT1)(stripe:Int)(h:qT34):oN (Bool×qT34):=bif decide (n.2.2.2.2.1>=0) then bif decide (n.2.2.2.2.1<=65536) then bif ((n.2.2.2.2.2.2.2.length:Int)==0) then bif (decide ((n.2.2.2.2.2.1.length:Int)<=4096)) then (sConFun4 a n.2.2.2.2.2.1 h stripe).bind λr=>some ((!r.1),r.2.1) else some (false,h) else some (false,h) else some (false,h) else some (false,h)
def ifilm2_fa:FnA:=⟨tw [zaz,lf,.reg [(24,{sh:=[102,0,101]})]] lf,⟨(lc [.p qY0,ki,.mp 0] zba),zdA⟩,[⟨zaa,zdA⟩],[0]⟩
theorem mfZ:To 130 ifilm2_fa (v3 ifilm2):=tj (ta jlZ tz) func130
def iRig_l0(d:Nat)(o:Bool×List qT1×Int)(t:List qT1×Int)(x:Int)(h:List qT1)(c:Int)(e:qT34):oN ((Int×List qT1×Int×qT34)⊕((List qT1×Int)⊕Bool)):=bif (decide (x<(o.2.1.length:Int))) then (idx? x o.2.1.length).bind λq=>o.2.1[q]?.bind λr=>(ibar d r).bind λi=>Option.bind (α:=(Bool×List qT1×Int×qT34×qT1)) (bif r.2.2.1 then some (r.2.2.2.1,h,c,e,r) else some (false,h,c,e,r)) λb=>Option.bind (α:=(Bool×List qT1×Int×qT34×qT1)) (bif b.1 then (idir d b.2.2.2.2 (t.1.length:Int)).bind λj=>some (j,b.2) else Option.bind (α:=(Bool×List qT1×Int×qT34×qT1)) (bif b.2.2.2.2.2.2.1 then (ifilm2 d b.2.2.2.2 b.2.2.1 b.2.2.2.1).bind λf=>some (f.1,b.2.1,b.2.2.1,f.2,b.2.2.2.2) else some (i,b.2)) λl=>some l) λa=>Option.bind (α:=(Bool×List qT1×Int×qT34)) (bif (!a.1) then some (true,a.2.1,a.2.2.1,a.2.2.2.1) else bif (!(a.2.2.2.2.1==(wI (x+1)))) then some (true,a.2.1,a.2.2.1,a.2.2.2.1) else bif decide (a.2.2.2.2.2.1<1) then some (true,a.2.1,a.2.2.1,a.2.2.2.1) else bif decide (a.2.2.2.2.2.1>1099511627776) then some (true,a.2.1,a.2.2.1,a.2.2.2.1) else bif a.2.2.2.2.2.2.1 then bif decide (a.2.2.2.2.2.2.2.2.2.2.1<1) then some (true,a.2.1,a.2.2.1,a.2.2.2.1) else some ((decide (a.2.2.2.2.2.2.2.2.2.2.1>(t.1.length:Int))),a.2.1,a.2.2.1,a.2.2.2.1) else some (false,a.2.1,a.2.2.1,a.2.2.2.1)) λg=>bif g.1 then some (.inr (.inr false)) else some (.inl ((wI (x+1)),g.2)) else some (.inr (.inl (h,c)))
def iRig_l0_it(b:Nat)(o:Bool×List qT1×Int)(t:List qT1×Int)(a:Int×List qT1×Int×qT34):oN ((List qT1×Int)⊕Bool):=iter b (λa=>iRig_l0 b o t a.1 a.2.1 a.2.2.1 a.2.2.2) a
def iRig(e:Nat)(t:List qT1×Int):oN Bool:=Option.bind (α:=(Bool×List qT1×Int)) (bif (decide ((t.1.length:Int)<1)) then some (true,t) else bif (decide ((t.1.length:Int)>500)) then some (true,t) else bif decide (t.2<0) then some (true,t) else some ((decide (t.2>1099511627776)),t)) λo=>bif o.1 then some false else (iRig_l0_it e o t (0,o.2.1,o.2.2,[],0)).bind λb=>match b with
  |.inl s=>(idx? 0 s.1.length).bind λc=>s.1[c]?.bind λa=>bif a.2.2.1 then bif a.2.2.2.1 then some (a.2.2.2.2.2.2.1==1) else some false else some false
  |.inr d=>some d
def iRig_fa:FnA:=⟨tw [zac,lf,tw [.join ⟨[1,27],zeG⟩ false [] lf] zab,zdq,.two lf (.one (.loop ⟨[1,4,32],⟨(lc [.own 0 100 0 0,.mp 101] qL6),[zaC,zcT]⟩⟩ true [(0,zfk)] (tw [lf,lf,.one (tw [zdr,zb7,.one (tw [.join ⟨[1,4,6,39],zaO⟩ false [] lf] (.join ⟨[1,4,6,7],zaO⟩ false [] (tw [zdY,lf] (.join ⟨[1,4,6,7],zaO⟩ false [] (tw [.reg [(4,{sh:=[101],fn:=2})]] lf))))),.join ⟨[1,4,90],⟨(lc [.own 0 100 0 0,.mp 101] zaa),[zaC,zcT]⟩⟩ false [] lf] zab)] lf))),.reg [(4,{ids:=[103]})]] lf,zaX,zau,[0]⟩
theorem eOZ:To 74 iRig_fa iRig:=tj (ta qbZ (ta rxZ (ta mfZ tz))) func74
def sConAny(a:Nat)(s chars:List UInt8):oN Bool:=need (Nat.beq chars.length 2&&chars.all (λb=>Nat.blt b.toNat 128)&&Nat.blt s.length 4294967281) (some (Go.Lib.containsAny s chars))
def sConAny_ft(fu:Nat):FnT:=⟨131,⟨(.cons (.p .str) (.cons (.p .str) .nil)),[]⟩,[⟨(.cons (.p .bool) .nil),[]⟩],λt=>sConAny fu t.1 t.2⟩
theorem j8Z(fu:Nat):Told Tryz.prog (sConAny_ft fu):=
 f0Z Tryz.ca131 (by kernel_rfl) ⟨_,_,func131,rfl,by kernel_rfl⟩
def tNam(a:Nat)(s:List UInt8):oN Bool:=bif (decide ((s.length:Int)>=1)) then bif (decide ((s.length:Int)<=30)) then bif (!(s==[46])) then bif (!(s==[46,46])) then (sConAny a s [0,47]).bind λr=>some (!r) else some false else some false else some false else some false
def tNam_fa:FnA:=⟨tw [lf,.reg [(18,{})]] lf,⟨zbr,[]⟩,zau,[0]⟩
theorem dxZ:To 76 tNam_fa tNam:=tj (ta j8Z tz) func76
def tRig1(t:Nat)(e:List UInt8×Int)(h:List Int)(b:List qT1)(f c g:Int)(i j:Bool)(l:Int)(m:List (Int×Int))(n:Int)(a:List (List UInt8×Int)):oN (Bool×List Int×List qT1×Int×qT1):=(idx? e.2 h.length).bind λq=>h[q]?.bind λr=>(idx? e.2 h.length).bind λd=>h[d]?.bind λu=>(idx? (wI (e.2-1)) b.length).bind λp=>b[p]?.bind λo=>(tNam t e.1).bind λs=>bif (!s) then some (true,(List.set h d (wI (r+1))),b,f,c,g,i,j,l,m,n,a) else bif (!o.2.2.1) then some (true,(List.set h d (wI (r+1))),b,f,c,g,i,j,l,m,n,a) else some ((!(o.2.2.2.2.2.2.1==c)),(List.set h d (wI (r+1))),b,f,c,g,i,j,l,m,n,a)
def tRig1_fa:FnA:=⟨tw [zac,lf,.reg [(7,{ids:=[101]})]] zbJ,⟨(lc [.p (.pair .str ti),.own 0 0 0 0,.own 0 2 0 0] ze0),zaf⟩,[⟨zaa,zaf⟩],[0]⟩
theorem oDZ:To 75 tRig1_fa (v12 tRig1):=tj (ta dxZ tz) func75
def sIndFun4_l0(n:Nat)(s:List (List UInt8×Int))(x:Int)(b:List Int)(c:List qT1)(d e f:Int)(g h:Bool)(i:Int)(j:List (Int×Int))(l:Int)(m:List (List UInt8×Int)):oN ((Int×List Int×List qT1×Int×qT1)⊕((List Int×List qT1×Int×qT1)⊕(Int×List Int×List qT1×Int×qT1))):=bif (decide (x<(s.length:Int))) then (idx? x s.length).bind λq=>s[q]?.bind λr=>(tRig1 n r b c d e f g h i j l m).bind λa=>bif a.1 then some (.inr (.inr (x,a.2.1,a.2.2.1,a.2.2.2.1,a.2.2.2.2.1,a.2.2.2.2.2.1,a.2.2.2.2.2.2.1,a.2.2.2.2.2.2.2.1,a.2.2.2.2.2.2.2.2.1,a.2.2.2.2.2.2.2.2.2.1,a.2.2.2.2.2.2.2.2.2.2.1,a.2.2.2.2.2.2.2.2.2.2.2))) else some (.inl ((wI (x+1)),a.2.1,a.2.2.1,a.2.2.2.1,a.2.2.2.2.1,a.2.2.2.2.2.1,a.2.2.2.2.2.2.1,a.2.2.2.2.2.2.2.1,a.2.2.2.2.2.2.2.2.1,a.2.2.2.2.2.2.2.2.2.1,a.2.2.2.2.2.2.2.2.2.2.1,a.2.2.2.2.2.2.2.2.2.2.2)) else some (.inr (.inl (b,c,d,e,f,g,h,i,j,l,m)))
def sIndFun4_l0_it(b:Nat)(s:List (List UInt8×Int))(a:Int×List Int×List qT1×Int×qT1):oN ((List Int×List qT1×Int×qT1)⊕(Int×List Int×List qT1×Int×qT1)):=iter b (λa=>sIndFun4_l0 b s a.1 a.2.1 a.2.2.1 a.2.2.2.1 a.2.2.2.2.1 a.2.2.2.2.2.1 a.2.2.2.2.2.2.1 a.2.2.2.2.2.2.2.1 a.2.2.2.2.2.2.2.2.1 a.2.2.2.2.2.2.2.2.2.1 a.2.2.2.2.2.2.2.2.2.2.1 a.2.2.2.2.2.2.2.2.2.2.2) a
def sIndFun4(p:Nat)(s:List (List UInt8×Int))(h:List Int)(c:List qT1)(d e f:Int)(g i:Bool)(j:Int)(l:List (Int×Int))(m:Int)(b:List (List UInt8×Int)):oN (Int×List Int×List qT1×Int×qT1):=(sIndFun4_l0_it p s (0,h,c,d,e,f,g,i,j,l,m,b)).bind λo=>match o with
 |.inl a=>some ((-1),a.1,a.2.1,a.2.2.1,a.2.2.2.1,a.2.2.2.2.1,a.2.2.2.2.2.1,a.2.2.2.2.2.2.1,a.2.2.2.2.2.2.2.1,a.2.2.2.2.2.2.2.2.1,a.2.2.2.2.2.2.2.2.2.1,a.2.2.2.2.2.2.2.2.2.2)
 |.inr n=>some n
def sIndFun4_fa:FnA:=⟨tw [lf,.two lf (.one (.loop ⟨[1,8],⟨(lc [.fn 75 .nil (ln [.own 0 0 0 0,.own 0 2 0 0,.own 0 3 0 0])] qL6),zaf⟩⟩ true [(0,⟨[1],⟨za6,zaf⟩⟩)] zcb))] lf,zcY,[⟨qL6,zaf⟩],[0]⟩
theorem jwZ:To 132 sIndFun4_fa (v12 sIndFun4):=tj (ta oDZ tz) func132
def sConFun(m:Nat)(s:List (List UInt8×Int))(h:List Int)(b:List qT1)(c d e:Int)(f g:Bool)(i:Int)(j:List (Int×Int))(l:Int)(a:List (List UInt8×Int)):oN (Bool×List Int×List qT1×Int×qT1):=(sIndFun4 m s h b c d e f g i j l a).bind λr=>some ((decide (r.1>=0)),r.2.1,r.2.2.1,r.2.2.2.1,r.2.2.2.2.1,r.2.2.2.2.2.1,r.2.2.2.2.2.2.1,r.2.2.2.2.2.2.2.1,r.2.2.2.2.2.2.2.2.1,r.2.2.2.2.2.2.2.2.2.1,r.2.2.2.2.2.2.2.2.2.2.1,r.2.2.2.2.2.2.2.2.2.2.2)
def sConFun_fa:FnA:=⟨.two lf zdV,zcY,[⟨zaa,zaf⟩],[0]⟩
theorem k2Z:To 77 sConFun_fa (v12 sConFun):=tj (ta jwZ tz) func77
def trea_l0(d:Nat)(t:List qT1×Int)(id1 x:Int)(h:List qT1)(a:Int):oN ((Int×qT66)⊕(Int⊕Bool)):=bif (decide (x<(t.1.length:Int))) then bif (id1==1) then some (.inr (.inr true)) else (idx? (wI (id1-1)) h.length).bind λq=>h[q]?.bind λr=>bif (!r.2.2.1) then some (.inr (.inr false)) else (idx? (wI (id1-1)) h.length).bind λb=>h[b]?.bind λc=>some (.inl (c.2.2.2.2.2.2.1,(wI (x+1)),h,a)) else some (.inr (.inl id1))
def trea_l0_it(b:Nat)(t:List qT1×Int)(a:Int×qT66):oN (Int⊕Bool):=iter b (λa=>trea_l0 b t a.1 a.2.1 a.2.2.1 a.2.2.2) a
def trea(b:Nat)(t:List qT1×Int)(id:Int):oN Bool:=(trea_l0_it b t (id,0,t.1,t.2)).bind λo=>match o with
 |.inl s=>some (s==1)
 |.inr a=>some a
def trea_fa:FnA:=⟨tw [zac,.two lf (.one (.loop ⟨[1,2,8],⟨(lc [ki] zbB),[zaC]⟩⟩ true [(0,⟨[1],zaU⟩)] (tw [lf,lf,.one (tw [zat,zat] lf)] lf)))] lf,⟨(lc [.p qY56] qL6),[]⟩,zau,[0]⟩
theorem q7Z:To 78 trea_fa λfu t=>trea fu t.1 t.2:=tj tz func78
def tRig_l0(e:Nat)(t:List qT1×Int)(x:Int)(h:List qT1)(c:Int)(d:List Int):oN ((Int×List qT1×Int×List Int)⊕((List qT1×Int×List Int)⊕Bool)):=bif (decide (x<(t.1.length:Int))) then (idx? x t.1.length).bind λf=>t.1[f]?.bind λb=>Option.bind (α:=(Bool×List qT1×Int×List Int)) ((sConFun e b.2.2.2.2.2.2.2 d h c b.1 b.2.1 b.2.2.1 b.2.2.2.1 b.2.2.2.2.1 b.2.2.2.2.2.1 b.2.2.2.2.2.2.1 b.2.2.2.2.2.2.2).bind λa=>bif a.1 then some (true,a.2.2.1,a.2.2.2.1,a.2.1) else bif a.2.2.2.2.2.2.1 then (trea e (a.2.2.1,a.2.2.2.1) a.2.2.2.2.1).bind λg=>some ((!g),a.2.2.1,a.2.2.2.1,a.2.1) else some (false,a.2.2.1,a.2.2.2.1,a.2.1)) λo=>bif o.1 then some (.inr (.inr false)) else some (.inl ((wI (x+1)),o.2.1,o.2.2.1,o.2.2.2)) else some (.inr (.inl (h,c,d)))
def tRig_l0_it(b:Nat)(t:List qT1×Int)(a:Int×List qT1×Int×List Int):oN ((List qT1×Int×List Int)⊕Bool):=iter b (λa=>tRig_l0 b t a.1 a.2.1 a.2.2.1 a.2.2.2) a
def tRig_l1(i:Nat)(s:List qT1×Int×List Int)(c:Int)(e:List Int):oN ((Int×List Int)⊕(Unit⊕Bool)):=bif (decide (c<(s.1.length:Int))) then (idx? c s.1.length).bind λf=>s.1[f]?.bind λb=>Option.bind (α:=(Bool×List Int×qT1)) (bif (b.1==1) then some (true,e,b) else some ((!b.2.2.1),e,b)) λd=>Option.bind (α:=(Int×List Int×qT1)) (bif d.1 then some (0,d.2) else some (1,d.2)) λa=>(idx? a.2.2.1 a.2.1.length).bind λg=>a.2.1[g]?.bind λh=>bif (!(h==a.1)) then some (.inr (.inr false)) else some (.inl ((wI (c+1)),a.2.1)) else some (.inr (.inl ()))
def tRig_l1_it(b:Nat)(s:List qT1×Int×List Int)(a:Int×List Int):oN (Unit⊕Bool):=iter b (λa=>tRig_l1 b s a.1 a.2) a
def tRig(a:Nat)(t:List qT1×Int):oN Bool:=(iRig a (t.1,t.2)).bind λr=>bif (!r) then some false else (upto? (wI ((t.1.length:Int)+1)) room).bind λm=>(upto? (wI ((t.1.length:Int)+1)) m).bind λq=>need (Nat.ble (m*8) room)<|(tRig_l0_it a t (0,t.1,t.2,(List.replicate (α:=Int) q 0))).bind λb=>match b with
  |.inl s=>(tRig_l1_it a s (0,s.2.2)).bind λc=>match c with
   |.inl f=>some true
   |.inr d=>some d
  |.inr e=>some e
def tRig_fa:FnA:=⟨tw [zac,.two zb7 zab,.reg [(4,{ids:=[101]}),(5,{ids:=[102]})],.two lf (.one (.loop ⟨[1,3,21],⟨(lc [.own 0 100 0 0] zeL),zfl⟩⟩ true [(0,⟨[1,3],⟨zda,zfl⟩⟩)] (tw [lf,lf,.one (tw [ze1,lf,.join ⟨[1,3,40],⟨(lc [.own 0 100 0 0] zcp),zfl⟩⟩ false [] (.reg [(3,{sh:=[102,101,100,103],fn:=1}),(11,{fn:=2})])] zab)] lf))),.two lf (.one (.loop ⟨[3,45],⟨zeL,[za4,zbi]⟩⟩ true [(2,⟨[],zbO⟩)] (tw [lf,lf,.one (tw [ze2,lf,tw [.join ⟨[3,8,56],⟨zbV,zec⟩⟩ false [] lf] (.join ⟨[3,8,9],⟨zdb,zec⟩⟩ false [] lf)] zat)] lf)))] lf,zaX,zau,[0]⟩
theorem fLZ:To 33 tRig_fa tRig:=tj (ta eOZ (ta k2Z (ta q7Z tz))) func33
def mRig_l0(g:Nat)(o:Bool×qT82)(x:Int)(h:List qT1)(c:Int)(a:List (List UInt8)):oN ((Int×qT82)⊕(Unit⊕Bool)):=bif (decide (x<(o.2.1.length:Int))) then (idx? x o.2.1.length).bind λq=>o.2.1[q]?.bind λd=>Option.bind (α:=(Bool×qT82)) (bif (decide ((d.2.2.2.2.2.1.length:Int)>0)) then some (true,h,c,a) else (idx? x a.length).bind λe=>a[e]?.bind λf=>some ((!((f.length:Int)==d.2.2.2.2.1)),h,c,a)) λb=>bif b.1 then some (.inr (.inr false)) else some (.inl ((wI (x+1)),b.2.1,b.2.2.1,b.2.2.2)) else some (.inr (.inl ()))
def mRig_l0_it(b:Nat)(o:Bool×qT82)(a:Int×qT82):oN (Unit⊕Bool):=iter b (λa=>mRig_l0 b o a.1 a.2.1 a.2.2.1 a.2.2.2) a
def mRig(a:Nat)(m:(List qT1×Int)×List (List UInt8)):oN Bool:=Option.bind (α:=(Bool×qT82)) ((tRig a (m.1.1,m.1.2)).bind λr=>bif (!r) then some (true,m.1.1,m.1.2,m.2) else some ((!((m.2.length:Int)==(m.1.1.length:Int))),m.1.1,m.1.2,m.2)) λo=>bif o.1 then some false else (mRig_l0_it a o (0,o.2.1,o.2.2.1,o.2.2.2)).bind λb=>match b with
  |.inl s=>some true
  |.inr c=>some c
def mRig_fa:FnA:=⟨tw [zac,tw [.join ⟨[1,18],zfa⟩ false [] zdR] zab,.two lf (.one (.loop ⟨[1,23],⟨zbB,zcJ⟩⟩ true zaM (tw [lf,lf,.one (tw [.reg [(3,{ids:=[101]})],.join ⟨[1,42],zfa⟩ false [] lf] zab)] lf)))] lf,zc3,zau,[0]⟩
theorem p9Z:To 68 mRig_fa mRig:=tj (ta fLZ tz) func68
def csha1(a:Nat):oN qT77:=some (true,true,false,false,0,false)
def csha1_fa:FnA:=⟨.two zac lf,zbO,zaZ,[0]⟩
theorem o7Z:To 137 csha1_fa λfu t=>csha1 fu:=tj tz func137
def csha2(a:Nat):oN qT77:=some (true,false,false,true,4096,false)
def csha2_fa:FnA:=⟨.two zac lf,zbO,zaZ,[0]⟩
theorem nTZ:To 138 csha2_fa λfu t=>csha2 fu:=tj tz func138
def csha3(a:Nat):oN qT77:=some (true,false,false,true,0,true)
def csha3_fa:FnA:=⟨.two zac lf,zbO,zaZ,[0]⟩
theorem plZ:To 139 csha3_fa λfu t=>csha3 fu:=tj tz func139
def csha4(a:Nat):oN qT77:=some (true,false,false,false,2147483648,false)
def csha4_fa:FnA:=⟨.two zac lf,zbO,zaZ,[0]⟩
theorem n6Z:To 140 csha4_fa λfu t=>csha4 fu:=tj tz func140
def csha5(a:Nat):oN qT77:=some (true,true,true,false,0,false)
def csha5_fa:FnA:=⟨.two zac lf,zbO,zaZ,[0]⟩
theorem nCZ:To 141 csha5_fa λfu t=>csha5 fu:=tj tz func141
def csha6(a:Nat):oN qT77:=some (true,true,false,false,4096,false)
def csha6_fa:FnA:=⟨.two zac lf,zbO,zaZ,[0]⟩
theorem oQZ:To 142 csha6_fa λfu t=>csha6 fu:=tj tz func142
def csha7(a:Nat):oN qT77:=some (true,false,false,false,0,false)
def csha7_fa:FnA:=⟨.two zac lf,zbO,zaZ,[0]⟩
theorem nKZ:To 143 csha7_fa λfu t=>csha7 fu:=tj tz func143
def csha8(a:Nat):oN qT77:=some (false,false,false,false,0,false)
def csha8_fa:FnA:=⟨.two zac lf,zbO,zaZ,[0]⟩
theorem n8Z:To 144 csha8_fa λfu t=>csha8 fu:=tj tz func144
def csha(g:Nat)(o:Int):oN (Bool×Bool×Bool×Bool×Int×Bool×Bool):=need ((!((uO 2)==(uO 1)))&&true)<|need ((!((uO 3)==(uO 1)))&&((!((uO 3)==(uO 2)))&&true))<|need ((!((uO 7)==(uO 1)))&&((!((uO 7)==(uO 2)))&&((!((uO 7)==(uO 3)))&&true)))<|need ((!((uO 8)==(uO 1)))&&((!((uO 8)==(uO 2)))&&((!((uO 8)==(uO 3)))&&((!((uO 8)==(uO 7)))&&true))))<|need ((!((uO 4)==(uO 1)))&&((!((uO 4)==(uO 2)))&&((!((uO 4)==(uO 3)))&&((!((uO 4)==(uO 7)))&&((!((uO 4)==(uO 8)))&&true)))))<|need ((!((uO 5)==(uO 1)))&&((!((uO 5)==(uO 2)))&&((!((uO 5)==(uO 3)))&&((!((uO 5)==(uO 7)))&&((!((uO 5)==(uO 8)))&&((!((uO 5)==(uO 4)))&&true))))))<|need ((!((uO 6)==(uO 1)))&&((!((uO 6)==(uO 2)))&&((!((uO 6)==(uO 3)))&&((!((uO 6)==(uO 7)))&&((!((uO 6)==(uO 8)))&&((!((uO 6)==(uO 4)))&&((!((uO 6)==(uO 5)))&&true)))))))<|need ((!((uO 9)==(uO 1)))&&((!((uO 9)==(uO 2)))&&((!((uO 9)==(uO 3)))&&((!((uO 9)==(uO 7)))&&((!((uO 9)==(uO 8)))&&((!((uO 9)==(uO 4)))&&((!((uO 9)==(uO 5)))&&((!((uO 9)==(uO 6)))&&true))))))))<|need ((!((uO 10)==(uO 1)))&&((!((uO 10)==(uO 2)))&&((!((uO 10)==(uO 3)))&&((!((uO 10)==(uO 7)))&&((!((uO 10)==(uO 8)))&&((!((uO 10)==(uO 4)))&&((!((uO 10)==(uO 5)))&&((!((uO 10)==(uO 6)))&&((!((uO 10)==(uO 9)))&&true)))))))))<|need ((!((uO 11)==(uO 1)))&&((!((uO 11)==(uO 2)))&&((!((uO 11)==(uO 3)))&&((!((uO 11)==(uO 7)))&&((!((uO 11)==(uO 8)))&&((!((uO 11)==(uO 4)))&&((!((uO 11)==(uO 5)))&&((!((uO 11)==(uO 6)))&&((!((uO 11)==(uO 9)))&&((!((uO 11)==(uO 10)))&&true))))))))))<|need ((!((uO 12)==(uO 1)))&&((!((uO 12)==(uO 2)))&&((!((uO 12)==(uO 3)))&&((!((uO 12)==(uO 7)))&&((!((uO 12)==(uO 8)))&&((!((uO 12)==(uO 4)))&&((!((uO 12)==(uO 5)))&&((!((uO 12)==(uO 6)))&&((!((uO 12)==(uO 9)))&&((!((uO 12)==(uO 10)))&&((!((uO 12)==(uO 11)))&&true)))))))))))<|(byte? o).bind λc=>bif (c==(uO 1)) then (csha1 g).bind λr=>some (r.1,r.a,r.b,r.c,r.d,r.D,true) else bif (c==(uO 2)) then (csha1 g).bind λh=>some (h.1,h.a,h.b,h.c,h.d,h.D,true) else bif (c==(uO 3)) then (csha1 g).bind λi=>some (i.1,i.a,i.b,i.c,i.d,i.D,true) else bif (c==(uO 7)) then (csha1 g).bind λj=>some (j.1,j.a,j.b,j.c,j.d,j.D,true) else bif (c==(uO 8)) then (csha1 g).bind λl=>some (l.1,l.a,l.b,l.c,l.d,l.D,true) else bif (c==(uO 4)) then (csha2 g).bind λm=>some (m.1,m.a,m.b,m.c,m.d,m.D,true) else bif (c==(uO 5)) then (csha3 g).bind λn=>some (n.1,n.a,n.b,n.c,n.d,n.D,true) else bif (c==(uO 6)) then (csha4 g).bind λp=>some (p.1,p.a,p.b,p.c,p.d,p.D,true) else bif (c==(uO 9)) then (csha5 g).bind λq=>some (q.1,q.a,q.b,q.c,q.d,q.D,true) else bif (c==(uO 10)) then (csha6 g).bind λs=>some (s.1,s.a,s.b,s.c,s.d,s.D,true) else bif (c==(uO 11)) then (csha7 g).bind λe=>some (e.1,e.a,e.b,e.c,e.d,e.D,true) else bif (c==(uO 12)) then (csha8 g).bind λf=>some (f.1,f.a,f.b,f.c,f.d,f.D,true) else some (false,false,false,false,0,false,false)
def csha_fa:FnA:=⟨tw [zac,lf,zdq,lf] (.sel (.slot 6 (.fn 137 .nil .nil)) (.two zab zfj) (.sel (.slot 6 (.fn 138 .nil .nil)) (tw [zab,zcx] lf) (.sel (.slot 6 (.fn 139 .nil .nil)) (tw [zab,.reg [(1,{fn:=2})]] lf) (.sel (.slot 6 (.fn 140 .nil .nil)) (tw [zab,.reg [(1,{fn:=3})]] lf) (.sel (.slot 6 (.fn 141 .nil .nil)) (tw [zab,.reg [(1,{fn:=4})]] lf) (.sel (.slot 6 (.fn 142 .nil .nil)) (tw [zab,.reg [(1,{fn:=5})]] lf) (.sel (.slot 6 (.fn 143 .nil .nil)) (tw [zab,.reg [(1,{fn:=6})]] lf) (tw [zat,.reg [(1,{fn:=7})]] lf)))))))),zd6,[⟨(lc [.agg qL39] zaa),[]⟩],[0,0]⟩
theorem qVZ:To 85 csha_fa csha:=tj (ta o7Z (ta nTZ (ta plZ (ta n6Z (ta nCZ (ta oQZ (ta nKZ (ta n8Z tz)))))))) func85
def cwho(a:Nat)(client xid:Int):oN Bool:=bif decide (client>=0) then bif decide (client<16) then bif decide (xid>=1) then some (decide (xid<=1099511627776)) else some false else some false else some false
def cwho_fa:FnA:=⟨.two lf lf,zdz,zau,[0]⟩
theorem kxZ:To 86 cwho_fa λfu t=>cwho fu t.1 t.2:=tj tz func86
def hRig(a:Nat)(h:Int×Int):oN Bool:=bif decide (h.1>=1) then bif decide (h.1<=500) then bif decide (h.2>=1) then some (decide (h.2<=1099511627776)) else some false else some false else some false
def hRig_fa:FnA:=⟨.two zac lf,⟨zb9,[]⟩,zau,[0]⟩
theorem kyZ:To 88 hRig_fa hRig:=tj tz func88
def cRigCal1(a:Nat)(is_:Bool)(h:Int×Int):oN Bool:=bif is_ then (hRig a h).bind λr=>bif r then some true else bif (!is_) then some ((h.1==0)&&(h.2==0)) else some false else bif (!is_) then some ((h.1==0)&&(h.2==0)) else some false
def cRigCal1_fa:FnA:=⟨.two zac zcA,⟨(lc [kb] zb9),[]⟩,zau,[0]⟩
theorem i7Z:To 87 cRigCal1_fa λfu t=>cRigCal1 fu t.1 t.2:=tj (ta kyZ tz) func87
def cRigCal2(a:Nat)(is_:Bool)(l:List UInt8):oN Bool:=bif (l==[]) then some true else bif is_ then some (decide ((l.length:Int)<=100)) else some false
def cRigCal2_fa:FnA:=⟨.two lf lf,⟨(lc [kb] zbr),[]⟩,zau,[0]⟩
theorem izZ:To 89 cRigCal2_fa λfu t=>cRigCal2 fu t.1 t.2:=tj tz func89
def cRigCal(t:Nat)(c:qT7):oN Bool:=(csha t (c.b.toNat:Int)).bind λr=>Option.bind (α:=(Bool×Int×Int×Int×Int×Int×List UInt8×Int×Int×List UInt8×Int×Int×List UInt8×qT77)) (bif (!r.E) then some (true,c.1,c.a,(c.b.toNat:Int),c.c.1,c.c.2,c.d,c.e.1,c.e.2,c.f,c.g,c.h,c.H,r.1,r.a,r.b,r.c,r.d,r.e) else (cwho t c.1 c.a).bind λw=>some ((!w),c.1,c.a,(c.b.toNat:Int),c.c.1,c.c.2,c.d,c.e.1,c.e.2,c.f,c.g,c.h,c.H,r.1,r.a,r.b,r.c,r.d,r.e)) λo=>bif o.1 then some false else Option.bind (α:=(Bool×Int×Int×Int×Int×Int×List UInt8×Int×Int×List UInt8×Int×Int×List UInt8×qT77)) ((cRigCal1 t o.m (o.d,o.e)).bind λx=>bif (!x) then some (true,o.2) else (cRigCal1 t o.o (o.g,o.h)).bind λy=>bif (!y) then some (true,o.2) else (cRigCal2 t o.n o.f).bind λz=>bif (!z) then some (true,o.2) else (cRigCal2 t o.o o.i).bind λA=>some ((!A),o.2)) λs=>bif s.1 then some false else Option.bind (α:=(Bool×Int×Int×Int×Int×Int×List UInt8×Int×Int×List UInt8×Int×Int×List UInt8×qT77)) (bif decide (s.j<0) then some (true,s.2) else bif decide (s.j>2147483648) then some (true,s.2) else bif (!s.p) then bif (!(s.j==0)) then some (true,s.2) else bif decide (s.k<0) then some (true,s.2) else some ((decide (s.k>s.q)),s.2) else bif decide (s.k<0) then some (true,s.2) else some ((decide (s.k>s.q)),s.2)) λu=>bif u.1 then some false else bif ((u.l.length:Int)==0) then some true else bif u.Q then some (decide ((u.l.length:Int)<=4096)) else some false
def cRigCal_fa:FnA:=⟨tw [zac,.reg [(2,{}),(6,{ids:=[101]})],tw [.join ⟨[1,3,22],zbS⟩ false [] (.reg [(7,{fn:=1})])] zab,lf,lf,tw [.join ⟨[1,3,56],zbS⟩ false [] (.reg [(5,{fn:=2}),(13,{fn:=2}),(22,{fn:=3}),(31,{fn:=3})])] zab,tw [.join ⟨[1,3,86],zbS⟩ false [] lf] zab] lf,⟨zca,[]⟩,zau,[0]⟩
theorem cuZ:To 41 cRigCal_fa cRigCal:=tj (ta qVZ (ta kxZ (ta i7Z (ta izZ tz)))) func41
def inode_own(a:Nat)(n:qT1):oN (Int×Int×Bool×Bool×Int×Int×List (Int×Int)×List (List UInt8×Int)):=(sClo3 a n.2.2.2.2.2.1).bind λr=>(sClo a n.2.2.2.2.2.2.2).bind λb=>some (n.1,n.2.1,n.2.2.1,n.2.2.2.1,n.2.2.2.2.1,n.2.2.2.2.2.2.1,r,b)
def inode_own_fa:FnA:=⟨.two zad zcU,⟨zcz,[]⟩,[⟨(lc [.agg (ln [ki,ki,kb,kb,ki,.slf 2 0,ki,.slf 2 1])] zba),[zbF,(1,false,qB67)]⟩],[0]⟩
theorem bEZ:To 163 inode_own_fa inode_own:=tj (ta bXZ (ta bMZ tz)) func163
def inode_Get(c:Nat)(t:List qT1×Int)(h:Int×Int):oN (Int×Int×Bool×Bool×Int×List (Int×Int)×Int×List (List UInt8×Int)×Int):=Option.bind (α:=(Bool×List qT1×Int×Int×Int×Int×Int×Bool×Bool×Int×Int)) (bif decide (h.1<1) then some (true,t.1,t.2,h.1,h.2,0,0,false,false,0,0) else some ((decide (h.1>(t.1.length:Int))),t.1,t.2,h.1,h.2,0,0,false,false,0,0)) λo=>bif o.1 then some (0,0,false,false,0,[],0,[],170) else (idx? (wI (o.2.2.2.1-1)) o.2.1.length).bind λq=>o.2.1[q]?.bind λr=>Option.bind (α:=(Bool×Int×Int×Bool×Bool×Int×Int×qT1)) (bif (!r.2.2.1) then some (true,o.e,o.f,o.g,o.h,o.i,o.I,r) else some ((!(r.2.1==o.d)),o.e,o.f,o.g,o.h,o.i,o.I,r)) λb=>bif b.1 then some (0,0,false,false,0,[],0,[],170) else (inode_own c b.F).bind λa=>some (a.1,a.2.1,a.2.2.1,a.2.2.2.1,a.d,a.f,a.e,a.F,0)
def inode_Get_fa:FnA:=⟨tw [zaz,tw [.join ⟨[2,3,4,17],⟨(lc [.own 0 100 0 0,.own 0 101 0 0] zcp),[zaC,zcZ,zaK]⟩⟩ false [] lf] zab,ze3,tw [.join ⟨[4,6,35],zcH⟩ false [] lf] zab,.reg [(1,{ids:=[104,105]})]] lf,zeB,[zeo],[1,0]⟩
theorem c4Z:To 123 inode_Get_fa λfu t=>inode_Get fu t.1 t.2:=tj (ta bEZ tz) func123
def tdir(a:Nat)(t:List qT1×Int)(h:Int×Int):oN (Int×Int×Bool×Bool×Int×List (Int×Int)×Int×List (List UInt8×Int)×Int):=(inode_Get a (t.1,t.2) (h.1,h.2)).bind λr=>Option.bind (α:=(Bool×Int×Int×Bool×Bool×Int×Int×qT1)) (bif (r.2.2.2.2.2.2.2.2==0) then some ((!r.2.2.2.1),0,0,false,false,0,0,r.1,r.2.1,r.2.2.1,r.2.2.2.1,r.2.2.2.2.1,r.2.2.2.2.2.1,r.2.2.2.2.2.2.1,r.2.2.2.2.2.2.2.1) else some (false,0,0,false,false,0,0,r.1,r.2.1,r.2.2.1,r.2.2.2.1,r.2.2.2.2.1,r.2.2.2.2.2.1,r.2.2.2.2.2.2.1,r.2.2.2.2.2.2.2.1)) λo=>bif o.1 then some (0,0,false,false,0,[],0,[],173) else some (o.2.2.2.2.2.2.2.1,o.2.2.2.2.2.2.2.2.1,o.2.2.2.2.2.2.2.2.2.1,o.2.2.2.2.2.2.2.2.2.2.1,o.2.2.2.2.2.2.2.2.2.2.2.1,o.2.2.2.2.2.2.2.2.2.2.2.2.1,o.2.2.2.2.2.2.2.2.2.2.2.2.2.1,o.2.2.2.2.2.2.2.2.2.2.2.2.2.2,r.2.2.2.2.2.2.2.2)
def tdir_fa:FnA:=⟨tw [zaz,.reg [(2,{}),(6,{ids:=[103]})],tw [.join ⟨[4,6,20],zcH⟩ false [] lf] zab] lf,zeB,[zeo],[0,0]⟩
theorem p0Z:To 185 tdir_fa λfu t=>tdir fu t.1 t.2:=tj (ta c4Z tz) func185
def task_l0(e:Nat)(l:List (Int×Int))(x:Int)(h:List qT1)(c:Int)(b:List qT1):oN ((Int×List qT1×Int×List qT1)⊕(List qT1⊕(Int×List qT1))):=bif (decide (x<(l.length:Int))) then (idx? x l.length).bind λq=>l[q]?.bind λd=>(tdir e (h,c) (d.1,d.2)).bind λa=>bif (!(a.2.2.2.2.2.2.2.2==0)) then some (.inr (.inr (a.2.2.2.2.2.2.2.2,[]))) else need ((Nat.ble ((b.length+1)*88) room)&&(Nat.ble (b.length+1) room))<|some (.inl ((wI (x+1)),h,c,(b++[(a.1,a.2.1,a.2.2.1,a.2.2.2.1,a.2.2.2.2.1,a.2.2.2.2.2.1,a.2.2.2.2.2.2.1,a.2.2.2.2.2.2.2.1)]))) else some (.inr (.inl b))
def task_l0_it(b:Nat)(l:List (Int×Int))(a:Int×List qT1×Int×List qT1):oN (List qT1⊕(Int×List qT1)):=iter b (λa=>task_l0 b l a.1 a.2.1 a.2.2.1 a.2.2.2) a
def task(a:Nat)(t:List qT1×Int)(l:List (Int×Int)):oN (Int×List qT1):=(tRig a (t.1,t.2)).bind λr=>bif (!r) then some (180,[]) else (task_l0_it a l (0,t.1,t.2,[])).bind λo=>match o with
  |.inl s=>some (0,s)
  |.inr b=>some b
def task_fa:FnA:=⟨tw [zac,.two zb7 zab,lf,.two lf (.one (.pre (.ownNil 6 71 101) (.loop ⟨[2,6,16],⟨(lc [.own 0 100 0 0] zfm),[zaC,zcM]⟩⟩ true [(0,⟨[6],⟨zfn,[zcM]⟩⟩)] (tw [lf,lf,.one (tw [zbd,.reg [(2,{fn:=1}),(6,{ids:=[103]})],zat] (.reg [(2,{ids:=[104]}),(3,{ids:=[105]})]))] lf))))] lf,⟨(lc [.p qY56] zdn),[]⟩,[⟨(lc [.slf 8 0] qL6),[za8]⟩],[81,0]⟩
theorem duZ:To 153 task_fa λfu t=>task fu t.1 t.2:=tj (ta fLZ (ta p0Z tz)) func153
def ibytabiru(c:Nat)(a b:List UInt8):oN Int:=some (Go.Lib.compareBytes a b)
def ibytabiru_ft(fu:Nat):FnT:=⟨219,⟨(.cons (.p .str) (.cons (.p .str) .nil)),[]⟩,[⟨qL6,[]⟩],λt=>ibytabiru fu t.1 t.2⟩
theorem hjZ(fu:Nat):Told Tryz.prog (ibytabiru_ft fu):=
 hgZ func219 (by kernel_rfl) (by kernel_rfl) (by kernel_rfl) (by kernel_rfl)
def ibytComSt(c:Nat)(a b:List UInt8):oN Int:=(ibytabiru c a b).bind λr=>some r
def ibytComSt_fa:FnA:=⟨.two lf zbJ,zeC,zfi,[0]⟩
theorem hqZ:To 210 ibytComSt_fa λfu t=>ibytComSt fu t.1 t.2:=tj (ta hjZ tz) func210
def sCom(c:Nat)(a b:List UInt8):oN Int:=(ibytComSt c a b).bind λr=>some r
def sCom_fa:FnA:=⟨.two lf zbJ,zeC,zfi,[0]⟩
theorem pSZ:To 188 sCom_fa λfu t=>sCom fu t.1 t.2:=tj (ta hqZ tz) func188
def tent1(a:Nat)(e:List UInt8×Int)(name:List UInt8):oN Int:=(sCom a e.1 name).bind λr=>some r
def tent1_fa:FnA:=⟨.two zac zcA,⟨(lc [.p (.pair .str ti)] zbr),[]⟩,zfi,[0]⟩
theorem oBZ:To 187 tent1_fa λfu t=>tent1 fu t.1 t.2:=tj (ta pSZ tz) func187
def sBinSeaFu2_l0(b:Nat)(x:List (List UInt8×Int))(target:List UInt8)(i j:Int):oN ((Int×Int)⊕(Int)):=bif decide (i<j) then (idx? (wI (Int.fdiv (IntKind.wrap .u64 (wI (i+j))) 2)) x.length).bind λq=>x[q]?.bind λr=>(tent1 b r target).bind λa=>Option.bind (α:=(Int×Int)) (bif decide (a<0) then some ((wI ((wI (Int.fdiv (IntKind.wrap .u64 (wI (i+j))) 2))+1)),j) else some (i,(wI (Int.fdiv (IntKind.wrap .u64 (wI (i+j))) 2)))) λo=>some (.inl o) else some (.inr i)
def sBinSeaFu2_l0_it(b:Nat)(x:List (List UInt8×Int))(target:List UInt8)(a:Int×Int):oN Int:=iter b (λa=>sBinSeaFu2_l0 b x target a.1 a.2) a
def sBinSeaFu2(b:Nat)(x:List (List UInt8×Int))(target:List UInt8):oN (Int×Bool):=(sBinSeaFu2_l0_it b x target (0,(x.length:Int))).bind λa=>bif (decide (a<(x.length:Int))) then (idx? a x.length).bind λc=>x[c]?.bind λd=>(tent1 b d target).bind λe=>some (a,(e==0)) else some (a,false)
def sBinSeaFu2_fa:FnA:=⟨.two lf zax,⟨(lc [.p (.sl (.pair .str ti)),ks,.fn 187 .nil .nil] zba),[]⟩,zdD,[0,0]⟩
theorem fRZ:To 186 sBinSeaFu2_fa λfu t=>sBinSeaFu2 fu t.1 t.2:=tj (ta oBZ tz) func186
def tent(a:Nat)(n:qT1)(name:List UInt8):oN (Int×Bool):=(sBinSeaFu2 a n.2.2.2.2.2.2.2 name).bind λr=>some r
def tent_fa:FnA:=⟨.two zac zcA,⟨(lc [.p qY0] zbr),[]⟩,zdD,[0,0]⟩
theorem cmZ:To 154 tent_fa λfu t=>tent fu t.1 t.2:=tj (ta fRZ tz) func154
def tLoo(a:Nat)(t:List qT1×Int)(dir:Int×Int)(name:List UInt8):oN (Int×Int×Int):=(task a (t.1,t.2) [(dir.1,dir.2)]).bind λr=>bif (!(r.1==0)) then some (0,0,r.1) else (tNam a name).bind λe=>bif (!e) then some (0,0,176) else (idx? 0 r.2.length).bind λq=>r.2[q]?.bind λf=>(tent a f name).bind λb=>bif (!b.2) then some (0,0,171) else (idx? 0 r.2.length).bind λg=>r.2[g]?.bind λc=>(idx? b.1 c.2.2.2.2.2.2.2.length).bind λh=>c.2.2.2.2.2.2.2[h]?.bind λd=>(idx? (wI (d.2-1)) t.1.length).bind λi=>t.1[i]?.bind λj=>some (d.2,j.2.1,0)
def tLoo_fa:FnA:=⟨tw [zaz,zdc,zat,zeZ,.reg [(4,{fn:=2})],zat] zab,⟨(lc [.p qY56,.p qY5] zbr),[]⟩,[⟨zdB,[]⟩],[0,0]⟩
theorem q3Z:To 116 tLoo_fa (v3 tLoo):=tj (ta duZ (ta dxZ (ta cmZ tz))) func116
def mdoeloo(D:Nat)(h:List qT1)(m:Int)(x:List (List UInt8))(y z A n o:Int)(p:List UInt8)(B a:Int)(b:List UInt8)(c d:Int)(e:List UInt8)(f g i s t:Int)(u:Bool)(w:Int)(j:Bool)(l:Int):oN (Int×qT19):=(tLoo D (h,m) (n,o) p).bind λr=>bif (r.2.2==0) then (idx? (wI (r.1-1)) h.length).bind λq=>h[q]?.bind λC=>some (r.2.2,h,m,x,y,z,A,n,o,p,B,a,b,c,d,e,f,g,i,r.1,r.2.1,C.2.2.2.1,C.2.2.2.2.1,j,l) else some (r.2.2,h,m,x,y,z,A,n,o,p,B,a,b,c,d,e,f,g,i,s,t,u,w,j,l)
def mdoeloo_fa:FnA:=⟨tw [lf,.reg [(14,{}),(18,{ids:=[100]})],tw [lf,tw [.reg [(10,{ids:=[101]})]] lf] lf] lf,zbn,zcj,[0]⟩
theorem jPZ:To 58 mdoeloo_fa (v24 mdoeloo):=tj (ta q3Z tz) func58
def tcop_l0(f:Nat)(r:List qT1)(x h:Int)(b:List qT1)(d:Int):oN ((Int×qT66)⊕(qT66)):=bif (decide (x<(r.length:Int))) then (idx? x b.length).bind λq=>b[q]?.bind λg=>(sClo3 f g.2.2.2.2.2.1).bind λe=>b[q]?.bind λi=>(sClo f i.2.2.2.2.2.2.2).bind λj=>b[q]?.bind λa=>(List.set b q (a.1,a.2.1,a.2.2.1,a.2.2.2.1,a.2.2.2.2.1,e,a.2.2.2.2.2.2))[q]?.bind λc=>some (.inl ((wI (x+1)),h,(List.set (List.set b q (a.1,a.2.1,a.2.2.1,a.2.2.2.1,a.2.2.2.2.1,e,a.2.2.2.2.2.2)) q (c.1,c.2.1,c.2.2.1,c.2.2.2.1,c.2.2.2.2.1,c.2.2.2.2.2.1,c.2.2.2.2.2.2.1,j)),d)) else some (.inr (h,b,d))
def tcop_l0_it(b:Nat)(r:List qT1)(a:Int×qT66):oN qT66:=iter b (λa=>tcop_l0 b r a.1 a.2.1 a.2.2.1 a.2.2.2) a
def tcop(a:Nat)(t:List qT1×Int):oN (Int×List qT1):=(sClo2 a t.1).bind λr=>(tcop_l0_it a r (0,t.2,r,0)).bind λo=>some (o.1,o.2.1)
def tcop_fa:FnA:=⟨tw [zad,zbd,.two lf (.one (.loop ⟨[1,2,12],⟨qL87,zbk⟩⟩ false [(0,zfb)] (tw [lf,lf,.one (tw [lf,lf] (.reg [(6,{ids:=[103],fn:=1}),(11,{ids:=[104],fn:=2})]))] lf)))] lf,zaX,zdQ,[0]⟩
theorem gJZ:To 155 tcop_fa tcop:=tj (ta b9Z (ta bXZ (ta bMZ tz))) func155
def icopE_l0(i:Nat)(r:List qT1)(x h:Int)(c:List qT12)(e:Int)(d:List qT31):oN ((Int×Int×List qT12×Int×List qT31)⊕(Int×List qT12×Int×List qT31)):=bif (decide (x<(r.length:Int))) then (idx? x c.length).bind λq=>c[q]?.bind λb=>(lowD (.ref 1 (.pair .str (.int .i64))) b.2.2.2.2.2.2.2).bind λg=>(inode_own i (b.1,b.2.1,b.2.2.1,b.2.2.2.1,b.2.2.2.2.1,b.2.2.2.2.2.1,b.2.2.2.2.2.2.1,g)).bind λa=>(idx? x c.length).bind λf=>c[f]?.bind λj=>some (.inl ((wI (x+1)),h,(List.set c f (a.1,a.2.1,a.2.2.1,a.2.2.2.1,a.2.2.2.2.1,a.2.2.2.2.2.2.1,a.2.2.2.2.2.1,(.inr (some (d.length,0,a.2.2.2.2.2.2.2.length))))),e,(d++[(1,a.2.2.2.2.2.2.2)]))) else some (.inr (h,c,e,d))
def icopE_l0_it(b:Nat)(r:List qT1)(a:Int×Int×List qT12×Int×List qT31):oN (Int×List qT12×Int×List qT31):=iter b (λa=>icopE_l0 b r a.1 a.2.1 a.2.2.1 a.2.2.2.1 a.2.2.2.2) a
def icopE(a:Nat)(t:List qT1×Int):oN (Int×List qT12×List qT31):=(sClo2 a t.1).bind λr=>(icopE_l0_it a r (0,t.2,(List.map (liftT qY8) r),0,[])).bind λo=>some (o.1,o.2.1,o.2.2.2)
def icopE_fa:FnA:=⟨tw [zad,zbd,.two lf (.one (.pre (.newFam 1 118 (.pair .str ti)) (.pre (.toRef 102 qY8) (.loop ⟨[1,2,10,12],⟨zbh,zbe⟩⟩ false [(0,zfc)] (tw [lf,lf,.one (.two zcB (.reg [(4,{ids:=[104,105],md:=[3],fn:=1}),(6,{sh:=[105,999985]})]))] lf)))))] lf,zaX,[zek],[0]⟩
theorem pqZ:To 189 icopE_fa icopE:=tj (ta b9Z (ta bEZ tz)) func189
end
end Go.Ab.D
