/- Functions of the program, in plain words; what is told of each. -/
import Derived.Test.YtjngohmkdmdecaaGreatE4
import Derived.Test.YtjngohmkdmdecaaGreatProg
import Derived.KernelRfl
set_option linter.all false
namespace Go.Proofs
open Go.Shelf
def Tryz.ca131_ren:Go.Shelf.Ren:=⟨fun|150=>131|153=>170|152=>199|226=>200|227=>201|228=>202|137=>214|119=>215|224=>216|225=>217|217=>221|266=>223|n=>n,fun|9=>9|4=>4|3=>3|5=>5|21=>21|117=>262|116=>261|0=>0|46=>213|124=>277|n=>n,fun|n=>n⟩
theorem Tryz.ca131:Go.Proofs.Lays.n150 Tryz.prog Tryz.ca131_ren:={
 mixed:=by kernel_rfl
 f119:=Tryz.func215.trans (congrArg some (by kernel_rfl))
 f137:=Tryz.func214.trans (congrArg some (by kernel_rfl))
 f150:=Tryz.func131.trans (congrArg some (by kernel_rfl))
 f152:=Tryz.func199.trans (congrArg some (by kernel_rfl))
 f153:=Tryz.func170.trans (congrArg some (by kernel_rfl))
 f217:=Tryz.func221.trans (congrArg some (by kernel_rfl))
 f224:=Tryz.func216.trans (congrArg some (by kernel_rfl))
 f225:=Tryz.func217.trans (congrArg some (by kernel_rfl))
 f226:=Tryz.func200.trans (congrArg some (by kernel_rfl))
 f227:=Tryz.func201.trans (congrArg some (by kernel_rfl))
 f228:=Tryz.func202.trans (congrArg some (by kernel_rfl))
 f266:=Tryz.func223.trans (congrArg some (by kernel_rfl))
 t0:=Tryz.underlying0
 a0:=Tryz.isAgg0
 z0:=Tryz.sizeOf0
 v0:=Tryz.zeroValue0
 t3:=Tryz.underlying3
 a3:=Tryz.isAgg3
 z3:=Tryz.sizeOf3
 v3:=Tryz.zeroValue3
 t4:=Tryz.underlying4
 a4:=Tryz.isAgg4
 z4:=Tryz.sizeOf4
 v4:=Tryz.zeroValue4
 t5:=Tryz.underlying5
 a5:=Tryz.isAgg5
 z5:=Tryz.sizeOf5
 v5:=Tryz.zeroValue5
 t9:=Tryz.underlying9
 a9:=Tryz.isAgg9
 z9:=Tryz.sizeOf9
 v9:=Tryz.zeroValue9
 t21:=Tryz.underlying21
 a21:=Tryz.isAgg21
 z21:=Tryz.sizeOf21
 v21:=Tryz.zeroValue21
 t46:=Tryz.underlying213
 a46:=Tryz.isAgg213
 z46:=Tryz.sizeOf213
 v46:=Tryz.zeroValue213
 t116:=Tryz.underlying261
 a116:=Tryz.isAgg261
 z116:=Tryz.sizeOf261
 t117:=Tryz.underlying262
 a117:=Tryz.isAgg262
 z117:=Tryz.sizeOf262
 v117:=Tryz.zeroValue262
 t124:=Tryz.underlying277
 a124:=Tryz.isAgg277
 z124:=Tryz.sizeOf277
 v124:=Tryz.zeroValue277}
def Tryz.ins193_ren:Go.Shelf.Ren:=⟨fun|22=>193|29=>211|30=>212|36=>220|17=>222|n=>n,fun|24=>38|9=>118|3=>3|4=>4|0=>0|n=>n,fun|n=>n⟩
theorem Tryz.ins193:Go.Proofs.InsLay Tryz.prog Tryz.ins193_ren:={
 mixed:=by kernel_rfl
 f22:=⟨Tryz.f193.name,by decide,Tryz.func193.trans (congrArg some (by kernel_rfl))⟩
 x29:=by kernel_rfl
 t0:=Tryz.underlying0
 a0:=Tryz.isAgg0
 z0:=Tryz.sizeOf0
 v0:=Tryz.zeroValue0
 t3:=Tryz.underlying3
 a3:=Tryz.isAgg3
 z3:=Tryz.sizeOf3
 v3:=Tryz.zeroValue3
 t4:=Tryz.underlying4
 a4:=Tryz.isAgg4
 z4:=Tryz.sizeOf4
 v4:=Tryz.zeroValue4
 t24:=Tryz.underlying38
 a24:=Tryz.isAgg38
 z24:=Tryz.sizeOf38
 v24:=Tryz.zeroValue38}
def Tryz.ins110_ren:Go.Shelf.Ren:=⟨fun|22=>110|29=>147|30=>148|36=>173|17=>203|n=>n,fun|24=>43|9=>141|3=>3|4=>4|0=>0|n=>n,fun|n=>n⟩
theorem Tryz.ins110:Go.Proofs.InsLay Tryz.prog Tryz.ins110_ren:={
 mixed:=by kernel_rfl
 f22:=⟨Tryz.f110.name,by decide,Tryz.func110.trans (congrArg some (by kernel_rfl))⟩
 x29:=by kernel_rfl
 t0:=Tryz.underlying0
 a0:=Tryz.isAgg0
 z0:=Tryz.sizeOf0
 v0:=Tryz.zeroValue0
 t3:=Tryz.underlying3
 a3:=Tryz.isAgg3
 z3:=Tryz.sizeOf3
 v3:=Tryz.zeroValue3
 t4:=Tryz.underlying4
 a4:=Tryz.isAgg4
 z4:=Tryz.sizeOf4
 v4:=Tryz.zeroValue4
 t24:=Tryz.underlying43
 a24:=Tryz.isAgg43
 z24:=Tryz.sizeOf43
 v24:=Tryz.zeroValue43}
def Tryz.ins111_ren:Go.Shelf.Ren:=⟨fun|22=>111|29=>149|30=>150|36=>174|17=>204|n=>n,fun|24=>66|9=>40|3=>3|4=>4|0=>0|n=>n,fun|n=>n⟩
theorem Tryz.ins111:Go.Proofs.InsLay Tryz.prog Tryz.ins111_ren:={
 mixed:=by kernel_rfl
 f22:=⟨Tryz.f111.name,by decide,Tryz.func111.trans (congrArg some (by kernel_rfl))⟩
 x29:=by kernel_rfl
 t0:=Tryz.underlying0
 a0:=Tryz.isAgg0
 z0:=Tryz.sizeOf0
 v0:=Tryz.zeroValue0
 t3:=Tryz.underlying3
 a3:=Tryz.isAgg3
 z3:=Tryz.sizeOf3
 v3:=Tryz.zeroValue3
 t4:=Tryz.underlying4
 a4:=Tryz.isAgg4
 z4:=Tryz.sizeOf4
 v4:=Tryz.zeroValue4
 t24:=Tryz.underlying66
 a24:=Tryz.isAgg66
 z24:=Tryz.sizeOf66
 v24:=Tryz.zeroValue66}
def Tryz.del112_ren:Go.Shelf.Ren:=⟨fun|24=>112|n=>n,fun|24=>66|9=>40|3=>3|4=>4|0=>0|n=>n,fun|n=>n⟩
theorem Tryz.del112:Go.Proofs.DelLay Tryz.prog Tryz.del112_ren:={
 mixed:=by kernel_rfl
 f24:=⟨Tryz.f112.name,by decide,Tryz.func112.trans (congrArg some (by kernel_rfl))⟩
 t0:=Tryz.underlying0
 a0:=Tryz.isAgg0
 z0:=Tryz.sizeOf0
 v0:=Tryz.zeroValue0
 t3:=Tryz.underlying3
 a3:=Tryz.isAgg3
 z3:=Tryz.sizeOf3
 v3:=Tryz.zeroValue3
 t4:=Tryz.underlying4
 a4:=Tryz.isAgg4
 z4:=Tryz.sizeOf4
 v4:=Tryz.zeroValue4
 t24:=Tryz.underlying66
 a24:=Tryz.isAgg66
 z24:=Tryz.sizeOf66
 v24:=Tryz.zeroValue66}
def Tryz.sort113_ren:Go.Shelf.Ren:=⟨fun|6=>113|15=>152|14=>151|28=>183|29=>184|20=>175|21=>176|22=>177|23=>178|24=>179|25=>180|26=>181|27=>182|46=>205|47=>206|48=>207|49=>208|50=>209|57=>218|n=>n,fun|22=>47|24=>73|25=>180|3=>3|39=>213|0=>0|53=>247|55=>249|4=>4|46=>241|45=>240|50=>157|5=>5|9=>9|66=>267|70=>271|76=>278|77=>279|n=>n,fun|n=>n⟩
theorem Tryz.sort113:Go.Proofs.SlLaysF0.n6 Tryz.prog Tryz.sort113_ren:={
 mixed:=by kernel_rfl
 f6:=⟨Tryz.f113.name,by decide,Tryz.func113.trans (congrArg some (by kernel_rfl))⟩
 f14:=⟨Tryz.f151.name,by decide,Tryz.func151.trans (congrArg some (by kernel_rfl))⟩
 f15:=Tryz.func152.trans (congrArg some (by kernel_rfl))
 f20:=⟨Tryz.f175.name,by decide,Tryz.func175.trans (congrArg some (by kernel_rfl))⟩
 f21:=⟨Tryz.f176.name,by decide,Tryz.func176.trans (congrArg some (by kernel_rfl))⟩
 f22:=⟨Tryz.f177.name,by decide,Tryz.func177.trans (congrArg some (by kernel_rfl))⟩
 f23:=⟨Tryz.f178.name,by decide,Tryz.func178.trans (congrArg some (by kernel_rfl))⟩
 f24:=⟨Tryz.f179.name,by decide,Tryz.func179.trans (congrArg some (by kernel_rfl))⟩
 f25:=⟨Tryz.f180.name,by decide,Tryz.func180.trans (congrArg some (by kernel_rfl))⟩
 f26:=⟨Tryz.f181.name,by decide,Tryz.func181.trans (congrArg some (by kernel_rfl))⟩
 f27:=⟨Tryz.f182.name,by decide,Tryz.func182.trans (congrArg some (by kernel_rfl))⟩
 f28:=Tryz.func183.trans (congrArg some (by kernel_rfl))
 f29:=Tryz.func184.trans (congrArg some (by kernel_rfl))
 f46:=⟨Tryz.f205.name,by decide,Tryz.func205.trans (congrArg some (by kernel_rfl))⟩
 f47:=Tryz.func206.trans (congrArg some (by kernel_rfl))
 f48:=Tryz.func207.trans (congrArg some (by kernel_rfl))
 f49:=⟨Tryz.f208.name,by decide,Tryz.func208.trans (congrArg some (by kernel_rfl))⟩
 f50:=⟨Tryz.f209.name,by decide,Tryz.func209.trans (congrArg some (by kernel_rfl))⟩
 f57:=⟨Tryz.f218.name,by decide,Tryz.func218.trans (congrArg some (by kernel_rfl))⟩
 t0:=Tryz.underlying0
 a0:=Tryz.isAgg0
 z0:=Tryz.sizeOf0
 v0:=Tryz.zeroValue0
 t3:=Tryz.underlying3
 a3:=Tryz.isAgg3
 z3:=Tryz.sizeOf3
 v3:=Tryz.zeroValue3
 t4:=Tryz.underlying4
 a4:=Tryz.isAgg4
 z4:=Tryz.sizeOf4
 v4:=Tryz.zeroValue4
 t5:=Tryz.underlying5
 a5:=Tryz.isAgg5
 z5:=Tryz.sizeOf5
 v5:=Tryz.zeroValue5
 t9:=Tryz.underlying9
 a9:=Tryz.isAgg9
 z9:=Tryz.sizeOf9
 v9:=Tryz.zeroValue9
 t22:=Tryz.underlying47
 a22:=Tryz.isAgg47
 z22:=Tryz.sizeOf47
 v22:=Tryz.zeroValue47
 t25:=Tryz.underlying180
 a25:=Tryz.isAgg180
 z25:=Tryz.sizeOf180
 v25:=Tryz.zeroValue180
 t39:=Tryz.underlying213
 a39:=Tryz.isAgg213
 z39:=Tryz.sizeOf213
 v39:=Tryz.zeroValue213
 t45:=Tryz.underlying240
 a45:=Tryz.isAgg240
 z45:=Tryz.sizeOf240
 v45:=Tryz.zeroValue240
 t46:=Tryz.underlying241
 a46:=Tryz.isAgg241
 z46:=Tryz.sizeOf241
 v46:=Tryz.zeroValue241
 t50:=Tryz.underlying157
 a50:=Tryz.isAgg157
 z50:=Tryz.sizeOf157
 v50:=Tryz.zeroValue157
 t53:=Tryz.underlying247
 a53:=Tryz.isAgg247
 z53:=Tryz.sizeOf247
 v53:=Tryz.zeroValue247
 t55:=Tryz.underlying249
 a55:=Tryz.isAgg249
 z55:=Tryz.sizeOf249
 v55:=Tryz.zeroValue249
 t66:=Tryz.underlying267
 a66:=Tryz.isAgg267
 z66:=Tryz.sizeOf267
 v66:=Tryz.zeroValue267
 t70:=Tryz.underlying271
 a70:=Tryz.isAgg271
 z70:=Tryz.sizeOf271
 v70:=Tryz.zeroValue271
 t76:=Tryz.underlying278
 a76:=Tryz.isAgg278
 z76:=Tryz.sizeOf278
 v76:=Tryz.zeroValue278
 t77:=Tryz.underlying279
 a77:=Tryz.isAgg279
 z77:=Tryz.sizeOf279
 v77:=Tryz.zeroValue279}
end Go.Proofs
set_option maxRecDepth 100000
set_option maxHeartbeats 4000000
namespace Go.Ab
abbrev uO:=UInt8.ofNat
def wI:=Go.IntKind.wrap .i64
theorem uOt{x:UInt8}:uO x.toNat=x:=UInt8.ofNat_toNat
end Go.Ab
namespace Prod
variable{a0 b0 c0 d0 e0 f0 g0 h0 i0 j0 k0 l0 m0 n0 o0 p0 q0 r0 s0 t0 u0 v0 w0 x0 y0 z0 A0 B0 C0 D0 E0 F0 G0 H0 I0 J0 K0 L0 M0 N0 O0 P0 Q0 R0 S0 T0 U0 V0 W0 X0 Y0 Z0:Type}
def a(_o:a0×b0×c0):=_o.2.1
def b(_o:a0×b0×c0×d0):=_o.2.2.1
def c(_o:a0×b0×c0×d0×e0):=_o.2.2.2.1
def d(_o:a0×b0×c0×d0×e0×f0):=_o.2.2.2.2.1
def e(_o:a0×b0×c0×d0×e0×f0×g0):=_o.2.2.2.2.2.1
def f(_o:a0×b0×c0×d0×e0×f0×g0×h0):=_o.2.2.2.2.2.2.1
def g(_o:a0×b0×c0×d0×e0×f0×g0×h0×i0):=_o.2.2.2.2.2.2.2.1
def h(_o:a0×b0×c0×d0×e0×f0×g0×h0×i0×j0):=_o.2.2.2.2.2.2.2.2.1
def i(_o:a0×b0×c0×d0×e0×f0×g0×h0×i0×j0×k0):=_o.2.2.2.2.2.2.2.2.2.1
def j(_o:a0×b0×c0×d0×e0×f0×g0×h0×i0×j0×k0×l0):=_o.2.2.2.2.2.2.2.2.2.2.1
def k(_o:a0×b0×c0×d0×e0×f0×g0×h0×i0×j0×k0×l0×m0):=_o.2.2.2.2.2.2.2.2.2.2.2.1
def l(_o:a0×b0×c0×d0×e0×f0×g0×h0×i0×j0×k0×l0×m0×n0):=_o.2.2.2.2.2.2.2.2.2.2.2.2.1
def m(_o:a0×b0×c0×d0×e0×f0×g0×h0×i0×j0×k0×l0×m0×n0×o0):=_o.2.2.2.2.2.2.2.2.2.2.2.2.2.1
def n(_o:a0×b0×c0×d0×e0×f0×g0×h0×i0×j0×k0×l0×m0×n0×o0×p0):=_o.2.2.2.2.2.2.2.2.2.2.2.2.2.2.1
def o(_o:a0×b0×c0×d0×e0×f0×g0×h0×i0×j0×k0×l0×m0×n0×o0×p0×q0):=_o.2.2.2.2.2.2.2.2.2.2.2.2.2.2.2.1
def p(_o:a0×b0×c0×d0×e0×f0×g0×h0×i0×j0×k0×l0×m0×n0×o0×p0×q0×r0):=_o.2.2.2.2.2.2.2.2.2.2.2.2.2.2.2.2.1
def q(_o:a0×b0×c0×d0×e0×f0×g0×h0×i0×j0×k0×l0×m0×n0×o0×p0×q0×r0×s0):=_o.2.2.2.2.2.2.2.2.2.2.2.2.2.2.2.2.2.1
def r(_o:a0×b0×c0×d0×e0×f0×g0×h0×i0×j0×k0×l0×m0×n0×o0×p0×q0×r0×s0×t0):=_o.2.2.2.2.2.2.2.2.2.2.2.2.2.2.2.2.2.2.1
def s(_o:a0×b0×c0×d0×e0×f0×g0×h0×i0×j0×k0×l0×m0×n0×o0×p0×q0×r0×s0×t0×u0):=_o.2.2.2.2.2.2.2.2.2.2.2.2.2.2.2.2.2.2.2.1
def t(_o:a0×b0×c0×d0×e0×f0×g0×h0×i0×j0×k0×l0×m0×n0×o0×p0×q0×r0×s0×t0×u0×v0):=_o.2.2.2.2.2.2.2.2.2.2.2.2.2.2.2.2.2.2.2.2.1
def u(_o:a0×b0×c0×d0×e0×f0×g0×h0×i0×j0×k0×l0×m0×n0×o0×p0×q0×r0×s0×t0×u0×v0×w0):=_o.2.2.2.2.2.2.2.2.2.2.2.2.2.2.2.2.2.2.2.2.2.1
def v(_o:a0×b0×c0×d0×e0×f0×g0×h0×i0×j0×k0×l0×m0×n0×o0×p0×q0×r0×s0×t0×u0×v0×w0×x0):=_o.2.2.2.2.2.2.2.2.2.2.2.2.2.2.2.2.2.2.2.2.2.2.1
def w(_o:a0×b0×c0×d0×e0×f0×g0×h0×i0×j0×k0×l0×m0×n0×o0×p0×q0×r0×s0×t0×u0×v0×w0×x0×y0):=_o.2.2.2.2.2.2.2.2.2.2.2.2.2.2.2.2.2.2.2.2.2.2.2.1
def x(_o:a0×b0×c0×d0×e0×f0×g0×h0×i0×j0×k0×l0×m0×n0×o0×p0×q0×r0×s0×t0×u0×v0×w0×x0×y0×z0):=_o.2.2.2.2.2.2.2.2.2.2.2.2.2.2.2.2.2.2.2.2.2.2.2.2.1
def y(_o:a0×b0×c0×d0×e0×f0×g0×h0×i0×j0×k0×l0×m0×n0×o0×p0×q0×r0×s0×t0×u0×v0×w0×x0×y0×z0×A0):=_o.2.2.2.2.2.2.2.2.2.2.2.2.2.2.2.2.2.2.2.2.2.2.2.2.2.1
def z(_o:a0×b0×c0×d0×e0×f0×g0×h0×i0×j0×k0×l0×m0×n0×o0×p0×q0×r0×s0×t0×u0×v0×w0×x0×y0×z0×A0×B0):=_o.2.2.2.2.2.2.2.2.2.2.2.2.2.2.2.2.2.2.2.2.2.2.2.2.2.2.1
def za(_o:a0×b0×c0×d0×e0×f0×g0×h0×i0×j0×k0×l0×m0×n0×o0×p0×q0×r0×s0×t0×u0×v0×w0×x0×y0×z0×A0×B0×C0):=_o.2.2.2.2.2.2.2.2.2.2.2.2.2.2.2.2.2.2.2.2.2.2.2.2.2.2.2.1
def zb(_o:a0×b0×c0×d0×e0×f0×g0×h0×i0×j0×k0×l0×m0×n0×o0×p0×q0×r0×s0×t0×u0×v0×w0×x0×y0×z0×A0×B0×C0×D0):=_o.2.2.2.2.2.2.2.2.2.2.2.2.2.2.2.2.2.2.2.2.2.2.2.2.2.2.2.2.1
def zc(_o:a0×b0×c0×d0×e0×f0×g0×h0×i0×j0×k0×l0×m0×n0×o0×p0×q0×r0×s0×t0×u0×v0×w0×x0×y0×z0×A0×B0×C0×D0×E0):=_o.2.2.2.2.2.2.2.2.2.2.2.2.2.2.2.2.2.2.2.2.2.2.2.2.2.2.2.2.2.1
def zd(_o:a0×b0×c0×d0×e0×f0×g0×h0×i0×j0×k0×l0×m0×n0×o0×p0×q0×r0×s0×t0×u0×v0×w0×x0×y0×z0×A0×B0×C0×D0×E0×F0):=_o.2.2.2.2.2.2.2.2.2.2.2.2.2.2.2.2.2.2.2.2.2.2.2.2.2.2.2.2.2.2.1
def ze(_o:a0×b0×c0×d0×e0×f0×g0×h0×i0×j0×k0×l0×m0×n0×o0×p0×q0×r0×s0×t0×u0×v0×w0×x0×y0×z0×A0×B0×C0×D0×E0×F0×G0):=_o.2.2.2.2.2.2.2.2.2.2.2.2.2.2.2.2.2.2.2.2.2.2.2.2.2.2.2.2.2.2.2.1
def zf(_o:a0×b0×c0×d0×e0×f0×g0×h0×i0×j0×k0×l0×m0×n0×o0×p0×q0×r0×s0×t0×u0×v0×w0×x0×y0×z0×A0×B0×C0×D0×E0×F0×G0×H0):=_o.2.2.2.2.2.2.2.2.2.2.2.2.2.2.2.2.2.2.2.2.2.2.2.2.2.2.2.2.2.2.2.2.1
def zg(_o:a0×b0×c0×d0×e0×f0×g0×h0×i0×j0×k0×l0×m0×n0×o0×p0×q0×r0×s0×t0×u0×v0×w0×x0×y0×z0×A0×B0×C0×D0×E0×F0×G0×H0×I0):=_o.2.2.2.2.2.2.2.2.2.2.2.2.2.2.2.2.2.2.2.2.2.2.2.2.2.2.2.2.2.2.2.2.2.1
def zh(_o:a0×b0×c0×d0×e0×f0×g0×h0×i0×j0×k0×l0×m0×n0×o0×p0×q0×r0×s0×t0×u0×v0×w0×x0×y0×z0×A0×B0×C0×D0×E0×F0×G0×H0×I0×J0):=_o.2.2.2.2.2.2.2.2.2.2.2.2.2.2.2.2.2.2.2.2.2.2.2.2.2.2.2.2.2.2.2.2.2.2.1
def zi(_o:a0×b0×c0×d0×e0×f0×g0×h0×i0×j0×k0×l0×m0×n0×o0×p0×q0×r0×s0×t0×u0×v0×w0×x0×y0×z0×A0×B0×C0×D0×E0×F0×G0×H0×I0×J0×K0):=_o.2.2.2.2.2.2.2.2.2.2.2.2.2.2.2.2.2.2.2.2.2.2.2.2.2.2.2.2.2.2.2.2.2.2.2.1
def zj(_o:a0×b0×c0×d0×e0×f0×g0×h0×i0×j0×k0×l0×m0×n0×o0×p0×q0×r0×s0×t0×u0×v0×w0×x0×y0×z0×A0×B0×C0×D0×E0×F0×G0×H0×I0×J0×K0×L0):=_o.2.2.2.2.2.2.2.2.2.2.2.2.2.2.2.2.2.2.2.2.2.2.2.2.2.2.2.2.2.2.2.2.2.2.2.2.1
def zk(_o:a0×b0×c0×d0×e0×f0×g0×h0×i0×j0×k0×l0×m0×n0×o0×p0×q0×r0×s0×t0×u0×v0×w0×x0×y0×z0×A0×B0×C0×D0×E0×F0×G0×H0×I0×J0×K0×L0×M0):=_o.2.2.2.2.2.2.2.2.2.2.2.2.2.2.2.2.2.2.2.2.2.2.2.2.2.2.2.2.2.2.2.2.2.2.2.2.2.1
def zl(_o:a0×b0×c0×d0×e0×f0×g0×h0×i0×j0×k0×l0×m0×n0×o0×p0×q0×r0×s0×t0×u0×v0×w0×x0×y0×z0×A0×B0×C0×D0×E0×F0×G0×H0×I0×J0×K0×L0×M0×N0):=_o.2.2.2.2.2.2.2.2.2.2.2.2.2.2.2.2.2.2.2.2.2.2.2.2.2.2.2.2.2.2.2.2.2.2.2.2.2.2.1
def zm(_o:a0×b0×c0×d0×e0×f0×g0×h0×i0×j0×k0×l0×m0×n0×o0×p0×q0×r0×s0×t0×u0×v0×w0×x0×y0×z0×A0×B0×C0×D0×E0×F0×G0×H0×I0×J0×K0×L0×M0×N0×O0):=_o.2.2.2.2.2.2.2.2.2.2.2.2.2.2.2.2.2.2.2.2.2.2.2.2.2.2.2.2.2.2.2.2.2.2.2.2.2.2.2.1
def zn(_o:a0×b0×c0×d0×e0×f0×g0×h0×i0×j0×k0×l0×m0×n0×o0×p0×q0×r0×s0×t0×u0×v0×w0×x0×y0×z0×A0×B0×C0×D0×E0×F0×G0×H0×I0×J0×K0×L0×M0×N0×O0×P0):=_o.2.2.2.2.2.2.2.2.2.2.2.2.2.2.2.2.2.2.2.2.2.2.2.2.2.2.2.2.2.2.2.2.2.2.2.2.2.2.2.2.1
def zo(_o:a0×b0×c0×d0×e0×f0×g0×h0×i0×j0×k0×l0×m0×n0×o0×p0×q0×r0×s0×t0×u0×v0×w0×x0×y0×z0×A0×B0×C0×D0×E0×F0×G0×H0×I0×J0×K0×L0×M0×N0×O0×P0×Q0):=_o.2.2.2.2.2.2.2.2.2.2.2.2.2.2.2.2.2.2.2.2.2.2.2.2.2.2.2.2.2.2.2.2.2.2.2.2.2.2.2.2.2.1
def zp(_o:a0×b0×c0×d0×e0×f0×g0×h0×i0×j0×k0×l0×m0×n0×o0×p0×q0×r0×s0×t0×u0×v0×w0×x0×y0×z0×A0×B0×C0×D0×E0×F0×G0×H0×I0×J0×K0×L0×M0×N0×O0×P0×Q0×R0):=_o.2.2.2.2.2.2.2.2.2.2.2.2.2.2.2.2.2.2.2.2.2.2.2.2.2.2.2.2.2.2.2.2.2.2.2.2.2.2.2.2.2.2.1
def zq(_o:a0×b0×c0×d0×e0×f0×g0×h0×i0×j0×k0×l0×m0×n0×o0×p0×q0×r0×s0×t0×u0×v0×w0×x0×y0×z0×A0×B0×C0×D0×E0×F0×G0×H0×I0×J0×K0×L0×M0×N0×O0×P0×Q0×R0×S0):=_o.2.2.2.2.2.2.2.2.2.2.2.2.2.2.2.2.2.2.2.2.2.2.2.2.2.2.2.2.2.2.2.2.2.2.2.2.2.2.2.2.2.2.2.1
def zr(_o:a0×b0×c0×d0×e0×f0×g0×h0×i0×j0×k0×l0×m0×n0×o0×p0×q0×r0×s0×t0×u0×v0×w0×x0×y0×z0×A0×B0×C0×D0×E0×F0×G0×H0×I0×J0×K0×L0×M0×N0×O0×P0×Q0×R0×S0×T0):=_o.2.2.2.2.2.2.2.2.2.2.2.2.2.2.2.2.2.2.2.2.2.2.2.2.2.2.2.2.2.2.2.2.2.2.2.2.2.2.2.2.2.2.2.2.1
def zs(_o:a0×b0×c0×d0×e0×f0×g0×h0×i0×j0×k0×l0×m0×n0×o0×p0×q0×r0×s0×t0×u0×v0×w0×x0×y0×z0×A0×B0×C0×D0×E0×F0×G0×H0×I0×J0×K0×L0×M0×N0×O0×P0×Q0×R0×S0×T0×U0):=_o.2.2.2.2.2.2.2.2.2.2.2.2.2.2.2.2.2.2.2.2.2.2.2.2.2.2.2.2.2.2.2.2.2.2.2.2.2.2.2.2.2.2.2.2.2.1
def zt(_o:a0×b0×c0×d0×e0×f0×g0×h0×i0×j0×k0×l0×m0×n0×o0×p0×q0×r0×s0×t0×u0×v0×w0×x0×y0×z0×A0×B0×C0×D0×E0×F0×G0×H0×I0×J0×K0×L0×M0×N0×O0×P0×Q0×R0×S0×T0×U0×V0):=_o.2.2.2.2.2.2.2.2.2.2.2.2.2.2.2.2.2.2.2.2.2.2.2.2.2.2.2.2.2.2.2.2.2.2.2.2.2.2.2.2.2.2.2.2.2.2.1
def zu(_o:a0×b0×c0×d0×e0×f0×g0×h0×i0×j0×k0×l0×m0×n0×o0×p0×q0×r0×s0×t0×u0×v0×w0×x0×y0×z0×A0×B0×C0×D0×E0×F0×G0×H0×I0×J0×K0×L0×M0×N0×O0×P0×Q0×R0×S0×T0×U0×V0×W0):=_o.2.2.2.2.2.2.2.2.2.2.2.2.2.2.2.2.2.2.2.2.2.2.2.2.2.2.2.2.2.2.2.2.2.2.2.2.2.2.2.2.2.2.2.2.2.2.2.1
def zv(_o:a0×b0×c0×d0×e0×f0×g0×h0×i0×j0×k0×l0×m0×n0×o0×p0×q0×r0×s0×t0×u0×v0×w0×x0×y0×z0×A0×B0×C0×D0×E0×F0×G0×H0×I0×J0×K0×L0×M0×N0×O0×P0×Q0×R0×S0×T0×U0×V0×W0×X0):=_o.2.2.2.2.2.2.2.2.2.2.2.2.2.2.2.2.2.2.2.2.2.2.2.2.2.2.2.2.2.2.2.2.2.2.2.2.2.2.2.2.2.2.2.2.2.2.2.2.1
def zw(_o:a0×b0×c0×d0×e0×f0×g0×h0×i0×j0×k0×l0×m0×n0×o0×p0×q0×r0×s0×t0×u0×v0×w0×x0×y0×z0×A0×B0×C0×D0×E0×F0×G0×H0×I0×J0×K0×L0×M0×N0×O0×P0×Q0×R0×S0×T0×U0×V0×W0×X0×Y0):=_o.2.2.2.2.2.2.2.2.2.2.2.2.2.2.2.2.2.2.2.2.2.2.2.2.2.2.2.2.2.2.2.2.2.2.2.2.2.2.2.2.2.2.2.2.2.2.2.2.2.1
def zx(_o:a0×b0×c0×d0×e0×f0×g0×h0×i0×j0×k0×l0×m0×n0×o0×p0×q0×r0×s0×t0×u0×v0×w0×x0×y0×z0×A0×B0×C0×D0×E0×F0×G0×H0×I0×J0×K0×L0×M0×N0×O0×P0×Q0×R0×S0×T0×U0×V0×W0×X0×Y0×Z0):=_o.2.2.2.2.2.2.2.2.2.2.2.2.2.2.2.2.2.2.2.2.2.2.2.2.2.2.2.2.2.2.2.2.2.2.2.2.2.2.2.2.2.2.2.2.2.2.2.2.2.2.1
def A(_o:a0×b0×c0):=_o.2.2
def B(_o:a0×b0×c0×d0):=_o.2.2.2
def C(_o:a0×b0×c0×d0×e0):=_o.2.2.2.2
def D(_o:a0×b0×c0×d0×e0×f0):=_o.2.2.2.2.2
def E(_o:a0×b0×c0×d0×e0×f0×g0):=_o.2.2.2.2.2.2
def F(_o:a0×b0×c0×d0×e0×f0×g0×h0):=_o.2.2.2.2.2.2.2
def G(_o:a0×b0×c0×d0×e0×f0×g0×h0×i0):=_o.2.2.2.2.2.2.2.2
def H(_o:a0×b0×c0×d0×e0×f0×g0×h0×i0×j0):=_o.2.2.2.2.2.2.2.2.2
def I(_o:a0×b0×c0×d0×e0×f0×g0×h0×i0×j0×k0):=_o.2.2.2.2.2.2.2.2.2.2
def J(_o:a0×b0×c0×d0×e0×f0×g0×h0×i0×j0×k0×l0):=_o.2.2.2.2.2.2.2.2.2.2.2
def K(_o:a0×b0×c0×d0×e0×f0×g0×h0×i0×j0×k0×l0×m0):=_o.2.2.2.2.2.2.2.2.2.2.2.2
def L(_o:a0×b0×c0×d0×e0×f0×g0×h0×i0×j0×k0×l0×m0×n0):=_o.2.2.2.2.2.2.2.2.2.2.2.2.2
def M(_o:a0×b0×c0×d0×e0×f0×g0×h0×i0×j0×k0×l0×m0×n0×o0):=_o.2.2.2.2.2.2.2.2.2.2.2.2.2.2
def N(_o:a0×b0×c0×d0×e0×f0×g0×h0×i0×j0×k0×l0×m0×n0×o0×p0):=_o.2.2.2.2.2.2.2.2.2.2.2.2.2.2.2
def O(_o:a0×b0×c0×d0×e0×f0×g0×h0×i0×j0×k0×l0×m0×n0×o0×p0×q0):=_o.2.2.2.2.2.2.2.2.2.2.2.2.2.2.2.2
def P(_o:a0×b0×c0×d0×e0×f0×g0×h0×i0×j0×k0×l0×m0×n0×o0×p0×q0×r0):=_o.2.2.2.2.2.2.2.2.2.2.2.2.2.2.2.2.2
def Q(_o:a0×b0×c0×d0×e0×f0×g0×h0×i0×j0×k0×l0×m0×n0×o0×p0×q0×r0×s0):=_o.2.2.2.2.2.2.2.2.2.2.2.2.2.2.2.2.2.2
def S(_o:a0×b0×c0×d0×e0×f0×g0×h0×i0×j0×k0×l0×m0×n0×o0×p0×q0×r0×s0×t0×u0):=_o.2.2.2.2.2.2.2.2.2.2.2.2.2.2.2.2.2.2.2.2
def T(_o:a0×b0×c0×d0×e0×f0×g0×h0×i0×j0×k0×l0×m0×n0×o0×p0×q0×r0×s0×t0×u0×v0):=_o.2.2.2.2.2.2.2.2.2.2.2.2.2.2.2.2.2.2.2.2.2
def U(_o:a0×b0×c0×d0×e0×f0×g0×h0×i0×j0×k0×l0×m0×n0×o0×p0×q0×r0×s0×t0×u0×v0×w0):=_o.2.2.2.2.2.2.2.2.2.2.2.2.2.2.2.2.2.2.2.2.2.2
def V(_o:a0×b0×c0×d0×e0×f0×g0×h0×i0×j0×k0×l0×m0×n0×o0×p0×q0×r0×s0×t0×u0×v0×w0×x0):=_o.2.2.2.2.2.2.2.2.2.2.2.2.2.2.2.2.2.2.2.2.2.2.2
def W(_o:a0×b0×c0×d0×e0×f0×g0×h0×i0×j0×k0×l0×m0×n0×o0×p0×q0×r0×s0×t0×u0×v0×w0×x0×y0):=_o.2.2.2.2.2.2.2.2.2.2.2.2.2.2.2.2.2.2.2.2.2.2.2.2
def X(_o:a0×b0×c0×d0×e0×f0×g0×h0×i0×j0×k0×l0×m0×n0×o0×p0×q0×r0×s0×t0×u0×v0×w0×x0×y0×z0):=_o.2.2.2.2.2.2.2.2.2.2.2.2.2.2.2.2.2.2.2.2.2.2.2.2.2
def Y(_o:a0×b0×c0×d0×e0×f0×g0×h0×i0×j0×k0×l0×m0×n0×o0×p0×q0×r0×s0×t0×u0×v0×w0×x0×y0×z0×A0):=_o.2.2.2.2.2.2.2.2.2.2.2.2.2.2.2.2.2.2.2.2.2.2.2.2.2.2
def ZA(_o:a0×b0×c0×d0×e0×f0×g0×h0×i0×j0×k0×l0×m0×n0×o0×p0×q0×r0×s0×t0×u0×v0×w0×x0×y0×z0×A0×B0×C0):=_o.2.2.2.2.2.2.2.2.2.2.2.2.2.2.2.2.2.2.2.2.2.2.2.2.2.2.2.2
def ZC(_o:a0×b0×c0×d0×e0×f0×g0×h0×i0×j0×k0×l0×m0×n0×o0×p0×q0×r0×s0×t0×u0×v0×w0×x0×y0×z0×A0×B0×C0×D0×E0):=_o.2.2.2.2.2.2.2.2.2.2.2.2.2.2.2.2.2.2.2.2.2.2.2.2.2.2.2.2.2.2
def ZF(_o:a0×b0×c0×d0×e0×f0×g0×h0×i0×j0×k0×l0×m0×n0×o0×p0×q0×r0×s0×t0×u0×v0×w0×x0×y0×z0×A0×B0×C0×D0×E0×F0×G0×H0):=_o.2.2.2.2.2.2.2.2.2.2.2.2.2.2.2.2.2.2.2.2.2.2.2.2.2.2.2.2.2.2.2.2.2
def ZX(_o:a0×b0×c0×d0×e0×f0×g0×h0×i0×j0×k0×l0×m0×n0×o0×p0×q0×r0×s0×t0×u0×v0×w0×x0×y0×z0×A0×B0×C0×D0×E0×F0×G0×H0×I0×J0×K0×L0×M0×N0×O0×P0×Q0×R0×S0×T0×U0×V0×W0×X0×Y0×Z0):=_o.2.2.2.2.2.2.2.2.2.2.2.2.2.2.2.2.2.2.2.2.2.2.2.2.2.2.2.2.2.2.2.2.2.2.2.2.2.2.2.2.2.2.2.2.2.2.2.2.2.2.2
end Prod
namespace Go.Ab.D
abbrev ti:Ty:=.int .i64
abbrev ki:Kd:=.p ti
abbrev kb:Kd:=.p .bool
abbrev ks:Kd:=.p .str
abbrev lc(l:List Kd)(r:KdL):KdL:=l.foldr .cons r
abbrev ln(l:List Kd):=lc l .nil
abbrev tw(l:List Ov)(r:Ov):=l.foldr .two r
abbrev oN:=Option
open Go.Proofs Go.Proofs.Tryz
open Go Go.Ab
noncomputable section
abbrev qY0:Ty:=(.pair ti (.pair ti (.pair ti (.pair (.pair ti ti) (.pair .bool (.pair ti (.pair (.sl .byte) (.pair (.sl (.pair .str ti)) (.pair .bool ti)))))))))
abbrev qY1:Ty:=(.pair ti (.pair ti (.pair .bool (.pair .bool (.pair ti (.pair (.sl (.pair ti ti)) (.pair ti (.sl (.pair .str ti)))))))))
abbrev qT2:Type:=(Int×Int×Bool×Bool×Int×List ((Int×Int))×Int×List ((List UInt8×Int)))
abbrev qT3:Type:=(Int×Int×Int×(Int×Int)×Bool×Int×List (UInt8)×List ((List UInt8×Int))×Bool×Int)
abbrev qB4:BKd:=(.vars (ln [.p (.sl qY1),ki,.p (.sl (.sl .byte)),ki,ki,.p (.int .u8),ki,ki,ks,ki,ki,ks,ki,ki,.p (.sl .byte),ki,ki,ki,ki,ki,kb,ki,.nilp (.slice none 0 0),.nilp (.slice none 0 0),kb,ki]))
abbrev qY5:Ty:=(.pair ti ti)
abbrev qL6:KdL:=(ln [ki])
abbrev qT7:Type:=(Int×Int×UInt8×(Int×Int)×List UInt8×(Int×Int)×List UInt8×Int×Int×List (UInt8))
abbrev qY8:Ty:=(.pair ti (.pair ti (.pair .byte (.pair qY5 (.pair .str (.pair qY5 (.pair .str (.pair ti (.pair ti (.sl .byte))))))))))
abbrev qY9:Ty:=(.pair ti (.pair ti (.pair .bool (.pair .bool (.pair ti (.pair (.sl qY5) (.pair ti (.ref 1 (.pair .str ti)))))))))
abbrev BD:KdL:=(lc [ki,ki,ki,ki,ki,kb,ki,.p (.sl .byte),.p (.sl (.pair .str ti)),kb] qL6)
abbrev SZ:KdL:=(lc [ki,ki,ki,ki,ki,kb,ki,.nilp (.slice none 0 0),.nilp (.slice none 0 0),kb] qL6)
abbrev fA:Type:=((Int×Int×Bool×Bool×Int×List ((Int×Int))×Int×(List ((List UInt8×Int))⊕Option (Nat×Nat×Nat))))
abbrev UK:BKd:=(.vars (lc [ki,.p (.sl qY1),ki,ki,.p (.sl (.pair ti (.pair ti (.sl qY0)))),.p (.sl (.pair ti (.sl ti))),.p (.sl qY5),.mp 1,ki] qL6))
abbrev UL:BKd:=(.vars (lc [ki,.p (.sl qY1),ki,ki,.p (.sl (.pair ti (.pair ti (.sl qY0)))),.p (.sl (.pair ti (.sl ti))),.p (.sl qY5),.mp 102,ki] qL6))
abbrev IX:KdL:=(ln [ki,ki,kb,kb,ki,.p (.sl qY5),ki,.p (.sl (.pair .str ti))])
abbrev BE:Ty:=(.pair ti (.pair (.pair (.sl qY1) ti) (.pair (.pair ti (.sl (.pair ti (.pair ti (.sl qY0))))) (.pair (.sl (.pair ti (.sl ti))) (.sl qY5)))))
abbrev dD:Type:=((Int×Int×List (qT3)))
abbrev gS:Ty:=(.pair ti (.pair qY5 ti))
abbrev cX:Type:=((Int×(Int×Int)×Int))
abbrev sJ:Type:=(List (qT2)×Int×List (List (UInt8))×Int×Int×Int×Int×Int×List UInt8×Int×Int×List UInt8×Int×Int×List (UInt8)×Int×Int×Int×Int×Int×Bool×Int×Bool×Int)
abbrev iI:Type:=(Int×(List (qT2)×Int)×(Int×List dD)×List ((Int×List (Int)))×List ((Int×Int)))
abbrev wG:Type:=(List (qT3)×Int×List (qT2)×Int×Int×List dD×List ((Int×List (Int)))×List ((Int×Int))×Int×Int×(List ((((Int×Int)×List (UInt8))×Nat))×Nat)×List (((List (qT2)×Int)×List (List (UInt8))))×List ((Int×Int)))
abbrev IY:Type:=(Int×List (qT2)×Int×List (List (UInt8))×Int×Int×Int×Int×Int×List UInt8×Int×Int×List UInt8×Int×Int×List (UInt8)×Int×Int×Int×Int×Int×Int×Bool×Int×Bool×Int×List (qT2)×Int×List (List (UInt8))×Int×Int×Int×Int×Int×List UInt8×Int×Int×List UInt8×Int×Int×List (UInt8)×Int×Int×Int×Int×Int×Bool×Int×List (UInt8)×List ((List UInt8×Int))×Bool×Int)
abbrev TR:BKd:=(.vars (lc [.p (.sl qY1),ki,.p (.sl (.sl .byte)),ki,ki,.p (.int .u8),ki,ki,ks,ki,ki,ks,ki,ki,.p (.sl .byte)] BD))
abbrev DO:Ty:=(.pair ti (.pair ti (.pair .bool (.pair .bool (.pair ti (.pair (.ref 0 qY5) (.pair ti (.ref 2 (.pair .str ti)))))))))
abbrev mB:Type:=(List ((((Int×Int)×List (UInt8))×Nat))×Nat)
abbrev mO:Ty:=(.sl (.pair ti (.pair ti (.sl qY0))))
abbrev tX:Type:=((Int×Int×Bool×Bool×Int×(List ((Int×Int))⊕Option (Nat×Nat×Nat))×Int×(List ((List UInt8×Int))⊕Option (Nat×Nat×Nat))))
abbrev FR:Type:=(Int×List (qT2)×Int×Int×List dD×List ((Int×List (Int)))×List ((Int×Int))×Int×Int×mB×List (qT7)×Int×Int×Int×Int×Int×Bool×Int×Bool×Int×List ((Int×qT3×List cX×List cX))×List (List (UInt8))×List (Int))
abbrev TA:BKd:=(.vars (ln [ki,ki,.p (.int .u8),ki,ki,ks,ki,ki,ks,ki,ki,.p (.sl .byte)]))
abbrev DP:Type:=(Int×Int×Int×Int×Int×List UInt8×Int×Int×List UInt8×Int×Int×List (UInt8)×Int×Int×Int×Int×Int×Int×Bool×Int×Bool×Int×Int×List (qT2)×List (List (UInt8)))
abbrev dX:Type:=((Nat×List ((List UInt8×Int))))
abbrev rJ:Type:=(Int×Int×Int×Int×Int×Bool×Int×List (UInt8)×List ((List UInt8×Int))×Bool×Int)
abbrev DQ:Type:=(List (qT3)×Int×List (qT2)×Int×Int×List dD×List ((Int×List (Int)))×List ((Int×Int))×Int×Int×mB×List (((List (qT2)×Int)×List (List (UInt8))))×List ((Int×Int))×List (qT7))
abbrev TS:KdL:=(ln [ki,.p (.sl qY1),ki,ki,.p mO,.p (.sl (.pair ti (.sl ti))),.p (.sl qY5)])
abbrev eX:Type:=(List (((Int×Int)×Nat))×Nat)
abbrev rK:Type:=(Int×Int×(List (qT3)⊕Option (Nat×Nat×Nat)))
abbrev FS:Ty:=(.pair ti (.pair ti (.pair .bool (.pair .bool (.pair ti (.pair (.ref 0 qY5) (.pair ti (.sl (.pair .str ti)))))))))
abbrev KO:Type:=(List (qT2)×Int×List (List (UInt8))×Int×Int×Int×Int×Int×List UInt8×Int×Int×List UInt8×Int×Int×List (UInt8)×Int×Int×Int×Int×Int×Bool×Int×List (UInt8)×List ((List UInt8×Int))×Bool×Int×Int×Int×List (qT2)×List (List (UInt8)))
abbrev KP:Type:=(Int×List (qT2)×Int×Int×List dD×List ((Int×List (Int)))×List ((Int×Int))×Int×Int×mB×List (qT7)×Int×Int×Int×Int×Int×Bool×Int×Bool×Int×List ((Int×qT3×List cX×List cX))×List (List (UInt8))×List (Int)×Int×Int×Int×Int)
abbrev TB:KdL:=(ln [kb,kb,kb,kb,ki,kb])
abbrev FT:KdL:=(ln [ki,.nilp (.slice none 0 0)])
abbrev TT:BKd:=(.fam 118 (.pair .str ti))
abbrev nJ:Ty:=(.pair ti (.pair ti (.ref 1 qY0)))
abbrev KQ:Type:=(Int×List (qT2)×Int×Int×List dD×List ((Int×List (Int)))×List ((Int×Int))×Int×Int×mB×List (qT7)×Int×Int×Int×Int×Int×Bool×Int×Bool×Int×List ((Int×qT3×List cX×List cX))×List (List (UInt8)))
abbrev IZ:BKd:=(.rows 59 (.pair ti (.pair qY0 (.pair (.sl gS) (.sl gS)))))
abbrev TU:BKd:=(.vars (ln [ki,.nilp (.slice none 0 0),ki,ki,.nilp (.slice none 0 0),.nilp (.slice none 0 0),.nilp (.slice none 0 0)]))
abbrev OG:Ty:=(.pair (.pair (.sl qY1) ti) (.sl (.sl .byte)))
abbrev FU:BKd:=(.rows 123 (.pair ti (.sl ti)))
abbrev DR:Type:=(Int×Int×Int×List ((Int×Int))×List (qT2)×List (rK)×List ((Int×List (Int)))×Int×Int×Int×List ((Nat×List (qT3))))
abbrev TC:BKd:=(.vars (ln [ki,.slf 8 1,ki,ki,.p mO,.slf 2 2,.slf 2 3,ki,.slf 2 101]))
abbrev BF:Type:=(Int×Int×Int×List dD×Int×List (qT2)×List ((Int×List (Int)))×List ((Int×Int))×List ((Int×Int)))
abbrev KS:Type:=(Int×Int×Int×Int×Int×Bool×Int×List (UInt8)×List ((List UInt8×Int))×Bool×Int×Bool×Int×List (qT2)×Int×Int×List dD×List ((Int×List (Int)))×List ((Int×Int))×Int×Int×mB)
abbrev kY:KdL:=(ln [.own 0 0 0 0])
abbrev OH:BKd:=(.vars (lc [.nilp (.slice none 0 0)] qL6))
abbrev BG:Type:=(Int×Int×List (qT2)×Int×Int×List dD×List ((Int×List (Int)))×List ((Int×Int))×eX)
abbrev DS:Type:=((Int×Int×Bool×Bool×Int×(List ((Int×Int))⊕Option (Nat×Nat×Nat))×Int×List ((List UInt8×Int))))
abbrev TV:BKd:=(.vars (lc [.p (.sl qY1)] qL6))
abbrev tY:KdL:=(lc [ki] qL6)
abbrev JA:BKd:=(.map ti ti)
abbrev mC:Type:=(Int×qT3×List cX×List cX)
abbrev TW:BKd:=(.vars (ln [ki,ki,.p (.sl qY0)]))
abbrev KT:Type:=(Int×Int×Int×Int×List dD×Int×List (qT2)×List ((Int×List (Int)))×List ((Int×Int))×List ((Int×Int))×List (qT2)×Int)
abbrev DT:KdL:=(ln [.own 0 100 0 0,kb])
abbrev KU:KdL:=(ln [.own 0 100 0 0,.own 0 101 0 0,kb])
abbrev JB:KdL:=(ln [.own 0 0 0 0,.own 0 1 0 0,.own 0 2 0 0])
abbrev UM:BKd:=(.vars (ln [.slf 11 108]))
abbrev JC:KdL:=(ln [.own 0 100 0 0,.own 0 101 0 0])
abbrev zK:BKd:=(.rows 118 (.pair .str ti))
abbrev TX:BKd:=(.vars (ln [.p (.sl qY1),ki,.p (.sl (.sl .byte))]))
abbrev wH:Ty:=(.pair (.sl qY1) ti)
abbrev UN:BKd:=(.vars (ln [ki,.slf 8 102,ki,ki,.slf 3 105,.slf 2 103,.p (.sl qY5)]))
abbrev UO:BKd:=(.vars (ln [.fn 97 .nil (ln [.own 8 1 0 0,.own 0 2 0 0,.own 0 3 0 0,.own 0 4 0 0])]))
abbrev mD:Type:=((Nat×List ((Int×Int))))
abbrev KV:BKd:=(.vars (ln [ks]))
abbrev TF:Type:=(Int×List (qT2)×Int×Int×List dD×List ((Int×List (Int)))×List ((Int×Int))×Int×Int×mB×List (qT7)×Int×Int×Int×Int×Int×Bool×Int×Bool×Int×List (Int))
abbrev OI:Type:=(Int×Int×Int×List dD×Int×List (qT2)×List ((Int×List (Int)))×List ((Int×Int))×List ((Int×Int))×List ((Int×Int)))
abbrev TY:BKd:=(.vars (lc [.slf 8 102] qL6))
abbrev mE:Type:=(Int×List (qT2)×Int)
abbrev xZ:Type:=(Bool×Bool×Bool×Bool×Int×Bool)
abbrev vI:Type:=(List ((List UInt8×Int))×List UInt8)
abbrev JD:KdL:=(ln [.own 0 0 0 0,.own 0 1 0 0])
abbrev JE:KdL:=(lc [.nilp (.slice none 0 0)] FT)
abbrev yA:Type:=(List (qT2)×Int×List (List (UInt8)))
abbrev yB:Type:=((List (qT2)×Int)×List (List (UInt8)))
abbrev OJ:Type:=(Int×Int×Int×List dD×List ((Int×Int))×List (qT2)×List ((Int×List (Int)))×Int×Int×Int)
abbrev DU:Type:=(Int×List (rK)×Int×List ((Nat×List (qT3))))
abbrev TZ:BKd:=(.vars (lc [.slf 8 1,ki,.slf 1 2,ki,ki,.p (.int .u8),ki,ki,ks,ki,ki,ks,ki,ki,.p (.sl .byte)] SZ))
abbrev UP:BKd:=(.vars (ln [ki,.p mO]))
abbrev UA:KdL:=(ln [.own 0 103 0 0,.own 3 106 0 0,.slf 2 107,.own 12 109 0 0,kb])
abbrev JF:KdL:=(lc [.own 0 100 0 0,.own 0 101 0 0] qL6)
abbrev BH:BKd:=(.vars (ln [.nilp (.slice none 0 0)]))
abbrev JG:Type:=(Int×Int×Int×Int×Int×Bool×Int×Bool×Int)
theorem mixed:Tryz.prog.follows .mixedOrders=true:=by kernel_rfl
abbrev lf:Ov:=.leaf
abbrev zbe:KdL:=.nil
abbrev zaa:KdL:=(lc [kb] zbe)
abbrev zab:Ov:=(.two lf lf)
abbrev zdJ:Nat×Bool×BKd:=(0,false,UM)
abbrev zbS:Nat×Bool×BKd:=(108,false,(.rows 40 qY0))
abbrev zeK:Nat×Bool×BKd:=(103,false,UL)
abbrev zcn:Nat×Bool×BKd:=(102,false,(.map qY5 (.sl .byte)))
abbrev zcV:Nat×Bool×BKd:=(106,false,(.rows 30 OG))
abbrev zac:HK:=[zdJ,zbS,zeK,zcn,zcV,(107,false,(.rows 33 qY5)),(109,false,(.rows 36 qY8))]
abbrev zad:Ov:=(.reg [(0,{ids:=[100]})])
abbrev zae:Ov:=(.reg [(0,{ids:=[100]}),(1,{ids:=[101]})])
abbrev zaf:Nat×Bool×BKd:=(0,false,(.vars qL6))
abbrev zag:HK:=[(0,false,(.vars (ln [.slf 1 1]))),(1,false,(.rows 3 ti)),(2,false,TV),(3,false,(.vars IX))]
abbrev zah:HK:=[zdJ,zbS,zeK,zcn,zcV,(107,false,(.rows 33 qY5))]
abbrev zbL:Nat×Bool×BKd:=(2,false,(.vars qL6))
abbrev zai:HK:=[(0,false,(.vars (ln [.mp 1]))),(1,false,JA),zbL]
abbrev zb0:Nat×Bool×BKd:=(0,false,UK)
abbrev zav:Nat×Bool×BKd:=(1,false,(.map qY5 (.sl .byte)))
abbrev zbR:Nat×Bool×BKd:=(100,false,(.rows 36 qY8))
abbrev zaK:Nat×Bool×BKd:=(101,false,(.vars SZ))
abbrev zcO:Nat×Bool×BKd:=(102,false,IZ)
abbrev zdl:Nat×Bool×BKd:=(108,false,(.rows 34 (.sl .byte)))
abbrev zbO:Nat×Bool×BKd:=(109,false,(.rows 3 ti))
abbrev zaj:HK:=[zb0,zav,zbR,zaK,zcO,zdl,zbO,(110,false,(.vars (lc [ki,ki] tY)))]
abbrev zak:Nat×Bool×BKd:=(999985,false,TT)
abbrev zcd:Nat×Bool×BKd:=(999985,false,(.fam 40 qY0))
abbrev zal:HK:=[(100,false,(.vars (ln [ki,.slf 3 102]))),(102,false,(.rows 141 nJ)),(101,false,(.vars FT)),zcd]
abbrev zam:Ov:=(tw [.reg [(0,{ids:=[100]}),(2,{ids:=[101]})]] lf)
abbrev zan:HK:=[(100,false,(.vars (ln [.slf 11 103]))),(103,false,(.rows 40 qY0)),(101,false,(.vars (ln [.slf 11 102]))),(102,false,(.rows 40 qY0))]
abbrev zbi:Nat×Bool×BKd:=(102,false,(.rows 71 qY1))
abbrev zao:HK:=[(100,false,UN),zbi,(105,false,(.rows 141 nJ)),(103,false,FU),(101,false,TU),zcd]
abbrev zap:Nat×Bool×BKd:=(1,false,(.rows 71 qY1))
abbrev zfV:Nat×Bool×BKd:=(0,true,TR)
abbrev zcw:Nat×Bool×BKd:=(102,false,(.vars (ln [.slf 8 101,ki,.slf 1 103])))
abbrev zc2:Nat×Bool×BKd:=(101,false,(.rows 71 qY1))
abbrev zdk:Nat×Bool×BKd:=(103,false,(.rows 34 (.sl .byte)))
abbrev zaq:HK:=[zfV,(100,false,(.vars JE)),zcw,zc2,zdk]
abbrev zar:HK:=[zaf,(1,false,(.vars TS)),(2,false,(.vars (ln [.mp 3]))),(3,false,JA)]
abbrev zas:Ov:=(.two lf zab)
abbrev za0:Shp:=⟨qL6,[]⟩
abbrev zaX:Shp:=⟨zbe,[]⟩
abbrev zbH:List (Nat×fP):=[(0,⟨[],zaX⟩)]
abbrev zat:Ov:=(tw [.two lf (.one (.loop ⟨[8],za0⟩ true zbH (tw [lf,lf,.one (tw [lf,.reg [(5,{})]] zab)] lf)))] lf)
abbrev zau:HK:=[zaf,(1,false,(.vars qL6)),(2,false,(.vars (ln [.slf 1 3]))),(3,false,(.rows 5 .byte))]
abbrev zdT:Shp:=⟨tY,[]⟩
abbrev zfn:Ov:=(tw [.reg [(11,{})]] lf)
abbrev zaw:Ov:=(tw [lf,lf,.one (.loop ⟨[9,10],zdT⟩ false [(0,⟨[9],za0⟩)] (.two zab (.one (tw [lf,.reg [(6,{})]] (.join ⟨[9,10],zdT⟩ false [] lf)))))] zfn)
abbrev zax:List Shp:=[⟨zaa,[]⟩]
abbrev zay:Nat×Bool×BKd:=(999984,false,(.fam 73 qY5))
abbrev zbh:Ov:=(.reg [(2,{ids:=[102]})])
abbrev zb8:Nat×Bool×BKd:=(100,false,TY)
abbrev za1:Nat×Bool×BKd:=(101,false,OH)
abbrev zfT:Shp:=⟨JF,[zb8,zbi,za1]⟩
abbrev zey:fP:=⟨[1,2],⟨JC,[zb8,zbi,za1]⟩⟩
abbrev zaz:Ov:=(tw [zbh,.two lf (.one (.loop ⟨[1,2,11],zfT⟩ false [(0,zey)] (tw [lf,lf,.one (.two lf (.reg [(12,{ids:=[103],fn:=1}),(19,{ids:=[104],fn:=2})]))] lf)))] lf)
abbrev zaA:Ov:=(.reg [(0,{ids:=[100]}),(1,{ids:=[101]}),(2,{ids:=[102]})])
abbrev zbZ:Nat×Bool×BKd:=(2,false,FU)
abbrev zbp:Nat×Bool×BKd:=(3,false,(.rows 73 qY5))
abbrev zee:Nat×Bool×BKd:=(101,false,(.rows 73 qY5))
abbrev zdi:Nat×Bool×BKd:=(4,false,(.rows 71 qY1))
abbrev zeJ:Nat×Bool×BKd:=(100,false,(.vars (lc [.slf 8 4] qL6)))
abbrev zaB:HK:=[(0,false,TC),zap,zbZ,zbp,zee,zdi,zeJ]
abbrev zaC:HK:=[(0,false,qB4)]
abbrev zaD:KdL:=(lc [.own 0 103 0 0,.own 3 106 0 0,.slf 2 107,.own 12 109 0 0] zbe)
abbrev zdj:Nat×Bool×BKd:=(4,false,(.rows 73 qY5))
abbrev zaE:HK:=[(0,false,(.vars (ln [ki,.slf 8 1,ki,ki,.p mO,.slf 2 2,.slf 2 100,ki,.slf 2 4]))),zap,zbZ,(100,false,(.rows 73 qY5)),zdj]
abbrev zaF:HK:=[(0,false,(.vars (ln [ki,.slf 8 1,ki,ki,.p mO,.slf 2 2,.slf 2 3,ki,.slf 2 4]))),zap,zbZ,zbp,zdj]
abbrev zaG:KdL:=(lc [.agg (lc [.slf 8 0] qL6)] zbe)
abbrev zfo:Nat×Bool×BKd:=(0,false,UO)
abbrev zbk:Nat×Bool×BKd:=(1,true,(.rows 71 qY1))
abbrev zbq:Nat×Bool×BKd:=(100,false,(.rows 99 gS))
abbrev zeF:Nat×Bool×BKd:=(5,true,(.rows 36 qY8))
abbrev zdN:Nat×Bool×BKd:=(6,false,(.vars qL6))
abbrev zb3:Nat×Bool×BKd:=(7,false,(.vars qL6))
abbrev zaH:HK:=[zfo,zbk,zbL,(3,false,(.vars (ln [.slf 4 100]))),zbq,(4,false,(.vars (ln [.slf 4 101]))),(101,false,(.rows 99 gS)),zeF,zdN,zb3]
abbrev zcB:KdL:=(lc [.own 0 102 0 0] zaa)
abbrev zbd:Nat×Bool×BKd:=(100,false,TV)
abbrev zda:Nat×Bool×BKd:=(101,false,JA)
abbrev zet:Nat×Bool×BKd:=(102,false,(.vars IX))
abbrev zaI:Shp:=⟨(lc [.own 0 100 0 0,.mp 101] zcB),[zbd,zda,zet]⟩
abbrev zaJ:Nat×Bool×BKd:=(0,false,(.vars (ln [.fn 97 .nil (ln [.own 8 1 0 0,.own 0 2 0 0,.own 0 3 0 0,.own 0 5 0 0])])))
abbrev zaL:HK:=[zb0,zav,zbR,zaK,zcO,zdl,zbO]
abbrev zeX:Nat×Bool×BKd:=(0,false,(.vars (lc [.slf 8 1] qL6)))
abbrev zbU:Nat×Bool×BKd:=(999986,false,TT)
abbrev zaM:HK:=[zeX,(1,false,(.rows 71 DO)),zay,zbU]
abbrev zaN:Nat×Bool×BKd:=(102,false,(.vars (lc [ki,ki,kb,kb,ki] JE)))
abbrev zfm:KdL:=(lc [.own 0 104 0 0] qL6)
abbrev zcE:Nat×Bool×BKd:=(103,false,(.vars SZ))
abbrev zaO:fP:=⟨[2,3,4,5,6,8],⟨(lc [.own 0 100 0 0,.own 0 101 0 0,.own 0 102 0 0,.own 0 103 0 0] zfm),[(100,false,TX),(101,false,TA),(102,false,(.vars JE)),zcE,(104,false,TR)]⟩⟩
abbrev zaP:HK:=[(0,false,KV),(1,false,(.vars qL6))]
abbrev zaQ:HK:=[(100,false,(.vars (ln [ki,.slf 8 102,ki,ki,.p mO,.slf 2 103,.p (.sl qY5)]))),zbi,(103,false,FU),(101,false,TU)]
abbrev zaR:KdL:=(lc [.fn 99 .nil (ln [.own 0 0 0 0,.own 12 5 0 0,.own 0 6 0 0,.own 0 7 0 0])] zbe)
abbrev zdg:Nat×Bool×BKd:=(101,false,(.vars tY))
abbrev zcC:Nat×Bool×BKd:=(102,false,(.vars tY))
abbrev zaS:Shp:=⟨(lc [.own 0 100 0 0,.own 0 101 0 0,.own 0 102 0 0,.own 0 103 0 0,.slf 8 105] zaa),[zbd,zdg,zcC,(103,false,OH),(105,false,(.rows 71 qY1))]⟩
abbrev zaT:Nat×Bool×BKd:=(100,false,(.rows 49 BE))
abbrev zaU:HK:=[zdJ,zbS,zeK,zcn,zcV,(116,false,(.rows 33 qY5)),(109,false,(.rows 36 qY8)),(113,false,(.rows 40 qY0)),(114,false,(.rows 40 qY0))]
abbrev zaV:HK:=[(0,false,zK),(1,false,KV)]
abbrev zaW:Shp:=⟨(lc [.p wH] zbe),[]⟩
abbrev zaY:HK:=[(101,false,TA),(102,false,(.vars JE)),zcE,(107,false,(.vars (ln [.slf 8 106,ki,.slf 1 108]))),(106,false,(.rows 71 qY1)),zdl]
abbrev zaZ:List Shp:=[⟨(lc [.agg TB] zbe),[]⟩]
abbrev za2:Nat×Bool×BKd:=(0,true,(.rows 71 qY9))
abbrev zft:KdL:=(lc [.own 0 2 0 0] zbe)
abbrev za3:Shp:=⟨(lc [.own 0 0 0 0,.p OG,.p qY8,.p qY0,.p qY0] zft),[zb0,zav,(2,false,(.vars (ln [.slf 11 3]))),(3,false,(.rows 40 qY0))]⟩
abbrev za4:HK:=[zeX,(1,false,(.rows 71 qY9)),zak]
abbrev za5:fP:=⟨[0,3,4,6,13,14,16,17],⟨(lc [.own 0 0 0 0,.own 12 100 0 0,.own 0 101 0 0,.own 14 102 0 0,.slf 1 108,.slf 1 109,.own 0 110 0 0] zaa),zaj⟩⟩
abbrev zfY:KdL:=(lc [.slf 1 109] zbe)
abbrev za6:fP:=⟨[0,3,4,14],⟨(lc [.own 0 0 0 0,.own 12 100 0 0,.own 0 101 0 0] zfY),[zb0,zav,zbR,zaK,zbO]⟩⟩
abbrev za7:Nat×Bool×BKd:=(102,false,(.vars (ln [.slf 1 101])))
abbrev za8:HK:=[zb0,zav,zbR,zaK,zcO,zdk]
abbrev za9:HK:=[(0,false,(.vars (ln [.slf 11 1]))),(1,false,(.rows 40 qY0))]
abbrev zdI:KdL:=(lc [.p (.sl qY5)] qL6)
abbrev zba:KdL:=(lc [.agg (lc [.p (.sl qY1)] qL6)] zdI)
abbrev zbb:KdL:=(lc [.fn 75 .nil (ln [.own 0 0 0 0,.own 0 2 0 0,.own 0 3 0 0])] zbe)
abbrev zfZ:KdL:=(lc [.slf 1 100] zbe)
abbrev zcc:HK:=[zaf,(100,false,(.rows 5 .byte))]
abbrev zbc:fP:=⟨[2,7],⟨(lc [.own 0 0 0 0] zfZ),zcc⟩⟩
abbrev zbf:Nat×Bool×BKd:=(0,false,(.rows 71 qY1))
abbrev zbg:HK:=[(0,false,(.rows 71 qY9)),zak]
abbrev zbj:HK:=[zb8,(102,false,(.rows 71 qY9)),za1,zak]
abbrev zbl:HK:=[zdJ,zbS,zeK,zcn,zcV,(116,false,(.rows 33 qY5))]
abbrev zbm:Ov:=(.reg [(0,{ids:=[100]}),(1,{ids:=[101]}),(2,{ids:=[102]}),(3,{ids:=[103]})])
abbrev zbn:KdL:=(lc [.own 0 100 0 0,.own 0 101 0 0,.slf 8 102] qL6)
abbrev zbo:Nat×Bool×BKd:=(101,false,(.rows 3 ti))
abbrev zbr:Shp:=⟨kY,zaC⟩
abbrev zbs:KdL:=(lc [ki,ks] qL6)
abbrev zbt:KdL:=(lc [.own 0 100 0 0] qL6)
abbrev zbu:KdL:=(lc [ks] zbe)
abbrev zbv:Shp:=⟨(lc [.slf 2 0,.fn 196 .nil (ln [.own 0 1 0 0])] qL6),zaV⟩
abbrev zbw:Shp:=⟨(lc [.slf 2 0,.fn 196 .nil (ln [.own 0 1 0 0])] zbe),zaV⟩
abbrev zbx:HK:=[(100,false,(.vars (ln [ki,.p (.sl ti)])))]
abbrev zby:HK:=[(101,false,(.vars JE)),(103,false,(.vars (ln [.slf 8 102,ki,.slf 1 104]))),zbi,(104,false,(.rows 34 (.sl .byte)))]
abbrev zbz:KdL:=(lc [ki] zaa)
abbrev zbA:KdL:=(lc [.own 0 103 0 0,.own 3 106 0 0,.slf 2 116,.own 12 109 0 0,.own 11 113 0 0,.own 11 114 0 0] zbe)
abbrev zbB:KdL:=(lc [.fn 169 .nil (ln [.own 0 0 0 0,.own 0 2 0 0])] zbe)
abbrev zbC:Nat×Bool×BKd:=(3,false,(.vars (ln [.slf 4 4])))
abbrev zbD:Nat×Bool×BKd:=(106,false,(.vars (ln [.fn 97 .nil (ln [.own 8 100 0 0,.own 0 101 0 0,.own 0 104 0 0,.own 0 105 0 0])])))
abbrev zbE:KdL:=(lc [.agg (lc [.slf 8 0] qL6),.own 0 101 0 0,.own 0 103 0 0,.ownx 8 102 0,.slf 2 620083] zbe)
abbrev zeh:HK:=[zbf,(1,false,(.rows 34 (.sl .byte)))]
abbrev zbF:Shp:=⟨(lc [.agg (ln [.slf 8 0,ki,.slf 1 1])] zbe),zeh⟩
abbrev zbG:KdL:=(lc [.own 0 100 0 0] zbe)
abbrev zbI:Nat×Bool×BKd:=(4,false,(.rows 99 gS))
abbrev zbJ:HK:=[zaf,(1,false,TW)]
abbrev zbK:Nat×Bool×BKd:=(0,false,(.rows 73 qY5))
abbrev zbM:KdL:=(lc [.p (.sl (.pair ti (.sl ti)))] zbe)
abbrev zed:Ov:=(.reg [(2,{})])
abbrev zbN:Ov:=(.two zed lf)
abbrev zeC:KdL:=(lc [.p (.sl (.sl .byte))] zbe)
abbrev zbP:KdL:=(lc [.p (.sl gS)] zeC)
abbrev zdr:Nat×Bool×BKd:=(100,false,(.vars qL6))
abbrev zco:Nat×Bool×BKd:=(101,false,(.rows 36 qY8))
abbrev zbQ:Shp:=⟨(lc [.own 0 100 0 0,.own 12 101 0 0] zaa),[zdr,zco]⟩
abbrev zbT:Nat×Bool×BKd:=(2,false,(.vars (ln [.slf 4 3])))
abbrev zfl:Ov:=(.reg [(8,{})])
abbrev zbV:Ov:=(.join ⟨[2,10,11,12,14],⟨(lc [.fn 19 .nil kY] zaD),zac⟩⟩ false [] (.two zfl lf))
abbrev zbW:Ov:=(.join ⟨[2,10,11,12,14],⟨(lc [.fn 18 .nil kY] zaD),zac⟩⟩ false [] (.two zfl lf))
abbrev zbX:Shp:=⟨KU,[(100,false,TA),(101,false,(.vars TB))]⟩
abbrev zbY:Ov:=(.two lf zas)
abbrev zb1:KdL:=(lc [.own 0 102 0 0,.own 0 104 0 0] zaa)
abbrev zb2:KdL:=(lc [.own 0 103 0 0] zaa)
abbrev zb4:Ov:=(tw [zas,.two lf (.one (.loop ⟨[5],za0⟩ true zbH (tw [zab,.one zas] lf)))] lf)
abbrev zb5:Ov:=(.reg [(1,{})])
abbrev zb6:Ov:=(tw [tw [.reg [(1,{ids:=[106],fn:=1})]] lf] lf)
abbrev zb7:KdL:=(lc [.slf 2 0] zbe)
abbrev zb9:KdL:=(lc [.p (.sl ti)] qL6)
abbrev zca:Shp:=⟨(lc [.p (.sl (.pair ti (.sl ti))),.fn 80 .nil .nil] zbe),[]⟩
abbrev zcb:HK:=[(100,false,(.vars BD))]
abbrev zce:Ov:=(.reg [(0,{ids:=[100]}),(1,{ids:=[101]}),(2,{ids:=[102],md:=[1]}),(3,{ids:=[103],md:=[1]})])
abbrev zcf:Ov:=(.two zas zam)
abbrev zcg:Ov:=(.reg [(2,{ids:=[101]})])
abbrev zch:List Shp:=[⟨zaa,za9⟩,⟨zaa,[(0,false,(.vars (ln [.slf 11 2]))),(2,false,(.rows 40 qY0))]⟩]
abbrev zci:KdL:=(lc [.p qY5] zbe)
abbrev zcj:KdL:=(lc [.p qY8] zbe)
abbrev zck:Ov:=(tw [lf,lf,.one (tw [lf,.reg [(5,{sh:=[0,1,2,3]})]] zab)] lf)
abbrev zcl:fP:=⟨[2,5],⟨(lc [.own 7 100 0 0,.mp 101] zbe),[zaT,zda]⟩⟩
abbrev zcm:Shp:=⟨zaa,[zb0,zav,(2,false,(.vars (ln [.slf 11 4]))),(4,false,(.rows 40 qY0))]⟩
abbrev zcp:Ov:=(.reg [(2,{ids:=[110,111],fn:=6}),(6,{ids:=[112],md:=[1]}),(7,{ids:=[113],md:=[1]})])
abbrev zeS:KdL:=(lc [.fn 168 .nil JD] zbe)
abbrev zcq:Shp:=⟨(lc [.p (.sl (.pair .str ti))] zeS),zaP⟩
abbrev zcr:Nat×Bool×BKd:=(100,false,UP)
abbrev zcs:Ov:=(tw [lf,lf,.one (tw [lf,.reg [(5,{sh:=[0,1]})]] zab)] lf)
abbrev zct:HK:=[(0,false,TC),zap,zbZ,zbp,zee,(100,false,(.rows 73 qY5))]
abbrev zcu:Ov:=(.reg [(2,{ids:=[104]}),(3,{ids:=[105]})])
abbrev zcv:List Shp:=[⟨qL6,zaC⟩]
abbrev zcx:Ov:=(tw [.reg [(1,{ids:=[107],fn:=1})]] lf)
abbrev zcy:Ov:=(tw [.reg [(1,{ids:=[108],fn:=1})]] lf)
abbrev zcz:Ov:=(.reg [(0,{ids:=[100],fn:=1}),(1,{md:=[0,1],fn:=2}),(5,{ids:=[101],md:=[1]})])
abbrev zcA:Ov:=(tw [lf,lf,.one zbY] lf)
abbrev zcD:Nat×Bool×BKd:=(104,false,(.vars (ln [.slf 1 103])))
abbrev zcF:KdL:=(lc [.fn 92 .nil (ln [.own 0 0 0 0,.own 8 1 0 0])] zbe)
abbrev zcG:Shp:=⟨(lc [.p (.pair ti (.pair ti (.sl qY0)))] qL6),[]⟩
abbrev zcH:Shp:=⟨(lc [.own 7 100 0 0,.mp 101] qL6),[zaT,zda]⟩
abbrev zeV:KdL:=(lc [.fn 164 .nil kY] zbe)
abbrev zcI:Shp:=⟨(lc [.p (.sl (.sl .byte))] zeV),[zaf]⟩
abbrev zcJ:KdL:=(lc [.own 0 103 0 0,.own 3 106 0 0,.slf 2 107] qL6)
abbrev zcK:KdL:=(lc [.own 0 103 0 0,.own 3 106 0 0,.slf 2 107] zaa)
abbrev zcL:KdL:=(lc [.own 0 103 0 0,.own 3 106 0 0,.slf 2 107] zbe)
abbrev zcM:KdL:=(lc [.own 0 103 0 0,.own 3 106 0 0,.slf 2 116] zaa)
abbrev zcN:Ov:=(.reg [(1,{fn:=1})])
abbrev zcP:Ov:=(tw [.reg [(3,{})]] lf)
abbrev zcQ:Ov:=(.reg [(3,{ids:=[103]})])
abbrev zcR:Ov:=(.reg [(1,{ids:=[100]})])
abbrev zcS:Nat×Bool×BKd:=(102,false,(.rows 71 FS))
abbrev zcT:KdL:=(lc [.agg (lc [.slf 8 0] qL6),.own 0 101 0 0] zb2)
abbrev zcU:Nat×Bool×BKd:=(102,false,(.rows 71 DO))
abbrev zcW:KdL:=(lc [.p (.sl ti)] zbe)
abbrev zcX:Shp:=⟨(lc [.own 0 102 0 0] zb2),[zaN,(103,false,(.vars IX))]⟩
abbrev zcY:Shp:=⟨(lc [.p wH,.p qY5,ks] zaa),[]⟩
abbrev zcZ:HK:=[(100,false,TX)]
abbrev zeU:KdL:=(lc [.fn 133 .nil JD] zbe)
abbrev zc0:Shp:=⟨(lc [.p (.sl qY0)] zeU),zbJ⟩
abbrev zc1:Shp:=⟨(lc [.p (.sl gS),.fn 165 .nil .nil] zbe),[]⟩
abbrev ze4:KdL:=(lc [.fn 83 .nil JB] zbe)
abbrev zc3:Shp:=⟨(lc [.p (.sl qY5)] ze4),zar⟩
abbrev zd5:KdL:=(lc [.slf 1 0] zbe)
abbrev zc4:Shp:=⟨zd5,[(0,false,(.rows 3 ti))]⟩
abbrev zc5:Ov:=(.reg [(0,{ids:=[104,105],fn:=3}),(1,{ids:=[106],md:=[1]})])
abbrev zc6:Ov:=(.reg [(4,{ids:=[104],sh:=[620083],md:=[520083,0],fn:=3})])
abbrev zc7:Nat×Bool×BKd:=(2,false,(.rows 99 gS))
abbrev zc8:Nat×Bool×BKd:=(3,false,(.rows 99 gS))
abbrev zc9:Ov:=(.reg [(2,{sh:=[103,102],fn:=7}),(6,{ids:=[114],md:=[1]})])
abbrev zdb:Ov:=(tw [.reg [(2,{ids:=[102]}),(5,{ids:=[103],fn:=1})]] lf)
abbrev zdc:Ov:=(.two lf (.pre (.pureCell 0 0) (.pre (.pureCell 0 2) lf)))
abbrev zdd:Ov:=(.reg [(5,{md:=[2,0,0],fn:=2}),(10,{md:=[2,0,0],fn:=2})])
abbrev zde:Nat×Bool×BKd:=(101,false,(.vars BD))
abbrev zdf:Shp:=⟨(lc [.p (.sl (.pair .str ti))] zbb),zag⟩
abbrev zdh:Shp:=⟨(lc [.own 0 0 0 0,.slf 1 100] zaa),zcc⟩
abbrev zdm:Shp:=⟨(lc [.p qY1] zbe),[]⟩
abbrev zfW:Ov:=(.two lf zbY)
abbrev zdn:Ov:=(.one zfW)
abbrev zdo:KdL:=(lc [.p qY0] zbe)
abbrev zdp:HK:=[(0,false,(.vars (ln [.slf 4 100]))),zbq,zbk]
abbrev zdq:Nat×Bool×BKd:=(102,false,(.vars qL6))
abbrev zds:KdL:=(lc [.p (.sl .byte)] zbe)
abbrev zdt:KdL:=(lc [.own 0 100 0 0,.own 0 102 0 0] zbe)
abbrev zdu:KdL:=(lc [.own 0 102 0 0] zfm)
abbrev zdv:Ov:=(.reg [(2,{ids:=[103]}),(3,{ids:=[104],md:=[0,1]})])
abbrev zdw:Ov:=(tw [lf,.reg [(5,{ids:=[102],fn:=1})]] zas)
abbrev zdx:KdL:=(lc [ki] zcj)
abbrev zdy:Ov:=(tw [.reg [(2,{ids:=[103]}),(3,{ids:=[104]})]] lf)
abbrev zdz:Ov:=(tw [.reg [(3,{ids:=[115]}),(4,{ids:=[116]})]] lf)
abbrev zdA:Ov:=(tw [tw [.reg [(1,{ids:=[109],fn:=1})]] lf] lf)
abbrev zdB:Ov:=(.reg [(9,{ids:=[117],sh:=[103,102,0,108],fn:=8})])
abbrev zdC:KdL:=(lc [.own 0 0 0 0,ki] zbu)
abbrev zdD:Shp:=⟨(lc [.agg (lc [.slf 8 0] qL6)] qL6),zbg⟩
abbrev zdE:Ov:=(.reg [(0,{ids:=[100]}),(1,{ids:=[101],md:=[1]})])
abbrev zdF:Ov:=(.reg [(1,{ids:=[103,999985]}),(2,{ids:=[104]})])
abbrev zdG:Ov:=(.reg [(1,{ids:=[102,999985]}),(2,{ids:=[103]})])
abbrev zdH:Shp:=⟨(lc [.p (.pair ti mO)] zbe),[]⟩
abbrev zdK:Ov:=(.reg [(0,{ids:=[102]})])
abbrev zdL:Ov:=(.reg [(0,{ids:=[101]})])
abbrev zdM:Ov:=(.reg [(3,{ids:=[102]})])
abbrev zdO:KdL:=(lc [.p (.sl (.pair .str ti))] zbe)
abbrev zdP:Ov:=(.reg [(2,{sh:=[0,1]})])
abbrev zdQ:fP:=⟨[0,5],⟨(lc [.slf 2 0] qL6),[zbK]⟩⟩
abbrev zdR:Ov:=(.two zab lf)
abbrev zdS:HK:=[za2,(1,false,(.rows 71 DO)),zay,zak,zbU]
abbrev zdU:HK:=[(0,false,JA)]
abbrev zdV:KdL:=(lc [.agg tY] qL6)
abbrev zdW:Ov:=(.reg [(2,{ids:=[101]}),(3,{ids:=[102]})])
abbrev zdX:Ov:=(.reg [(1,{ids:=[102]}),(4,{ids:=[103]})])
abbrev zdY:List Shp:=[⟨zbz,[]⟩]
abbrev zdZ:Ov:=(.reg [(1,{sh:=[0]})])
abbrev zd0:KdL:=(lc [.agg (lc [.slf 8 0] qL6)] JC)
abbrev zd1:Ov:=(.reg [(2,{sh:=[103,102,999985],fn:=1})])
abbrev zd2:Nat×Bool×BKd:=(102,false,(.rows 99 gS))
abbrev zd3:Nat×Bool×BKd:=(103,false,(.rows 5 .byte))
abbrev zd4:Nat×Bool×BKd:=(102,false,(.rows 49 BE))
abbrev zd6:KdL:=(lc [kb] qL6)
abbrev zd7:KdL:=(lc [.agg (lc [.slf 8 0] qL6)] zbn)
abbrev zd8:KdL:=(lc [.agg (lc [.slf 8 1] qL6)] zbe)
abbrev zd9:Ov:=(.reg [(3,{}),(5,{ids:=[100],md:=[1]})])
abbrev zea:Shp:=⟨(lc [.fn 19 .nil kY] UA),zac⟩
abbrev zeb:Shp:=⟨(lc [.fn 18 .nil kY] UA),zac⟩
abbrev zec:List Shp:=[⟨zaG,[zbf]⟩]
abbrev zef:Nat×Bool×BKd:=(113,false,(.rows 71 qY1))
abbrev zeg:Ov:=(tw [.reg [(2,{sh:=[0,1,2,3]})]] lf)
abbrev zei:Nat×Bool×BKd:=(0,false,(.rows 5 .byte))
abbrev zej:Ov:=(.reg [(2,{fn:=1})])
abbrev zek:Ov:=(.reg [(4,{fn:=3})])
abbrev zel:Nat×Bool×BKd:=(5,false,(.rows 99 gS))
abbrev zem:Nat×Bool×BKd:=(6,false,(.rows 99 gS))
abbrev zen:Nat×Bool×BKd:=(9,false,(.rows 99 gS))
abbrev zeo:Shp:=⟨(lc [.own 0 0 0 0] tY),zaC⟩
abbrev zep:Shp:=⟨DT,[(100,false,(.vars IX))]⟩
abbrev zeq:Shp:=⟨(lc [.p (.sl qY5)] zbB),zai⟩
abbrev zer:Shp:=⟨(lc [.p (.int .u8)] zbe),[]⟩
abbrev zes:Shp:=⟨(lc [.own 0 0 0 0] qL6),zaC⟩
abbrev zeu:Nat×Bool×BKd:=(5,false,(.rows 73 qY5))
abbrev zev:Nat×Bool×BKd:=(116,false,(.vars BD))
abbrev zew:HK:=[(100,false,(.rows 3 ti))]
abbrev zex:HK:=[za7,zbo,(104,false,(.vars IX))]
abbrev zez:HK:=[(0,false,(.rows 34 (.sl .byte)))]
abbrev zeA:Nat×Bool×BKd:=(111,false,(.vars (lc [.slf 8 110] qL6)))
abbrev zeB:Ov:=(.reg [(9,{}),(13,{ids:=[100]})])
abbrev zeD:Ov:=(.reg [(2,{ids:=[102],md:=[1]})])
abbrev zeE:Nat×Bool×BKd:=(1,false,(.vars (ln [.slf 4 102])))
abbrev zeG:Ov:=(.reg [(5,{ids:=[109],md:=[1]})])
abbrev zeH:Shp:=⟨zaG,zbg⟩
abbrev zeI:Nat×Bool×BKd:=(103,false,TY)
abbrev zeL:Shp:=⟨(lc [.agg IX] qL6),[]⟩
abbrev zeM:Nat×Bool×BKd:=(0,false,(.vars (ln [.slf 4 2])))
abbrev zeN:Nat×Bool×BKd:=(1,false,(.vars (ln [.slf 4 4])))
abbrev zeO:Nat×Bool×BKd:=(1,false,(.vars (ln [.slf 4 2])))
abbrev zeP:Nat×Bool×BKd:=(1,false,(.vars (ln [.slf 4 5])))
abbrev zeQ:Nat×Bool×BKd:=(5,false,(.vars (ln [.slf 4 6])))
abbrev zeR:Nat×Bool×BKd:=(3,false,(.vars (ln [.slf 4 9])))
abbrev zeT:KdL:=(lc [.fn 213 .nil .nil] zbe)
abbrev zeW:Ov:=(tw [.reg [(2,{fn:=5})]] lf)
abbrev zeY:Ov:=(.reg [(13,{})])
abbrev zeZ:Shp:=⟨(lc [.p OG] zbe),[]⟩
abbrev ze0:Shp:=⟨(lc [.p wH] zci),[]⟩
abbrev ze1:Shp:=⟨(lc [ks] zbu),[]⟩
abbrev ze2:Shp:=⟨(lc [.p wH] zbs),[]⟩
abbrev ze3:HK:=[za2,zb8,zcU,za1,zay,zak,zbU]
abbrev ze5:Nat×Bool×BKd:=(8,false,(.vars qL6))
abbrev ze6:KdL:=(lc [.fn 19 .nil kY] zbe)
abbrev ze7:KdL:=(lc [.fn 18 .nil kY] zbe)
abbrev ze8:Shp:=⟨DT,[zbd]⟩
abbrev ze9:KdL:=(lc [.own 0 100 0 0] tY)
abbrev zfa:Shp:=⟨(lc [.p qY1] qL6),[]⟩
abbrev zfb:Ov:=(.reg [(1,{md:=[2],fn:=1})])
abbrev zfc:HK:=[(103,false,(.rows 71 qY1))]
abbrev zfd:KdL:=(lc [.own 0 102 0 0] qL6)
abbrev zfe:KdL:=(lc [.own 0 101 0 0] zb1)
abbrev zff:KdL:=(lc [.own 0 111 0 0] zaa)
abbrev zfg:KdL:=(lc [.own 4 100 0 0] zbe)
abbrev zfh:KdL:=(lc [.own 4 100 0 0] zaa)
abbrev zfi:KdL:=(lc [ki] zbP)
abbrev zfj:Ov:=(.reg [(3,{}),(7,{fn:=1})])
abbrev zfk:KdL:=(lc [.own 0 104 0 0] zbe)
abbrev zfp:fP:=⟨[2,3,4],⟨JB,zau⟩⟩
abbrev zfq:Shp:=⟨zb7,[(0,false,FU)]⟩
abbrev zfr:KdL:=(lc [.p (.sl qY5)] zbe)
abbrev zfs:Ov:=(.two zcN zab)
abbrev zfu:KdL:=(lc [.own 0 3 0 0] zbe)
abbrev zfv:Ov:=(.reg [(2,{ids:=[103]})])
abbrev zfw:Ov:=(.reg [(2,{ids:=[104]})])
abbrev zfx:Ov:=(.reg [(7,{ids:=[103]})])
abbrev zfy:KdL:=(lc [.own 0 0 0 0] zbs)
abbrev zfz:Ov:=(.reg [(5,{ids:=[101]})])
abbrev zfA:Ov:=(.reg [(4,{ids:=[100]})])
abbrev zfB:HK:=[za2,zb8,zcS,za1,zay,zak]
abbrev zfC:Ov:=(.reg [(0,{ids:=[105]})])
abbrev zfD:Ov:=(.reg [(1,{ids:=[107]})])
abbrev zfE:fP:=⟨[1,2],⟨JC,zao⟩⟩
abbrev zfF:Shp:=⟨DT,zcZ⟩
abbrev zfG:fP:=⟨[1,2],⟨JC,zbj⟩⟩
abbrev zfH:Ov:=(.reg [(4,{md:=[2,0]})])
abbrev zfI:Shp:=⟨DT,zcb⟩
abbrev zfJ:Nat×Bool×BKd:=(102,false,(.rows 34 (.sl .byte)))
abbrev zfK:fP:=⟨[1,2],⟨JC,zal⟩⟩
abbrev zfL:Nat×Bool×BKd:=(116,false,(.rows 34 (.sl .byte)))
abbrev zfM:Shp:=⟨KU,zan⟩
abbrev zfN:List Shp:=[za0]
abbrev zfO:Ov:=(.two zb5 lf)
abbrev zfP:fP:=⟨[1],⟨zbG,[zbd]⟩⟩
abbrev zfQ:HK:=[zbd,za7,zbo]
abbrev zfR:KdL:=(lc [.slf 8 101] qL6)
abbrev zfS:KdL:=(lc [.slf 8 101] zbe)
abbrev zfU:Ov:=(tw [lf,zcy] lf)
abbrev zfX:KdL:=(lc [.slf 1 100] qL6)
theorem tk{T:List FnT}(fu:Nat){f:FuncId}{fn:Func}(fa:FnA){spec:fa.i.D->Option (dS fa.os)}(hT:∀e∈T,eZ Tryz.prog e)(hf:Tryz.prog.funcs[f]? =some fn)(hb:(fn.body.isSome&&!(fn.name=="runtime.NumGoroutine"))=true)(hs:∀t,evF Tryz.prog T fu fn fa t=spec t):eZ Tryz.prog ⟨f,fa.i,fa.os,spec⟩:=by
 have h:=(ZAE _ _).mp hb;exact uDZ hT mixed hf (by simpa using h.2) h.1 hs
def u2{a b W:Type}(F:a->b->W)(t:a×b):=F t.1 t.2
def u3{a b c W:Type}(F:a->b->c->W)(t:a×b×c):=u2 (F t.1) t.2
def u4{a b c d W:Type}(F:a->b->c->d->W)(t:a×b×c×d):=u3 (F t.1) t.2
def u5{a b c d e W:Type}(F:a->b->c->d->e->W)(t:a×b×c×d×e):=u4 (F t.1) t.2
def u6{a b c d e f W:Type}(F:a->b->c->d->e->f->W)(t:a×b×c×d×e×f):=u5 (F t.1) t.2
def u7{a b c d e f g W:Type}(F:a->b->c->d->e->f->g->W)(t:a×b×c×d×e×f×g):=u6 (F t.1) t.2
def u8{a b c d e f g h W:Type}(F:a->b->c->d->e->f->g->h->W)(t:a×b×c×d×e×f×g×h):=u7 (F t.1) t.2
def u9{a b c d e f g h i W:Type}(F:a->b->c->d->e->f->g->h->i->W)(t:a×b×c×d×e×f×g×h×i):=u8 (F t.1) t.2
def u10{a b c d e f g h i j W:Type}(F:a->b->c->d->e->f->g->h->i->j->W)(t:a×b×c×d×e×f×g×h×i×j):=u9 (F t.1) t.2
def u11{a b c d e f g h i j k W:Type}(F:a->b->c->d->e->f->g->h->i->j->k->W)(t:a×b×c×d×e×f×g×h×i×j×k):=u10 (F t.1) t.2
def u12{a b c d e f g h i j k l W:Type}(F:a->b->c->d->e->f->g->h->i->j->k->l->W)(t:a×b×c×d×e×f×g×h×i×j×k×l):=u11 (F t.1) t.2
def u13{a b c d e f g h i j k l m W:Type}(F:a->b->c->d->e->f->g->h->i->j->k->l->m->W)(t:a×b×c×d×e×f×g×h×i×j×k×l×m):=u12 (F t.1) t.2
def u14{a b c d e f g h i j k l m n W:Type}(F:a->b->c->d->e->f->g->h->i->j->k->l->m->n->W)(t:a×b×c×d×e×f×g×h×i×j×k×l×m×n):=u13 (F t.1) t.2
def u15{a b c d e f g h i j k l m n o W:Type}(F:a->b->c->d->e->f->g->h->i->j->k->l->m->n->o->W)(t:a×b×c×d×e×f×g×h×i×j×k×l×m×n×o):=u14 (F t.1) t.2
def u16{a b c d e f g h i j k l m n o p W:Type}(F:a->b->c->d->e->f->g->h->i->j->k->l->m->n->o->p->W)(t:a×b×c×d×e×f×g×h×i×j×k×l×m×n×o×p):=u15 (F t.1) t.2
def u17{a b c d e f g h i j k l m n o p q W:Type}(F:a->b->c->d->e->f->g->h->i->j->k->l->m->n->o->p->q->W)(t:a×b×c×d×e×f×g×h×i×j×k×l×m×n×o×p×q):=u16 (F t.1) t.2
def u18{a b c d e f g h i j k l m n o p q r W:Type}(F:a->b->c->d->e->f->g->h->i->j->k->l->m->n->o->p->q->r->W)(t:a×b×c×d×e×f×g×h×i×j×k×l×m×n×o×p×q×r):=u17 (F t.1) t.2
def u19{a b c d e f g h i j k l m n o p q r s W:Type}(F:a->b->c->d->e->f->g->h->i->j->k->l->m->n->o->p->q->r->s->W)(t:a×b×c×d×e×f×g×h×i×j×k×l×m×n×o×p×q×r×s):=u18 (F t.1) t.2
def u20{a b c d e f g h i j k l m n o p q r s x W:Type}(F:a->b->c->d->e->f->g->h->i->j->k->l->m->n->o->p->q->r->s->x->W)(t:a×b×c×d×e×f×g×h×i×j×k×l×m×n×o×p×q×r×s×x):=u19 (F t.1) t.2
def u21{a b c d e f g h i j k l m n o p q r s x y W:Type}(F:a->b->c->d->e->f->g->h->i->j->k->l->m->n->o->p->q->r->s->x->y->W)(t:a×b×c×d×e×f×g×h×i×j×k×l×m×n×o×p×q×r×s×x×y):=u20 (F t.1) t.2
def u22{a b c d e f g h i j k l m n o p q r s x y z W:Type}(F:a->b->c->d->e->f->g->h->i->j->k->l->m->n->o->p->q->r->s->x->y->z->W)(t:a×b×c×d×e×f×g×h×i×j×k×l×m×n×o×p×q×r×s×x×y×z):=u21 (F t.1) t.2
def u23{a b c d e f g h i j k l m n o p q r s x y z a1 W:Type}(F:a->b->c->d->e->f->g->h->i->j->k->l->m->n->o->p->q->r->s->x->y->z->a1->W)(t:a×b×c×d×e×f×g×h×i×j×k×l×m×n×o×p×q×r×s×x×y×z×a1):=u22 (F t.1) t.2
def u24{a b c d e f g h i j k l m n o p q r s x y z a1 b1 W:Type}(F:a->b->c->d->e->f->g->h->i->j->k->l->m->n->o->p->q->r->s->x->y->z->a1->b1->W)(t:a×b×c×d×e×f×g×h×i×j×k×l×m×n×o×p×q×r×s×x×y×z×a1×b1):=u23 (F t.1) t.2
def u25{a b c d e f g h i j k l m n o p q r s x y z a1 b1 c1 W:Type}(F:a->b->c->d->e->f->g->h->i->j->k->l->m->n->o->p->q->r->s->x->y->z->a1->b1->c1->W)(t:a×b×c×d×e×f×g×h×i×j×k×l×m×n×o×p×q×r×s×x×y×z×a1×b1×c1):=u24 (F t.1) t.2
def u26{a b c d e f g h i j k l m n o p q r s x y z a1 b1 c1 d1 W:Type}(F:a->b->c->d->e->f->g->h->i->j->k->l->m->n->o->p->q->r->s->x->y->z->a1->b1->c1->d1->W)(t:a×b×c×d×e×f×g×h×i×j×k×l×m×n×o×p×q×r×s×x×y×z×a1×b1×c1×d1):=u25 (F t.1) t.2
abbrev To(f:FuncId)(fa:FnA)(F:Nat->fa.i.D->Option (dS fa.os)):Prop:=∀fu,eZ Tryz.prog ⟨f,fa.i,fa.os,F fu⟩
abbrev Ta(T:Nat->Tbl):Prop:=∀fu,∀e∈T fu,eZ Tryz.prog e
theorem tz:Ta λ_=>[]:=λ_=>abZ
theorem ta{e:Nat->FnT}{T:Nat->Tbl}(h:∀fu,eZ Tryz.prog (e fu))(r:Ta T):Ta λfu=>e fu::T fu:=λfu=>aaZ (h fu) (r fu)
theorem tj{T:Nat->Tbl}{f:FuncId}{fn:Func}{fa:FnA}{F:Nat->fa.i.D->Option (dS fa.os)}(hT:Ta T)(hf:Tryz.prog.funcs[f]? =some fn)(hb:(fn.body.isSome&&!(fn.name=="runtime.NumGoroutine"))=true:=by kernel_rfl)(hs:∀fu t,evF Tryz.prog (T fu) fu fn fa t=F fu t:=by intro _ _;kernel_rfl):To f fa F:=by
 have h:=(Bool.and_eq_true _ _).mp hb;exact λfu=>uDZ (hT fu) mixed hf (by simpa using h.2) h.1 (hs fu)
def v3{a b c W:Type}(F:Nat->a->b->c->W)(fu:Nat):a×b×c->W:=u3 (F fu)
def v4{a b c d W:Type}(F:Nat->a->b->c->d->W)(fu:Nat):a×b×c×d->W:=u4 (F fu)
def v5{a b c d e W:Type}(F:Nat->a->b->c->d->e->W)(fu:Nat):a×b×c×d×e->W:=u5 (F fu)
def v6{a b c d e f W:Type}(F:Nat->a->b->c->d->e->f->W)(fu:Nat):a×b×c×d×e×f->W:=u6 (F fu)
def v7{a b c d e f g W:Type}(F:Nat->a->b->c->d->e->f->g->W)(fu:Nat):a×b×c×d×e×f×g->W:=u7 (F fu)
def v8{a b c d e f g h W:Type}(F:Nat->a->b->c->d->e->f->g->h->W)(fu:Nat):a×b×c×d×e×f×g×h->W:=u8 (F fu)
def v9{a b c d e f g h i W:Type}(F:Nat->a->b->c->d->e->f->g->h->i->W)(fu:Nat):a×b×c×d×e×f×g×h×i->W:=u9 (F fu)
def v10{a b c d e f g h i j W:Type}(F:Nat->a->b->c->d->e->f->g->h->i->j->W)(fu:Nat):a×b×c×d×e×f×g×h×i×j->W:=u10 (F fu)
def v11{a b c d e f g h i j k W:Type}(F:Nat->a->b->c->d->e->f->g->h->i->j->k->W)(fu:Nat):a×b×c×d×e×f×g×h×i×j×k->W:=u11 (F fu)
def v12{a b c d e f g h i j k l W:Type}(F:Nat->a->b->c->d->e->f->g->h->i->j->k->l->W)(fu:Nat):a×b×c×d×e×f×g×h×i×j×k×l->W:=u12 (F fu)
def v15{a b c d e f g h i j k l m n o W:Type}(F:Nat->a->b->c->d->e->f->g->h->i->j->k->l->m->n->o->W)(fu:Nat):a×b×c×d×e×f×g×h×i×j×k×l×m×n×o->W:=u15 (F fu)
def v24{a b c d e f g h i j k l m n o p q r s x y z a1 b1 W:Type}(F:Nat->a->b->c->d->e->f->g->h->i->j->k->l->m->n->o->p->q->r->s->x->y->z->a1->b1->W)(fu:Nat):a×b×c×d×e×f×g×h×i×j×k×l×m×n×o×p×q×r×s×x×y×z×a1×b1->W:=u24 (F fu)
def v26{a b c d e f g h i j k l m n o p q r s x y z a1 b1 c1 d1 W:Type}(F:Nat->a->b->c->d->e->f->g->h->i->j->k->l->m->n->o->p->q->r->s->x->y->z->a1->b1->c1->d1->W)(fu:Nat):a×b×c×d×e×f×g×h×i×j×k×l×m×n×o×p×q×r×s×x×y×z×a1×b1×c1×d1->W:=u26 (F fu)
def gY(a:Nat)(x n:Int):oN Int:=bif decide (n<1) then some 0 else bO (!(decide (n=0)))<|bif (decide ((Int.tmod x n)<0)) then some (wI ((Int.tmod x n)+n)) else some (Int.tmod x n)
def DV:FnA:=⟨tw [lf,zas,lf] zdR,zdT,zfN,[0]⟩
theorem e4Z:To 23 DV λfu t=>gY fu t.1 t.2:=tj tz func23
def iO(a:Nat):oN (List (Int×List Int)):=some [(1,[0,1,2])]
def yC:FnA:=⟨.two lf zam,zaX,[zfq],[0]⟩
theorem bSZ:To 25 yC λfu t=>iO fu:=tj tz func25
def TG(a:Nat)(window:Int):oN (Int×Int):=Option.bind (α:=(Bool×Int)) (bif decide (window<1) then some (true,0) else some ((decide (window>100)),0)) λo=>bif o.1 then some (0,2) else some (window,0)
def OK:FnA:=⟨tw [zad,tw [.join ⟨[2,9],⟨DT,[(100,false,(.vars FT))]⟩⟩ false [] lf] zab] lf,za0,[⟨(lc [.agg FT] qL6),[]⟩],[0,0]⟩
theorem rDZ:To 55 OK TG:=tj tz func55
def OL(a:Nat)(s:List Int)(v x:Int):oN (Int⊕(Unit⊕Int)):=bif (decide (x<(s.length:Int))) then (bH x s.length).bind λq=>s[q]?.bind λr=>bif (v==r) then some (.inr (.inr x)) else some (.inl (wI (x+1))) else some (.inr (.inl ()))
def FV(b:Nat)(s:List Int)(v a:Int):oN (Unit⊕Int):=iter b (λa=>OL b s v a) a
def UB(b:Nat)(s:List Int)(v:Int):oN Int:=(FV b s v 0).bind λo=>match o with
 |.inl c=>some (-1)
 |.inr a=>some a
def OM:FnA:=⟨tw [lf,.two lf (.one (.loop ⟨[8],za0⟩ true zbH zcA))] lf,⟨zb9,[]⟩,zfN,[0]⟩
theorem qzZ:To 172 OM λfu t=>UB fu t.1 t.2:=tj tz func172
def UC(a:Nat)(s:List Int)(v:Int):oN Bool:=(UB a s v).bind λr=>some (decide (r>=0))
def ON:FnA:=⟨.two lf zbN,⟨zb9,[]⟩,zax,[0]⟩
theorem pXZ:To 135 ON λfu t=>UC fu t.1 t.2:=tj (ta qzZ tz) func135
def OO(e:Nat)(o:Bool×Int×List Int)(nodes x h:Int)(a:List Int):oN ((Int×Int×List Int)⊕(Unit⊕Bool)):=bif (decide (x<(o.2.2.length:Int))) then (bH x o.2.2.length).bind λq=>o.2.2[q]?.bind λr=>Option.bind (α:=(Bool×Int×List Int)) (bif decide (r<0) then some (true,h,a) else bif decide (r>=nodes) then some (true,h,a) else (cT x a.length).bind λc=>(UC e (List.take c a) r).bind λd=>some (d,h,a)) λb=>bif b.1 then some (.inr (.inr false)) else some (.inl ((wI (x+1)),b.2)) else some (.inr (.inl ()))
def FW(a:Nat)(o:Bool×Int×List Int)(nodes:Int)(b:Int×Int×List Int):oN (Unit⊕Bool):=iter a (u3 (OO a o nodes)) b
def UD(c:Nat)(p:Int×List Int)(nodes:Int):oN Bool:=Option.bind (α:=(Bool×Int×List Int)) (bif decide (nodes<1) then some (true,p) else bif decide (nodes>256) then some (true,p) else bif decide (p.1<1) then some (true,p) else bif decide (p.1>1099511627776) then some (true,p) else bif (decide ((p.2.length:Int)<1)) then some (true,p) else some ((decide ((p.2.length:Int)>255)),p)) λo=>bif o.1 then some false else (FW c o nodes (0,o.2)).bind λa=>match a with
  |.inl s=>some true
  |.inr b=>some b
def OP:FnA:=⟨tw [zad,tw [.join ⟨[2,34],⟨DT,zbx⟩⟩ false [] lf] zab,.two lf (.one (.loop ⟨[2,38],⟨zbt,zbx⟩⟩ true zbH (tw [lf,lf,.one (tw [lf,.join ⟨[2,57],⟨DT,zbx⟩⟩ false [] zeY] zab)] lf)))] lf,⟨(lc [.p (.pair ti (.sl ti))] qL6),[]⟩,zax,[0]⟩
theorem rhZ:To 81 OP λfu t=>UD fu t.1 t.2:=tj (ta pXZ tz) func81
def SL(a:Nat)(p:Int×List Int):oN Bool:=(UD a p 256).bind λr=>some (!r)
def KW:FnA:=⟨.two zad zfO,⟨(lc [.p (.pair ti (.sl ti))] zbe),[]⟩,zax,[0]⟩
theorem nUZ:To 80 KW SL:=tj (ta rhZ tz) func80
def BI(b:Nat)(s:List (Int×List Int))(x:Int):oN (Int⊕(Unit⊕Int)):=bif (decide (x<(s.length:Int))) then (bH x s.length).bind λq=>s[q]?.bind λr=>(SL b r).bind λa=>bif a then some (.inr (.inr x)) else some (.inl (wI (x+1))) else some (.inr (.inl ()))
def wJ(b:Nat)(s:List (Int×List Int))(a:Int):oN (Unit⊕Int):=iter b (λa=>BI b s a) a
def AD(b:Nat)(s:List (Int×List Int)):oN Int:=(wJ b s 0).bind λo=>match o with
 |.inl c=>some (-1)
 |.inr a=>some a
def BJ:FnA:=⟨.two lf zat,zca,zfN,[0]⟩
theorem hiZ:To 136 BJ AD:=tj (ta nUZ tz) func136
def DW(a:Nat)(s:List (Int×List Int)):oN Bool:=(AD a s).bind λr=>some (decide (r>=0))
def DX:FnA:=⟨.two lf zbN,zca,zax,[0]⟩
theorem jyZ:To 82 DX DW:=tj (ta hiZ tz) func82
def OQ(a:Nat)(l:List (Int×List Int)):oN Bool:=bif (decide ((l.length:Int)>=1)) then bif (decide ((l.length:Int)<=1000)) then (DW a l).bind λr=>some (!r) else some false else some false
def OR:FnA:=⟨tw [lf,lf] zfn,⟨zbM,[]⟩,zax,[0]⟩
theorem kpZ:To 35 OR OQ:=tj (ta jyZ tz) func35
def AE(a:Nat):oN (Int×List qT2):=some (0,[(1,1,true,true,0,[],1,[])])
def BK:FnA:=⟨tw [zad,.reg [(1,{ids:=[101]})]] lf,zaX,zec,[0]⟩
theorem hwZ:To 56 BK λfu t=>AE fu:=tj tz func56
def nK(a:Nat):oN (Int×List qT2×List (List UInt8)):=(AE a).bind λr=>some (r.1,r.2,(List.replicate (α:=List UInt8) 1 []))
def BL:FnA:=⟨tw [zad,.reg [(0,{ids:=[101]}),(1,{ids:=[102]})]] lf,zaX,[zbF],[0]⟩
theorem c7Z:To 26 BL λfu t=>nK fu:=tj (ta hwZ tz) func26
def rT(a:Nat)(s:List qT2):oN (List qT2):=rH s.length λisNil=>bif isNil then some [] else bO ((Nat.ble ((0+s.length)*88) cM)&&(Nat.ble (0+s.length) cM))<|some s
def KX:FnA:=⟨.two lf zcf,⟨(lc [.p (.sl qY1)] zbe),[]⟩,[⟨(lc [.slf 8 0] zbe),[zbf]⟩],[81]⟩
theorem b5Z:To 124 KX rT:=tj tz func124
def tZ(a:Nat)(s:List (Int×Int)):oN (List (Int×Int)):=rH s.length λisNil=>bif isNil then some [] else bO ((Nat.ble ((0+s.length)*16) cM)&&(Nat.ble (0+s.length) cM))<|some s
def KY:FnA:=⟨.two lf zcf,⟨zfr,[]⟩,[⟨zb7,[zbK]⟩],[83]⟩
theorem ccZ:To 105 KY tZ:=tj tz func105
def wK(a:Nat)(s:List (List UInt8×Int)):oN (List (List UInt8×Int)):=rH s.length λisNil=>bif isNil then some [] else bO ((Nat.ble ((0+s.length)*24) cM)&&(Nat.ble (0+s.length) cM))<|some s
def OS:FnA:=⟨.two lf zcf,⟨zdO,[]⟩,[⟨zb7,[(0,false,zK)]⟩],[128]⟩
theorem bKZ:To 104 OS wK:=tj tz func104
def BN(n:Nat)(r:List qT2)(x h:Int)(f:List qT2)(l:Int):oN ((Int×mE)⊕(mE)):=bif (decide (x<(r.length:Int))) then (bH x f.length).bind λq=>f[q]?.bind λo=>(tZ n o.e).bind λj=>(bH x f.length).bind λp=>f[p]?.bind λs=>(wK n s.2.2.2.2.2.2.2).bind λt=>(bH x f.length).bind λi=>f[i]?.bind λa=>(bH x (List.set f i (a.1,a.2.1,a.b,a.c,a.d,j,a.E)).length).bind λm=>(List.set f i (a.1,a.2.1,a.b,a.c,a.d,j,a.E))[m]?.bind λg=>some (.inl ((wI (x+1)),h,(List.set (List.set f i (a.1,a.2.1,a.b,a.c,a.d,j,a.E)) m (g.1,g.2.1,g.b,g.c,g.d,g.e,g.2.2.2.2.2.2.1,t)),l)) else some (.inr (h,f,l))
def yD(b:Nat)(r:List qT2)(a:Int×mE):oN mE:=iter b (λa=>BN b r a.1 a.2.1 a.2.2.1 a.2.2.2) a
def KZ(a:Nat)(t:List qT2×Int):oN (Int×List qT2):=(rT a t.1).bind λr=>(yD a r (0,t.2,r,0)).bind λo=>some (o.1,o.2.1)
def OT:FnA:=⟨.two zae zaz,zaW,zec,[0]⟩
theorem jOZ:To 90 OT KZ:=tj (ta b5Z (ta ccZ (ta bKZ tz))) func90
def LA(a:Nat)(s:List (Int×List Int)):oN (List (Int×List Int)):=rH s.length λisNil=>bif isNil then some [] else bO ((Nat.ble ((0+s.length)*32) cM)&&(Nat.ble (0+s.length) cM))<|some s
def LB:FnA:=⟨.two lf zcf,⟨zbM,[]⟩,[zfq],[133]⟩
theorem oiZ:To 100 LB LA:=tj tz func100
def LC(a:Nat)(s:List Int):oN (List Int):=rH s.length λisNil=>bif isNil then some [] else bO ((Nat.ble ((0+s.length)*8) cM)&&(Nat.ble (0+s.length) cM))<|some s
def LD:FnA:=⟨.two lf zcf,⟨zcW,[]⟩,[zc4],[13]⟩
theorem oVZ:To 101 LD LC:=tj tz func101
def HT(a:Nat)(s:List dD):oN (List dD):=rH s.length λisNil=>bif isNil then some [] else bO ((Nat.ble ((0+s.length)*40) cM)&&(Nat.ble (0+s.length) cM))<|some s
def LE:FnA:=⟨.two lf zcf,⟨(lc [.p mO] zbe),[]⟩,[⟨(lc [.slf 3 0] zbe),[(0,false,(.rows 141 (.pair ti (.pair ti (.sl qY0)))))]⟩],[151]⟩
theorem hUZ:To 102 LE HT:=tj tz func102
def HU(a:Nat)(s:List qT3):oN (List qT3):=rH s.length λisNil=>bif isNil then some [] else bO ((Nat.ble ((0+s.length)*120) cM)&&(Nat.ble (0+s.length) cM))<|some s
def LF:FnA:=⟨.two lf zcf,⟨(lc [.p (.sl qY0)] zbe),[]⟩,[⟨(lc [.slf 11 0] zbe),[(0,false,(.rows 40 qY0))]⟩],[50]⟩
theorem hAZ:To 103 LF HU:=tj tz func103
def rU(a:Nat)(s:List UInt8):oN (List UInt8):=rH s.length λisNil=>bif isNil then some [] else bO ((Nat.ble ((0+s.length)*1) cM)&&(Nat.ble (0+s.length) cM))<|some s
def LG:FnA:=⟨.two lf zcf,⟨zds,[]⟩,[⟨zd5,[zei]⟩],[15]⟩
theorem cTZ:To 70 LG rU:=tj tz func70
def iW(r:Nat)(m:List (Int×List Int))(x h b c:Int)(d:List dD)(e:List (Int×Int))(f:List qT2)(a:List (Int×List Int))(g i j:Int):oN ((Int×OJ)⊕(OJ)):=bif (decide (x<(m.length:Int))) then (bH x a.length).bind λq=>a[q]?.bind λn=>(LC r n.2).bind λo=>(bH x a.length).bind λl=>a[l]?.bind λp=>some (.inl ((wI (x+1)),h,b,c,d,e,f,(List.set a l (p.1,o)),g,i,j)) else some (.inr (h,b,c,d,e,f,a,g,i,j))
def oW(a:Nat)(b:List (Int×List Int))(c:Int×OJ):oN OJ:=iter a (u11 (iW a b)) c
def iX(J:Nat)(K:rK)(k:Nat)(j l n o:Int)(p:List (Int×Int))(q:List qT2)(h:List rK)(r:List (Int×List Int))(t u w:Int)(i:List (Nat×List qT3)):oN ((Nat×Int×DR)⊕(DR)):=bif (decide (j<(((fM (s:=qY0) K.A):Nat):Int))) then h[k]?.bind λy=>h[k]?.bind λz=>h[k]?.bind λB=>(wF B.A).bind λm=>(bH j m.A).bind λL=>i[m.1]?.bind λm1=>bO ((Nat.blt 0 m1.1)&&true)<|m1.2[(m.a+L)]?.bind λC=>(rU J C.f).bind λx=>h[k]?.bind λD=>(wF D.A).bind λm2=>(bH j m2.A).bind λM=>i[m2.1]?.bind λm3=>bO ((Nat.blt 0 m3.1)&&true)<|m3.2[(m2.a+M)]?.bind λE=>(wK J E.2.2.2.2.2.2.2.1).bind λG=>(wF y.A).bind λm4=>(bH j m4.A).bind λH=>i[m4.1]?.bind λm5=>bO (((Nat.beq m5.1 1)&&true)&&true)<|m5.2[(m4.a+H)]?.bind λb=>(wF z.A).bind λm6=>(bH j m6.A).bind λI=>(List.set i m4.1 (1,(List.set m5.2 (m4.a+H) (b.1,b.a,b.2.2.1,b.c,b.d,b.e,x,b.F))))[m6.1]?.bind λm7=>bO (((Nat.beq m7.1 1)&&true)&&true)<|m7.2[(m6.a+I)]?.bind λg=>some (.inl (k,(wI (j+1)),l,n,o,p,q,h,r,t,u,w,(List.set (List.set i m4.1 (1,(List.set m5.2 (m4.a+H) (b.1,b.a,b.2.2.1,b.c,b.d,b.e,x,b.F)))) m6.1 (1,(List.set m7.2 (m6.a+I) (g.1,g.a,g.2.2.1,g.c,g.d,g.e,g.f,G,g.2.2.2.2.2.2.2.2)))))) else some (.inr (l,n,o,p,q,h,r,t,u,w,i))
def kH(a:Nat)(b:rK)(c:Nat×Int×DR):oN DR:=iter a (u13 (iX a b)) c
def oD(q:Nat)(r:List dD)(o d e f:Int)(g:List (Int×Int))(h:List qT2)(a:List rK)(i:List (Int×List Int))(j l m:Int)(b:List (Nat×List qT3)):oN ((Int×DR)⊕(DR)):=bif (decide (o<(r.length:Int))) then (bH o a.length).bind λc=>a[c]?.bind λs=>(nB (.ref 1 qY0) s.2.2).bind λt=>(HU q t).bind λp=>a[c]?.bind λn=>(List.set a c (n.1,n.2.1,(.inr (some (b.length,0,p.length)))))[c]?.bind λu=>(kH q u (c,0,d,e,f,g,h,(List.set a c (n.1,n.2.1,(.inr (some (b.length,0,p.length))))),i,j,l,m,(b++[(1,p)]))).bind λw=>some (.inl ((wI (o+1)),w)) else some (.inr (d,e,f,g,h,a,i,j,l,m,b))
def iG(b:Nat)(c:List dD)(a:Int×DR):oN DR:=iter b (λa=>oD b c a.1 a.2.1 a.2.2.1 a.2.2.2.1 a.2.2.2.2.1 a.2.2.2.2.2.1 a.2.2.2.2.2.2.1 a.2.2.2.2.2.2.2.1 a.2.2.2.2.2.2.2.2.1 a.2.2.2.2.2.2.2.2.2.1 a.2.2.2.2.2.2.2.2.2.2.1 a.2.2.2.2.2.2.2.2.2.2.2) a
def fX(i:Nat)(s:iI):oN (Int×Int×Int×List dD×List qT2×List (Int×List Int)×List (Int×Int)):=(KZ i s.2.1).bind λr=>(LA i s.c).bind λm=>(oW i m (0,s.1,r.1,s.b.1,s.b.2,s.2.2.2.2,r.2,m,0,0,0)).bind λo=>(HT i o.c).bind λn=>(iG i n (0,o.1,o.2.1,o.b,o.d,o.e,(List.map (dE nJ) n),o.f,o.g,o.h,o.H,[])).bind λa=>(tZ i a.c).bind λj=>(cJ (bT [⟨1,qY0,(List.map bX a.I)⟩] nJ) a.e).bind λl=>some (a.1,a.2.1,a.b,l,a.d,a.f,j)
def BO:FnA:=⟨tw [zae,zbh,.reg [(2,{ids:=[103],fn:=1})],.two lf (.one (.loop ⟨[1,2,18],⟨JF,zaQ⟩⟩ false [(0,⟨[1,2],⟨JC,zaQ⟩⟩)] (tw [lf,lf,.one (.two lf (.reg [(9,{ids:=[104],fn:=2})]))] lf))),.reg [(3,{ids:=[105],fn:=3})],.two lf (.one (.pre (.newFam 1 40 qY0) (.pre (.toRef 105 nJ) (.loop ⟨[1,2,44],⟨JF,zao⟩⟩ false [(2,zfE)] (tw [lf,lf,.one (tw [lf,lf,.reg [(5,{ids:=[106],md:=[3],fn:=4}),(8,{sh:=[106,999985]})],lf] (.one (.loop ⟨[1,2,5,65],⟨(lc [.own 0 100 0 0,.own 0 101 0 0,.ownx 3 105 0] qL6),zao⟩⟩ false [(4,zfE)] (tw [lf,lf,.one (.two lf (.reg [(17,{sh:=[999985]}),(18,{ids:=[107],fn:=5}),(26,{sh:=[999985]}),(27,{ids:=[108],fn:=6}),(30,{sh:=[999985]}),(33,{sh:=[999985]})]))] lf))))] lf))))),.reg [(2,{ids:=[109],fn:=7})],.pre (.pureCell 100 4) lf] lf,⟨(lc [.p BE] zbe),[]⟩,[⟨(lc [.agg (ln [ki,.slf 8 0,ki,ki,.p mO,.slf 2 1,.slf 2 2])] zbe),[zbf,(1,false,FU),(2,false,(.rows 73 qY5))]⟩],[0]⟩
theorem dYZ:To 47 BO fX:=tj (ta jOZ (ta oiZ (ta oVZ (ta hUZ (ta hAZ (ta cTZ (ta bKZ (ta ccZ tz)))))))) func47
def lF(b:Nat)(window:Int)(l:List (Int×List Int)):oN (Int×List qT2×Int×Int×List dD×List (Int×List Int)×List (Int×Int)×Int):=(TG b window).bind λr=>bif (!(r.2==0)) then some (0,[],0,0,[],[],[],r.2) else (OQ b l).bind λd=>bif (!d) then some (0,[],0,0,[],[],[],2) else (nK b).bind λc=>(fX b (0,(c.2.1,c.1),(r.1,[]),l,[])).bind λa=>some (a.1,a.2.2.2.2.1,a.2.1,a.2.2.1,a.2.2.2.1,a.2.2.2.2.2.1,a.2.2.2.2.2.2,0)
def BP:FnA:=⟨tw [zad,.reg [(1,{}),(5,{ids:=[101]})],zas,zfs,.reg [(0,{ids:=[102,103],fn:=2}),(5,{ids:=[104,105,106],md:=[1],fn:=3})]] lf,⟨(lc [ki] zbM),[]⟩,[⟨(lc [.agg TS] qL6),[]⟩],[1,0]⟩
theorem c8Z:To 24 BP λfu t=>lF fu t.1 t.2:=tj (ta rDZ (ta kpZ (ta c7Z (ta dYZ tz)))) func24
def oE(i:Nat)(e:qT2)(x b:Int)(a:List qT2)(c:Int):oN (mE⊕((List qT2×Int)⊕(mE⊕(Unit⊕Bool)))):=bif (decide (b<(e.2.2.2.2.2.2.2.length:Int))) then (bH x a.length).bind λf=>a[f]?.bind λd=>(bH b d.2.2.2.2.2.2.2.length).bind λg=>d.2.2.2.2.2.2.2[g]?.bind λh=>bif (decide ((h.1.length:Int)>3000)) then some (.inr (.inr (.inr (.inr true)))) else some (.inl ((wI (b+1)),a,c)) else some (.inr (.inl (a,c)))
def kI(b:Nat)(c:qT2)(x:Int)(a:mE):oN ((List qT2×Int)⊕(mE⊕(Unit⊕Bool))):=iter b (λa=>oE b c x a.1 a.2.1 a.2.2) a
def oF(i:Nat)(t:List qT2×Int)(x:Int)(h:List qT2)(a:Int):oN (mE⊕(Unit⊕Bool)):=bif (decide (x<(t.1.length:Int))) then Option.bind (α:=(Bool×List qT2×Int)) ((bH x h.length).bind λq=>h[q]?.bind λr=>bif (decide ((r.2.2.2.2.2.1.length:Int)>120)) then some (true,h,a) else (bH x h.length).bind λb=>h[b]?.bind λc=>some ((decide ((c.2.2.2.2.2.2.2.length:Int)>120)),h,a)) λo=>bif o.1 then some (.inr (.inr true)) else (bH x o.2.1.length).bind λd=>o.2.1[d]?.bind λe=>(kI i e x (0,o.2)).bind λf=>match f with
   |.inl s=>some (.inl ((wI (x+1)),s))
   |.inr g=>some g else some (.inr (.inl ()))
def kJ(b:Nat)(t:List qT2×Int)(a:mE):oN (Unit⊕Bool):=iter b (λa=>oF b t a.1 a.2.1 a.2.2) a
def qR(c:Nat)(t:List qT2×Int):oN Bool:=bif (decide ((t.1.length:Int)>40)) then some true else (kJ c t (0,t)).bind λa=>match a with
  |.inl d=>some false
  |.inr b=>some b
def BQ:FnA:=⟨tw [zad,zas,.two lf (.one (.loop ⟨[1,12],⟨zbt,[zbd]⟩⟩ true zbH (tw [lf,lf,.one (tw [lf,tw [.join ⟨[1,32],ze8⟩ false [] lf] zab,lf] (.one (.loop ⟨[1,40],⟨zbt,[zbd]⟩⟩ true [(2,zfP)] zcA)))] lf)))] lf,zaW,zax,[0]⟩
theorem hbZ:To 57 BQ qR:=tj tz func57
def lL(d:Nat)(o:Bool×yA)(n x:Int)(h:List qT2)(b:Int)(a:List (List UInt8)):oN ((Int×Int×yA)⊕(Int)):=bif (decide (x<(o.2.2.2.length:Int))) then (bH x a.length).bind λq=>a[q]?.bind λc=>some (.inl ((wI (n+(c.length:Int))),(wI (x+1)),h,b,a)) else some (.inr n)
def iY(b:Nat)(o:Bool×yA)(a:Int×Int×yA):oN Int:=iter b (λa=>lL b o a.1 a.2.1 a.2.2.1 a.2.2.2.1 a.2.2.2.2) a
def jY(a:Nat)(m:yB):oN Bool:=Option.bind (α:=(Bool×yA)) ((qR a (m.1.1,m.1.2)).bind λr=>bif r then some (true,m.1.1,m.1.2,m.2) else some ((decide ((m.2.length:Int)>60)),m.1.1,m.1.2,m.2)) λo=>bif o.1 then some true else (iY a o (0,0,o.2.1,o.2.2.1,o.2.2.2)).bind λb=>some (decide (b>70000))
def yE:FnA:=⟨tw [zad,tw [.join ⟨[1,13],zfF⟩ false [] zed] zab,lf,.two lf (.one (.loop ⟨[1,3,17],⟨ze9,zcZ⟩⟩ false [(0,⟨[3],za0⟩)] (tw [lf,lf,.one lf] lf)))] lf,zeZ,zax,[0]⟩
theorem dmZ:To 27 yE jY:=tj (ta hbZ tz) func27
def rV(n:Nat)(o:Bool×rJ)(x h c d e f:Int)(g:Bool)(i:Int)(j:List UInt8)(a:List (List UInt8×Int))(l:Bool)(b:Int):oN ((Int×rJ)⊕(Unit⊕Bool)):=bif (decide (x<(o.2.2.2.2.2.2.2.2.2.1.length:Int))) then (bH x a.length).bind λq=>a[q]?.bind λm=>bif (decide ((m.1.length:Int)>3000)) then some (.inr (.inr true)) else some (.inl ((wI (x+1)),h,c,d,e,f,g,i,j,a,l,b)) else some (.inr (.inl ()))
def nL(a:Nat)(o:Bool×rJ)(b:Int×rJ):oN (Unit⊕Bool):=iter a (u12 (rV a o)) b
def jO(i:Nat)(c:qT7)(r:qT3):oN Bool:=Option.bind (α:=(Bool×rJ)) (bif (decide ((c.d.length:Int)>3000)) then some (true,r.1,r.a,r.b,r.c.1,r.c.2,r.C) else bif (decide ((c.f.length:Int)>3000)) then some (true,r.1,r.a,r.b,r.c.1,r.c.2,r.C) else bif (decide ((c.H.length:Int)>5000)) then some (true,r.1,r.a,r.b,r.c.1,r.c.2,r.C) else bif (decide ((r.f.length:Int)>5000)) then some (true,r.1,r.a,r.b,r.c.1,r.c.2,r.C) else some ((decide ((r.g.length:Int)>120)),r.1,r.a,r.b,r.c.1,r.c.2,r.C)) λo=>bif o.1 then some true else (nL i o (0,o.2)).bind λe=>match e with
  |.inl s=>some false
  |.inr h=>some h
def zL:FnA:=⟨tw [zae,tw [.join ⟨[3,33],⟨(lc [.own 0 101 0 0] zaa),[zde]⟩⟩ false [] lf] zab,.two lf (.one (.loop ⟨[3,37],⟨(lc [.own 0 101 0 0] qL6),[zde]⟩⟩ true zbH zcA))] lf,⟨(lc [.p qY8] zdo),[]⟩,zax,[0]⟩
theorem dwZ:To 28 zL λfu t=>jO fu t.1 t.2:=tj tz func28
def OU(a:Nat)(n:qT2):oN Bool:=bif (!n.2.2.1) then bif (!n.2.2.2.1) then bif (n.2.2.2.2.1==0) then bif (n.2.2.2.2.2.2.1==0) then some ((wI ((n.2.2.2.2.2.1.length:Int)+(n.2.2.2.2.2.2.2.length:Int)))==0) else some false else some false else some false else some false
def OV:FnA:=⟨.two zad lf,zdm,zax,[0]⟩
theorem reZ:To 128 OV OU:=tj tz func128
def HV(b:Nat)(e:List UInt8×Int)(h:List UInt8)(a:Int):oN (Bool×List UInt8×Int):=bif (decide ((e.1.length:Int)<1)) then some (true,e.1,a) else bif (decide ((e.1.length:Int)>30)) then some (true,e.1,a) else bif ((Op.bytesLess e.1 h)||(e.1==h)) then some (true,e.1,a) else bif decide (e.2<1) then some (true,e.1,a) else some ((decide (e.2>a)),e.1,a)
def LH:FnA:=⟨.two zad zas,⟨(lc [.p (.pair .str ti)] JD),zaP⟩,[⟨zaa,zaP⟩],[0]⟩
theorem n0Z:To 168 LH (v3 HV):=tj tz func168
def pM(d:Nat)(s:List (List UInt8×Int))(x:Int)(b:List UInt8)(c:Int):oN ((Int×List UInt8×Int)⊕((List UInt8×Int)⊕(Int×List UInt8×Int))):=bif (decide (x<(s.length:Int))) then (bH x s.length).bind λq=>s[q]?.bind λr=>(HV d r b c).bind λa=>bif a.1 then some (.inr (.inr (x,a.2.1,a.2.2))) else some (.inl ((wI (x+1)),a.2.1,a.2.2)) else some (.inr (.inl (b,c)))
def pN(b:Nat)(s:List (List UInt8×Int))(a:Int×List UInt8×Int):oN ((List UInt8×Int)⊕(Int×List UInt8×Int)):=iter b (λa=>pM b s a.1 a.2.1 a.2.2) a
def yF(d:Nat)(s:List (List UInt8×Int))(h:List UInt8)(b:Int):oN (Int×List UInt8×Int):=(pN d s (0,h,b)).bind λo=>match o with
 |.inl a=>some ((-1),a.1,a.2)
 |.inr c=>some c
def DY:FnA:=⟨tw [lf,.two lf (.one (.loop ⟨[1,8],⟨(lc [.fn 168 .nil JD] qL6),zaP⟩⟩ true [(0,⟨[1],⟨zeS,zaP⟩⟩)] zcs))] lf,zcq,[⟨qL6,zaP⟩],[0]⟩
theorem ipZ:To 132 DY (v3 yF):=tj (ta n0Z tz) func132
def yG(b:Nat)(s:List (List UInt8×Int))(h:List UInt8)(a:Int):oN (Bool×List UInt8×Int):=(yF b s h a).bind λr=>some ((decide (r.1>=0)),r.2.1,r.2.2)
def DZ:FnA:=⟨tw [lf,zdP] lf,zcq,[⟨zaa,zaP⟩],[0]⟩
theorem inZ:To 77 DZ (v3 yG):=tj (ta ipZ tz) func77
def OW(a:Nat)(n:qT2)(many:Int):oN Bool:=bif (n.2.2.2.2.1==0) then bif ((n.2.2.2.2.2.1.length:Int)==0) then bif (decide ((n.2.2.2.2.2.2.2.length:Int)<=100)) then (yG a n.2.2.2.2.2.2.2 [] many).bind λr=>some (!r.1) else some false else some false else some false
def OX:FnA:=⟨tw [zae,zdK,lf,.reg [(19,{sh:=[102,101]})]] lf,zfa,zax,[0]⟩
theorem p9Z:To 129 OX λfu t=>OW fu t.1 t.2:=tj (ta inZ tz) func129
def HX(b:Nat)(p:Int×Int)(h:eX)(a:Int):oN (Bool×eX×Int):=bif ((p.1==0)&&(p.2==0)) then some (false,h,a) else bif ((Option.getD (lG (k:=(.int .i64)) (v:=(.int .i64)) h p.1) 0)==1) then some (true,(mN (k:=(.int .i64)) (v:=(.int .i64)) h p.1 1),a) else bif decide (p.1<1) then some (true,(mN (k:=(.int .i64)) (v:=(.int .i64)) h p.1 1),a) else bif decide (p.1>a) then some (true,(mN (k:=(.int .i64)) (v:=(.int .i64)) h p.1 1),a) else bif decide (p.2<1) then some (true,(mN (k:=(.int .i64)) (v:=(.int .i64)) h p.1 1),a) else some ((decide (p.2>1099511627776)),(mN (k:=(.int .i64)) (v:=(.int .i64)) h p.1 1),a)
def LI:FnA:=⟨tw [zad,zas] zas,⟨(lc [.p qY5,.own 0 0 0 0] zft),zai⟩,[⟨zaa,zai⟩],[0]⟩
theorem nAZ:To 169 LI (v3 HX):=tj tz func169
def pO(d:Nat)(s:List (Int×Int))(x:Int)(b:eX)(c:Int):oN ((Int×eX×Int)⊕((eX×Int)⊕(Int×eX×Int))):=bif (decide (x<(s.length:Int))) then (bH x s.length).bind λq=>s[q]?.bind λr=>(HX d r b c).bind λa=>bif a.1 then some (.inr (.inr (x,a.2.1,a.2.2))) else some (.inl ((wI (x+1)),a.2.1,a.2.2)) else some (.inr (.inl (b,c)))
def lM(b:Nat)(s:List (Int×Int))(a:Int×eX×Int):oN ((eX×Int)⊕(Int×eX×Int)):=iter b (λa=>pO b s a.1 a.2.1 a.2.2) a
def yH(d:Nat)(s:List (Int×Int))(h:eX)(b:Int):oN (Int×eX×Int):=(lM d s (0,h,b)).bind λo=>match o with
 |.inl a=>some ((-1),a.1,a.2)
 |.inr c=>some c
def EA:FnA:=⟨tw [lf,.two lf (.one (.loop ⟨[1,8],⟨(lc [.fn 169 .nil (ln [.own 0 0 0 0,.own 0 2 0 0])] qL6),zai⟩⟩ true [(0,⟨[1],⟨zbB,zai⟩⟩)] (tw [lf,lf,.one (tw [lf,.reg [(5,{sh:=[0,1,2]})]] zab)] lf)))] lf,zeq,[⟨qL6,zai⟩],[0]⟩
theorem iHZ:To 115 EA (v3 yH):=tj (ta nAZ tz) func115
def yI(b:Nat)(s:List (Int×Int))(h:eX)(a:Int):oN (Bool×eX×Int):=(yH b s h a).bind λr=>some ((decide (r.1>=0)),r.2.1,r.2.2)
def EB:FnA:=⟨tw [lf,.reg [(2,{sh:=[0,1,2]})]] lf,zeq,[⟨zaa,zai⟩],[0]⟩
theorem jmZ:To 84 EB (v3 yI):=tj (ta iHZ tz) func84
def BR(a:Nat)(n:qT2)(stripe:Int)(h:eX):oN (Bool×eX):=bif decide (n.2.2.2.2.1>=0) then bif decide (n.2.2.2.2.1<=65536) then bif ((n.2.2.2.2.2.2.2.length:Int)==0) then bif (decide ((n.2.2.2.2.2.1.length:Int)<=4096)) then (yI a n.2.2.2.2.2.1 h stripe).bind λr=>some ((!r.1),r.2.1) else some (false,h) else some (false,h) else some (false,h) else some (false,h)
def JH:FnA:=⟨tw [zaA,lf,.reg [(24,{sh:=[102,0,101]})]] lf,⟨(lc [.p qY1,ki,.mp 0] zbe),zdU⟩,[⟨zaa,zdU⟩],[0]⟩
theorem lqZ:To 130 JH (v3 BR):=tj (ta jmZ tz) func130
def qS(d:Nat)(o:Bool×List qT2×Int)(t:List qT2×Int)(x:Int)(h:List qT2)(c:Int)(e:eX):oN ((Int×List qT2×Int×eX)⊕((List qT2×Int)⊕Bool)):=bif (decide (x<(o.2.1.length:Int))) then (bH x o.2.1.length).bind λq=>o.2.1[q]?.bind λr=>(OU d r).bind λi=>Option.bind (α:=(Bool×List qT2×Int×eX×qT2)) (bif r.2.2.1 then some (r.2.2.2.1,h,c,e,r) else some (false,h,c,e,r)) λb=>Option.bind (α:=(Bool×List qT2×Int×eX×qT2)) (bif b.1 then (OW d b.2.2.2.2 (t.1.length:Int)).bind λj=>some (j,b.2) else Option.bind (α:=(Bool×List qT2×Int×eX×qT2)) (bif b.2.2.2.2.2.2.1 then (BR d b.2.2.2.2 b.2.2.1 b.2.2.2.1).bind λf=>some (f.1,b.2.1,b.2.2.1,f.2,b.2.2.2.2) else some (i,b.2)) λl=>some l) λa=>Option.bind (α:=(Bool×List qT2×Int×eX)) (bif (!a.1) then some (true,a.2.1,a.2.2.1,a.2.2.2.1) else bif (!(a.2.2.2.2.1==(wI (x+1)))) then some (true,a.2.1,a.2.2.1,a.2.2.2.1) else bif decide (a.2.2.2.2.2.1<1) then some (true,a.2.1,a.2.2.1,a.2.2.2.1) else bif decide (a.2.2.2.2.2.1>1099511627776) then some (true,a.2.1,a.2.2.1,a.2.2.2.1) else bif a.2.2.2.2.2.2.1 then bif decide (a.2.2.2.2.2.2.2.2.2.2.1<1) then some (true,a.2.1,a.2.2.1,a.2.2.2.1) else some ((decide (a.2.2.2.2.2.2.2.2.2.2.1>(t.1.length:Int))),a.2.1,a.2.2.1,a.2.2.2.1) else some (false,a.2.1,a.2.2.1,a.2.2.2.1)) λg=>bif g.1 then some (.inr (.inr false)) else some (.inl ((wI (x+1)),g.2)) else some (.inr (.inl (h,c)))
def sK(b:Nat)(o:Bool×List qT2×Int)(t:List qT2×Int)(a:Int×List qT2×Int×eX):oN ((List qT2×Int)⊕Bool):=iter b (λa=>qS b o t a.1 a.2.1 a.2.2.1 a.2.2.2) a
def EC(e:Nat)(t:List qT2×Int):oN Bool:=Option.bind (α:=(Bool×List qT2×Int)) (bif (decide ((t.1.length:Int)<1)) then some (true,t) else bif (decide ((t.1.length:Int)>500)) then some (true,t) else bif decide (t.2<0) then some (true,t) else some ((decide (t.2>1099511627776)),t)) λo=>bif o.1 then some false else (sK e o t (0,o.2.1,o.2.2,[],0)).bind λb=>match b with
  |.inl s=>(bH 0 s.1.length).bind λc=>s.1[c]?.bind λa=>bif a.2.2.1 then bif a.2.2.2.1 then some (a.2.2.2.2.2.2.1==1) else some false else some false
  |.inr d=>some d
def OY:FnA:=⟨tw [zad,lf,tw [.join ⟨[1,27],ze8⟩ false [] lf] zab,zdL,.two lf (.one (.loop ⟨[1,4,32],⟨(lc [.own 0 100 0 0,.mp 101] qL6),[zbd,zda]⟩⟩ true [(0,zfP)] (tw [lf,lf,.one (tw [zdM,zb5,.one (tw [.join ⟨[1,4,6,39],zaI⟩ false [] lf] (.join ⟨[1,4,6,7],zaI⟩ false [] (tw [zej,lf] (.join ⟨[1,4,6,7],zaI⟩ false [] (tw [.reg [(4,{sh:=[101],fn:=2})]] lf))))),.join ⟨[1,4,90],⟨(lc [.own 0 100 0 0,.mp 101] zaa),[zbd,zda]⟩⟩ false [] lf] zab)] lf))),.reg [(4,{ids:=[103]})]] lf,zaW,zax,[0]⟩
theorem eyZ:To 74 OY EC:=tj (ta reZ (ta p9Z (ta lqZ tz))) func74
def BS(a:Nat)(s chars:List UInt8):oN Bool:=bO (Nat.beq chars.length 2&&chars.all (λb=>Nat.blt b.toNat 128)&&Nat.blt s.length 4294967281) (some (Go.Lib.containsAny s chars))
def FX(fu:Nat):FnT:=⟨131,⟨(.cons (.p .str) (.cons (.p .str) .nil)),[]⟩,[⟨(.cons (.p .bool) .nil),[]⟩],λt=>BS fu t.1 t.2⟩
theorem jTZ(fu:Nat):eZ Tryz.prog (FX fu):=
 f0Z Tryz.ca131 (by kernel_rfl) ⟨_,_,func131,rfl,by kernel_rfl⟩
def BT(a:Nat)(s:List UInt8):oN Bool:=bif (decide ((s.length:Int)>=1)) then bif (decide ((s.length:Int)<=30)) then bif (!(s==[46])) then bif (!(s==[46,46])) then (BS a s [0,47]).bind λr=>some (!r) else some false else some false else some false else some false
def OZ:FnA:=⟨tw [lf,.reg [(18,{})]] lf,⟨zbu,[]⟩,zax,[0]⟩
theorem dpZ:To 76 OZ BT:=tj (ta jTZ tz) func76
def HY(t:Nat)(e:List UInt8×Int)(h:List Int)(b:List qT2)(f c g:Int)(i j:Bool)(l:Int)(m:List (Int×Int))(n:Int)(a:List (List UInt8×Int)):oN (Bool×List Int×List qT2×Int×qT2):=(bH e.2 h.length).bind λq=>h[q]?.bind λr=>(bH e.2 h.length).bind λd=>h[d]?.bind λu=>(bH (wI (e.2-1)) b.length).bind λp=>b[p]?.bind λo=>(BT t e.1).bind λs=>bif (!s) then some (true,(List.set h d (wI (r+1))),b,f,c,g,i,j,l,m,n,a) else bif (!o.2.2.1) then some (true,(List.set h d (wI (r+1))),b,f,c,g,i,j,l,m,n,a) else some ((!(o.2.2.2.2.2.2.1==c)),(List.set h d (wI (r+1))),b,f,c,g,i,j,l,m,n,a)
def LJ:FnA:=⟨tw [zad,lf,.reg [(7,{ids:=[101]})]] zbN,⟨(lc [.p (.pair .str ti),.own 0 0 0 0,.own 0 2 0 0] zfu),zag⟩,[⟨zaa,zag⟩],[0]⟩
theorem n4Z:To 75 LJ (v12 HY):=tj (ta dpZ tz) func75
def pP(n:Nat)(s:List (List UInt8×Int))(x:Int)(b:List Int)(c:List qT2)(d e f:Int)(g h:Bool)(i:Int)(j:List (Int×Int))(l:Int)(m:List (List UInt8×Int)):oN ((Int×List Int×List qT2×Int×qT2)⊕((List Int×List qT2×Int×qT2)⊕(Int×List Int×List qT2×Int×qT2))):=bif (decide (x<(s.length:Int))) then (bH x s.length).bind λq=>s[q]?.bind λr=>(HY n r b c d e f g h i j l m).bind λa=>bif a.1 then some (.inr (.inr (x,a.2.1,a.2.2.1,a.2.2.2.1,a.2.2.2.2.1,a.2.2.2.2.2.1,a.2.2.2.2.2.2.1,a.2.2.2.2.2.2.2.1,a.2.2.2.2.2.2.2.2.1,a.2.2.2.2.2.2.2.2.2.1,a.2.2.2.2.2.2.2.2.2.2.1,a.2.2.2.2.2.2.2.2.2.2.2))) else some (.inl ((wI (x+1)),a.2.1,a.2.2.1,a.2.2.2.1,a.2.2.2.2.1,a.2.2.2.2.2.1,a.2.2.2.2.2.2.1,a.2.2.2.2.2.2.2.1,a.2.2.2.2.2.2.2.2.1,a.2.2.2.2.2.2.2.2.2.1,a.2.2.2.2.2.2.2.2.2.2.1,a.2.2.2.2.2.2.2.2.2.2.2)) else some (.inr (.inl (b,c,d,e,f,g,h,i,j,l,m)))
def lN(b:Nat)(s:List (List UInt8×Int))(a:Int×List Int×List qT2×Int×qT2):oN ((List Int×List qT2×Int×qT2)⊕(Int×List Int×List qT2×Int×qT2)):=iter b (λa=>pP b s a.1 a.2.1 a.2.2.1 a.2.2.2.1 a.2.2.2.2.1 a.2.2.2.2.2.1 a.2.2.2.2.2.2.1 a.2.2.2.2.2.2.2.1 a.2.2.2.2.2.2.2.2.1 a.2.2.2.2.2.2.2.2.2.1 a.2.2.2.2.2.2.2.2.2.2.1 a.2.2.2.2.2.2.2.2.2.2.2) a
def yJ(p:Nat)(s:List (List UInt8×Int))(h:List Int)(c:List qT2)(d e f:Int)(g i:Bool)(j:Int)(l:List (Int×Int))(m:Int)(b:List (List UInt8×Int)):oN (Int×List Int×List qT2×Int×qT2):=(lN p s (0,h,c,d,e,f,g,i,j,l,m,b)).bind λo=>match o with
 |.inl a=>some ((-1),a.1,a.2.1,a.2.2.1,a.2.2.2.1,a.2.2.2.2.1,a.2.2.2.2.2.1,a.2.2.2.2.2.2.1,a.2.2.2.2.2.2.2.1,a.2.2.2.2.2.2.2.2.1,a.2.2.2.2.2.2.2.2.2.1,a.2.2.2.2.2.2.2.2.2.2)
 |.inr n=>some n
def ED:FnA:=⟨tw [lf,.two lf (.one (.loop ⟨[1,8],⟨(lc [.fn 75 .nil (ln [.own 0 0 0 0,.own 0 2 0 0,.own 0 3 0 0])] qL6),zag⟩⟩ true [(0,⟨[1],⟨zbb,zag⟩⟩)] zck))] lf,zdf,[⟨qL6,zag⟩],[0]⟩
theorem iWZ:To 132 ED (v12 yJ):=tj (ta n4Z tz) func132
def wW(m:Nat)(s:List (List UInt8×Int))(h:List Int)(b:List qT2)(c d e:Int)(f g:Bool)(i:Int)(j:List (Int×Int))(l:Int)(a:List (List UInt8×Int)):oN (Bool×List Int×List qT2×Int×qT2):=(yJ m s h b c d e f g i j l a).bind λr=>some ((decide (r.1>=0)),r.2.1,r.2.2.1,r.2.2.2.1,r.2.2.2.2.1,r.2.2.2.2.2.1,r.2.2.2.2.2.2.1,r.2.2.2.2.2.2.2.1,r.2.2.2.2.2.2.2.2.1,r.2.2.2.2.2.2.2.2.2.1,r.2.2.2.2.2.2.2.2.2.2.1,r.2.2.2.2.2.2.2.2.2.2.2)
def FY:FnA:=⟨.two lf zeg,zdf,[⟨zaa,zag⟩],[0]⟩
theorem jKZ:To 77 FY (v12 wW):=tj (ta iWZ tz) func77
def BU(d:Nat)(t:List qT2×Int)(id1 x:Int)(h:List qT2)(a:Int):oN ((Int×mE)⊕(Int⊕Bool)):=bif (decide (x<(t.1.length:Int))) then bif (id1==1) then some (.inr (.inr true)) else (bH (wI (id1-1)) h.length).bind λq=>h[q]?.bind λr=>bif (!r.2.2.1) then some (.inr (.inr false)) else (bH (wI (id1-1)) h.length).bind λb=>h[b]?.bind λc=>some (.inl (c.2.2.2.2.2.2.1,(wI (x+1)),h,a)) else some (.inr (.inl id1))
def sL(b:Nat)(t:List qT2×Int)(a:Int×mE):oN (Int⊕Bool):=iter b (λa=>BU b t a.1 a.2.1 a.2.2.1 a.2.2.2) a
def PN(b:Nat)(t:List qT2×Int)(id:Int):oN Bool:=(sL b t (id,0,t.1,t.2)).bind λo=>match o with
 |.inl s=>some (s==1)
 |.inr a=>some a
def PR:FnA:=⟨tw [zad,.two lf (.one (.loop ⟨[1,2,8],⟨(lc [ki] zbt),[zbd]⟩⟩ true [(0,⟨[1],za0⟩)] (tw [lf,lf,.one (tw [zas,zas] lf)] lf)))] lf,⟨(lc [.p wH] qL6),[]⟩,zax,[0]⟩
theorem pqZ:To 78 PR λfu t=>PN fu t.1 t.2:=tj tz func78
def BV(e:Nat)(t:List qT2×Int)(x:Int)(h:List qT2)(c:Int)(d:List Int):oN ((Int×List qT2×Int×List Int)⊕((List qT2×Int×List Int)⊕Bool)):=bif (decide (x<(t.1.length:Int))) then (bH x t.1.length).bind λf=>t.1[f]?.bind λb=>Option.bind (α:=(Bool×List qT2×Int×List Int)) ((wW e b.2.2.2.2.2.2.2 d h c b.1 b.2.1 b.2.2.1 b.2.2.2.1 b.2.2.2.2.1 b.2.2.2.2.2.1 b.2.2.2.2.2.2.1 b.2.2.2.2.2.2.2).bind λa=>bif a.1 then some (true,a.2.2.1,a.2.2.2.1,a.2.1) else bif a.2.2.2.2.2.2.1 then (PN e (a.2.2.1,a.2.2.2.1) a.2.2.2.2.1).bind λg=>some ((!g),a.2.2.1,a.2.2.2.1,a.2.1) else some (false,a.2.2.1,a.2.2.2.1,a.2.1)) λo=>bif o.1 then some (.inr (.inr false)) else some (.inl ((wI (x+1)),o.2.1,o.2.2.1,o.2.2.2)) else some (.inr (.inl (h,c,d)))
def sM(b:Nat)(t:List qT2×Int)(a:Int×List qT2×Int×List Int):oN ((List qT2×Int×List Int)⊕Bool):=iter b (λa=>BV b t a.1 a.2.1 a.2.2.1 a.2.2.2) a
def BW(i:Nat)(s:List qT2×Int×List Int)(c:Int)(e:List Int):oN ((Int×List Int)⊕(Unit⊕Bool)):=bif (decide (c<(s.1.length:Int))) then (bH c s.1.length).bind λf=>s.1[f]?.bind λb=>Option.bind (α:=(Bool×List Int×qT2)) (bif (b.1==1) then some (true,e,b) else some ((!b.2.2.1),e,b)) λd=>Option.bind (α:=(Int×List Int×qT2)) (bif d.1 then some (0,d.2) else some (1,d.2)) λa=>(bH a.2.2.1 a.2.1.length).bind λg=>a.2.1[g]?.bind λh=>bif (!(h==a.1)) then some (.inr (.inr false)) else some (.inl ((wI (c+1)),a.2.1)) else some (.inr (.inl ()))
def sO(b:Nat)(s:List qT2×Int×List Int)(a:Int×List Int):oN (Unit⊕Bool):=iter b (λa=>BW b s a.1 a.2) a
def FZ(a:Nat)(t:List qT2×Int):oN Bool:=(EC a (t.1,t.2)).bind λr=>bif (!r) then some false else (cT (wI ((t.1.length:Int)+1)) cM).bind λm=>(cT (wI ((t.1.length:Int)+1)) m).bind λq=>bO (Nat.ble (m*8) cM)<|(sM a t (0,t.1,t.2,(List.replicate (α:=Int) q 0))).bind λb=>match b with
  |.inl s=>(sO a s (0,s.2.2)).bind λc=>match c with
   |.inl f=>some true
   |.inr d=>some d
  |.inr e=>some e
def PZ:FnA:=⟨tw [zad,.two zb5 zab,.reg [(4,{ids:=[101]}),(5,{ids:=[102]})],.two lf (.one (.loop ⟨[1,3,21],⟨(lc [.own 0 100 0 0] zfd),zfQ⟩⟩ true [(0,⟨[1,3],⟨zdt,zfQ⟩⟩)] (tw [lf,lf,.one (tw [zfv,lf,.join ⟨[1,3,40],⟨(lc [.own 0 100 0 0] zcB),zfQ⟩⟩ false [] (.reg [(3,{sh:=[102,101,100,103],fn:=1}),(11,{fn:=2})])] zab)] lf))),.two lf (.one (.loop ⟨[3,45],⟨zfd,[za7,zbo]⟩⟩ true [(2,⟨[],zaX⟩)] (tw [lf,lf,.one (tw [zfw,lf,tw [.join ⟨[3,8,56],⟨zb1,zex⟩⟩ false [] lf] (.join ⟨[3,8,9],⟨zdu,zex⟩⟩ false [] lf)] zas)] lf)))] lf,zaW,zax,[0]⟩
theorem gyZ:To 33 PZ FZ:=tj (ta eyZ (ta jKZ (ta pqZ tz))) func33
def BX(g:Nat)(o:Bool×yA)(x:Int)(h:List qT2)(c:Int)(a:List (List UInt8)):oN ((Int×yA)⊕(Unit⊕Bool)):=bif (decide (x<(o.2.1.length:Int))) then (bH x o.2.1.length).bind λq=>o.2.1[q]?.bind λd=>Option.bind (α:=(Bool×yA)) (bif (decide ((d.2.2.2.2.2.1.length:Int)>0)) then some (true,h,c,a) else (bH x a.length).bind λe=>a[e]?.bind λf=>some ((!((f.length:Int)==d.2.2.2.2.1)),h,c,a)) λb=>bif b.1 then some (.inr (.inr false)) else some (.inl ((wI (x+1)),b.2.1,b.2.2.1,b.2.2.2)) else some (.inr (.inl ()))
def sP(b:Nat)(o:Bool×yA)(a:Int×yA):oN (Unit⊕Bool):=iter b (λa=>BX b o a.1 a.2.1 a.2.2.1 a.2.2.2) a
def QA(a:Nat)(m:yB):oN Bool:=Option.bind (α:=(Bool×yA)) ((FZ a (m.1.1,m.1.2)).bind λr=>bif (!r) then some (true,m.1.1,m.1.2,m.2) else some ((!((m.2.length:Int)==(m.1.1.length:Int))),m.1.1,m.1.2,m.2)) λo=>bif o.1 then some false else (sP a o (0,o.2.1,o.2.2.1,o.2.2.2)).bind λb=>match b with
  |.inl s=>some true
  |.inr c=>some c
def QB:FnA:=⟨tw [zad,tw [.join ⟨[1,18],zfF⟩ false [] zed] zab,.two lf (.one (.loop ⟨[1,23],⟨zbt,zcZ⟩⟩ true zbH (tw [lf,lf,.one (tw [.reg [(3,{ids:=[101]})],.join ⟨[1,42],zfF⟩ false [] lf] zab)] lf)))] lf,zeZ,zax,[0]⟩
theorem pEZ:To 68 QB QA:=tj (ta gyZ tz) func68
def AF(a:Nat):oN xZ:=some (true,true,false,false,0,false)
def LK:FnA:=⟨.two zad lf,zaX,zaZ,[0]⟩
theorem oqZ:To 137 LK λfu t=>AF fu:=tj tz func137
def SM(a:Nat):oN xZ:=some (true,false,false,true,4096,false)
def LL:FnA:=⟨.two zad lf,zaX,zaZ,[0]⟩
theorem ouZ:To 138 LL λfu t=>SM fu:=tj tz func138
def SN(a:Nat):oN xZ:=some (true,false,false,true,0,true)
def LM:FnA:=⟨.two zad lf,zaX,zaZ,[0]⟩
theorem ogZ:To 139 LM λfu t=>SN fu:=tj tz func139
def SO(a:Nat):oN xZ:=some (true,false,false,false,2147483648,false)
def LN:FnA:=⟨.two zad lf,zaX,zaZ,[0]⟩
theorem oWZ:To 140 LN λfu t=>SO fu:=tj tz func140
def SP(a:Nat):oN xZ:=some (true,true,true,false,0,false)
def LO:FnA:=⟨.two zad lf,zaX,zaZ,[0]⟩
theorem nZZ:To 141 LO λfu t=>SP fu:=tj tz func141
def SQ(a:Nat):oN xZ:=some (true,true,false,false,4096,false)
def LP:FnA:=⟨.two zad lf,zaX,zaZ,[0]⟩
theorem pbZ:To 142 LP λfu t=>SQ fu:=tj tz func142
def SR(a:Nat):oN xZ:=some (true,false,false,false,0,false)
def LQ:FnA:=⟨.two zad lf,zaX,zaZ,[0]⟩
theorem osZ:To 143 LQ λfu t=>SR fu:=tj tz func143
def SS(a:Nat):oN xZ:=some (false,false,false,false,0,false)
def LR:FnA:=⟨.two zad lf,zaX,zaZ,[0]⟩
theorem ocZ:To 144 LR λfu t=>SS fu:=tj tz func144
def QC(g:Nat)(o:Int):oN (Bool×Bool×Bool×Bool×Int×Bool×Bool):=bO ((!((uO 2)==(uO 1)))&&true)<|bO ((!((uO 3)==(uO 1)))&&((!((uO 3)==(uO 2)))&&true))<|bO ((!((uO 7)==(uO 1)))&&((!((uO 7)==(uO 2)))&&((!((uO 7)==(uO 3)))&&true)))<|bO ((!((uO 8)==(uO 1)))&&((!((uO 8)==(uO 2)))&&((!((uO 8)==(uO 3)))&&((!((uO 8)==(uO 7)))&&true))))<|bO ((!((uO 4)==(uO 1)))&&((!((uO 4)==(uO 2)))&&((!((uO 4)==(uO 3)))&&((!((uO 4)==(uO 7)))&&((!((uO 4)==(uO 8)))&&true)))))<|bO ((!((uO 5)==(uO 1)))&&((!((uO 5)==(uO 2)))&&((!((uO 5)==(uO 3)))&&((!((uO 5)==(uO 7)))&&((!((uO 5)==(uO 8)))&&((!((uO 5)==(uO 4)))&&true))))))<|bO ((!((uO 6)==(uO 1)))&&((!((uO 6)==(uO 2)))&&((!((uO 6)==(uO 3)))&&((!((uO 6)==(uO 7)))&&((!((uO 6)==(uO 8)))&&((!((uO 6)==(uO 4)))&&((!((uO 6)==(uO 5)))&&true)))))))<|bO ((!((uO 9)==(uO 1)))&&((!((uO 9)==(uO 2)))&&((!((uO 9)==(uO 3)))&&((!((uO 9)==(uO 7)))&&((!((uO 9)==(uO 8)))&&((!((uO 9)==(uO 4)))&&((!((uO 9)==(uO 5)))&&((!((uO 9)==(uO 6)))&&true))))))))<|bO ((!((uO 10)==(uO 1)))&&((!((uO 10)==(uO 2)))&&((!((uO 10)==(uO 3)))&&((!((uO 10)==(uO 7)))&&((!((uO 10)==(uO 8)))&&((!((uO 10)==(uO 4)))&&((!((uO 10)==(uO 5)))&&((!((uO 10)==(uO 6)))&&((!((uO 10)==(uO 9)))&&true)))))))))<|bO ((!((uO 11)==(uO 1)))&&((!((uO 11)==(uO 2)))&&((!((uO 11)==(uO 3)))&&((!((uO 11)==(uO 7)))&&((!((uO 11)==(uO 8)))&&((!((uO 11)==(uO 4)))&&((!((uO 11)==(uO 5)))&&((!((uO 11)==(uO 6)))&&((!((uO 11)==(uO 9)))&&((!((uO 11)==(uO 10)))&&true))))))))))<|bO ((!((uO 12)==(uO 1)))&&((!((uO 12)==(uO 2)))&&((!((uO 12)==(uO 3)))&&((!((uO 12)==(uO 7)))&&((!((uO 12)==(uO 8)))&&((!((uO 12)==(uO 4)))&&((!((uO 12)==(uO 5)))&&((!((uO 12)==(uO 6)))&&((!((uO 12)==(uO 9)))&&((!((uO 12)==(uO 10)))&&((!((uO 12)==(uO 11)))&&true)))))))))))<|(pA o).bind λc=>bif (c==(uO 1)) then (AF g).bind λr=>some (r.1,r.a,r.b,r.c,r.d,r.D,true) else bif (c==(uO 2)) then (AF g).bind λh=>some (h.1,h.a,h.b,h.c,h.d,h.D,true) else bif (c==(uO 3)) then (AF g).bind λi=>some (i.1,i.a,i.b,i.c,i.d,i.D,true) else bif (c==(uO 7)) then (AF g).bind λj=>some (j.1,j.a,j.b,j.c,j.d,j.D,true) else bif (c==(uO 8)) then (AF g).bind λl=>some (l.1,l.a,l.b,l.c,l.d,l.D,true) else bif (c==(uO 4)) then (SM g).bind λm=>some (m.1,m.a,m.b,m.c,m.d,m.D,true) else bif (c==(uO 5)) then (SN g).bind λn=>some (n.1,n.a,n.b,n.c,n.d,n.D,true) else bif (c==(uO 6)) then (SO g).bind λp=>some (p.1,p.a,p.b,p.c,p.d,p.D,true) else bif (c==(uO 9)) then (SP g).bind λq=>some (q.1,q.a,q.b,q.c,q.d,q.D,true) else bif (c==(uO 10)) then (SQ g).bind λs=>some (s.1,s.a,s.b,s.c,s.d,s.D,true) else bif (c==(uO 11)) then (SR g).bind λe=>some (e.1,e.a,e.b,e.c,e.d,e.D,true) else bif (c==(uO 12)) then (SS g).bind λf=>some (f.1,f.a,f.b,f.c,f.d,f.D,true) else some (false,false,false,false,0,false,false)
def QD:FnA:=⟨tw [zad,lf,zdL,lf] (.sel (.slot 6 (.fn 137 .nil .nil)) (.two zab zfO) (.sel (.slot 6 (.fn 138 .nil .nil)) (tw [zab,zcN] lf) (.sel (.slot 6 (.fn 139 .nil .nil)) (tw [zab,.reg [(1,{fn:=2})]] lf) (.sel (.slot 6 (.fn 140 .nil .nil)) (tw [zab,.reg [(1,{fn:=3})]] lf) (.sel (.slot 6 (.fn 141 .nil .nil)) (tw [zab,.reg [(1,{fn:=4})]] lf) (.sel (.slot 6 (.fn 142 .nil .nil)) (tw [zab,.reg [(1,{fn:=5})]] lf) (.sel (.slot 6 (.fn 143 .nil .nil)) (tw [zab,.reg [(1,{fn:=6})]] lf) (tw [zas,.reg [(1,{fn:=7})]] lf)))))))),zer,[⟨(lc [.agg TB] zaa),[]⟩],[0,0]⟩
theorem qrZ:To 85 QD QC:=tj (ta oqZ (ta ouZ (ta ogZ (ta oWZ (ta nZZ (ta pbZ (ta osZ (ta ocZ tz)))))))) func85
def GA(a:Nat)(client xid:Int):oN Bool:=bif decide (client>=0) then bif decide (client<16) then bif decide (xid>=1) then some (decide (xid<=1099511627776)) else some false else some false else some false
def QE:FnA:=⟨.two lf lf,zdT,zax,[0]⟩
theorem k6Z:To 86 QE λfu t=>GA fu t.1 t.2:=tj tz func86
def GB(a:Nat)(h:Int×Int):oN Bool:=bif decide (h.1>=1) then bif decide (h.1<=500) then bif decide (h.2>=1) then some (decide (h.2<=1099511627776)) else some false else some false else some false
def QF:FnA:=⟨.two zad lf,⟨zci,[]⟩,zax,[0]⟩
theorem kIZ:To 88 QF GB:=tj tz func88
def pQ(a:Nat)(is_:Bool)(h:Int×Int):oN Bool:=bif is_ then (GB a h).bind λr=>bif r then some true else bif (!is_) then some ((h.1==0)&&(h.2==0)) else some false else bif (!is_) then some ((h.1==0)&&(h.2==0)) else some false
def EE:FnA:=⟨.two zad zcP,⟨(lc [kb] zci),[]⟩,zax,[0]⟩
theorem iAZ:To 87 EE λfu t=>pQ fu t.1 t.2:=tj (ta kIZ tz) func87
def pR(a:Nat)(is_:Bool)(l:List UInt8):oN Bool:=bif (l==[]) then some true else bif is_ then some (decide ((l.length:Int)<=100)) else some false
def EF:FnA:=⟨.two lf lf,⟨(lc [kb] zbu),[]⟩,zax,[0]⟩
theorem ioZ:To 89 EF λfu t=>pR fu t.1 t.2:=tj tz func89
def oG(t:Nat)(c:qT7):oN Bool:=(QC t (c.b.toNat:Int)).bind λr=>Option.bind (α:=(Bool×Int×Int×Int×Int×Int×List UInt8×Int×Int×List UInt8×Int×Int×List UInt8×xZ)) (bif (!r.E) then some (true,c.1,c.a,(c.b.toNat:Int),c.c.1,c.c.2,c.d,c.e.1,c.e.2,c.f,c.g,c.h,c.H,r.1,r.a,r.b,r.c,r.d,r.e) else (GA t c.1 c.a).bind λw=>some ((!w),c.1,c.a,(c.b.toNat:Int),c.c.1,c.c.2,c.d,c.e.1,c.e.2,c.f,c.g,c.h,c.H,r.1,r.a,r.b,r.c,r.d,r.e)) λo=>bif o.1 then some false else Option.bind (α:=(Bool×Int×Int×Int×Int×Int×List UInt8×Int×Int×List UInt8×Int×Int×List UInt8×xZ)) ((pQ t o.m (o.d,o.e)).bind λx=>bif (!x) then some (true,o.2) else (pQ t o.o (o.g,o.h)).bind λy=>bif (!y) then some (true,o.2) else (pR t o.n o.f).bind λz=>bif (!z) then some (true,o.2) else (pR t o.o o.i).bind λA=>some ((!A),o.2)) λs=>bif s.1 then some false else Option.bind (α:=(Bool×Int×Int×Int×Int×Int×List UInt8×Int×Int×List UInt8×Int×Int×List UInt8×xZ)) (bif decide (s.j<0) then some (true,s.2) else bif decide (s.j>2147483648) then some (true,s.2) else bif (!s.p) then bif (!(s.j==0)) then some (true,s.2) else bif decide (s.k<0) then some (true,s.2) else some ((decide (s.k>s.q)),s.2) else bif decide (s.k<0) then some (true,s.2) else some ((decide (s.k>s.q)),s.2)) λu=>bif u.1 then some false else bif ((u.l.length:Int)==0) then some true else bif u.Q then some (decide ((u.l.length:Int)<=4096)) else some false
def GC:FnA:=⟨tw [zad,.reg [(2,{}),(6,{ids:=[101]})],tw [.join ⟨[1,3,22],zbX⟩ false [] (.reg [(7,{fn:=1})])] zab,lf,lf,tw [.join ⟨[1,3,56],zbX⟩ false [] (.reg [(5,{fn:=2}),(13,{fn:=2}),(22,{fn:=3}),(31,{fn:=3})])] zab,tw [.join ⟨[1,3,86],zbX⟩ false [] lf] zab] lf,⟨zcj,[]⟩,zax,[0]⟩
theorem c2Z:To 41 GC oG:=tj (ta qrZ (ta k6Z (ta iAZ (ta ioZ tz)))) func41
def fY(a:Nat)(n:qT2):oN (Int×Int×Bool×Bool×Int×Int×List (Int×Int)×List (List UInt8×Int)):=(tZ a n.2.2.2.2.2.1).bind λr=>(wK a n.2.2.2.2.2.2.2).bind λb=>some (n.1,n.2.1,n.2.2.1,n.2.2.2.1,n.2.2.2.2.1,n.2.2.2.2.2.2.1,r,b)
def BY:FnA:=⟨.two zae zdb,zdm,[⟨(lc [.agg (ln [ki,ki,kb,kb,ki,.slf 2 0,ki,.slf 2 1])] zbe),[zbK,(1,false,zK)]⟩],[0]⟩
theorem bCZ:To 163 BY fY:=tj (ta ccZ (ta bKZ tz)) func163
def iP(c:Nat)(t:List qT2×Int)(h:Int×Int):oN (Int×Int×Bool×Bool×Int×List (Int×Int)×Int×List (List UInt8×Int)×Int):=Option.bind (α:=(Bool×List qT2×Int×Int×Int×Int×Int×Bool×Bool×Int×Int)) (bif decide (h.1<1) then some (true,t.1,t.2,h.1,h.2,0,0,false,false,0,0) else some ((decide (h.1>(t.1.length:Int))),t.1,t.2,h.1,h.2,0,0,false,false,0,0)) λo=>bif o.1 then some (0,0,false,false,0,[],0,[],170) else (bH (wI (o.2.2.2.1-1)) o.2.1.length).bind λq=>o.2.1[q]?.bind λr=>Option.bind (α:=(Bool×Int×Int×Bool×Bool×Int×Int×qT2)) (bif (!r.2.2.1) then some (true,o.e,o.f,o.g,o.h,o.i,o.I,r) else some ((!(r.2.1==o.d)),o.e,o.f,o.g,o.h,o.i,o.I,r)) λb=>bif b.1 then some (0,0,false,false,0,[],0,[],170) else (fY c b.F).bind λa=>some (a.1,a.2.1,a.2.2.1,a.2.2.2.1,a.d,a.f,a.e,a.F,0)
def BZ:FnA:=⟨tw [zaA,tw [.join ⟨[2,3,4,17],⟨(lc [.own 0 100 0 0,.own 0 101 0 0] zcB),[zbd,zdg,zaN]⟩⟩ false [] lf] zab,zfx,tw [.join ⟨[4,6,35],zcX⟩ false [] lf] zab,.reg [(1,{ids:=[104,105]})]] lf,ze0,[zeL],[1,0]⟩
theorem c9Z:To 123 BZ λfu t=>iP fu t.1 t.2:=tj (ta bCZ tz) func123
def GD(a:Nat)(t:List qT2×Int)(h:Int×Int):oN (Int×Int×Bool×Bool×Int×List (Int×Int)×Int×List (List UInt8×Int)×Int):=(iP a (t.1,t.2) (h.1,h.2)).bind λr=>Option.bind (α:=(Bool×Int×Int×Bool×Bool×Int×Int×qT2)) (bif (r.2.2.2.2.2.2.2.2==0) then some ((!r.2.2.2.1),0,0,false,false,0,0,r.1,r.2.1,r.2.2.1,r.2.2.2.1,r.2.2.2.2.1,r.2.2.2.2.2.1,r.2.2.2.2.2.2.1,r.2.2.2.2.2.2.2.1) else some (false,0,0,false,false,0,0,r.1,r.2.1,r.2.2.1,r.2.2.2.1,r.2.2.2.2.1,r.2.2.2.2.2.1,r.2.2.2.2.2.2.1,r.2.2.2.2.2.2.2.1)) λo=>bif o.1 then some (0,0,false,false,0,[],0,[],173) else some (o.2.2.2.2.2.2.2.1,o.2.2.2.2.2.2.2.2.1,o.2.2.2.2.2.2.2.2.2.1,o.2.2.2.2.2.2.2.2.2.2.1,o.2.2.2.2.2.2.2.2.2.2.2.1,o.2.2.2.2.2.2.2.2.2.2.2.2.1,o.2.2.2.2.2.2.2.2.2.2.2.2.2.1,o.2.2.2.2.2.2.2.2.2.2.2.2.2.2,r.2.2.2.2.2.2.2.2)
def QG:FnA:=⟨tw [zaA,.reg [(2,{}),(6,{ids:=[103]})],tw [.join ⟨[4,6,20],zcX⟩ false [] lf] zab] lf,ze0,[zeL],[0,0]⟩
theorem pBZ:To 185 QG λfu t=>GD fu t.1 t.2:=tj (ta c9Z tz) func185
def oH(e:Nat)(l:List (Int×Int))(x:Int)(h:List qT2)(c:Int)(b:List qT2):oN ((Int×List qT2×Int×List qT2)⊕(List qT2⊕(Int×List qT2))):=bif (decide (x<(l.length:Int))) then (bH x l.length).bind λq=>l[q]?.bind λd=>(GD e (h,c) (d.1,d.2)).bind λa=>bif (!(a.2.2.2.2.2.2.2.2==0)) then some (.inr (.inr (a.2.2.2.2.2.2.2.2,[]))) else bO ((Nat.ble ((b.length+1)*88) cM)&&(Nat.ble (b.length+1) cM))<|some (.inl ((wI (x+1)),h,c,(b++[(a.1,a.2.1,a.2.2.1,a.2.2.2.1,a.2.2.2.2.1,a.2.2.2.2.2.1,a.2.2.2.2.2.2.1,a.2.2.2.2.2.2.2.1)]))) else some (.inr (.inl b))
def jP(b:Nat)(l:List (Int×Int))(a:Int×List qT2×Int×List qT2):oN (List qT2⊕(Int×List qT2)):=iter b (λa=>oH b l a.1 a.2.1 a.2.2.1 a.2.2.2) a
def rL(a:Nat)(t:List qT2×Int)(l:List (Int×Int)):oN (Int×List qT2):=(FZ a (t.1,t.2)).bind λr=>bif (!r) then some (180,[]) else (jP a l (0,t.1,t.2,[])).bind λo=>match o with
  |.inl s=>some (0,s)
  |.inr b=>some b
def QH:FnA:=⟨tw [zad,.two zb5 zab,lf,.two lf (.one (.pre (.ownNil 6 71 101) (.loop ⟨[2,6,16],⟨(lc [.own 0 100 0 0] zfR),[zbd,zc2]⟩⟩ true [(0,⟨[6],⟨zfS,[zc2]⟩⟩)] (tw [lf,lf,.one (tw [zbh,.reg [(2,{fn:=1}),(6,{ids:=[103]})],zas] zcu)] lf))))] lf,⟨(lc [.p wH] zfr),[]⟩,[⟨(lc [.slf 8 0] qL6),[zbf]⟩],[81,0]⟩
theorem dsZ:To 153 QH λfu t=>rL fu t.1 t.2:=tj (ta gyZ (ta pBZ tz)) func153
def AG(c:Nat)(a b:List UInt8):oN Int:=some (Go.Lib.compareBytes a b)
def CA(fu:Nat):FnT:=⟨219,⟨(.cons (.p .str) (.cons (.p .str) .nil)),[]⟩,[⟨qL6,[]⟩],λt=>AG fu t.1 t.2⟩
theorem hsZ(fu:Nat):eZ Tryz.prog (CA fu):=
 hlZ func219 (by kernel_rfl) (by kernel_rfl) (by kernel_rfl) (by kernel_rfl)
def AH(c:Nat)(a b:List UInt8):oN Int:=(AG c a b).bind λr=>some r
def CB:FnA:=⟨.two lf zbN,ze1,zfN,[0]⟩
theorem hkZ:To 210 CB λfu t=>AH fu t.1 t.2:=tj (ta hsZ tz) func210
def UE(c:Nat)(a b:List UInt8):oN Int:=(AH c a b).bind λr=>some r
def QI:FnA:=⟨.two lf zbN,ze1,zfN,[0]⟩
theorem pYZ:To 188 QI λfu t=>UE fu t.1 t.2:=tj (ta hkZ tz) func188
def EG(a:Nat)(e:List UInt8×Int)(name:List UInt8):oN Int:=(UE a e.1 name).bind λr=>some r
def LS:FnA:=⟨.two zad zcP,⟨(lc [.p (.pair .str ti)] zbu),[]⟩,zfN,[0]⟩
theorem o3Z:To 187 LS λfu t=>EG fu t.1 t.2:=tj (ta pYZ tz) func187
def jU(b:Nat)(x:List (List UInt8×Int))(target:List UInt8)(i j:Int):oN ((Int×Int)⊕(Int)):=bif decide (i<j) then (bH (wI (Int.fdiv (IntKind.wrap .u64 (wI (i+j))) 2)) x.length).bind λq=>x[q]?.bind λr=>(EG b r target).bind λa=>Option.bind (α:=(Int×Int)) (bif decide (a<0) then some ((wI ((wI (Int.fdiv (IntKind.wrap .u64 (wI (i+j))) 2))+1)),j) else some (i,(wI (Int.fdiv (IntKind.wrap .u64 (wI (i+j))) 2)))) λo=>some (.inl o) else some (.inr i)
def jQ(b:Nat)(x:List (List UInt8×Int))(target:List UInt8)(a:Int×Int):oN Int:=iter b (λa=>jU b x target a.1 a.2) a
def sQ(b:Nat)(x:List (List UInt8×Int))(target:List UInt8):oN (Int×Bool):=(jQ b x target (0,(x.length:Int))).bind λa=>bif (decide (a<(x.length:Int))) then (bH a x.length).bind λc=>x[c]?.bind λd=>(EG b d target).bind λe=>some (a,(e==0)) else some (a,false)
def zM:FnA:=⟨.two lf zaw,⟨(lc [.p (.sl (.pair .str ti)),ks,.fn 187 .nil .nil] zbe),[]⟩,zdY,[0,0]⟩
theorem gIZ:To 186 zM λfu t=>sQ fu t.1 t.2:=tj (ta o3Z tz) func186
def wL(a:Nat)(n:qT2)(name:List UInt8):oN (Int×Bool):=(sQ a n.2.2.2.2.2.2.2 name).bind λr=>some r
def QJ:FnA:=⟨.two zad zcP,⟨(lc [.p qY1] zbu),[]⟩,zdY,[0,0]⟩
theorem coZ:To 154 QJ λfu t=>wL fu t.1 t.2:=tj (ta gIZ tz) func154
def yK(a:Nat)(t:List qT2×Int)(dir:Int×Int)(name:List UInt8):oN (Int×Int×Int):=(rL a (t.1,t.2) [(dir.1,dir.2)]).bind λr=>bif (!(r.1==0)) then some (0,0,r.1) else (BT a name).bind λe=>bif (!e) then some (0,0,176) else (bH 0 r.2.length).bind λq=>r.2[q]?.bind λf=>(wL a f name).bind λb=>bif (!b.2) then some (0,0,171) else (bH 0 r.2.length).bind λg=>r.2[g]?.bind λc=>(bH b.1 c.2.2.2.2.2.2.2.length).bind λh=>c.2.2.2.2.2.2.2[h]?.bind λd=>(bH (wI (d.2-1)) t.1.length).bind λi=>t.1[i]?.bind λj=>some (d.2,j.2.1,0)
def QK:FnA:=⟨tw [zaA,zdv,zas,zfs,.reg [(4,{fn:=2})],zas] zab,⟨(lc [.p wH,.p qY5] zbu),[]⟩,[⟨zdV,[]⟩],[0,0]⟩
theorem qhZ:To 116 QK (v3 yK):=tj (ta dsZ (ta dpZ (ta coZ tz))) func116
def wX(D:Nat)(h:List qT2)(m:Int)(x:List (List UInt8))(y z A n o:Int)(p:List UInt8)(B a:Int)(b:List UInt8)(c d:Int)(e:List UInt8)(f g i s t:Int)(u:Bool)(w:Int)(j:Bool)(l:Int):oN (Int×sJ):=(yK D (h,m) (n,o) p).bind λr=>bif (r.2.2==0) then (bH (wI (r.1-1)) h.length).bind λq=>h[q]?.bind λC=>some (r.2.2,h,m,x,y,z,A,n,o,p,B,a,b,c,d,e,f,g,i,r.1,r.2.1,C.2.2.2.1,C.2.2.2.2.1,j,l) else some (r.2.2,h,m,x,y,z,A,n,o,p,B,a,b,c,d,e,f,g,i,s,t,u,w,j,l)
def GE:FnA:=⟨tw [lf,.reg [(14,{}),(18,{ids:=[100]})],tw [lf,tw [.reg [(10,{ids:=[101]})]] lf] lf] lf,zbr,zcv,[0]⟩
theorem jUZ:To 58 GE (v24 wX):=tj (ta qhZ tz) func58
def CD(f:Nat)(r:List qT2)(x h:Int)(b:List qT2)(d:Int):oN ((Int×mE)⊕(mE)):=bif (decide (x<(r.length:Int))) then (bH x b.length).bind λq=>b[q]?.bind λg=>(tZ f g.2.2.2.2.2.1).bind λe=>b[q]?.bind λi=>(wK f i.2.2.2.2.2.2.2).bind λj=>b[q]?.bind λa=>(List.set b q (a.1,a.2.1,a.2.2.1,a.2.2.2.1,a.2.2.2.2.1,e,a.2.2.2.2.2.2))[q]?.bind λc=>some (.inl ((wI (x+1)),h,(List.set (List.set b q (a.1,a.2.1,a.2.2.1,a.2.2.2.1,a.2.2.2.2.1,e,a.2.2.2.2.2.2)) q (c.1,c.2.1,c.2.2.1,c.2.2.2.1,c.2.2.2.2.1,c.2.2.2.2.2.1,c.2.2.2.2.2.2.1,j)),d)) else some (.inr (h,b,d))
def yL(b:Nat)(r:List qT2)(a:Int×mE):oN mE:=iter b (λa=>CD b r a.1 a.2.1 a.2.2.1 a.2.2.2) a
def rM(a:Nat)(t:List qT2×Int):oN (Int×List qT2):=(rT a t.1).bind λr=>(yL a r (0,t.2,r,0)).bind λo=>some (o.1,o.2.1)
def QL:FnA:=⟨tw [zae,zbh,.two lf (.one (.loop ⟨[1,2,12],zfT⟩ false [(0,zey)] (tw [lf,lf,.one (tw [lf,lf] (.reg [(6,{ids:=[103],fn:=1}),(11,{ids:=[104],fn:=2})]))] lf)))] lf,zaW,zec,[0]⟩
theorem gjZ:To 155 QL rM:=tj (ta b5Z (ta ccZ (ta bKZ tz))) func155
def yM(i:Nat)(r:List qT2)(x h:Int)(c:List fA)(e:Int)(d:List dX):oN ((Int×Int×List fA×Int×List dX)⊕(Int×List fA×Int×List dX)):=bif (decide (x<(r.length:Int))) then (bH x c.length).bind λq=>c[q]?.bind λb=>(nB (.ref 1 (.pair .str (.int .i64))) b.2.2.2.2.2.2.2).bind λg=>(fY i (b.1,b.2.1,b.2.2.1,b.2.2.2.1,b.2.2.2.2.1,b.2.2.2.2.2.1,b.2.2.2.2.2.2.1,g)).bind λa=>(bH x c.length).bind λf=>c[f]?.bind λj=>some (.inl ((wI (x+1)),h,(List.set c f (a.1,a.2.1,a.2.2.1,a.2.2.2.1,a.2.2.2.2.1,a.2.2.2.2.2.2.1,a.2.2.2.2.2.1,(.inr (some (d.length,0,a.2.2.2.2.2.2.2.length))))),e,(d++[(1,a.2.2.2.2.2.2.2)]))) else some (.inr (h,c,e,d))
def vW(b:Nat)(r:List qT2)(a:Int×Int×List fA×Int×List dX):oN (Int×List fA×Int×List dX):=iter b (λa=>yM b r a.1 a.2.1 a.2.2.1 a.2.2.2.1 a.2.2.2.2) a
def HZ(a:Nat)(t:List qT2×Int):oN (Int×List fA×List dX):=(rT a t.1).bind λr=>(vW a r (0,t.2,(List.map (dE qY9) r),0,[])).bind λo=>some (o.1,o.2.1,o.2.2.2)
def LT:FnA:=⟨tw [zae,zbh,.two lf (.one (.pre (.newFam 1 118 (.pair .str ti)) (.pre (.toRef 102 qY9) (.loop ⟨[1,2,10,12],⟨zbn,zbj⟩⟩ false [(0,zfG)] (tw [lf,lf,.one (.two zcQ (.reg [(4,{ids:=[104,105],md:=[3],fn:=1}),(6,{sh:=[105,999985]})]))] lf)))))] lf,zaW,[zeH],[0]⟩
theorem oZZ:To 189 LT HZ:=tj (ta b5Z (ta bCZ tz)) func189
end
end Go.Ab.D
