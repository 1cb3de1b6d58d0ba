/- Functions of the program as plain Lean functions: each equation is checked by the kernel; what is told of a function follows from it. -/
import Derived.Test.YtblocgeildejaaaGreatE4
import Derived.Test.YtblocgeildejaaaGreatProg
import Derived.KernelRfl
namespace Go.Proofs
open Go.Shelf
def Tryz.ca174_ren:Go.Shelf.Ren:=⟨fun|150=>174|153=>210|152=>235|226=>236|227=>237|228=>238|137=>258|119=>259|224=>260|225=>261|217=>267|266=>270|n=>n,fun|9=>9|4=>4|3=>3|5=>5|21=>21|117=>318|116=>317|0=>0|46=>173|124=>338|n=>n,fun|n=>n⟩
theorem Tryz.ca174:Go.Proofs.Lays.n150 Tryz.prog Tryz.ca174_ren:={
 mixed:=by kernel_rfl
 f119:=Tryz.func259.trans (congrArg some (by kernel_rfl))
 f137:=Tryz.func258.trans (congrArg some (by kernel_rfl))
 f150:=Tryz.func174.trans (congrArg some (by kernel_rfl))
 f152:=Tryz.func235.trans (congrArg some (by kernel_rfl))
 f153:=Tryz.func210.trans (congrArg some (by kernel_rfl))
 f217:=Tryz.func267.trans (congrArg some (by kernel_rfl))
 f224:=Tryz.func260.trans (congrArg some (by kernel_rfl))
 f225:=Tryz.func261.trans (congrArg some (by kernel_rfl))
 f226:=Tryz.func236.trans (congrArg some (by kernel_rfl))
 f227:=Tryz.func237.trans (congrArg some (by kernel_rfl))
 f228:=Tryz.func238.trans (congrArg some (by kernel_rfl))
 f266:=Tryz.func270.trans (congrArg some (by kernel_rfl))
 t0:=Tryz.underlying0
 a0:=Tryz.isAgg0
 z0:=Tryz.sizeOf0
 v0:=Tryz.zeroValue0
 t3:=Tryz.underlying3
 a3:=Tryz.isAgg3
 z3:=Tryz.sizeOf3
 v3:=Tryz.zeroValue3
 t4:=Tryz.underlying4
 a4:=Tryz.isAgg4
 z4:=Tryz.sizeOf4
 v4:=Tryz.zeroValue4
 t5:=Tryz.underlying5
 a5:=Tryz.isAgg5
 z5:=Tryz.sizeOf5
 v5:=Tryz.zeroValue5
 t9:=Tryz.underlying9
 a9:=Tryz.isAgg9
 z9:=Tryz.sizeOf9
 v9:=Tryz.zeroValue9
 t21:=Tryz.underlying21
 a21:=Tryz.isAgg21
 z21:=Tryz.sizeOf21
 v21:=Tryz.zeroValue21
 t46:=Tryz.underlying173
 a46:=Tryz.isAgg173
 z46:=Tryz.sizeOf173
 v46:=Tryz.zeroValue173
 t116:=Tryz.underlying317
 a116:=Tryz.isAgg317
 z116:=Tryz.sizeOf317
 t117:=Tryz.underlying318
 a117:=Tryz.isAgg318
 z117:=Tryz.sizeOf318
 v117:=Tryz.zeroValue318
 t124:=Tryz.underlying338
 a124:=Tryz.isAgg338
 z124:=Tryz.sizeOf338
 v124:=Tryz.zeroValue338}
end Go.Proofs
set_option linter.all false
set_option maxRecDepth 100000
set_option maxHeartbeats 4000000
namespace Go.Ab.D
open Go.Proofs
open Go Go.Ab
noncomputable section
abbrev qT0:Type:=(Int×(Int×(Bool×(Bool×(Int×(List ((Int×Int))×(Int×List ((List UInt8×Int)))))))))
abbrev qT1:Type:=(Int×(Int×List ((Int×(Int×(Int×((Int×Int)×(Bool×(Int×(List (UInt8)×(List ((List UInt8×Int))×(Bool×Int))))))))))))
abbrev qL2:KdL:=(.cons (.p (.int .i64)) (.cons (.p (.sl (.pair (.int .i64) (.pair (.int .i64) (.pair .bool (.pair .bool (.pair (.int .i64) (.pair (.sl (.pair (.int .i64) (.int .i64))) (.pair (.int .i64) (.sl (.pair .str (.int .i64)))))))))))) (.cons (.p (.int .i64)) (.cons (.p (.int .i64)) (.cons (.p (.sl (.pair (.int .i64) (.pair (.int .i64) (.sl (.pair (.int .i64) (.pair (.int .i64) (.pair (.int .i64) (.pair (.pair (.int .i64) (.int .i64)) (.pair .bool (.pair (.int .i64) (.pair (.sl .byte) (.pair (.sl (.pair .str (.int .i64))) (.pair .bool (.int .i64))))))))))))))) (.cons (.p (.sl (.pair (.int .i64) (.sl (.int .i64))))) (.cons (.p (.sl (.pair (.int .i64) (.int .i64)))) .nil)))))))
abbrev qY3:Ty:=(.pair (.int .i64) (.pair (.int .i64) (.pair .bool (.pair .bool (.pair (.int .i64) (.pair (.sl (.pair (.int .i64) (.int .i64))) (.pair (.int .i64) (.sl (.pair .str (.int .i64))))))))))
abbrev qY4:Ty:=(.pair (.int .i64) (.pair (.int .i64) (.pair (.int .i64) (.pair (.pair (.int .i64) (.int .i64)) (.pair .bool (.pair (.int .i64) (.pair (.sl .byte) (.pair (.sl (.pair .str (.int .i64))) (.pair .bool (.int .i64))))))))))
abbrev qL5:KdL:=(.cons (.p (.int .i64)) .nil)
abbrev qL6:KdL:=(.cons (.p (.sl .byte)) (.cons (.p (.int .i64)) (.cons (.p .bool) .nil)))
abbrev qB7:BKd:=(.vars (.cons (.p (.int .i64)) (.cons (.p (.int .i64)) (.cons (.p .bool) (.cons (.p .bool) (.cons (.p (.int .i64)) (.cons (.p (.sl (.pair (.int .i64) (.int .i64)))) (.cons (.p (.int .i64)) (.cons (.p (.sl (.pair .str (.int .i64)))) .nil)))))))))
abbrev qL8:KdL:=(.cons (.p (.int .i64)) (.cons (.p (.int .i64)) (.cons (.p (.int .i64)) (.cons (.p (.int .i64)) (.cons (.p (.int .i64)) (.cons (.p .bool) (.cons (.p (.int .i64)) (.cons (.nilp (.slice none 0 0)) (.cons (.nilp (.slice none 0 0)) (.cons (.p .bool) qL5))))))))))
abbrev qL9:KdL:=(.cons (.p (.int .i64)) (.cons (.p (.int .i64)) (.cons (.p (.int .i64)) (.cons (.p (.int .i64)) (.cons (.p (.int .u8)) (.cons (.p (.int .i64)) (.cons (.p (.int .i64)) (.cons (.p .str) (.cons (.p (.int .i64)) (.cons (.p (.int .i64)) (.cons (.p .str) (.cons (.p (.int .i64)) (.cons (.p (.int .i64)) (.cons (.p (.sl .byte)) (.cons (.p (.sl (.int .i64))) (.cons (.p (.int .i64)) (.cons (.p (.int .i64)) qL5)))))))))))))))))
abbrev qT10:Type:=(Bool×(Int×(List (UInt8)×(List ((List UInt8×Int))×(Bool×Int)))))
abbrev qT11:Type:=(Int×(List (qT0)×(Int×(Int×(List (qT1)×(List ((Int×List (Int)))×(List ((Int×Int))×(List (((Int×Int)×Nat))×Nat))))))))
abbrev qL12:KdL:=(.cons (.p (.int .i64)) (.cons (.p (.int .i64)) (.cons (.p (.int .i64)) (.cons (.p (.int .i64)) (.cons (.p (.int .i64)) (.cons (.p .bool) (.cons (.p (.int .i64)) (.cons (.p (.sl .byte)) (.cons (.p (.sl (.pair .str (.int .i64)))) (.cons (.p .bool) qL5))))))))))
abbrev qY13:Ty:=(.pair (.int .i64) (.pair (.int .i64) (.pair .byte (.pair (.pair (.int .i64) (.int .i64)) (.pair .str (.pair (.pair (.int .i64) (.int .i64)) (.pair .str (.pair (.int .i64) (.pair (.int .i64) (.sl .byte))))))))))
abbrev qY14:Ty:=(.pair (.int .i64) (.pair (.pair (.sl qY3) (.int .i64)) (.pair (.pair (.int .i64) (.sl (.pair (.int .i64) (.pair (.int .i64) (.sl qY4))))) (.pair (.sl (.pair (.int .i64) (.sl (.int .i64)))) (.sl (.pair (.int .i64) (.int .i64)))))))
abbrev qT15:Type:=(Int×(List (qT0)×(Int×(Int×(List (qT1)×(List ((Int×List (Int)))×(List ((Int×Int))×(List (Int)×(Bool×List (UInt8))))))))))
abbrev qB16:BKd:=(.vars (.cons (.p (.int .i64)) (.cons (.nilp (.slice none 0 0)) (.cons (.p (.int .i64)) (.cons (.p (.int .i64)) (.cons (.nilp (.slice none 0 0)) (.cons (.nilp (.slice none 0 0)) (.cons (.nilp (.slice none 0 0)) .nil))))))))
abbrev qB17:BKd:=(.vars (.cons (.p (.int .i64)) (.cons (.p (.int .i64)) (.cons (.p (.int .i64)) (.cons (.p (.int .i64)) (.cons (.p (.int .u8)) (.cons (.p (.int .i64)) (.cons (.p (.int .i64)) (.cons (.p .str) (.cons (.p (.int .i64)) (.cons (.p (.int .i64)) (.cons (.p .str) (.cons (.p (.int .i64)) (.cons (.p (.int .i64)) (.cons (.nilp (.slice none 0 0)) (.cons (.nilp (.slice none 0 0)) (.cons (.p (.int .i64)) (.cons (.p (.int .i64)) qL5))))))))))))))))))
abbrev qL18:KdL:=(.cons (.p .bool) (.cons (.p .bool) (.cons (.p .bool) (.cons (.p .bool) (.cons (.p (.int .i64)) (.cons (.p .bool) .nil))))))
abbrev qT19:Type:=(Int×(List (qT0)×(Int×(Int×(List (qT1)×(List ((Int×List (Int)))×List ((Int×Int))))))))
abbrev qT20:Type:=(Int×(Int×(UInt8×((Int×Int)×(List UInt8×((Int×Int)×(List UInt8×(Int×(Int×List (UInt8))))))))))
abbrev qT21:Type:=(Int×((List (qT0)×Int)×((Int×List (qT1))×(List ((Int×List (Int)))×List ((Int×Int))))))
abbrev qY22:Ty:=(.pair (.int .i64) (.sl (.int .i64)))
abbrev qL23:KdL:=(.cons (.own 0 1 0 0) (.cons (.own 0 2 0 0) .nil))
abbrev qL24:KdL:=(.cons (.own 0 0 0 0) .nil)
abbrev qY25:Ty:=(.pair (.int .i64) (.pair (.int .i64) (.sl qY4)))
abbrev qB26:BKd:=(.vars (.cons (.p (.int .i64)) (.cons (.p (.int .i64)) (.cons (.p (.int .u8)) (.cons (.p (.int .i64)) (.cons (.p (.int .i64)) (.cons (.p .str) (.cons (.p (.int .i64)) (.cons (.p (.int .i64)) (.cons (.p .str) (.cons (.p (.int .i64)) (.cons (.p (.int .i64)) (.cons (.nilp (.slice none 0 0)) .nil)))))))))))))
abbrev qT27:Type:=(List (((Int×Int)×Nat))×Nat)
abbrev qT28:Type:=(Int×(Int×(Int×(Int×(Int×(Bool×(Int×(Bool×(Int×(List (UInt8)×(Int×(Bool×(Int×(Int×(Int×(Int×(Int×(Bool×(Int×(Bool×(Int×(List (UInt8)×List ((List UInt8×Int))))))))))))))))))))))))
abbrev qL29:KdL:=(.cons (.p (.int .i64)) (.cons (.p (.int .i64)) (.cons (.p (.int .u8)) (.cons (.p (.int .i64)) (.cons (.p (.int .i64)) (.cons (.p .str) (.cons (.p (.int .i64)) (.cons (.p (.int .i64)) (.cons (.p .str) (.cons (.p (.int .i64)) (.cons (.p (.int .i64)) (.cons (.p (.sl .byte)) .nil))))))))))))
abbrev qT30:Type:=(Int×(Int×(Int×(List (qT1)×(List ((Int×Int))×(List (qT0)×(List ((Int×List (Int)))×(Int×(Int×Int)))))))))
abbrev qB31:BKd:=(.vars (.cons (.p (.int .i64)) (.cons (.p (.int .i64)) (.cons (.p (.int .i64)) (.cons (.p (.int .i64)) (.cons (.p (.int .u8)) (.cons (.p (.int .i64)) (.cons (.p (.int .i64)) (.cons (.p .str) (.cons (.p (.int .i64)) (.cons (.p (.int .i64)) (.cons (.p .str) (.cons (.p (.int .i64)) (.cons (.p (.int .i64)) (.cons (.p (.sl .byte)) (.cons (.slf 1 106) (.cons (.p (.int .i64)) (.cons (.p (.int .i64)) qL5))))))))))))))))))
abbrev qT32:Type:=(Int×(Int×(Int×((Int×Int)×qT10))))
abbrev qT33:Type:=(List (Int)×(Bool×List (UInt8)))
abbrev qY34:Ty:=(.pair (.int .i64) (.int .i64))
abbrev qL35:KdL:=(.cons (.own 0 0 0 0) (.cons (.own 0 1 0 0) .nil))
abbrev qB36:BKd:=(.vars (.cons (.p (.int .i64)) (.cons (.p (.int .i64)) (.cons (.p (.int .i64)) (.cons (.p (.int .i64)) (.cons (.p (.int .i64)) (.cons (.p .bool) (.cons (.p (.int .i64)) (.cons (.slf 1 108) (.cons (.slf 2 109) (.cons (.p .bool) qL5)))))))))))
abbrev qB37:BKd:=(.map (.int .i64) (.int .i64))
abbrev qB38:BKd:=(.vars (.cons (.p (.int .i64)) (.cons (.p (.int .i64)) (.cons (.p .bool) (.cons (.p .bool) (.cons (.p (.int .i64)) (.cons (.nilp (.slice none 0 0)) (.cons (.p (.int .i64)) (.cons (.nilp (.slice none 0 0)) .nil)))))))))
abbrev qB39:BKd:=(.vars (.cons (.p (.int .i64)) (.cons (.p (.int .i64)) (.cons (.p (.sl qY4)) .nil))))
abbrev qB40:BKd:=(.vars (.cons (.p (.sl qY3)) qL5))
abbrev qL41:KdL:=(.cons (.own 0 100 0 0) (.cons (.p .bool) .nil))
abbrev qT42:Type:=(Int×(Int×(Int×(Int×(Int×qT10)))))
abbrev qY43:Ty:=(.pair (.int .i64) (.pair (.int .i64) (.pair qY13 (.pair (.sl (.int .i64)) (.pair (.int .i64) qY34)))))
abbrev qT44:Type:=(List (UInt8)×(Int×Bool))
abbrev qL45:KdL:=(.cons (.own 0 0 0 0) (.cons (.slf 1 1) .nil))
abbrev qT46:Type:=(Bool×(Bool×(Bool×(Bool×(Int×Bool)))))
abbrev qL47:KdL:=(.cons (.p (.sl .byte)) .nil)
abbrev qT48:Type:=(List (Int)×(List (UInt8)×(Int×(Bool×(List (Int)×List (qT32))))))
abbrev qL49:KdL:=(.cons (.slf 1 1) (.cons (.p .bool) .nil))
abbrev qT50:Type:=(List (Int)×(List (UInt8)×(Int×(Bool×List (Int)))))
abbrev qT51:Type:=(List (Int)×(List (UInt8)×(Int×(Bool×List ((Int×Int))))))
abbrev qT52:Type:=(Int×(Int×(Int×(List ((Int×Int))×(List (qT0)×(List (qT1)×(List ((Int×List (Int)))×(Int×(Int×Int)))))))))
abbrev qT53:Type:=(Int×(Int×(Int×(Int×(List (qT0)×(List (qT1)×(List ((Int×List (Int)))×(List ((Int×Int))×List (Int)))))))))
abbrev qT54:Type:=((Int×(Int×(Int×(Int×(Int×(Int×(Int×(List UInt8×(Int×(Int×(List UInt8×(Int×(Int×(Int×(Int×(Int×(List (Int)×(List (UInt8)×(Int×(Bool×(Int×(Int×(Int×(Int×(Int×(Int×(Int×(List UInt8×(Int×(Int×(List UInt8×(Int×(Int×(List (UInt8)×(Int×(Int×(Int×List (Int)))))))))))))))))))))))))))))))))))))))
abbrev qT55:Type:=((Bool×(Int×(Int×(Int×(Int×(Int×(Int×(Int×(List UInt8×(Int×(Int×(List UInt8×(Int×(Int×(List (UInt8)×(List (Int)×(Int×(Int×Int)))))))))))))))))))
abbrev qT56:Type:=(List (Int)×(List (UInt8)×(Int×(Bool×List ((List UInt8×Int))))))
abbrev qT57:Type:=(List (Int)×(List (UInt8)×(Int×(Bool×(List (Int)×List (qT1))))))
theorem mixed:Tryz.prog.follows .mixedOrders=true:=by kernel_rfl
abbrev lf:Ov:=.leaf
theorem tk{T:List FnT}(fu:Nat){f:FuncId}{fn:Func}(fa:FnA){spec:fa.i.D->Option (OutS fa.os)}(hT:∀e∈T,Told Tryz.prog e)(hf:Tryz.prog.funcs[f]? =some fn)(hb:(fn.body.isSome&&!(fn.name=="runtime.NumGoroutine"))=true)(hs:∀t,evF Tryz.prog T fu fn fa t=spec t):Told Tryz.prog ⟨f,fa.i,fa.os,spec⟩:=by
 have h:=(ZAB _ _).mp hb;exact oSZ hT mixed hf (by simpa using h.2) h.1 hs
def u2{a b W:Type}(F:a->b->W)(t:a×b):=F t.1 t.2
def u3{a b c W:Type}(F:a->b->c->W)(t:a×b×c):=u2 (F t.1) t.2
def u4{a b c d W:Type}(F:a->b->c->d->W)(t:a×b×c×d):=u3 (F t.1) t.2
def u5{a b c d e W:Type}(F:a->b->c->d->e->W)(t:a×b×c×d×e):=u4 (F t.1) t.2
def u6{a b c d e f W:Type}(F:a->b->c->d->e->f->W)(t:a×b×c×d×e×f):=u5 (F t.1) t.2
def u7{a b c d e f g W:Type}(F:a->b->c->d->e->f->g->W)(t:a×b×c×d×e×f×g):=u6 (F t.1) t.2
def u8{a b c d e f g h W:Type}(F:a->b->c->d->e->f->g->h->W)(t:a×b×c×d×e×f×g×h):=u7 (F t.1) t.2
def u9{a b c d e f g h i W:Type}(F:a->b->c->d->e->f->g->h->i->W)(t:a×b×c×d×e×f×g×h×i):=u8 (F t.1) t.2
def u10{a b c d e f g h i j W:Type}(F:a->b->c->d->e->f->g->h->i->j->W)(t:a×b×c×d×e×f×g×h×i×j):=u9 (F t.1) t.2
def u11{a b c d e f g h i j k W:Type}(F:a->b->c->d->e->f->g->h->i->j->k->W)(t:a×b×c×d×e×f×g×h×i×j×k):=u10 (F t.1) t.2
def u12{a b c d e f g h i j k l W:Type}(F:a->b->c->d->e->f->g->h->i->j->k->l->W)(t:a×b×c×d×e×f×g×h×i×j×k×l):=u11 (F t.1) t.2
def u13{a b c d e f g h i j k l m W:Type}(F:a->b->c->d->e->f->g->h->i->j->k->l->m->W)(t:a×b×c×d×e×f×g×h×i×j×k×l×m):=u12 (F t.1) t.2
def u14{a b c d e f g h i j k l m n W:Type}(F:a->b->c->d->e->f->g->h->i->j->k->l->m->n->W)(t:a×b×c×d×e×f×g×h×i×j×k×l×m×n):=u13 (F t.1) t.2
def u15{a b c d e f g h i j k l m n o W:Type}(F:a->b->c->d->e->f->g->h->i->j->k->l->m->n->o->W)(t:a×b×c×d×e×f×g×h×i×j×k×l×m×n×o):=u14 (F t.1) t.2
def u16{a b c d e f g h i j k l m n o p W:Type}(F:a->b->c->d->e->f->g->h->i->j->k->l->m->n->o->p->W)(t:a×b×c×d×e×f×g×h×i×j×k×l×m×n×o×p):=u15 (F t.1) t.2
def u17{a b c d e f g h i j k l m n o p q W:Type}(F:a->b->c->d->e->f->g->h->i->j->k->l->m->n->o->p->q->W)(t:a×b×c×d×e×f×g×h×i×j×k×l×m×n×o×p×q):=u16 (F t.1) t.2
def u18{a b c d e f g h i j k l m n o p q r W:Type}(F:a->b->c->d->e->f->g->h->i->j->k->l->m->n->o->p->q->r->W)(t:a×b×c×d×e×f×g×h×i×j×k×l×m×n×o×p×q×r):=u17 (F t.1) t.2
def u19{a b c d e f g h i j k l m n o p q r s W:Type}(F:a->b->c->d->e->f->g->h->i->j->k->l->m->n->o->p->q->r->s->W)(t:a×b×c×d×e×f×g×h×i×j×k×l×m×n×o×p×q×r×s):=u18 (F t.1) t.2
def u20{a b c d e f g h i j k l m n o p q r s x W:Type}(F:a->b->c->d->e->f->g->h->i->j->k->l->m->n->o->p->q->r->s->x->W)(t:a×b×c×d×e×f×g×h×i×j×k×l×m×n×o×p×q×r×s×x):=u19 (F t.1) t.2
def u21{a b c d e f g h i j k l m n o p q r s x y W:Type}(F:a->b->c->d->e->f->g->h->i->j->k->l->m->n->o->p->q->r->s->x->y->W)(t:a×b×c×d×e×f×g×h×i×j×k×l×m×n×o×p×q×r×s×x×y):=u20 (F t.1) t.2
def kit_Great_l0(fu:Nat)(r2:qT0)(x:Int)(x1:Int)(h2:List (qT0))(h3:Int):Option ((Int×(List (qT0)×Int))⊕((List (qT0)×Int)⊕((Int×(List (qT0)×Int))⊕(Unit⊕Bool)))):=
 bif (decide (x1<((r2.2.2.2.2.2.2.2.length:Nat):Int))) then
  (idx? x h2.length).bind fun q3=>
  (h2)[q3]?.bind fun r3=>
  (idx? x1 r3.2.2.2.2.2.2.2.length).bind fun q4=>
  (r3.2.2.2.2.2.2.2)[q4]?.bind fun r4=>
  bif (decide (((r4.1.length:Nat):Int)>3000)) then
   some (.inr (.inr (.inr (.inr true))))
  else
   some (.inl ((IntKind.wrap .i64 (x1+1)),(h2,h3)))
 else
  some (.inr (.inl (h2,h3)))
def kit_Great_l0_it(fu:Nat)(r2:qT0)(x:Int)(tt:(Int×(List (qT0)×Int))):Option ((List (qT0)×Int)⊕((Int×(List (qT0)×Int))⊕(Unit⊕Bool))):=
 iter fu (fun tt=>kit_Great_l0 fu r2 x tt.1 tt.2.1 tt.2.2) tt
def kit_Great_l1(fu:Nat)(t:(List (qT0)×Int))(x:Int)(h:List (qT0))(h1:Int):Option ((Int×(List (qT0)×Int))⊕(Unit⊕Bool)):=
 bif (decide (x<((t.1.length:Nat):Int))) then
  Option.bind (α:=((Bool×(List (qT0)×Int)))) (
   (idx? x h.length).bind fun q=>
   (h)[q]?.bind fun r=>
   bif (decide (((r.2.2.2.2.2.1.length:Nat):Int)>120)) then
    some (true,(h,h1))
   else
    (idx? x h.length).bind fun q1=>
    (h)[q1]?.bind fun r1=>
    some ((decide (((r1.2.2.2.2.2.2.2.length:Nat):Int)>120)),(h,h1))) fun o=>
  bif o.1 then
   some (.inr (.inr true))
  else
   (idx? x o.2.1.length).bind fun q2=>
   (o.2.1)[q2]?.bind fun r2=>
   (kit_Great_l0_it fu r2 x (0,(o.2.1,o.2.2))).bind fun o1=>
   match o1 with
   |.inl s=>
    some (.inl ((IntKind.wrap .i64 (x+1)),(s.1,s.2)))
   |.inr o2=>
    some o2
 else
  some (.inr (.inl ()))
def kit_Great_l1_it(fu:Nat)(t:(List (qT0)×Int))(tt:(Int×(List (qT0)×Int))):Option (Unit⊕Bool):=
 iter fu (fun tt=>kit_Great_l1 fu t tt.1 tt.2.1 tt.2.2) tt
def kit_Great(fu:Nat)(t:(List (qT0)×Int)):Option (Bool):=
 bif (decide (((t.1.length:Nat):Int)>40)) then
  some true
 else
  (kit_Great_l1_it fu t (0,(t.1,t.2))).bind fun o3=>
  match o3 with
  |.inl s1=>
   some false
  |.inr o4=>
   some o4
def kit_Great_fa:FnA:=⟨.two (.reg [(0,{ids:=[100]})]) (.two (.two lf (.two lf lf)) (.two (.two lf (.one (.loop ⟨[1,12],⟨(.cons (.own 0 100 0 0) qL5),[(100,false,qB40)]⟩⟩ true [(0,⟨[],⟨.nil,[]⟩⟩)] (.two lf (.two lf (.two (.one (.two lf (.two (.two (.join ⟨[1,32],⟨qL41,[(100,false,qB40)]⟩⟩ false [] lf) (.two lf lf)) (.two lf (.one (.loop ⟨[1,40],⟨(.cons (.own 0 100 0 0) qL5),[(100,false,qB40)]⟩⟩ true [(2,⟨[1],⟨(.cons (.own 0 100 0 0) .nil),[(100,false,qB40)]⟩⟩)] (.two lf (.two lf (.two (.one (.two lf (.two lf (.two lf lf)))) lf))))))))) lf)))))) lf)),⟨(.cons (.p (.pair (.sl qY3) (.int .i64))) .nil),[]⟩,[⟨(.cons (.p .bool) .nil),[]⟩],[0]⟩
def kit_Great_ft(fu:Nat):FnT:=⟨32,kit_Great_fa.i,kit_Great_fa.os,fun t=>kit_Great fu t⟩
theorem fQZ(fu:Nat):Told Tryz.prog (kit_Great_ft fu):=tk fu kit_Great_fa abZ Tryz.func32 (by kernel_rfl) fun t=>by kernel_rfl
def law21_Huge_l0(fu:Nat)(o:(Bool×qT42))(x:Int)(h:Int)(h1:Int)(h2:Int)(h3:Int)(h4:Int)(h5:Bool)(h6:Int)(h7:List (UInt8))(h8:List ((List UInt8×Int)))(h9:Bool)(h10:Int):Option ((Int×qT42)⊕(Unit⊕Bool)):=
 bif (decide (x<((o.2.2.2.2.2.2.2.2.2.1.length:Nat):Int))) then
  (idx? x h8.length).bind fun q=>
  (h8)[q]?.bind fun r1=>
  bif (decide (((r1.1.length:Nat):Int)>3000)) then
   some (.inr (.inr true))
  else
   some (.inl ((IntKind.wrap .i64 (x+1)),(h,(h1,(h2,(h3,(h4,(h5,(h6,(h7,(h8,(h9,h10))))))))))))
 else
  some (.inr (.inl ()))
def law21_Huge_l0_it(fu:Nat)(o:(Bool×qT42))(tt:(Int×qT42)):Option (Unit⊕Bool):=
 iter fu (fun tt=>law21_Huge_l0 fu o tt.1 tt.2.1 tt.2.2.1 tt.2.2.2.1 tt.2.2.2.2.1 tt.2.2.2.2.2.1 tt.2.2.2.2.2.2.1 tt.2.2.2.2.2.2.2.1 tt.2.2.2.2.2.2.2.2.1 tt.2.2.2.2.2.2.2.2.2.1 tt.2.2.2.2.2.2.2.2.2.2.1 tt.2.2.2.2.2.2.2.2.2.2.2) tt
def law21_Huge(fu:Nat)(c:qT20)(r:qT32):Option (Bool):=
 Option.bind (α:=((Bool×qT42))) (
  bif (decide (((c.2.2.2.2.1.length:Nat):Int)>3000)) then
   some (true,(r.1,(r.2.1,(r.2.2.1,(r.2.2.2.1.1,(r.2.2.2.1.2,(r.2.2.2.2.1,(r.2.2.2.2.2.1,(r.2.2.2.2.2.2.1,(r.2.2.2.2.2.2.2.1,(r.2.2.2.2.2.2.2.2.1,r.2.2.2.2.2.2.2.2.2)))))))))))
  else
   bif (decide (((c.2.2.2.2.2.2.1.length:Nat):Int)>3000)) then
    some (true,(r.1,(r.2.1,(r.2.2.1,(r.2.2.2.1.1,(r.2.2.2.1.2,(r.2.2.2.2.1,(r.2.2.2.2.2.1,(r.2.2.2.2.2.2.1,(r.2.2.2.2.2.2.2.1,(r.2.2.2.2.2.2.2.2.1,r.2.2.2.2.2.2.2.2.2)))))))))))
   else
    bif (decide (((c.2.2.2.2.2.2.2.2.2.length:Nat):Int)>5000)) then
     some (true,(r.1,(r.2.1,(r.2.2.1,(r.2.2.2.1.1,(r.2.2.2.1.2,(r.2.2.2.2.1,(r.2.2.2.2.2.1,(r.2.2.2.2.2.2.1,(r.2.2.2.2.2.2.2.1,(r.2.2.2.2.2.2.2.2.1,r.2.2.2.2.2.2.2.2.2)))))))))))
    else
     bif (decide (((r.2.2.2.2.2.2.1.length:Nat):Int)>5000)) then
      some (true,(r.1,(r.2.1,(r.2.2.1,(r.2.2.2.1.1,(r.2.2.2.1.2,(r.2.2.2.2.1,(r.2.2.2.2.2.1,(r.2.2.2.2.2.2.1,(r.2.2.2.2.2.2.2.1,(r.2.2.2.2.2.2.2.2.1,r.2.2.2.2.2.2.2.2.2)))))))))))
     else
      some ((decide (((r.2.2.2.2.2.2.2.1.length:Nat):Int)>120)),(r.1,(r.2.1,(r.2.2.1,(r.2.2.2.1.1,(r.2.2.2.1.2,(r.2.2.2.2.1,(r.2.2.2.2.2.1,(r.2.2.2.2.2.2.1,(r.2.2.2.2.2.2.2.1,(r.2.2.2.2.2.2.2.2.1,r.2.2.2.2.2.2.2.2.2)))))))))))) fun o=>
 bif o.1 then
  some true
 else
  (law21_Huge_l0_it fu o (0,(o.2.1,(o.2.2.1,(o.2.2.2.1,(o.2.2.2.2.1,(o.2.2.2.2.2.1,(o.2.2.2.2.2.2.1,(o.2.2.2.2.2.2.2.1,(o.2.2.2.2.2.2.2.2.1,(o.2.2.2.2.2.2.2.2.2.1,(o.2.2.2.2.2.2.2.2.2.2.1,o.2.2.2.2.2.2.2.2.2.2.2)))))))))))).bind fun o1=>
  match o1 with
  |.inl s=>
   some false
  |.inr o2=>
   some o2
def law21_Huge_fa:FnA:=⟨.two (.reg [(0,{ids:=[100]}),(1,{ids:=[101]})]) (.two (.two (.join ⟨[3,33],⟨(.cons (.own 0 101 0 0) (.cons (.p .bool) .nil)),[(101,false,(.vars qL12))]⟩⟩ false [] lf) (.two lf lf)) (.two (.two lf (.one (.loop ⟨[3,37],⟨(.cons (.own 0 101 0 0) qL5),[(101,false,(.vars qL12))]⟩⟩ true [(0,⟨[],⟨.nil,[]⟩⟩)] (.two lf (.two lf (.two (.one (.two lf (.two lf (.two lf lf)))) lf)))))) lf)),⟨(.cons (.p qY13) (.cons (.p qY4) .nil)),[]⟩,[⟨(.cons (.p .bool) .nil),[]⟩],[0]⟩
def law21_Huge_ft(fu:Nat):FnT:=⟨34,law21_Huge_fa.i,law21_Huge_fa.os,fun t=>law21_Huge fu t.1 t.2⟩
theorem cwZ(fu:Nat):Told Tryz.prog (law21_Huge_ft fu):=tk fu law21_Huge_fa abZ Tryz.func34 (by kernel_rfl) fun t=>by kernel_rfl
def law23_Great_l0(fu:Nat)(r1:qT1)(x:Int)(x1:Int)(h2:Int)(h3:List (qT1)):Option ((Int×(Int×List (qT1)))⊕((Int×List (qT1))⊕((Int×(Int×List (qT1)))⊕(Unit⊕Bool)))):=
 bif (decide (x1<((r1.2.2.length:Nat):Int))) then
  (idx? x h3.length).bind fun q2=>
  (h3)[q2]?.bind fun r2=>
  (idx? x1 r2.2.2.length).bind fun q3=>
  (r2.2.2)[q3]?.bind fun r3=>
  (law21_Huge fu (0,(0,((UInt8.ofNat 0),((0,0),([],((0,0),([],(0,(0,[]))))))))) r3).bind fun r4=>
  bif r4 then
   some (.inr (.inr (.inr (.inr true))))
  else
   some (.inl ((IntKind.wrap .i64 (x1+1)),(h2,h3)))
 else
  some (.inr (.inl (h2,h3)))
def law23_Great_l0_it(fu:Nat)(r1:qT1)(x:Int)(tt:(Int×(Int×List (qT1)))):Option ((Int×List (qT1))⊕((Int×(Int×List (qT1)))⊕(Unit⊕Bool))):=
 iter fu (fun tt=>law23_Great_l0 fu r1 x tt.1 tt.2.1 tt.2.2) tt
def law23_Great_l1(fu:Nat)(c:(Int×List (qT1)))(x:Int)(h:Int)(h1:List (qT1)):Option ((Int×(Int×List (qT1)))⊕(Unit⊕Bool)):=
 bif (decide (x<((c.2.length:Nat):Int))) then
  (idx? x h1.length).bind fun q=>
  (h1)[q]?.bind fun r=>
  bif (decide (((r.2.2.length:Nat):Int)>30)) then
   some (.inr (.inr true))
  else
   (idx? x h1.length).bind fun q1=>
   (h1)[q1]?.bind fun r1=>
   (law23_Great_l0_it fu r1 x (0,(h,h1))).bind fun o=>
   match o with
   |.inl s=>
    some (.inl ((IntKind.wrap .i64 (x+1)),s))
   |.inr o1=>
    some o1
 else
  some (.inr (.inl ()))
def law23_Great_l1_it(fu:Nat)(c:(Int×List (qT1)))(tt:(Int×(Int×List (qT1)))):Option (Unit⊕Bool):=
 iter fu (fun tt=>law23_Great_l1 fu c tt.1 tt.2.1 tt.2.2) tt
def law23_Great(fu:Nat)(c:(Int×List (qT1))):Option (Bool):=
 bif (decide (((c.2.length:Nat):Int)>20)) then
  some true
 else
  (law23_Great_l1_it fu c (0,c)).bind fun o2=>
  match o2 with
  |.inl s1=>
   some false
  |.inr o3=>
   some o3
def law23_Great_fa:FnA:=⟨.two (.reg [(0,{ids:=[100]})]) (.two (.two lf (.two lf lf)) (.two (.two lf (.one (.loop ⟨[1,12],⟨(.cons (.own 0 100 0 0) qL5),[(100,false,(.vars (.cons (.p (.int .i64)) (.cons (.p (.sl qY25)) .nil))))]⟩⟩ true [(0,⟨[],⟨.nil,[]⟩⟩)] (.two lf (.two lf (.two (.one (.two lf (.two (.two lf (.two lf lf)) (.two lf (.one (.loop ⟨[1,30],⟨(.cons (.own 0 100 0 0) qL5),[(100,false,(.vars (.cons (.p (.int .i64)) (.cons (.p (.sl qY25)) .nil))))]⟩⟩ true [(2,⟨[1],⟨(.cons (.own 0 100 0 0) .nil),[(100,false,(.vars (.cons (.p (.int .i64)) (.cons (.p (.sl qY25)) .nil))))]⟩⟩)] (.two lf (.two lf (.two (.one (.two lf (.two (.reg [(10,{})]) (.two lf lf)))) lf))))))))) lf)))))) lf)),⟨(.cons (.p (.pair (.int .i64) (.sl qY25))) .nil),[]⟩,[⟨(.cons (.p .bool) .nil),[]⟩],[0]⟩
def law23_Great_ft(fu:Nat):FnT:=⟨33,law23_Great_fa.i,law23_Great_fa.os,fun t=>law23_Great fu t⟩
theorem ebZ(fu:Nat):Told Tryz.prog (law23_Great_ft fu):=tk fu law23_Great_fa (aaZ (cwZ fu) abZ) Tryz.func33 (by kernel_rfl) fun t=>by kernel_rfl
def law25_Great_l0(fu:Nat)(o:(Bool×qT19))(n:Int)(x:Int)(h:Int)(h1:List (qT0))(h2:Int)(h3:Int)(h4:List (qT1))(h5:List ((Int×List (Int))))(h6:List ((Int×Int))):Option ((Int×(Int×qT19))⊕((Int×qT19))):=
 bif (decide (x<((o.2.2.1.length:Nat):Int))) then
  (idx? x h1.length).bind fun q=>
  (h1)[q]?.bind fun r2=>
  some (.inl ((IntKind.wrap .i64 (n+(if 0>(if 1048576<r2.2.2.2.2.1 then 1048576 else r2.2.2.2.2.1) then 0 else(if 1048576<r2.2.2.2.2.1 then 1048576 else r2.2.2.2.2.1)))),((IntKind.wrap .i64 (x+1)),(h,(h1,(h2,(h3,(h4,(h5,h6)))))))))
 else
  some (.inr (n,(h,(h1,(h2,(h3,(h4,(h5,h6))))))))
def law25_Great_l0_it(fu:Nat)(o:(Bool×qT19))(tt:(Int×(Int×qT19))):Option ((Int×qT19)):=
 iter fu (fun tt=>law25_Great_l0 fu o tt.1 tt.2.1 tt.2.2.1 tt.2.2.2.1 tt.2.2.2.2.1 tt.2.2.2.2.2.1 tt.2.2.2.2.2.2.1 tt.2.2.2.2.2.2.2.1 tt.2.2.2.2.2.2.2.2) tt
def law25_Great_l1(fu:Nat)(o1:(Int×qT19))(x1:Int)(h7:Int)(h8:List (qT0))(h9:Int)(h10:Int)(h11:List (qT1))(h12:List ((Int×List (Int))))(h13:List ((Int×Int))):Option ((Int×qT19)⊕(Unit⊕Bool)):=
 bif (decide (x1<((o1.2.2.2.2.2.2.1.length:Nat):Int))) then
  (idx? x1 h12.length).bind fun q1=>
  (h12)[q1]?.bind fun r3=>
  bif (decide (((r3.2.length:Nat):Int)>60)) then
   some (.inr (.inr true))
  else
   some (.inl ((IntKind.wrap .i64 (x1+1)),(h7,(h8,(h9,(h10,(h11,(h12,h13))))))))
 else
  some (.inr (.inl ()))
def law25_Great_l1_it(fu:Nat)(o1:(Int×qT19))(tt:(Int×qT19)):Option (Unit⊕Bool):=
 iter fu (fun tt=>law25_Great_l1 fu o1 tt.1 tt.2.1 tt.2.2.1 tt.2.2.2.1 tt.2.2.2.2.1 tt.2.2.2.2.2.1 tt.2.2.2.2.2.2.1 tt.2.2.2.2.2.2.2) tt
def law25_Great(fu:Nat)(s:qT21):Option (Bool):=
 Option.bind (α:=((Bool×qT19))) (
  (kit_Great fu s.2.1).bind fun r=>
  bif r then
   some (true,(s.1,(s.2.1.1,(s.2.1.2,(s.2.2.1.1,(s.2.2.1.2,s.2.2.2))))))
  else
   (law23_Great fu s.2.2.1).bind fun r1=>
   bif r1 then
    some (true,(s.1,(s.2.1.1,(s.2.1.2,(s.2.2.1.1,(s.2.2.1.2,s.2.2.2))))))
   else
    bif (decide (((s.2.2.2.1.length:Nat):Int)>20)) then
     some (true,(s.1,(s.2.1.1,(s.2.1.2,(s.2.2.1.1,(s.2.2.1.2,s.2.2.2))))))
    else
     some ((decide (((s.2.2.2.2.length:Nat):Int)>200)),(s.1,(s.2.1.1,(s.2.1.2,(s.2.2.1.1,(s.2.2.1.2,s.2.2.2))))))) fun o=>
 bif o.1 then
  some true
 else
  (law25_Great_l0_it fu o (0,(0,o.2))).bind fun o1=>
  (law25_Great_l1_it fu o1 (0,o1.2)).bind fun o2=>
  match o2 with
  |.inl s1=>
   some (decide (o1.1>70000))
  |.inr o3=>
   some o3
def law25_Great_fa:FnA:=⟨.two (.reg [(0,{ids:=[100]})]) (.two (.two (.join ⟨[1,25],⟨qL41,[(100,false,(.vars qL2))]⟩⟩ false [] (.reg [(2,{}),(6,{fn:=1})])) (.two lf lf)) (.two lf (.two (.two lf (.one (.loop ⟨[1,3,30],⟨(.cons (.own 0 100 0 0) (.cons (.p (.int .i64)) qL5)),[(100,false,(.vars qL2))]⟩⟩ false [(0,⟨[1,3],⟨(.cons (.own 0 100 0 0) qL5),[(100,false,(.vars qL2))]⟩⟩)] (.two lf (.two lf (.two (.one lf) lf)))))) (.two (.two lf (.one (.loop ⟨[1,48],⟨(.cons (.own 0 100 0 0) qL5),[(100,false,(.vars qL2))]⟩⟩ true [(2,⟨[],⟨.nil,[]⟩⟩)] (.two lf (.two lf (.two (.one (.two lf (.two lf (.two lf lf)))) lf)))))) lf)))),⟨(.cons (.p qY14) .nil),[]⟩,[⟨(.cons (.p .bool) .nil),[]⟩],[0]⟩
def law25_Great_ft(fu:Nat):FnT:=⟨9,law25_Great_fa.i,law25_Great_fa.os,fun t=>law25_Great fu t⟩
theorem eaZ(fu:Nat):Told Tryz.prog (law25_Great_ft fu):=tk fu law25_Great_fa (aaZ (fQZ fu) (aaZ (ebZ fu) abZ)) Tryz.func9 (by kernel_rfl) fun t=>by kernel_rfl
def law26_Huge(fu:Nat)(c:(Int×(Int×(qT20×(List (Int)×(Int×(Int×Int))))))):Option (Bool):=
 (byte? ((c.2.2.1.2.2.1.toNat:Nat):Int)).bind fun c1=>
 (law21_Huge fu (c.2.2.1.1,(c.2.2.1.2.1,(c1,c.2.2.1.2.2.2))) (0,(0,(0,((0,0),(false,(0,([],([],(false,0)))))))))).bind fun r=>
 bif r then
  some true
 else
  some (decide (((c.2.2.2.1.length:Nat):Int)>100))
def law26_Huge_fa:FnA:=⟨.two (.reg [(0,{ids:=[100]})]) (.two (.reg [(3,{})]) lf),⟨(.cons (.p qY43) .nil),[]⟩,[⟨(.cons (.p .bool) .nil),[]⟩],[0]⟩
def law26_Huge_ft(fu:Nat):FnT:=⟨10,law26_Huge_fa.i,law26_Huge_fa.os,fun t=>law26_Huge fu t⟩
theorem eJZ(fu:Nat):Told Tryz.prog (law26_Huge_ft fu):=tk fu law26_Huge_fa (aaZ (cwZ fu) abZ) Tryz.func10 (by kernel_rfl) fun t=>by kernel_rfl
def bhal(fu:Nat)(s:Int):Option (Int):=
 some (bitsI .xor .u32 (Int.fdiv s 2) (IntKind.wrap .u32 (2197175160*(bitsI .and .u32 s 1))))
def bhal_fa:FnA:=⟨.two lf lf,⟨(.cons (.p (.int .u32)) .nil),[]⟩,[⟨(.cons (.p (.int .u32)) .nil),[]⟩],[0]⟩
def bhal_ft(fu:Nat):FnT:=⟨35,bhal_fa.i,bhal_fa.os,fun t=>bhal fu t⟩
theorem naZ(fu:Nat):Told Tryz.prog (bhal_ft fu):=tk fu bhal_fa abZ Tryz.func35 (by kernel_rfl) fun t=>by kernel_rfl
def bTab_l0(fu:Nat)(s:Int)(x:Int)(h:List (Int))(h1:List (Int)):Option ((Int×(Int×(List (Int)×List (Int))))⊕((List (Int)×List (Int)))):=
 bif (decide (x<8)) then
  need (decide (0<=x))<|
  (idx? (Int.fdiv 128 (2^(min (x).toNat 64))) 256).bind fun q=>
  (h1)[q]?.bind fun r=>
  (bhal fu s).bind fun r1=>
  some (.inl (r1,((IntKind.wrap .i64 (x+1)),(h,(List.set h1 q s)))))
 else
  some (.inr (h,h1))
def bTab_l0_it(fu:Nat)(tt:(Int×(Int×(List (Int)×List (Int))))):Option ((List (Int)×List (Int))):=
 iter fu (u4 (bTab_l0 fu)) tt
def bTab_l1(fu:Nat)(x1:Int)(x2:Int)(h4:List (Int))(h5:List (Int)):Option ((Int×(List (Int)×List (Int)))⊕((List (Int)×List (Int)))):=
 bif (decide (x2<(IntKind.wrap .i64 (1*(2^(min (x1).toNat 64)))))) then
  need (decide (0<=x1))<|
  need (decide (0<=x1))<|
  (idx? (IntKind.wrap .i64 (1*(2^(min (x1).toNat 64)))) 256).bind fun q1=>
  (h5)[q1]?.bind fun r2=>
  (idx? x2 256).bind fun q2=>
  (h5)[q2]?.bind fun r3=>
  (idx? (bitsI .or .i64 (IntKind.wrap .i64 (1*(2^(min (x1).toNat 64)))) x2) 256).bind fun q3=>
  (h5)[q3]?.bind fun r4=>
  some (.inl ((IntKind.wrap .i64 (x2+1)),(h4,(List.set h5 q3 (bitsI .xor .u32 r2 r3)))))
 else
  some (.inr (h4,h5))
def bTab_l1_it(fu:Nat)(x1:Int)(tt:(Int×(List (Int)×List (Int)))):Option ((List (Int)×List (Int))):=
 iter fu (u3 (bTab_l1 fu x1)) tt
def bTab_l2(fu:Nat)(x1:Int)(h2:List (Int))(h3:List (Int)):Option ((Int×(List (Int)×List (Int)))⊕((List (Int)×List (Int)))):=
 bif (decide (x1<8)) then
  need (decide (0<=x1))<|
  (bTab_l1_it fu x1 (0,(h2,h3))).bind fun o1=>
  some (.inl ((IntKind.wrap .i64 (x1+1)),(o1.1,o1.2)))
 else
  some (.inr (h2,h3))
def bTab_l2_it(fu:Nat)(tt:(Int×(List (Int)×List (Int)))):Option ((List (Int)×List (Int))):=
 iter fu (u3 (bTab_l2 fu)) tt
def bTab(fu:Nat):Option (List (Int)):=
 (bTab_l0_it fu (2197175160,(0,((List.replicate (α:=Int) 256 0),(List.replicate (α:=Int) 256 0))))).bind fun o=>
 (bTab_l2_it fu (0,(o.1,o.2))).bind fun o2=>
 need (Nat.beq o2.2.length 256)<|
 need (Nat.beq o2.1.length 256)<|
 need (Nat.beq o2.2.length 256)<|
 need (Nat.beq o2.2.length 256)<|
 some o2.2
def bTab_fa:FnA:=⟨.two (.reg [(0,{ids:=[100]})]) (.two (.reg [(0,{ids:=[101]})]) (.two lf (.two (.two lf (.one (.loop ⟨[0,1,2,6],⟨(.cons (.own 1 100 0 0) (.cons (.own 1 101 0 0) (.cons (.p (.int .u32)) qL5))),[(100,false,(.rows 60 (.int .u32))),(101,false,(.rows 60 (.int .u32)))]⟩⟩ false [(0,⟨[0,1],⟨(.cons (.own 1 100 0 0) (.cons (.own 1 101 0 0) .nil)),[(100,false,(.rows 60 (.int .u32))),(101,false,(.rows 60 (.int .u32)))]⟩⟩)] (.two lf (.two lf (.two (.one (.two lf (.two lf (.reg [(1,{})])))) lf)))))) (.two (.two lf (.one (.loop ⟨[0,1,16],⟨(.cons (.own 1 100 0 0) (.cons (.own 1 101 0 0) qL5)),[(100,false,(.rows 60 (.int .u32))),(101,false,(.rows 60 (.int .u32)))]⟩⟩ false [(2,⟨[0,1],⟨(.cons (.own 1 100 0 0) (.cons (.own 1 101 0 0) .nil)),[(100,false,(.rows 60 (.int .u32))),(101,false,(.rows 60 (.int .u32)))]⟩⟩)] (.two lf (.two lf (.two (.one (.two lf (.two lf (.one (.loop ⟨[0,1,21],⟨(.cons (.own 1 100 0 0) (.cons (.own 1 101 0 0) qL5)),[(100,false,(.rows 60 (.int .u32))),(101,false,(.rows 60 (.int .u32)))]⟩⟩ false [(4,⟨[0,1],⟨(.cons (.own 1 100 0 0) (.cons (.own 1 101 0 0) .nil)),[(100,false,(.rows 60 (.int .u32))),(101,false,(.rows 60 (.int .u32)))]⟩⟩)] (.two lf (.two lf (.two (.one lf) lf)))))))) lf)))))) lf)))),⟨.nil,[]⟩,[⟨(.cons (.p (.arr 256 (.int .u32))) .nil),[]⟩],[0]⟩
def bTab_ft(fu:Nat):FnT:=⟨11,bTab_fa.i,bTab_fa.os,fun t=>bTab fu⟩
theorem ipZ(fu:Nat):Told Tryz.prog (bTab_ft fu):=tk fu bTab_fa (aaZ (naZ fu) abZ) Tryz.func11 (by kernel_rfl) fun t=>by kernel_rfl
def save_none(fu:Nat)(c:qT20):Option (Bool):=
 bif (c.1==0) then
  bif (c.2.1==0) then
   bif (((c.2.2.1.toNat:Nat):Int)==0) then
    bif ((c.2.2.2.1.1==0)&&(c.2.2.2.1.2==0)) then
     bif ((c.2.2.2.2.2.1.1==0)&&(c.2.2.2.2.2.1.2==0)) then
      bif (c.2.2.2.2.1==[]) then
       bif (c.2.2.2.2.2.2.1==[]) then
        bif (c.2.2.2.2.2.2.2.1==0) then
         bif (c.2.2.2.2.2.2.2.2.1==0) then
          some (((c.2.2.2.2.2.2.2.2.2.length:Nat):Int)==0)
         else
          some false
        else
         some false
       else
        some false
      else
       some false
     else
      some false
    else
     some false
   else
    some false
  else
   some false
 else
  some false
def save_none_fa:FnA:=⟨.two (.reg [(0,{ids:=[100]})]) lf,⟨(.cons (.p qY13) .nil),[]⟩,[⟨(.cons (.p .bool) .nil),[]⟩],[0]⟩
def save_none_ft(fu:Nat):FnT:=⟨75,save_none_fa.i,save_none_fa.os,fun t=>save_none fu t⟩
theorem fHZ(fu:Nat):Told Tryz.prog (save_none_ft fu):=tk fu save_none_fa abZ Tryz.func75 (by kernel_rfl) fun t=>by kernel_rfl
def srig1(fu:Nat)(n:Int):Option (Bool):=
 bif (decide (n>=0)) then
  some (decide (n<256))
 else
  some false
def srig1_fa:FnA:=⟨.two lf lf,⟨qL5,[]⟩,[⟨(.cons (.p .bool) .nil),[]⟩],[0]⟩
def srig1_ft(fu:Nat):FnT:=⟨76,srig1_fa.i,srig1_fa.os,fun t=>srig1 fu t⟩
theorem kKZ(fu:Nat):Told Tryz.prog (srig1_ft fu):=tk fu srig1_fa abZ Tryz.func76 (by kernel_rfl) fun t=>by kernel_rfl
def srig2(fu:Nat)(v:Int):Option (Bool):=
 bif (decide (v<1)) then
  some true
 else
  some (decide (v>1099511627776))
def srig2_fa:FnA:=⟨.two lf lf,⟨qL5,[]⟩,[⟨(.cons (.p .bool) .nil),[]⟩],[0]⟩
def srig2_ft(fu:Nat):FnT:=⟨77,srig2_fa.i,srig2_fa.os,fun t=>srig2 fu t⟩
theorem k6Z(fu:Nat):Told Tryz.prog (srig2_ft fu):=tk fu srig2_fa abZ Tryz.func77 (by kernel_rfl) fun t=>by kernel_rfl
def sIndFun9_l0(fu:Nat)(s:List (Int))(x:Int):Option (Int⊕(Unit⊕Int)):=
 bif (decide (x<((s.length:Nat):Int))) then
  (idx? x s.length).bind fun q=>
  (s)[q]?.bind fun r=>
  (srig2 fu r).bind fun r1=>
  bif r1 then
   some (.inr (.inr x))
  else
   some (.inl (IntKind.wrap .i64 (x+1)))
 else
  some (.inr (.inl ()))
def sIndFun9_l0_it(fu:Nat)(s:List (Int))(tt:Int):Option (Unit⊕Int):=
 iter fu (fun tt=>sIndFun9_l0 fu s tt) tt
def sIndFun9(fu:Nat)(s:List (Int)):Option (Int):=
 (sIndFun9_l0_it fu s 0).bind fun o=>
 match o with
 |.inl s1=>
  some (-1)
 |.inr o1=>
  some o1
def sIndFun9_fa:FnA:=⟨.two lf (.two (.two lf (.one (.loop ⟨[8],⟨qL5,[]⟩⟩ true [(0,⟨[],⟨.nil,[]⟩⟩)] (.two lf (.two lf (.two (.one (.two lf (.two (.reg [(5,{})]) (.two lf lf)))) lf)))))) lf),⟨(.cons (.p (.sl (.int .i64))) (.cons (.fn 77 .nil .nil) .nil)),[]⟩,[⟨qL5,[]⟩],[0]⟩
def sIndFun9_ft(fu:Nat):FnT:=⟨129,sIndFun9_fa.i,sIndFun9_fa.os,fun t=>sIndFun9 fu t⟩
theorem hzZ(fu:Nat):Told Tryz.prog (sIndFun9_ft fu):=tk fu sIndFun9_fa (aaZ (k6Z fu) abZ) Tryz.func129 (by kernel_rfl) fun t=>by kernel_rfl
def sConFun9(fu:Nat)(s:List (Int)):Option (Bool):=
 (sIndFun9 fu s).bind fun r=>
 some (decide (r>=0))
def sConFun9_fa:FnA:=⟨.two lf (.two (.reg [(2,{})]) lf),⟨(.cons (.p (.sl (.int .i64))) (.cons (.fn 77 .nil .nil) .nil)),[]⟩,[⟨(.cons (.p .bool) .nil),[]⟩],[0]⟩
def sConFun9_ft(fu:Nat):FnT:=⟨78,sConFun9_fa.i,sConFun9_fa.os,fun t=>sConFun9 fu t⟩
theorem gVZ(fu:Nat):Told Tryz.prog (sConFun9_ft fu):=tk fu sConFun9_fa (aaZ (hzZ fu) abZ) Tryz.func78 (by kernel_rfl) fun t=>by kernel_rfl
def csha1(fu:Nat):Option (qT46):=
 some (true,(true,(false,(false,(0,false)))))
def csha1_fa:FnA:=⟨.two (.reg [(0,{ids:=[100]})]) lf,⟨.nil,[]⟩,[⟨(.cons (.agg qL18) .nil),[]⟩],[0]⟩
def csha1_ft(fu:Nat):FnT:=⟨178,csha1_fa.i,csha1_fa.os,fun t=>csha1 fu⟩
theorem kQZ(fu:Nat):Told Tryz.prog (csha1_ft fu):=tk fu csha1_fa abZ Tryz.func178 (by kernel_rfl) fun t=>by kernel_rfl
def csha2(fu:Nat):Option (qT46):=
 some (true,(false,(false,(true,(4096,false)))))
def csha2_fa:FnA:=⟨.two (.reg [(0,{ids:=[100]})]) lf,⟨.nil,[]⟩,[⟨(.cons (.agg qL18) .nil),[]⟩],[0]⟩
def csha2_ft(fu:Nat):FnT:=⟨179,csha2_fa.i,csha2_fa.os,fun t=>csha2 fu⟩
theorem lqZ(fu:Nat):Told Tryz.prog (csha2_ft fu):=tk fu csha2_fa abZ Tryz.func179 (by kernel_rfl) fun t=>by kernel_rfl
def csha3(fu:Nat):Option (qT46):=
 some (true,(false,(false,(true,(0,true)))))
def csha3_fa:FnA:=⟨.two (.reg [(0,{ids:=[100]})]) lf,⟨.nil,[]⟩,[⟨(.cons (.agg qL18) .nil),[]⟩],[0]⟩
def csha3_ft(fu:Nat):FnT:=⟨180,csha3_fa.i,csha3_fa.os,fun t=>csha3 fu⟩
theorem l0Z(fu:Nat):Told Tryz.prog (csha3_ft fu):=tk fu csha3_fa abZ Tryz.func180 (by kernel_rfl) fun t=>by kernel_rfl
def csha4(fu:Nat):Option (qT46):=
 some (true,(false,(false,(false,(2147483648,false)))))
def csha4_fa:FnA:=⟨.two (.reg [(0,{ids:=[100]})]) lf,⟨.nil,[]⟩,[⟨(.cons (.agg qL18) .nil),[]⟩],[0]⟩
def csha4_ft(fu:Nat):FnT:=⟨181,csha4_fa.i,csha4_fa.os,fun t=>csha4 fu⟩
theorem kGZ(fu:Nat):Told Tryz.prog (csha4_ft fu):=tk fu csha4_fa abZ Tryz.func181 (by kernel_rfl) fun t=>by kernel_rfl
def csha5(fu:Nat):Option (qT46):=
 some (true,(true,(true,(false,(0,false)))))
def csha5_fa:FnA:=⟨.two (.reg [(0,{ids:=[100]})]) lf,⟨.nil,[]⟩,[⟨(.cons (.agg qL18) .nil),[]⟩],[0]⟩
def csha5_ft(fu:Nat):FnT:=⟨182,csha5_fa.i,csha5_fa.os,fun t=>csha5 fu⟩
theorem kFZ(fu:Nat):Told Tryz.prog (csha5_ft fu):=tk fu csha5_fa abZ Tryz.func182 (by kernel_rfl) fun t=>by kernel_rfl
def csha6(fu:Nat):Option (qT46):=
 some (true,(true,(false,(false,(4096,false)))))
def csha6_fa:FnA:=⟨.two (.reg [(0,{ids:=[100]})]) lf,⟨.nil,[]⟩,[⟨(.cons (.agg qL18) .nil),[]⟩],[0]⟩
def csha6_ft(fu:Nat):FnT:=⟨183,csha6_fa.i,csha6_fa.os,fun t=>csha6 fu⟩
theorem kAZ(fu:Nat):Told Tryz.prog (csha6_ft fu):=tk fu csha6_fa abZ Tryz.func183 (by kernel_rfl) fun t=>by kernel_rfl
def csha7(fu:Nat):Option (qT46):=
 some (true,(false,(false,(false,(0,false)))))
def csha7_fa:FnA:=⟨.two (.reg [(0,{ids:=[100]})]) lf,⟨.nil,[]⟩,[⟨(.cons (.agg qL18) .nil),[]⟩],[0]⟩
def csha7_ft(fu:Nat):FnT:=⟨184,csha7_fa.i,csha7_fa.os,fun t=>csha7 fu⟩
theorem kRZ(fu:Nat):Told Tryz.prog (csha7_ft fu):=tk fu csha7_fa abZ Tryz.func184 (by kernel_rfl) fun t=>by kernel_rfl
def csha8(fu:Nat):Option (qT46):=
 some (false,(false,(false,(false,(0,false)))))
def csha8_fa:FnA:=⟨.two (.reg [(0,{ids:=[100]})]) lf,⟨.nil,[]⟩,[⟨(.cons (.agg qL18) .nil),[]⟩],[0]⟩
def csha8_ft(fu:Nat):FnT:=⟨185,csha8_fa.i,csha8_fa.os,fun t=>csha8 fu⟩
theorem kXZ(fu:Nat):Told Tryz.prog (csha8_ft fu):=tk fu csha8_fa abZ Tryz.func185 (by kernel_rfl) fun t=>by kernel_rfl
def csha(fu:Nat)(o:Int):Option ((Bool×(Bool×(Bool×(Bool×(Int×(Bool×Bool))))))):=
 need ((!((UInt8.ofNat 2)==(UInt8.ofNat 1)))&&true)<|
 need ((!((UInt8.ofNat 3)==(UInt8.ofNat 1)))&&((!((UInt8.ofNat 3)==(UInt8.ofNat 2)))&&true))<|
 need ((!((UInt8.ofNat 7)==(UInt8.ofNat 1)))&&((!((UInt8.ofNat 7)==(UInt8.ofNat 2)))&&((!((UInt8.ofNat 7)==(UInt8.ofNat 3)))&&true)))<|
 need ((!((UInt8.ofNat 8)==(UInt8.ofNat 1)))&&((!((UInt8.ofNat 8)==(UInt8.ofNat 2)))&&((!((UInt8.ofNat 8)==(UInt8.ofNat 3)))&&((!((UInt8.ofNat 8)==(UInt8.ofNat 7)))&&true))))<|
 need ((!((UInt8.ofNat 4)==(UInt8.ofNat 1)))&&((!((UInt8.ofNat 4)==(UInt8.ofNat 2)))&&((!((UInt8.ofNat 4)==(UInt8.ofNat 3)))&&((!((UInt8.ofNat 4)==(UInt8.ofNat 7)))&&((!((UInt8.ofNat 4)==(UInt8.ofNat 8)))&&true)))))<|
 need ((!((UInt8.ofNat 5)==(UInt8.ofNat 1)))&&((!((UInt8.ofNat 5)==(UInt8.ofNat 2)))&&((!((UInt8.ofNat 5)==(UInt8.ofNat 3)))&&((!((UInt8.ofNat 5)==(UInt8.ofNat 7)))&&((!((UInt8.ofNat 5)==(UInt8.ofNat 8)))&&((!((UInt8.ofNat 5)==(UInt8.ofNat 4)))&&true))))))<|
 need ((!((UInt8.ofNat 6)==(UInt8.ofNat 1)))&&((!((UInt8.ofNat 6)==(UInt8.ofNat 2)))&&((!((UInt8.ofNat 6)==(UInt8.ofNat 3)))&&((!((UInt8.ofNat 6)==(UInt8.ofNat 7)))&&((!((UInt8.ofNat 6)==(UInt8.ofNat 8)))&&((!((UInt8.ofNat 6)==(UInt8.ofNat 4)))&&((!((UInt8.ofNat 6)==(UInt8.ofNat 5)))&&true)))))))<|
 need ((!((UInt8.ofNat 9)==(UInt8.ofNat 1)))&&((!((UInt8.ofNat 9)==(UInt8.ofNat 2)))&&((!((UInt8.ofNat 9)==(UInt8.ofNat 3)))&&((!((UInt8.ofNat 9)==(UInt8.ofNat 7)))&&((!((UInt8.ofNat 9)==(UInt8.ofNat 8)))&&((!((UInt8.ofNat 9)==(UInt8.ofNat 4)))&&((!((UInt8.ofNat 9)==(UInt8.ofNat 5)))&&((!((UInt8.ofNat 9)==(UInt8.ofNat 6)))&&true))))))))<|
 need ((!((UInt8.ofNat 10)==(UInt8.ofNat 1)))&&((!((UInt8.ofNat 10)==(UInt8.ofNat 2)))&&((!((UInt8.ofNat 10)==(UInt8.ofNat 3)))&&((!((UInt8.ofNat 10)==(UInt8.ofNat 7)))&&((!((UInt8.ofNat 10)==(UInt8.ofNat 8)))&&((!((UInt8.ofNat 10)==(UInt8.ofNat 4)))&&((!((UInt8.ofNat 10)==(UInt8.ofNat 5)))&&((!((UInt8.ofNat 10)==(UInt8.ofNat 6)))&&((!((UInt8.ofNat 10)==(UInt8.ofNat 9)))&&true)))))))))<|
 need ((!((UInt8.ofNat 11)==(UInt8.ofNat 1)))&&((!((UInt8.ofNat 11)==(UInt8.ofNat 2)))&&((!((UInt8.ofNat 11)==(UInt8.ofNat 3)))&&((!((UInt8.ofNat 11)==(UInt8.ofNat 7)))&&((!((UInt8.ofNat 11)==(UInt8.ofNat 8)))&&((!((UInt8.ofNat 11)==(UInt8.ofNat 4)))&&((!((UInt8.ofNat 11)==(UInt8.ofNat 5)))&&((!((UInt8.ofNat 11)==(UInt8.ofNat 6)))&&((!((UInt8.ofNat 11)==(UInt8.ofNat 9)))&&((!((UInt8.ofNat 11)==(UInt8.ofNat 10)))&&true))))))))))<|
 need ((!((UInt8.ofNat 12)==(UInt8.ofNat 1)))&&((!((UInt8.ofNat 12)==(UInt8.ofNat 2)))&&((!((UInt8.ofNat 12)==(UInt8.ofNat 3)))&&((!((UInt8.ofNat 12)==(UInt8.ofNat 7)))&&((!((UInt8.ofNat 12)==(UInt8.ofNat 8)))&&((!((UInt8.ofNat 12)==(UInt8.ofNat 4)))&&((!((UInt8.ofNat 12)==(UInt8.ofNat 5)))&&((!((UInt8.ofNat 12)==(UInt8.ofNat 6)))&&((!((UInt8.ofNat 12)==(UInt8.ofNat 9)))&&((!((UInt8.ofNat 12)==(UInt8.ofNat 10)))&&((!((UInt8.ofNat 12)==(UInt8.ofNat 11)))&&true)))))))))))<|
 (byte? o).bind fun c=>
 bif (c==(UInt8.ofNat 1)) then
  (csha1 fu).bind fun r=>
  some (r.1,(r.2.1,(r.2.2.1,(r.2.2.2.1,(r.2.2.2.2.1,(r.2.2.2.2.2,true))))))
 else
  bif (c==(UInt8.ofNat 2)) then
   (csha1 fu).bind fun r1=>
   some (r1.1,(r1.2.1,(r1.2.2.1,(r1.2.2.2.1,(r1.2.2.2.2.1,(r1.2.2.2.2.2,true))))))
  else
   bif (c==(UInt8.ofNat 3)) then
    (csha1 fu).bind fun r2=>
    some (r2.1,(r2.2.1,(r2.2.2.1,(r2.2.2.2.1,(r2.2.2.2.2.1,(r2.2.2.2.2.2,true))))))
   else
    bif (c==(UInt8.ofNat 7)) then
     (csha1 fu).bind fun r3=>
     some (r3.1,(r3.2.1,(r3.2.2.1,(r3.2.2.2.1,(r3.2.2.2.2.1,(r3.2.2.2.2.2,true))))))
    else
     bif (c==(UInt8.ofNat 8)) then
      (csha1 fu).bind fun r4=>
      some (r4.1,(r4.2.1,(r4.2.2.1,(r4.2.2.2.1,(r4.2.2.2.2.1,(r4.2.2.2.2.2,true))))))
     else
      bif (c==(UInt8.ofNat 4)) then
       (csha2 fu).bind fun r5=>
       some (r5.1,(r5.2.1,(r5.2.2.1,(r5.2.2.2.1,(r5.2.2.2.2.1,(r5.2.2.2.2.2,true))))))
      else
       bif (c==(UInt8.ofNat 5)) then
        (csha3 fu).bind fun r6=>
        some (r6.1,(r6.2.1,(r6.2.2.1,(r6.2.2.2.1,(r6.2.2.2.2.1,(r6.2.2.2.2.2,true))))))
       else
        bif (c==(UInt8.ofNat 6)) then
         (csha4 fu).bind fun r7=>
         some (r7.1,(r7.2.1,(r7.2.2.1,(r7.2.2.2.1,(r7.2.2.2.2.1,(r7.2.2.2.2.2,true))))))
        else
         bif (c==(UInt8.ofNat 9)) then
          (csha5 fu).bind fun r8=>
          some (r8.1,(r8.2.1,(r8.2.2.1,(r8.2.2.2.1,(r8.2.2.2.2.1,(r8.2.2.2.2.2,true))))))
         else
          bif (c==(UInt8.ofNat 10)) then
           (csha6 fu).bind fun r9=>
           some (r9.1,(r9.2.1,(r9.2.2.1,(r9.2.2.2.1,(r9.2.2.2.2.1,(r9.2.2.2.2.2,true))))))
          else
           bif (c==(UInt8.ofNat 11)) then
            (csha7 fu).bind fun r10=>
            some (r10.1,(r10.2.1,(r10.2.2.1,(r10.2.2.2.1,(r10.2.2.2.2.1,(r10.2.2.2.2.2,true))))))
           else
            bif (c==(UInt8.ofNat 12)) then
             (csha8 fu).bind fun r11=>
             some (r11.1,(r11.2.1,(r11.2.2.1,(r11.2.2.2.1,(r11.2.2.2.2.1,(r11.2.2.2.2.2,true))))))
            else
             some (false,(false,(false,(false,(0,(false,false))))))
def csha_fa:FnA:=⟨.two (.reg [(0,{ids:=[100]})]) (.two lf (.two (.reg [(0,{ids:=[101]})]) (.two lf (.sel (.slot 6 (.fn 178 .nil .nil)) (.two (.two lf lf) (.two (.reg [(1,{})]) lf)) (.sel (.slot 6 (.fn 179 .nil .nil)) (.two (.two lf lf) (.two (.reg [(1,{fn:=1})]) lf)) (.sel (.slot 6 (.fn 180 .nil .nil)) (.two (.two lf lf) (.two (.reg [(1,{fn:=2})]) lf)) (.sel (.slot 6 (.fn 181 .nil .nil)) (.two (.two lf lf) (.two (.reg [(1,{fn:=3})]) lf)) (.sel (.slot 6 (.fn 182 .nil .nil)) (.two (.two lf lf) (.two (.reg [(1,{fn:=4})]) lf)) (.sel (.slot 6 (.fn 183 .nil .nil)) (.two (.two lf lf) (.two (.reg [(1,{fn:=5})]) lf)) (.sel (.slot 6 (.fn 184 .nil .nil)) (.two (.two lf lf) (.two (.reg [(1,{fn:=6})]) lf)) (.two (.two lf (.two lf lf)) (.two (.reg [(1,{fn:=7})]) lf)))))))))))),⟨(.cons (.p (.int .u8)) .nil),[]⟩,[⟨(.cons (.agg qL18) (.cons (.p .bool) .nil)),[]⟩],[0,0]⟩
def csha_ft(fu:Nat):FnT:=⟨130,csha_fa.i,csha_fa.os,fun t=>csha fu t⟩
theorem mRZ(fu:Nat):Told Tryz.prog (csha_ft fu):=tk fu csha_fa (aaZ (kQZ fu) (aaZ (lqZ fu) (aaZ (l0Z fu) (aaZ (kGZ fu) (aaZ (kFZ fu) (aaZ (kAZ fu) (aaZ (kRZ fu) (aaZ (kXZ fu) abZ)))))))) Tryz.func130 (by kernel_rfl) fun t=>by kernel_rfl
def cwho(fu:Nat)(client:Int)(xid:Int):Option (Bool):=
 bif (decide (client>=0)) then
  bif (decide (client<16)) then
   bif (decide (xid>=1)) then
    some (decide (xid<=1099511627776))
   else
    some false
  else
   some false
 else
  some false
def cwho_fa:FnA:=⟨.two lf lf,⟨(.cons (.p (.int .i64)) qL5),[]⟩,[⟨(.cons (.p .bool) .nil),[]⟩],[0]⟩
def cwho_ft(fu:Nat):FnT:=⟨131,cwho_fa.i,cwho_fa.os,fun t=>cwho fu t.1 t.2⟩
theorem iiZ(fu:Nat):Told Tryz.prog (cwho_ft fu):=tk fu cwho_fa abZ Tryz.func131 (by kernel_rfl) fun t=>by kernel_rfl
def hRig(fu:Nat)(h:(Int×Int)):Option (Bool):=
 bif (decide (h.1>=1)) then
  bif (decide (h.1<=500)) then
   bif (decide (h.2>=1)) then
    some (decide (h.2<=1099511627776))
   else
    some false
  else
   some false
 else
  some false
def hRig_fa:FnA:=⟨.two (.reg [(0,{ids:=[100]})]) lf,⟨(.cons (.p qY34) .nil),[]⟩,[⟨(.cons (.p .bool) .nil),[]⟩],[0]⟩
def hRig_ft(fu:Nat):FnT:=⟨133,hRig_fa.i,hRig_fa.os,fun t=>hRig fu t⟩
theorem ilZ(fu:Nat):Told Tryz.prog (hRig_ft fu):=tk fu hRig_fa abZ Tryz.func133 (by kernel_rfl) fun t=>by kernel_rfl
def cRigCal1(fu:Nat)(is_:Bool)(h:(Int×Int)):Option (Bool):=
 bif is_ then
  (hRig fu (h.1,h.2)).bind fun r=>
  bif r then
   some true
  else
   bif (!is_) then
    some ((h.1==0)&&(h.2==0))
   else
    some false
 else
  bif (!is_) then
   some ((h.1==0)&&(h.2==0))
  else
   some false
def cRigCal1_fa:FnA:=⟨.two (.reg [(0,{ids:=[100]})]) (.two (.reg [(3,{})]) lf),⟨(.cons (.p .bool) (.cons (.p qY34) .nil)),[]⟩,[⟨(.cons (.p .bool) .nil),[]⟩],[0]⟩
def cRigCal1_ft(fu:Nat):FnT:=⟨132,cRigCal1_fa.i,cRigCal1_fa.os,fun t=>cRigCal1 fu t.1 t.2⟩
theorem hpZ(fu:Nat):Told Tryz.prog (cRigCal1_ft fu):=tk fu cRigCal1_fa (aaZ (ilZ fu) abZ) Tryz.func132 (by kernel_rfl) fun t=>by kernel_rfl
def cRigCal2(fu:Nat)(is_:Bool)(l:List UInt8):Option (Bool):=
 bif (l==[]) then
  some true
 else
  bif is_ then
   some (decide (((l.length:Nat):Int)<=100))
  else
   some false
def cRigCal2_fa:FnA:=⟨.two lf lf,⟨(.cons (.p .bool) (.cons (.p .str) .nil)),[]⟩,[⟨(.cons (.p .bool) .nil),[]⟩],[0]⟩
def cRigCal2_ft(fu:Nat):FnT:=⟨134,cRigCal2_fa.i,cRigCal2_fa.os,fun t=>cRigCal2 fu t.1 t.2⟩
theorem gHZ(fu:Nat):Told Tryz.prog (cRigCal2_ft fu):=tk fu cRigCal2_fa abZ Tryz.func134 (by kernel_rfl) fun t=>by kernel_rfl
def cRigCal(fu:Nat)(c:qT20):Option (Bool):=
 (csha fu ((c.2.2.1.toNat:Nat):Int)).bind fun r=>
 Option.bind (α:=((Bool×(Int×(Int×(Int×(Int×(Int×(List UInt8×(Int×(Int×(List UInt8×(Int×(Int×(List (UInt8)×qT46))))))))))))))) (
  bif (!r.2.2.2.2.2.2) then
   some (true,(c.1,(c.2.1,(((c.2.2.1.toNat:Nat):Int),(c.2.2.2.1.1,(c.2.2.2.1.2,(c.2.2.2.2.1,(c.2.2.2.2.2.1.1,(c.2.2.2.2.2.1.2,(c.2.2.2.2.2.2.1,(c.2.2.2.2.2.2.2.1,(c.2.2.2.2.2.2.2.2.1,(c.2.2.2.2.2.2.2.2.2,(r.1,(r.2.1,(r.2.2.1,(r.2.2.2.1,(r.2.2.2.2.1,r.2.2.2.2.2.1))))))))))))))))))
  else
   (cwho fu c.1 c.2.1).bind fun r1=>
   some ((!r1),(c.1,(c.2.1,(((c.2.2.1.toNat:Nat):Int),(c.2.2.2.1.1,(c.2.2.2.1.2,(c.2.2.2.2.1,(c.2.2.2.2.2.1.1,(c.2.2.2.2.2.1.2,(c.2.2.2.2.2.2.1,(c.2.2.2.2.2.2.2.1,(c.2.2.2.2.2.2.2.2.1,(c.2.2.2.2.2.2.2.2.2,(r.1,(r.2.1,(r.2.2.1,(r.2.2.2.1,(r.2.2.2.2.1,r.2.2.2.2.2.1))))))))))))))))))) fun o=>
 bif o.1 then
  some false
 else
  Option.bind (α:=((Bool×(Int×(Int×(Int×(Int×(Int×(List UInt8×(Int×(Int×(List UInt8×(Int×(Int×(List (UInt8)×qT46))))))))))))))) (
   (cRigCal1 fu o.2.2.2.2.2.2.2.2.2.2.2.2.2.1 (o.2.2.2.2.1,o.2.2.2.2.2.1)).bind fun r2=>
   bif (!r2) then
    some (true,(o.2.1,(o.2.2.1,(o.2.2.2.1,(o.2.2.2.2.1,(o.2.2.2.2.2.1,(o.2.2.2.2.2.2.1,(o.2.2.2.2.2.2.2.1,(o.2.2.2.2.2.2.2.2.1,(o.2.2.2.2.2.2.2.2.2.1,(o.2.2.2.2.2.2.2.2.2.2.1,(o.2.2.2.2.2.2.2.2.2.2.2.1,(o.2.2.2.2.2.2.2.2.2.2.2.2.1,(o.2.2.2.2.2.2.2.2.2.2.2.2.2.1,(o.2.2.2.2.2.2.2.2.2.2.2.2.2.2.1,(o.2.2.2.2.2.2.2.2.2.2.2.2.2.2.2.1,(o.2.2.2.2.2.2.2.2.2.2.2.2.2.2.2.2.1,(o.2.2.2.2.2.2.2.2.2.2.2.2.2.2.2.2.2.1,o.2.2.2.2.2.2.2.2.2.2.2.2.2.2.2.2.2.2))))))))))))))))))
   else
    (cRigCal1 fu o.2.2.2.2.2.2.2.2.2.2.2.2.2.2.2.1 (o.2.2.2.2.2.2.2.1,o.2.2.2.2.2.2.2.2.1)).bind fun r3=>
    bif (!r3) then
     some (true,(o.2.1,(o.2.2.1,(o.2.2.2.1,(o.2.2.2.2.1,(o.2.2.2.2.2.1,(o.2.2.2.2.2.2.1,(o.2.2.2.2.2.2.2.1,(o.2.2.2.2.2.2.2.2.1,(o.2.2.2.2.2.2.2.2.2.1,(o.2.2.2.2.2.2.2.2.2.2.1,(o.2.2.2.2.2.2.2.2.2.2.2.1,(o.2.2.2.2.2.2.2.2.2.2.2.2.1,(o.2.2.2.2.2.2.2.2.2.2.2.2.2.1,(o.2.2.2.2.2.2.2.2.2.2.2.2.2.2.1,(o.2.2.2.2.2.2.2.2.2.2.2.2.2.2.2.1,(o.2.2.2.2.2.2.2.2.2.2.2.2.2.2.2.2.1,(o.2.2.2.2.2.2.2.2.2.2.2.2.2.2.2.2.2.1,o.2.2.2.2.2.2.2.2.2.2.2.2.2.2.2.2.2.2))))))))))))))))))
    else
     (cRigCal2 fu o.2.2.2.2.2.2.2.2.2.2.2.2.2.2.1 o.2.2.2.2.2.2.1).bind fun r4=>
     bif (!r4) then
      some (true,(o.2.1,(o.2.2.1,(o.2.2.2.1,(o.2.2.2.2.1,(o.2.2.2.2.2.1,(o.2.2.2.2.2.2.1,(o.2.2.2.2.2.2.2.1,(o.2.2.2.2.2.2.2.2.1,(o.2.2.2.2.2.2.2.2.2.1,(o.2.2.2.2.2.2.2.2.2.2.1,(o.2.2.2.2.2.2.2.2.2.2.2.1,(o.2.2.2.2.2.2.2.2.2.2.2.2.1,(o.2.2.2.2.2.2.2.2.2.2.2.2.2.1,(o.2.2.2.2.2.2.2.2.2.2.2.2.2.2.1,(o.2.2.2.2.2.2.2.2.2.2.2.2.2.2.2.1,(o.2.2.2.2.2.2.2.2.2.2.2.2.2.2.2.2.1,(o.2.2.2.2.2.2.2.2.2.2.2.2.2.2.2.2.2.1,o.2.2.2.2.2.2.2.2.2.2.2.2.2.2.2.2.2.2))))))))))))))))))
     else
      (cRigCal2 fu o.2.2.2.2.2.2.2.2.2.2.2.2.2.2.2.1 o.2.2.2.2.2.2.2.2.2.1).bind fun r5=>
      some ((!r5),(o.2.1,(o.2.2.1,(o.2.2.2.1,(o.2.2.2.2.1,(o.2.2.2.2.2.1,(o.2.2.2.2.2.2.1,(o.2.2.2.2.2.2.2.1,(o.2.2.2.2.2.2.2.2.1,(o.2.2.2.2.2.2.2.2.2.1,(o.2.2.2.2.2.2.2.2.2.2.1,(o.2.2.2.2.2.2.2.2.2.2.2.1,(o.2.2.2.2.2.2.2.2.2.2.2.2.1,(o.2.2.2.2.2.2.2.2.2.2.2.2.2.1,(o.2.2.2.2.2.2.2.2.2.2.2.2.2.2.1,(o.2.2.2.2.2.2.2.2.2.2.2.2.2.2.2.1,(o.2.2.2.2.2.2.2.2.2.2.2.2.2.2.2.2.1,(o.2.2.2.2.2.2.2.2.2.2.2.2.2.2.2.2.2.1,o.2.2.2.2.2.2.2.2.2.2.2.2.2.2.2.2.2.2))))))))))))))))))) fun o1=>
  bif o1.1 then
   some false
  else
   Option.bind (α:=((Bool×(Int×(Int×(Int×(Int×(Int×(List UInt8×(Int×(Int×(List UInt8×(Int×(Int×(List (UInt8)×qT46))))))))))))))) (
    bif (decide (o1.2.2.2.2.2.2.2.2.2.2.1<0)) then
     some (true,(o1.2.1,(o1.2.2.1,(o1.2.2.2.1,(o1.2.2.2.2.1,(o1.2.2.2.2.2.1,(o1.2.2.2.2.2.2.1,(o1.2.2.2.2.2.2.2.1,(o1.2.2.2.2.2.2.2.2.1,(o1.2.2.2.2.2.2.2.2.2.1,(o1.2.2.2.2.2.2.2.2.2.2.1,(o1.2.2.2.2.2.2.2.2.2.2.2.1,(o1.2.2.2.2.2.2.2.2.2.2.2.2.1,(o1.2.2.2.2.2.2.2.2.2.2.2.2.2.1,(o1.2.2.2.2.2.2.2.2.2.2.2.2.2.2.1,(o1.2.2.2.2.2.2.2.2.2.2.2.2.2.2.2.1,(o1.2.2.2.2.2.2.2.2.2.2.2.2.2.2.2.2.1,(o1.2.2.2.2.2.2.2.2.2.2.2.2.2.2.2.2.2.1,o1.2.2.2.2.2.2.2.2.2.2.2.2.2.2.2.2.2.2))))))))))))))))))
    else
     bif (decide (o1.2.2.2.2.2.2.2.2.2.2.1>2147483648)) then
      some (true,(o1.2.1,(o1.2.2.1,(o1.2.2.2.1,(o1.2.2.2.2.1,(o1.2.2.2.2.2.1,(o1.2.2.2.2.2.2.1,(o1.2.2.2.2.2.2.2.1,(o1.2.2.2.2.2.2.2.2.1,(o1.2.2.2.2.2.2.2.2.2.1,(o1.2.2.2.2.2.2.2.2.2.2.1,(o1.2.2.2.2.2.2.2.2.2.2.2.1,(o1.2.2.2.2.2.2.2.2.2.2.2.2.1,(o1.2.2.2.2.2.2.2.2.2.2.2.2.2.1,(o1.2.2.2.2.2.2.2.2.2.2.2.2.2.2.1,(o1.2.2.2.2.2.2.2.2.2.2.2.2.2.2.2.1,(o1.2.2.2.2.2.2.2.2.2.2.2.2.2.2.2.2.1,(o1.2.2.2.2.2.2.2.2.2.2.2.2.2.2.2.2.2.1,o1.2.2.2.2.2.2.2.2.2.2.2.2.2.2.2.2.2.2))))))))))))))))))
     else
      bif (!o1.2.2.2.2.2.2.2.2.2.2.2.2.2.2.2.2.1) then
       bif (!(o1.2.2.2.2.2.2.2.2.2.2.1==0)) then
        some (true,(o1.2.1,(o1.2.2.1,(o1.2.2.2.1,(o1.2.2.2.2.1,(o1.2.2.2.2.2.1,(o1.2.2.2.2.2.2.1,(o1.2.2.2.2.2.2.2.1,(o1.2.2.2.2.2.2.2.2.1,(o1.2.2.2.2.2.2.2.2.2.1,(o1.2.2.2.2.2.2.2.2.2.2.1,(o1.2.2.2.2.2.2.2.2.2.2.2.1,(o1.2.2.2.2.2.2.2.2.2.2.2.2.1,(o1.2.2.2.2.2.2.2.2.2.2.2.2.2.1,(o1.2.2.2.2.2.2.2.2.2.2.2.2.2.2.1,(o1.2.2.2.2.2.2.2.2.2.2.2.2.2.2.2.1,(o1.2.2.2.2.2.2.2.2.2.2.2.2.2.2.2.2.1,(o1.2.2.2.2.2.2.2.2.2.2.2.2.2.2.2.2.2.1,o1.2.2.2.2.2.2.2.2.2.2.2.2.2.2.2.2.2.2))))))))))))))))))
       else
        bif (decide (o1.2.2.2.2.2.2.2.2.2.2.2.1<0)) then
         some (true,(o1.2.1,(o1.2.2.1,(o1.2.2.2.1,(o1.2.2.2.2.1,(o1.2.2.2.2.2.1,(o1.2.2.2.2.2.2.1,(o1.2.2.2.2.2.2.2.1,(o1.2.2.2.2.2.2.2.2.1,(o1.2.2.2.2.2.2.2.2.2.1,(o1.2.2.2.2.2.2.2.2.2.2.1,(o1.2.2.2.2.2.2.2.2.2.2.2.1,(o1.2.2.2.2.2.2.2.2.2.2.2.2.1,(o1.2.2.2.2.2.2.2.2.2.2.2.2.2.1,(o1.2.2.2.2.2.2.2.2.2.2.2.2.2.2.1,(o1.2.2.2.2.2.2.2.2.2.2.2.2.2.2.2.1,(o1.2.2.2.2.2.2.2.2.2.2.2.2.2.2.2.2.1,(o1.2.2.2.2.2.2.2.2.2.2.2.2.2.2.2.2.2.1,o1.2.2.2.2.2.2.2.2.2.2.2.2.2.2.2.2.2.2))))))))))))))))))
        else
         some ((decide (o1.2.2.2.2.2.2.2.2.2.2.2.1>o1.2.2.2.2.2.2.2.2.2.2.2.2.2.2.2.2.2.1)),(o1.2.1,(o1.2.2.1,(o1.2.2.2.1,(o1.2.2.2.2.1,(o1.2.2.2.2.2.1,(o1.2.2.2.2.2.2.1,(o1.2.2.2.2.2.2.2.1,(o1.2.2.2.2.2.2.2.2.1,(o1.2.2.2.2.2.2.2.2.2.1,(o1.2.2.2.2.2.2.2.2.2.2.1,(o1.2.2.2.2.2.2.2.2.2.2.2.1,(o1.2.2.2.2.2.2.2.2.2.2.2.2.1,(o1.2.2.2.2.2.2.2.2.2.2.2.2.2.1,(o1.2.2.2.2.2.2.2.2.2.2.2.2.2.2.1,(o1.2.2.2.2.2.2.2.2.2.2.2.2.2.2.2.1,(o1.2.2.2.2.2.2.2.2.2.2.2.2.2.2.2.2.1,(o1.2.2.2.2.2.2.2.2.2.2.2.2.2.2.2.2.2.1,o1.2.2.2.2.2.2.2.2.2.2.2.2.2.2.2.2.2.2))))))))))))))))))
      else
       bif (decide (o1.2.2.2.2.2.2.2.2.2.2.2.1<0)) then
        some (true,(o1.2.1,(o1.2.2.1,(o1.2.2.2.1,(o1.2.2.2.2.1,(o1.2.2.2.2.2.1,(o1.2.2.2.2.2.2.1,(o1.2.2.2.2.2.2.2.1,(o1.2.2.2.2.2.2.2.2.1,(o1.2.2.2.2.2.2.2.2.2.1,(o1.2.2.2.2.2.2.2.2.2.2.1,(o1.2.2.2.2.2.2.2.2.2.2.2.1,(o1.2.2.2.2.2.2.2.2.2.2.2.2.1,(o1.2.2.2.2.2.2.2.2.2.2.2.2.2.1,(o1.2.2.2.2.2.2.2.2.2.2.2.2.2.2.1,(o1.2.2.2.2.2.2.2.2.2.2.2.2.2.2.2.1,(o1.2.2.2.2.2.2.2.2.2.2.2.2.2.2.2.2.1,(o1.2.2.2.2.2.2.2.2.2.2.2.2.2.2.2.2.2.1,o1.2.2.2.2.2.2.2.2.2.2.2.2.2.2.2.2.2.2))))))))))))))))))
       else
        some ((decide (o1.2.2.2.2.2.2.2.2.2.2.2.1>o1.2.2.2.2.2.2.2.2.2.2.2.2.2.2.2.2.2.1)),(o1.2.1,(o1.2.2.1,(o1.2.2.2.1,(o1.2.2.2.2.1,(o1.2.2.2.2.2.1,(o1.2.2.2.2.2.2.1,(o1.2.2.2.2.2.2.2.1,(o1.2.2.2.2.2.2.2.2.1,(o1.2.2.2.2.2.2.2.2.2.1,(o1.2.2.2.2.2.2.2.2.2.2.1,(o1.2.2.2.2.2.2.2.2.2.2.2.1,(o1.2.2.2.2.2.2.2.2.2.2.2.2.1,(o1.2.2.2.2.2.2.2.2.2.2.2.2.2.1,(o1.2.2.2.2.2.2.2.2.2.2.2.2.2.2.1,(o1.2.2.2.2.2.2.2.2.2.2.2.2.2.2.2.1,(o1.2.2.2.2.2.2.2.2.2.2.2.2.2.2.2.2.1,(o1.2.2.2.2.2.2.2.2.2.2.2.2.2.2.2.2.2.1,o1.2.2.2.2.2.2.2.2.2.2.2.2.2.2.2.2.2.2))))))))))))))))))) fun o2=>
   bif o2.1 then
    some false
   else
    bif (((o2.2.2.2.2.2.2.2.2.2.2.2.2.1.length:Nat):Int)==0) then
     some true
    else
     bif o2.2.2.2.2.2.2.2.2.2.2.2.2.2.2.2.2.2.2 then
      some (decide (((o2.2.2.2.2.2.2.2.2.2.2.2.2.1.length:Nat):Int)<=4096))
     else
      some false
def cRigCal_fa:FnA:=⟨.two (.reg [(0,{ids:=[100]})]) (.two (.reg [(2,{}),(6,{ids:=[101]})]) (.two (.two (.join ⟨[1,3,22],⟨(.cons (.own 0 100 0 0) (.cons (.own 0 101 0 0) (.cons (.p .bool) .nil))),[(100,false,(.vars qL29)),(101,false,(.vars qL18))]⟩⟩ false [] (.reg [(7,{fn:=1})])) (.two lf lf)) (.two lf (.two lf (.two (.two (.join ⟨[1,3,56],⟨(.cons (.own 0 100 0 0) (.cons (.own 0 101 0 0) (.cons (.p .bool) .nil))),[(100,false,(.vars qL29)),(101,false,(.vars qL18))]⟩⟩ false [] (.reg [(5,{fn:=2}),(13,{fn:=2}),(22,{fn:=3}),(31,{fn:=3})])) (.two lf lf)) (.two (.two (.join ⟨[1,3,86],⟨(.cons (.own 0 100 0 0) (.cons (.own 0 101 0 0) (.cons (.p .bool) .nil))),[(100,false,(.vars qL29)),(101,false,(.vars qL18))]⟩⟩ false [] lf) (.two lf lf)) lf)))))),⟨(.cons (.p qY13) .nil),[]⟩,[⟨(.cons (.p .bool) .nil),[]⟩],[0]⟩
def cRigCal_ft(fu:Nat):FnT:=⟨79,cRigCal_fa.i,cRigCal_fa.os,fun t=>cRigCal fu t⟩
theorem c2Z(fu:Nat):Told Tryz.prog (cRigCal_ft fu):=tk fu cRigCal_fa (aaZ (mRZ fu) (aaZ (iiZ fu) (aaZ (hpZ fu) (aaZ (gHZ fu) abZ)))) Tryz.func79 (by kernel_rfl) fun t=>by kernel_rfl
def srig(fu:Nat)(c:(Int×(Int×(qT20×(List (Int)×(Int×(Int×Int))))))):Option (Bool):=
 Option.bind (α:=qT55) (
  (byte? ((c.2.2.1.2.2.1.toNat:Nat):Int)).bind fun c1=>
  (save_none fu (c.2.2.1.1,(c.2.2.1.2.1,(c1,c.2.2.1.2.2.2)))).bind fun r=>
  bif r then
   bif (((c.2.2.2.1.length:Nat):Int)==0) then
    some ((c.2.2.2.2.1==0),(c.1,(c.2.1,(c.2.2.1.1,(c.2.2.1.2.1,(((c.2.2.1.2.2.1.toNat:Nat):Int),(c.2.2.1.2.2.2.1.1,(c.2.2.1.2.2.2.1.2,(c.2.2.1.2.2.2.2.1,(c.2.2.1.2.2.2.2.2.1.1,(c.2.2.1.2.2.2.2.2.1.2,(c.2.2.1.2.2.2.2.2.2.1,(c.2.2.1.2.2.2.2.2.2.2.1,(c.2.2.1.2.2.2.2.2.2.2.2.1,(c.2.2.1.2.2.2.2.2.2.2.2.2,c.2.2.2)))))))))))))))
   else
    some (false,(c.1,(c.2.1,(c.2.2.1.1,(c.2.2.1.2.1,(((c.2.2.1.2.2.1.toNat:Nat):Int),(c.2.2.1.2.2.2.1.1,(c.2.2.1.2.2.2.1.2,(c.2.2.1.2.2.2.2.1,(c.2.2.1.2.2.2.2.2.1.1,(c.2.2.1.2.2.2.2.2.1.2,(c.2.2.1.2.2.2.2.2.2.1,(c.2.2.1.2.2.2.2.2.2.2.1,(c.2.2.1.2.2.2.2.2.2.2.2.1,(c.2.2.1.2.2.2.2.2.2.2.2.2,c.2.2.2)))))))))))))))
  else
   some (false,(c.1,(c.2.1,(c.2.2.1.1,(c.2.2.1.2.1,(((c.2.2.1.2.2.1.toNat:Nat):Int),(c.2.2.1.2.2.2.1.1,(c.2.2.1.2.2.2.1.2,(c.2.2.1.2.2.2.2.1,(c.2.2.1.2.2.2.2.2.1.1,(c.2.2.1.2.2.2.2.2.1.2,(c.2.2.1.2.2.2.2.2.2.1,(c.2.2.1.2.2.2.2.2.2.2.1,(c.2.2.1.2.2.2.2.2.2.2.2.1,(c.2.2.1.2.2.2.2.2.2.2.2.2,c.2.2.2)))))))))))))))) fun o=>
 Option.bind (α:=qT55) (
  bif (o.2.1==1) then
   some ((o.2.1==1),o.2)
  else
   some ((o.2.1==4),o.2)) fun o1=>
 bif o1.1 then
  bif o.1 then
   bif (o1.2.2.2.2.2.2.2.2.2.2.2.2.2.2.2.2.2.1==0) then
    bif (o1.2.2.2.2.2.2.2.2.2.2.2.2.2.2.2.2.2.2==0) then
     bif (decide (o1.2.2.1>=1)) then
      some (decide (o1.2.2.1<=1099511627776))
     else
      some false
    else
     some false
   else
    some false
  else
   some false
 else
  bif (o.2.1==3) then
   bif o.1 then
    bif (o1.2.2.1==0) then
     (srig1 fu o1.2.2.2.2.2.2.2.2.2.2.2.2.2.2.2.2.2.1).bind fun r1=>
     bif r1 then
      (srig1 fu o1.2.2.2.2.2.2.2.2.2.2.2.2.2.2.2.2.2.2).bind fun r2=>
      some r2
     else
      some false
    else
     some false
   else
    some false
  else
   bif (o.2.1==2) then
    Option.bind (α:=qT55) (
     bif (!(o1.2.2.2.2.2.2.2.2.2.2.2.2.2.2.2.2.2.1==0)) then
      some (true,o1.2)
     else
      bif (!(o1.2.2.2.2.2.2.2.2.2.2.2.2.2.2.2.2.2.2==0)) then
       some (true,o1.2)
      else
       bif (!(o1.2.2.1==0)) then
        some (true,o1.2)
       else
        bif (decide (o1.2.2.2.2.2.2.2.2.2.2.2.2.2.2.2.2.1<0)) then
         some (true,o1.2)
        else
         bif (decide (o1.2.2.2.2.2.2.2.2.2.2.2.2.2.2.2.2.1>1000)) then
          some (true,o1.2)
         else
          bif (!(o1.2.2.2.2.2.2.2.2.2.2.2.2.2.2.2.2.1==0)) then
           some ((decide (((o1.2.2.2.2.2.2.2.2.2.2.2.2.2.2.2.1.length:Nat):Int)>0)),o1.2)
          else
           some (false,o1.2)) fun o2=>
    bif o2.1 then
     some false
    else
     bif (decide (((o2.2.2.2.2.2.2.2.2.2.2.2.2.2.2.2.1.length:Nat):Int)<=4096)) then
      (sConFun9 fu o2.2.2.2.2.2.2.2.2.2.2.2.2.2.2.2.1).bind fun r3=>
      bif (!r3) then
       (byte? o2.2.2.2.2.2.1).bind fun c2=>
       (cRigCal fu (o2.2.2.2.1,(o2.2.2.2.2.1,(c2,((o2.2.2.2.2.2.2.1,o2.2.2.2.2.2.2.2.1),(o2.2.2.2.2.2.2.2.2.1,((o2.2.2.2.2.2.2.2.2.2.1,o2.2.2.2.2.2.2.2.2.2.2.1),(o2.2.2.2.2.2.2.2.2.2.2.2.1,(o2.2.2.2.2.2.2.2.2.2.2.2.2.1,(o2.2.2.2.2.2.2.2.2.2.2.2.2.2.1,o2.2.2.2.2.2.2.2.2.2.2.2.2.2.2.1)))))))))).bind fun r4=>
       some r4
      else
       some false
     else
      some false
   else
    some false
def srig_fa:FnA:=⟨.two (.reg [(0,{ids:=[100]})]) (.two (.join ⟨[1,3],⟨qL41,[(100,false,(.vars qL9))]⟩⟩ false [] (.reg [(2,{})])) (.two lf (.two (.two lf (.one (.two (.two lf (.join ⟨[1,22],⟨qL41,[(100,false,(.vars qL9))]⟩⟩ false [] lf)) (.two lf (.two lf (.two (.two (.reg [(10,{fn:=1}),(16,{fn:=1})]) lf) (.two lf (.two (.two lf (.two (.two (.join ⟨[1,101],⟨qL41,[(100,false,(.vars qL9))]⟩⟩ false [] lf) (.two lf lf)) (.two (.reg [(8,{fn:=2}),(14,{fn:=3})]) lf))) lf)))))))) lf))),⟨(.cons (.p qY43) .nil),[]⟩,[⟨(.cons (.p .bool) .nil),[]⟩],[0]⟩
def srig_ft(fu:Nat):FnT:=⟨24,srig_fa.i,srig_fa.os,fun t=>srig fu t⟩
theorem ePZ(fu:Nat):Told Tryz.prog (srig_ft fu):=tk fu srig_fa (aaZ (fHZ fu) (aaZ (kKZ fu) (aaZ (gVZ fu) (aaZ (c2Z fu) abZ)))) Tryz.func24 (by kernel_rfl) fun t=>by kernel_rfl
def bUinn0_l0(fu:Nat)(n1:Int)(h:List (UInt8)):Option ((Int×List (UInt8))⊕((Int×List (UInt8)))):=
 bif (decide (n1>127)) then
  (byte? (IntKind.wrap .u8 (IntKind.wrap .u64 ((Int.tmod n1 128)+128)))).bind fun c=>
  need ((Nat.ble ((h.length+1)*1) room)&&(Nat.ble (h.length+1) room))<|
  some (.inl ((IntKind.wrap .u64 (Int.tdiv n1 128)),(h++[c])))
 else
  some (.inr (n1,h))
def bUinn0_l0_it(fu:Nat)(tt:(Int×List (UInt8))):Option ((Int×List (UInt8))):=
 iter fu (fun tt=>bUinn0_l0 fu tt.1 tt.2) tt
def bUinn0(fu:Nat)(n:Int):Option (List (UInt8)):=
 (bUinn0_l0_it fu (n,[])).bind fun o=>
 (byte? (IntKind.wrap .u8 o.1)).bind fun c1=>
 need ((Nat.ble ((o.2.length+1)*1) room)&&(Nat.ble (o.2.length+1) room))<|
 some (o.2++[c1])
def bUinn0_fa:FnA:=⟨.two lf (.two (.one (.pre (.ownNil 0 5 100) (.loop ⟨[0,1],⟨(.cons (.slf 1 100) (.cons (.p (.int .u64)) .nil)),[(100,false,(.rows 5 .byte))]⟩⟩ false [(0,⟨[0,1],⟨(.cons (.slf 1 100) (.cons (.p (.int .u64)) .nil)),[(100,false,(.rows 5 .byte))]⟩⟩)] (.two (.two lf lf) (.one (.reg [(5,{ids:=[101]}),(6,{ids:=[102]})])))))) (.two (.reg [(3,{ids:=[103]}),(4,{ids:=[104]})]) lf)),⟨(.cons (.nilp (.slice none 0 0)) (.cons (.p (.int .u64)) .nil)),[]⟩,[⟨(.cons (.slf 1 0) .nil),[(0,false,(.rows 5 .byte))]⟩],[0]⟩
def bUinn0_ft(fu:Nat):FnT:=⟨92,bUinn0_fa.i,bUinn0_fa.os,fun t=>bUinn0 fu t⟩
theorem jqZ(fu:Nat):Told Tryz.prog (bUinn0_ft fu):=tk fu bUinn0_fa abZ Tryz.func92 (by kernel_rfl) fun t=>by kernel_rfl
def bUino0_l0(fu:Nat)(n1:Int)(h1:List (UInt8)):Option ((Int×List (UInt8))⊕((Int×List (UInt8)))):=
 bif (decide (n1>127)) then
  (byte? (IntKind.wrap .u8 (IntKind.wrap .u64 ((Int.tmod n1 128)+128)))).bind fun c=>
  need ((Nat.ble ((h1.length+1)*1) room)&&(Nat.ble (h1.length+1) room))<|
  some (.inl ((IntKind.wrap .u64 (Int.tdiv n1 128)),(h1++[c])))
 else
  some (.inr (n1,h1))
def bUino0_l0_it(fu:Nat)(tt:(Int×List (UInt8))):Option ((Int×List (UInt8))):=
 iter fu (fun tt=>bUino0_l0 fu tt.1 tt.2) tt
def bUino0(fu:Nat)(n:Int)(h:List (UInt8)):Option (List (UInt8)):=
 (bUino0_l0_it fu (n,h)).bind fun o=>
 (byte? (IntKind.wrap .u8 o.1)).bind fun c1=>
 need ((Nat.ble ((o.2.length+1)*1) room)&&(Nat.ble (o.2.length+1) room))<|
 some (o.2++[c1])
def bUino0_fa:FnA:=⟨.two lf (.two (.one (.pre (.renum 0 100) (.loop ⟨[0,1],⟨(.cons (.slf 1 100) (.cons (.p (.int .u64)) .nil)),[(100,false,(.rows 5 .byte))]⟩⟩ false [(0,⟨[0,1],⟨(.cons (.slf 1 100) (.cons (.p (.int .u64)) .nil)),[(100,false,(.rows 5 .byte))]⟩⟩)] (.two (.two lf lf) (.one (.reg [(5,{ids:=[101]}),(6,{ids:=[102]})])))))) (.two (.reg [(3,{ids:=[103]}),(4,{ids:=[104]})]) lf)),⟨(.cons (.slf 1 0) (.cons (.p (.int .u64)) .nil)),[(0,false,(.rows 5 .byte))]⟩,[⟨(.cons (.slf 1 1) .nil),[(1,false,(.rows 5 .byte))]⟩],[0]⟩
def bUino0_ft(fu:Nat):FnT:=⟨92,bUino0_fa.i,bUino0_fa.os,fun t=>bUino0 fu t.1 t.2⟩
theorem b0Z(fu:Nat):Told Tryz.prog (bUino0_ft fu):=tk fu bUino0_fa abZ Tryz.func92 (by kernel_rfl) fun t=>by kernel_rfl
def swriuin2_l0(fu:Nat)(l:List (Int))(x:Int)(h2:List (Int))(h3:Bool)(h4:List (UInt8)):Option ((Int×qT33)⊕(qT33)):=
 bif (decide (x<((l.length:Nat):Int))) then
  (idx? x l.length).bind fun q=>
  (l)[q]?.bind fun r=>
  Option.bind (α:=(qT33)) (
   bif h3 then
    some (h2,(true,h4))
   else
    bif (decide (r<0)) then
     some (h2,(true,h4))
    else
     some (h2,((decide (r>4611686018427387904)),h4))) fun o=>
  (bUino0 fu (IntKind.wrap .u64 r) o.2.2).bind fun r1=>
  some (.inl ((IntKind.wrap .i64 (x+1)),(o.1,(o.2.1,r1))))
 else
  some (.inr (h2,(h3,h4)))
def swriuin2_l0_it(fu:Nat)(l:List (Int))(tt:(Int×qT33)):Option (qT33):=
 iter fu (u4 (swriuin2_l0 fu l)) tt
def swriuin2(fu:Nat)(l:List (Int))(h:List (Int))(h1:Bool):Option (qT33):=
 (swriuin2_l0_it fu l (0,(h,(h1,[])))).bind fun o1=>
 some o1
def swriuin2_fa:FnA:=⟨.two lf (.one (.pre (.ownCell 0 1 5 100) (.loop ⟨[0,8],⟨(.cons (.own 0 0 0 0) qL5),[(0,false,(.vars (.cons (.pt (.int .u32)) (.cons (.slf 1 100) (.cons (.p .bool) .nil))))),(100,false,(.rows 5 .byte))]⟩⟩ false [(0,⟨[0],⟨qL24,[(0,false,(.vars (.cons (.pt (.int .u32)) (.cons (.slf 1 100) (.cons (.p .bool) .nil))))),(100,false,(.rows 5 .byte))]⟩⟩)] (.two lf (.two lf (.two (.one (.two lf (.two (.join ⟨[0],⟨qL24,[(0,false,(.vars (.cons (.pt (.int .u32)) (.cons (.slf 1 100) (.cons (.p .bool) .nil))))),(100,false,(.rows 5 .byte))]⟩⟩ false [] lf) (.reg [(7,{ids:=[101],sh:=[100]})])))) lf)))))),⟨(.cons (.own 0 0 0 0) (.cons (.p (.sl (.int .i64))) .nil)),[(0,false,(.vars (.cons (.pt (.int .u32)) (.cons (.nilp (.slice none 0 0)) (.cons (.p .bool) .nil)))))]⟩,[⟨.nil,[(0,false,(.vars (.cons (.pt (.int .u32)) qL49))),(1,false,(.rows 5 .byte))]⟩],[]⟩
def swriuin2_ft(fu:Nat):FnT:=⟨36,swriuin2_fa.i,swriuin2_fa.os,u3 (swriuin2 fu)⟩
theorem daZ(fu:Nat):Told Tryz.prog (swriuin2_ft fu):=tk fu swriuin2_fa (aaZ (b0Z fu) abZ) Tryz.func36 (by kernel_rfl) fun t=>by kernel_rfl
def swriuin_l0(fu:Nat)(l:List (Int))(x:Int)(h3:List (Int))(h4:Bool)(h5:List (UInt8)):Option ((Int×qT33)⊕(qT33)):=
 bif (decide (x<((l.length:Nat):Int))) then
  (idx? x l.length).bind fun q=>
  (l)[q]?.bind fun r=>
  Option.bind (α:=(qT33)) (
   bif h4 then
    some (h3,(true,h5))
   else
    bif (decide (r<0)) then
     some (h3,(true,h5))
    else
     some (h3,((decide (r>4611686018427387904)),h5))) fun o=>
  (bUino0 fu (IntKind.wrap .u64 r) o.2.2).bind fun r1=>
  some (.inl ((IntKind.wrap .i64 (x+1)),(o.1,(o.2.1,r1))))
 else
  some (.inr (h3,(h4,h5)))
def swriuin_l0_it(fu:Nat)(l:List (Int))(tt:(Int×qT33)):Option (qT33):=
 iter fu (u4 (swriuin_l0 fu l)) tt
def swriuin(fu:Nat)(l:List (Int))(h:List (Int))(h1:Bool)(h2:List (UInt8)):Option (qT33):=
 (swriuin_l0_it fu l (0,(h,(h1,h2)))).bind fun o1=>
 some o1
def swriuin_fa:FnA:=⟨.two lf (.one (.pre (.renum 1 100) (.loop ⟨[0,8],⟨(.cons (.own 0 0 0 0) qL5),[(0,false,(.vars (.cons (.pt (.int .u32)) (.cons (.slf 1 100) (.cons (.p .bool) .nil))))),(100,false,(.rows 5 .byte))]⟩⟩ false [(0,⟨[0],⟨qL24,[(0,false,(.vars (.cons (.pt (.int .u32)) (.cons (.slf 1 100) (.cons (.p .bool) .nil))))),(100,false,(.rows 5 .byte))]⟩⟩)] (.two lf (.two lf (.two (.one (.two lf (.two (.join ⟨[0],⟨qL24,[(0,false,(.vars (.cons (.pt (.int .u32)) (.cons (.slf 1 100) (.cons (.p .bool) .nil))))),(100,false,(.rows 5 .byte))]⟩⟩ false [] lf) (.reg [(7,{ids:=[101],sh:=[100]})])))) lf)))))),⟨(.cons (.own 0 0 0 0) (.cons (.p (.sl (.int .i64))) .nil)),[(0,false,(.vars (.cons (.pt (.int .u32)) qL49))),(1,false,(.rows 5 .byte))]⟩,[⟨.nil,[(0,false,(.vars (.cons (.pt (.int .u32)) (.cons (.slf 1 2) (.cons (.p .bool) .nil))))),(2,false,(.rows 5 .byte))]⟩],[]⟩
def swriuin_ft(fu:Nat):FnT:=⟨36,swriuin_fa.i,swriuin_fa.os,u4 (swriuin fu)⟩
theorem bHZ(fu:Nat):Told Tryz.prog (swriuin_ft fu):=tk fu swriuin_fa (aaZ (b0Z fu) abZ) Tryz.func36 (by kernel_rfl) fun t=>by kernel_rfl
def cuino0_l0(fu:Nat)(l:List (Int))(x:Int)(h1:List (UInt8)):Option ((Int×List (UInt8))⊕(List (UInt8))):=
 bif (decide (x<((l.length:Nat):Int))) then
  (idx? x l.length).bind fun q=>
  (l)[q]?.bind fun r=>
  (bUino0 fu (IntKind.wrap .u64 r) h1).bind fun r1=>
  some (.inl ((IntKind.wrap .i64 (x+1)),r1))
 else
  some (.inr h1)
def cuino0_l0_it(fu:Nat)(l:List (Int))(tt:(Int×List (UInt8))):Option (List (UInt8)):=
 iter fu (fun tt=>cuino0_l0 fu l tt.1 tt.2) tt
def cuino0(fu:Nat)(l:List (Int))(h:List (UInt8)):Option (List (UInt8)):=
 (cuino0_l0_it fu l (0,h)).bind fun o=>
 some o
def cuino0_fa:FnA:=⟨.two lf (.two (.two lf (.one (.pre (.renum 0 100) (.loop ⟨[0,9],⟨(.cons (.slf 1 100) qL5),[(100,false,(.rows 5 .byte))]⟩⟩ false [(0,⟨[0],⟨(.cons (.slf 1 100) .nil),[(100,false,(.rows 5 .byte))]⟩⟩)] (.two lf (.two lf (.two (.one (.two lf (.reg [(3,{ids:=[101],sh:=[100]})]))) lf))))))) lf),⟨(.cons (.slf 1 0) (.cons (.p (.sl (.int .i64))) .nil)),[(0,false,(.rows 5 .byte))]⟩,[⟨(.cons (.slf 1 1) .nil),[(1,false,(.rows 5 .byte))]⟩],[0]⟩
def cuino0_ft(fu:Nat):FnT:=⟨95,cuino0_fa.i,cuino0_fa.os,fun t=>cuino0 fu t.1 t.2⟩
theorem e0Z(fu:Nat):Told Tryz.prog (cuino0_ft fu):=tk fu cuino0_fa (aaZ (b0Z fu) abZ) Tryz.func95 (by kernel_rfl) fun t=>by kernel_rfl
def sGro(fu:Nat)(n:Int):Option (List (UInt8)):=
 bif (decide (n<0)) then
  none
 else
  bif (decide ((IntKind.wrap .i64 (n-0))>0)) then
   (upto? (IntKind.wrap .i64 (n-0)) room).bind fun q=>
   need ((Nat.ble (q*1) room)&&(Nat.ble q room))<|
   (upto? 0 (List.replicate (α:=UInt8) q 0).length).bind fun q1=>
   need (Nat.ble q1 (List.replicate (α:=UInt8) q 0).length)<|
   some (List.take q1 (List.replicate (α:=UInt8) q 0))
  else
   some []
def sGro_fa:FnA:=⟨.two lf (.two (.two lf lf) (.two (.two lf (.two lf (.two (.reg [(5,{ids:=[100]})]) lf))) lf)),⟨(.cons (.nilp (.slice none 0 0)) qL5),[]⟩,[⟨(.cons (.slf 1 0) .nil),[(0,false,(.rows 5 .byte))]⟩],[15]⟩
def sGro_ft(fu:Nat):FnT:=⟨207,sGro_fa.i,sGro_fa.os,fun t=>sGro fu t⟩
theorem lSZ(fu:Nat):Told Tryz.prog (sGro_ft fu):=tk fu sGro_fa abZ Tryz.func207 (by kernel_rfl) fun t=>by kernel_rfl
def sCon_l0(fu:Nat)(slices:List (List (UInt8)))(size:Int)(x:Int):Option ((Int×Int)⊕(Int)):=
 bif (decide (x<((slices.length:Nat):Int))) then
  (idx? x slices.length).bind fun q=>
  (slices)[q]?.bind fun r=>
  bif (decide ((IntKind.wrap .i64 (size+((r.length:Nat):Int)))<0)) then
   none
  else
   some (.inl ((IntKind.wrap .i64 (size+((r.length:Nat):Int))),(IntKind.wrap .i64 (x+1))))
 else
  some (.inr size)
def sCon_l0_it(fu:Nat)(slices:List (List (UInt8)))(tt:(Int×Int)):Option (Int):=
 iter fu (fun tt=>sCon_l0 fu slices tt.1 tt.2) tt
def sCon_l1(fu:Nat)(slices:List (List (UInt8)))(x1:Int)(h:List (UInt8)):Option ((Int×List (UInt8))⊕(List (UInt8))):=
 bif (decide (x1<((slices.length:Nat):Int))) then
  (idx? x1 slices.length).bind fun q1=>
  (slices)[q1]?.bind fun r2=>
  need ((Nat.ble ((h.length+r2.length)*1) room)&&(Nat.ble (h.length+r2.length) room))<|
  some (.inl ((IntKind.wrap .i64 (x1+1)),(h++r2)))
 else
  some (.inr h)
def sCon_l1_it(fu:Nat)(slices:List (List (UInt8)))(tt:(Int×List (UInt8))):Option (List (UInt8)):=
 iter fu (fun tt=>sCon_l1 fu slices tt.1 tt.2) tt
def sCon(fu:Nat)(slices:List (List (UInt8))):Option (List (UInt8)):=
 (sCon_l0_it fu slices (0,0)).bind fun o=>
 (sGro fu o).bind fun r1=>
 (sCon_l1_it fu slices (0,r1)).bind fun o1=>
 some o1
def sCon_fa:FnA:=⟨.two lf (.two lf (.two (.two lf (.one (.loop ⟨[3,11],⟨(.cons (.p (.int .i64)) qL5),[]⟩⟩ false [(0,⟨[3],⟨qL5,[]⟩⟩)] (.two lf (.two lf (.two (.one (.two lf (.two lf (.two lf lf)))) lf)))))) (.two (.reg [(1,{ids:=[100]})]) (.two (.two lf (.one (.loop ⟨[6,27],⟨(.cons (.slf 1 100) qL5),[(100,false,(.rows 5 .byte))]⟩⟩ false [(2,⟨[6],⟨(.cons (.slf 1 100) .nil),[(100,false,(.rows 5 .byte))]⟩⟩)] (.two lf (.two lf (.two (.one (.two lf (.reg [(2,{ids:=[101]})]))) lf)))))) lf)))),⟨(.cons (.p (.sl (.sl .byte))) .nil),[]⟩,[⟨(.cons (.slf 1 0) .nil),[(0,false,(.rows 5 .byte))]⟩],[0]⟩
def sCon_ft(fu:Nat):FnT:=⟨166,sCon_fa.i,sCon_fa.os,fun t=>sCon fu t⟩
theorem lAZ(fu:Nat):Told Tryz.prog (sCon_ft fu):=tk fu sCon_fa (aaZ (lSZ fu) abZ) Tryz.func166 (by kernel_rfl) fun t=>by kernel_rfl
def bBloo0(fu:Nat)(b:List (UInt8))(h:List (UInt8)):Option (List (UInt8)):=
 (bUino0 fu (IntKind.wrap .u64 ((b.length:Nat):Int)) h).bind fun r=>
 (sCon fu [r,b]).bind fun r1=>
 some r1
def bBloo0_fa:FnA:=⟨.two lf (.two (.reg [(4,{ids:=[100],sh:=[0]}),(6,{ids:=[101]}),(7,{ids:=[102],md:=[1],fn:=1})]) lf),⟨(.cons (.slf 1 0) qL47),[(0,false,(.rows 5 .byte))]⟩,[⟨(.cons (.slf 1 1) .nil),[(1,false,(.rows 5 .byte))]⟩],[0]⟩
def bBloo0_ft(fu:Nat):FnT:=⟨93,bBloo0_fa.i,bBloo0_fa.os,fun t=>bBloo0 fu t.1 t.2⟩
theorem cMZ(fu:Nat):Told Tryz.prog (bBloo0_ft fu):=tk fu bBloo0_fa (aaZ (b0Z fu) (aaZ (lAZ fu) abZ)) Tryz.func93 (by kernel_rfl) fun t=>by kernel_rfl
def bytes_Sum_l0(fu:Nat)(b:List (UInt8))(t:List (Int))(s:Int)(x:Int):Option ((Int×Int)⊕(Int)):=
 bif (decide (x<((b.length:Nat):Int))) then
  (idx? x b.length).bind fun q=>
  (b)[q]?.bind fun r=>
  (idx? (bitsI .xor .u8 (IntKind.wrap .u8 s) ((r.toNat:Nat):Int)) 256).bind fun q1=>
  (t)[q1]?.bind fun r1=>
  some (.inl ((bitsI .xor .u32 r1 (Int.fdiv s 256)),(IntKind.wrap .i64 (x+1))))
 else
  some (.inr s)
def bytes_Sum_l0_it(fu:Nat)(b:List (UInt8))(t:List (Int))(tt:(Int×Int)):Option (Int):=
 iter fu (fun tt=>bytes_Sum_l0 fu b t tt.1 tt.2) tt
def bytes_Sum(fu:Nat)(t:List (Int))(b:List (UInt8)):Option (Int):=
 (bytes_Sum_l0_it fu b t (4294967295,0)).bind fun o=>
 some (IntKind.wrap .u32 (4294967295-o))
def bytes_Sum_fa:FnA:=⟨.two lf (.two (.two lf lf) (.two lf (.two (.two lf (.one (.loop ⟨[5,11],⟨(.cons (.p (.int .u32)) qL5),[]⟩⟩ false [(0,⟨[5],⟨(.cons (.p (.int .u32)) .nil),[]⟩⟩)] (.two lf (.two lf (.two (.one lf) lf)))))) lf))),⟨(.cons (.pt (.int .u32)) qL47),[]⟩,[⟨(.cons (.p (.int .u32)) .nil),[]⟩],[0]⟩
def bytes_Sum_ft(fu:Nat):FnT:=⟨167,bytes_Sum_fa.i,bytes_Sum_fa.os,fun t=>bytes_Sum fu t.1 t.2⟩
theorem fPZ(fu:Nat):Told Tryz.prog (bytes_Sum_ft fu):=tk fu bytes_Sum_fa abZ Tryz.func167 (by kernel_rfl) fun t=>by kernel_rfl
def bSea_l0(fu:Nat)(b:List (UInt8))(r:Int)(x:Int)(h:List (UInt8)):Option ((Int×List (UInt8))⊕(List (UInt8))):=
 bif (decide (x<4)) then
  need (decide (0<=(IntKind.wrap .i64 (8*x))))<|
  (idx? (IntKind.wrap .i64 ((IntKind.wrap .i64 ((IntKind.wrap .i64 (((b.length:Nat):Int)+4))-1))-x)) h.length).bind fun q1=>
  (byte? (IntKind.wrap .u8 (Int.fdiv r (2^(min ((IntKind.wrap .i64 (8*x))).toNat 32))))).bind fun c=>
  (h)[q1]?.bind fun r1=>
  some (.inl ((IntKind.wrap .i64 (x+1)),(List.set h q1 c)))
 else
  some (.inr h)
def bSea_l0_it(fu:Nat)(b:List (UInt8))(r:Int)(tt:(Int×List (UInt8))):Option (List (UInt8)):=
 iter fu (fun tt=>bSea_l0 fu b r tt.1 tt.2) tt
def bSea(fu:Nat)(t:List (Int))(b:List (UInt8)):Option (List (UInt8)):=
 (upto? (IntKind.wrap .i64 (((b.length:Nat):Int)+4)) room).bind fun m=>
 (upto? (IntKind.wrap .i64 (((b.length:Nat):Int)+4)) m).bind fun q=>
 need (Nat.ble (m*1) room)<|
 (bytes_Sum fu t b).bind fun r=>
 (bSea_l0_it fu b r (0,(List.replicate (α:=UInt8) q 0))).bind fun o=>
 some (splice o 0 (List.take o.length b))
def bSea_fa:FnA:=⟨.two lf (.two (.reg [(3,{ids:=[100]})]) (.two (.reg [(2,{})]) (.two (.two lf (.one (.loop ⟨[5,15],⟨(.cons (.slf 1 100) qL5),[(100,false,(.rows 5 .byte))]⟩⟩ false [(0,⟨[5],⟨(.cons (.slf 1 100) .nil),[(100,false,(.rows 5 .byte))]⟩⟩)] (.two lf (.two lf (.two (.one lf) lf)))))) (.two lf lf)))),⟨(.cons (.pt (.int .u32)) qL47),[]⟩,[⟨(.cons (.slf 1 0) .nil),[(0,false,(.rows 5 .byte))]⟩],[0]⟩
def bSea_ft(fu:Nat):FnT:=⟨97,bSea_fa.i,bSea_fa.os,fun t=>bSea fu t.1 t.2⟩
theorem eTZ(fu:Nat):Told Tryz.prog (bSea_ft fu):=tk fu bSea_fa (aaZ (fPZ fu) abZ) Tryz.func97 (by kernel_rfl) fun t=>by kernel_rfl
def cPutCal_l0(fu:Nat)(c:qT20)(x:Int)(h:List (UInt8)):Option ((Int×List (UInt8))⊕(List (UInt8))):=
 bif (decide (x<3)) then
  (idx? x 3).bind fun q=>
  ([c.2.2.2.2.1,c.2.2.2.2.2.2.1,c.2.2.2.2.2.2.2.2.2])[q]?.bind fun x1=>
  (bBloo0 fu x1 h).bind fun r2=>
  some (.inl ((IntKind.wrap .i64 (x+1)),r2))
 else
  some (.inr h)
def cPutCal_l0_it(fu:Nat)(c:qT20)(tt:(Int×List (UInt8))):Option (List (UInt8)):=
 iter fu (fun tt=>cPutCal_l0 fu c tt.1 tt.2) tt
def cPutCal(fu:Nat)(t:List (Int))(c:qT20):Option ((Int×List (UInt8))):=
 (byte? ((c.2.2.1.toNat:Nat):Int)).bind fun c1=>
 (cRigCal fu (c.1,(c.2.1,(c1,((c.2.2.2.1.1,c.2.2.2.1.2),(c.2.2.2.2.1,((c.2.2.2.2.2.1.1,c.2.2.2.2.2.1.2),(c.2.2.2.2.2.2.1,(c.2.2.2.2.2.2.2.1,(c.2.2.2.2.2.2.2.2.1,c.2.2.2.2.2.2.2.2.2)))))))))).bind fun r=>
 bif (!r) then
  some (179,[])
 else
  (cuino0 fu [c.1,c.2.1,(IntKind.wrap .i64 ((c.2.2.1.toNat:Nat):Int)),c.2.2.2.1.1,c.2.2.2.1.2,c.2.2.2.2.2.1.1,c.2.2.2.2.2.1.2,c.2.2.2.2.2.2.2.1,c.2.2.2.2.2.2.2.2.1] [(UInt8.ofNat 3)]).bind fun r1=>
  need (Nat.ble c.2.2.2.2.1.length room)<|
  need (Nat.ble c.2.2.2.2.2.2.1.length room)<|
  (cPutCal_l0_it fu c (0,r1)).bind fun o=>
  (bSea fu t o).bind fun r3=>
  some (0,r3)
def cPutCal_fa:FnA:=⟨.two (.reg [(0,{ids:=[100]})]) (.two (.two (.reg [(1,{})]) (.two lf lf)) (.two (.reg [(0,{ids:=[101]}),(24,{ids:=[102]}),(25,{ids:=[103],sh:=[101],md:=[0,1],fn:=1})]) (.two (.two (.reg [(2,{ids:=[104]}),(5,{ids:=[105]})]) (.one (.pre (.pure 46) (.loop ⟨[6,47],⟨(.cons (.slf 1 103) qL5),[(103,false,(.rows 5 .byte))]⟩⟩ false [(0,⟨[6],⟨(.cons (.slf 1 103) .nil),[(103,false,(.rows 5 .byte))]⟩⟩)] (.two lf (.two lf (.two (.one (.two lf (.reg [(2,{ids:=[106],sh:=[103],fn:=2})]))) lf))))))) (.two (.reg [(2,{ids:=[107],md:=[0,1],fn:=3})]) lf)))),⟨(.cons (.pt (.int .u32)) (.cons (.p qY13) .nil)),[]⟩,[⟨(.cons (.slf 1 0) qL5),[(0,false,(.rows 5 .byte))]⟩],[15,0]⟩
def cPutCal_ft(fu:Nat):FnT:=⟨53,cPutCal_fa.i,cPutCal_fa.os,fun t=>cPutCal fu t.1 t.2⟩
theorem iCZ(fu:Nat):Told Tryz.prog (cPutCal_ft fu):=tk fu cPutCal_fa (aaZ (c2Z fu) (aaZ (e0Z fu) (aaZ (cMZ fu) (aaZ (eTZ fu) abZ)))) Tryz.func53 (by kernel_rfl) fun t=>by kernel_rfl
def swriblo(fu:Nat)(b:List (UInt8))(bad:Int)(h:List (Int))(h1:Bool)(h2:List (UInt8)):Option (qT33):=
 Option.bind (α:=(qT33)) (
  bif h1 then
   some (h,(true,h2))
  else
   some (h,((!(bad==0)),h2))) fun o=>
 (bBloo0 fu b o.2.2).bind fun r=>
 some (o.1,(o.2.1,r))
def swriblo_fa:FnA:=⟨.two (.join ⟨[0],⟨qL24,[(0,false,(.vars (.cons (.pt (.int .u32)) qL49))),(1,false,(.rows 5 .byte))]⟩⟩ false [] lf) (.reg [(6,{ids:=[100],sh:=[1]})]),⟨(.cons (.own 0 0 0 0) (.cons (.p (.sl .byte)) qL5)),[(0,false,(.vars (.cons (.pt (.int .u32)) qL49))),(1,false,(.rows 5 .byte))]⟩,[⟨.nil,[(0,false,(.vars (.cons (.pt (.int .u32)) (.cons (.slf 1 2) (.cons (.p .bool) .nil))))),(2,false,(.rows 5 .byte))]⟩],[]⟩
def swriblo_ft(fu:Nat):FnT:=⟨38,swriblo_fa.i,swriblo_fa.os,u5 (swriblo fu)⟩
theorem czZ(fu:Nat):Told Tryz.prog (swriblo_ft fu):=tk fu swriblo_fa (aaZ (cMZ fu) abZ) Tryz.func38 (by kernel_rfl) fun t=>by kernel_rfl
def swridon(fu:Nat)(h:List (Int))(h1:Bool)(h2:List (UInt8)):Option ((Int×qT33)⊕(List (UInt8)×(Int×qT33))):=
 bif h1 then
  some (.inl (2,(h,(h1,h2))))
 else
  some (.inr (h2,(0,(h,(h1,h2)))))
def swridon_fa:FnA:=⟨.two lf (.two (.two lf (.two lf lf)) lf),⟨qL24,[(0,false,(.vars (.cons (.pt (.int .u32)) qL49))),(1,false,(.rows 5 .byte))]⟩,[⟨(.cons (.nilp (.slice none 0 0)) qL5),[(0,false,(.vars (.cons (.pt (.int .u32)) qL49))),(1,false,(.rows 5 .byte))]⟩,⟨(.cons (.p (.sl .byte)) qL5),[(0,false,(.vars (.cons (.pt (.int .u32)) qL49))),(1,true,(.rows 5 .byte))]⟩],[1,0]⟩
def swridon_ft(fu:Nat):FnT:=⟨42,swridon_fa.i,swridon_fa.os,u3 (swridon fu)⟩
theorem dPZ(fu:Nat):Told Tryz.prog (swridon_ft fu):=tk fu swridon_fa abZ Tryz.func42 (by kernel_rfl) fun t=>by kernel_rfl
def sPutCha(fu:Nat)(t:List (Int))(c:(Int×(Int×(qT20×(List (Int)×(Int×(Int×Int))))))):Option ((List (UInt8)×Int)):=
 (byte? ((c.2.2.1.2.2.1.toNat:Nat):Int)).bind fun c1=>
 (srig fu (c.1,(c.2.1,((c.2.2.1.1,(c.2.2.1.2.1,(c1,c.2.2.1.2.2.2))),c.2.2.2)))).bind fun r=>
 bif (!r) then
  some ([],2)
 else
  (swriuin2 fu [c.1,c.2.1,c.2.2.2.2.1,c.2.2.2.2.2.1,c.2.2.2.2.2.2,((c.2.2.2.1.length:Nat):Int)] t false).bind fun r1=>
  (swriuin fu c.2.2.2.1 r1.1 r1.2.1 r1.2.2).bind fun r2=>
  Option.bind (α:=(qT33)) (
   bif (c.1==2) then
    (byte? ((c.2.2.1.2.2.1.toNat:Nat):Int)).bind fun c2=>
    (cPutCal fu t (c.2.2.1.1,(c.2.2.1.2.1,(c2,c.2.2.1.2.2.2)))).bind fun r3=>
    (swriblo fu r3.2 r3.1 r2.1 r2.2.1 r2.2.2).bind fun r4=>
    some r4
   else
    some r2) fun o=>
  (swridon fu o.1 o.2.1 o.2.2).bind fun r5=>
  match r5 with
  |.inl r6=>
   some ([],r6.1)
  |.inr r7=>
   some (r7.1,r7.2.1)
def sPutCha_fa:FnA:=⟨.two (.reg [(0,{ids:=[100]})]) (.two (.two (.reg [(1,{})]) (.two lf lf)) (.two (.reg [(2,{ids:=[101]})]) (.two (.reg [(14,{ids:=[102]}),(15,{ids:=[103],sh:=[101],md:=[0,1],fn:=1})]) (.two (.reg [(3,{ids:=[104],sh:=[101,103],fn:=2})]) (.two (.two lf (.join ⟨[6],⟨(.cons (.own 0 101 0 0) .nil),[(101,false,(.vars (.cons (.pt (.int .u32)) (.cons (.slf 1 106) (.cons (.p .bool) .nil))))),(106,false,(.rows 5 .byte))]⟩⟩ false [] (.two (.reg [(4,{ids:=[105],fn:=3}),(7,{ids:=[106],sh:=[101,104],md:=[0,1,0],fn:=4})]) lf))) (.two (.reg [(1,{sh:=[101,106],fn:=5})]) lf)))))),⟨(.cons (.pt (.int .u32)) (.cons (.p qY43) .nil)),[]⟩,[⟨(.cons (.p (.sl .byte)) qL5),[]⟩],[0,0]⟩
def sPutCha_ft(fu:Nat):FnT:=⟨16,sPutCha_fa.i,sPutCha_fa.os,fun t=>sPutCha fu t.1 t.2⟩
theorem dQZ(fu:Nat):Told Tryz.prog (sPutCha_ft fu):=tk fu sPutCha_fa (aaZ (ePZ fu) (aaZ (daZ fu) (aaZ (bHZ fu) (aaZ (iCZ fu) (aaZ (czZ fu) (aaZ (dPZ fu) abZ)))))) Tryz.func16 (by kernel_rfl) fun t=>by kernel_rfl
def rNew(fu:Nat)(window:Int):Option ((Int×Int)):=
 Option.bind (α:=((Bool×Int))) (
  bif (decide (window<1)) then
   some (true,0)
  else
   some ((decide (window>100)),0)) fun o=>
 bif o.1 then
  some (0,2)
 else
  some (window,0)
def rNew_fa:FnA:=⟨.two (.reg [(0,{ids:=[100]})]) (.two (.two (.join ⟨[2,9],⟨qL41,[(100,false,(.vars (.cons (.p (.int .i64)) (.cons (.nilp (.slice none 0 0)) .nil))))]⟩⟩ false [] lf) (.two lf lf)) lf),⟨qL5,[]⟩,[⟨(.cons (.agg (.cons (.p (.int .i64)) (.cons (.nilp (.slice none 0 0)) .nil))) qL5),[]⟩],[0,0]⟩
def rNew_ft(fu:Nat):FnT:=⟨18,rNew_fa.i,rNew_fa.os,fun t=>rNew fu t⟩
theorem mWZ(fu:Nat):Told Tryz.prog (rNew_ft fu):=tk fu rNew_fa abZ Tryz.func18 (by kernel_rfl) fun t=>by kernel_rfl
def sInd_l0(fu:Nat)(s:List (Int))(v:Int)(x:Int):Option (Int⊕(Unit⊕Int)):=
 bif (decide (x<((s.length:Nat):Int))) then
  (idx? x s.length).bind fun q=>
  (s)[q]?.bind fun r=>
  bif (v==r) then
   some (.inr (.inr x))
  else
   some (.inl (IntKind.wrap .i64 (x+1)))
 else
  some (.inr (.inl ()))
def sInd_l0_it(fu:Nat)(s:List (Int))(v:Int)(tt:Int):Option (Unit⊕Int):=
 iter fu (fun tt=>sInd_l0 fu s v tt) tt
def sInd(fu:Nat)(s:List (Int))(v:Int):Option (Int):=
 (sInd_l0_it fu s v 0).bind fun o=>
 match o with
 |.inl s1=>
  some (-1)
 |.inr o1=>
  some o1
def sInd_fa:FnA:=⟨.two lf (.two (.two lf (.one (.loop ⟨[8],⟨qL5,[]⟩⟩ true [(0,⟨[],⟨.nil,[]⟩⟩)] (.two lf (.two lf (.two (.one (.two lf (.two lf (.two lf lf)))) lf)))))) lf),⟨(.cons (.p (.sl (.int .i64))) qL5),[]⟩,[⟨qL5,[]⟩],[0]⟩
def sInd_ft(fu:Nat):FnT:=⟨170,sInd_fa.i,sInd_fa.os,fun t=>sInd fu t.1 t.2⟩
theorem hFZ(fu:Nat):Told Tryz.prog (sInd_ft fu):=tk fu sInd_fa abZ Tryz.func170 (by kernel_rfl) fun t=>by kernel_rfl
def sCon2(fu:Nat)(s:List (Int))(v:Int):Option (Bool):=
 (sInd fu s v).bind fun r=>
 some (decide (r>=0))
def sCon2_fa:FnA:=⟨.two lf (.two (.reg [(2,{})]) lf),⟨(.cons (.p (.sl (.int .i64))) qL5),[]⟩,[⟨(.cons (.p .bool) .nil),[]⟩],[0]⟩
def sCon2_ft(fu:Nat):FnT:=⟨114,sCon2_fa.i,sCon2_fa.os,fun t=>sCon2 fu t.1 t.2⟩
theorem k0Z(fu:Nat):Told Tryz.prog (sCon2_ft fu):=tk fu sCon2_fa (aaZ (hFZ fu) abZ) Tryz.func114 (by kernel_rfl) fun t=>by kernel_rfl
def pRig_l0(fu:Nat)(o:(Bool×(Int×List (Int))))(nodes:Int)(x:Int)(h:Int)(h1:List (Int)):Option ((Int×(Int×List (Int)))⊕(Unit⊕Bool)):=
 bif (decide (x<((o.2.2.length:Nat):Int))) then
  (idx? x o.2.2.length).bind fun q=>
  (o.2.2)[q]?.bind fun r=>
  Option.bind (α:=((Bool×(Int×List (Int))))) (
   bif (decide (r<0)) then
    some (true,(h,h1))
   else
    bif (decide (r>=nodes)) then
     some (true,(h,h1))
    else
     (upto? x h1.length).bind fun q1=>
     (sCon2 fu (List.take q1 h1) r).bind fun r1=>
     some (r1,(h,h1))) fun o1=>
  bif o1.1 then
   some (.inr (.inr false))
  else
   some (.inl ((IntKind.wrap .i64 (x+1)),o1.2))
 else
  some (.inr (.inl ()))
def pRig_l0_it(fu:Nat)(o:(Bool×(Int×List (Int))))(nodes:Int)(tt:(Int×(Int×List (Int)))):Option (Unit⊕Bool):=
 iter fu (fun tt=>pRig_l0 fu o nodes tt.1 tt.2.1 tt.2.2) tt
def pRig(fu:Nat)(p:(Int×List (Int)))(nodes:Int):Option (Bool):=
 Option.bind (α:=((Bool×(Int×List (Int))))) (
  bif (decide (nodes<1)) then
   some (true,p)
  else
   bif (decide (nodes>256)) then
    some (true,p)
   else
    bif (decide (p.1<1)) then
     some (true,p)
    else
     bif (decide (p.1>1099511627776)) then
      some (true,p)
     else
      bif (decide (((p.2.length:Nat):Int)<1)) then
       some (true,p)
      else
       some ((decide (((p.2.length:Nat):Int)>255)),p)) fun o=>
 bif o.1 then
  some false
 else
  (pRig_l0_it fu o nodes (0,o.2)).bind fun o2=>
  match o2 with
  |.inl s=>
   some true
  |.inr o3=>
   some o3
def pRig_fa:FnA:=⟨.two (.reg [(0,{ids:=[100]})]) (.two (.two (.join ⟨[2,34],⟨qL41,[(100,false,(.vars (.cons (.p (.int .i64)) (.cons (.p (.sl (.int .i64))) .nil))))]⟩⟩ false [] lf) (.two lf lf)) (.two (.two lf (.one (.loop ⟨[2,38],⟨(.cons (.own 0 100 0 0) qL5),[(100,false,(.vars (.cons (.p (.int .i64)) (.cons (.p (.sl (.int .i64))) .nil))))]⟩⟩ true [(0,⟨[],⟨.nil,[]⟩⟩)] (.two lf (.two lf (.two (.one (.two lf (.two (.join ⟨[2,57],⟨qL41,[(100,false,(.vars (.cons (.p (.int .i64)) (.cons (.p (.sl (.int .i64))) .nil))))]⟩⟩ false [] (.reg [(13,{})])) (.two lf lf)))) lf)))))) lf)),⟨(.cons (.p qY22) qL5),[]⟩,[⟨(.cons (.p .bool) .nil),[]⟩],[0]⟩
def pRig_ft(fu:Nat):FnT:=⟨58,pRig_fa.i,pRig_fa.os,fun t=>pRig fu t.1 t.2⟩
theorem hWZ(fu:Nat):Told Tryz.prog (pRig_ft fu):=tk fu pRig_fa (aaZ (k0Z fu) abZ) Tryz.func58 (by kernel_rfl) fun t=>by kernel_rfl
def spla1(fu:Nat)(p:(Int×List (Int))):Option (Bool):=
 (pRig fu p 256).bind fun r=>
 some (!r)
def spla1_fa:FnA:=⟨.two (.reg [(0,{ids:=[100]})]) (.two (.reg [(1,{})]) lf),⟨(.cons (.p qY22) .nil),[]⟩,[⟨(.cons (.p .bool) .nil),[]⟩],[0]⟩
def spla1_ft(fu:Nat):FnT:=⟨57,spla1_fa.i,spla1_fa.os,fun t=>spla1 fu t⟩
theorem leZ(fu:Nat):Told Tryz.prog (spla1_ft fu):=tk fu spla1_fa (aaZ (hWZ fu) abZ) Tryz.func57 (by kernel_rfl) fun t=>by kernel_rfl
def sIndFun5_l0(fu:Nat)(s:List ((Int×List (Int))))(x:Int):Option (Int⊕(Unit⊕Int)):=
 bif (decide (x<((s.length:Nat):Int))) then
  (idx? x s.length).bind fun q=>
  (s)[q]?.bind fun r=>
  (spla1 fu r).bind fun r1=>
  bif r1 then
   some (.inr (.inr x))
  else
   some (.inl (IntKind.wrap .i64 (x+1)))
 else
  some (.inr (.inl ()))
def sIndFun5_l0_it(fu:Nat)(s:List ((Int×List (Int))))(tt:Int):Option (Unit⊕Int):=
 iter fu (fun tt=>sIndFun5_l0 fu s tt) tt
def sIndFun5(fu:Nat)(s:List ((Int×List (Int)))):Option (Int):=
 (sIndFun5_l0_it fu s 0).bind fun o=>
 match o with
 |.inl s1=>
  some (-1)
 |.inr o1=>
  some o1
def sIndFun5_fa:FnA:=⟨.two lf (.two (.two lf (.one (.loop ⟨[8],⟨qL5,[]⟩⟩ true [(0,⟨[],⟨.nil,[]⟩⟩)] (.two lf (.two lf (.two (.one (.two lf (.two (.reg [(5,{})]) (.two lf lf)))) lf)))))) lf),⟨(.cons (.p (.sl qY22)) (.cons (.fn 57 .nil .nil) .nil)),[]⟩,[⟨qL5,[]⟩],[0]⟩
def sIndFun5_ft(fu:Nat):FnT:=⟨115,sIndFun5_fa.i,sIndFun5_fa.os,fun t=>sIndFun5 fu t⟩
theorem heZ(fu:Nat):Told Tryz.prog (sIndFun5_ft fu):=tk fu sIndFun5_fa (aaZ (leZ fu) abZ) Tryz.func115 (by kernel_rfl) fun t=>by kernel_rfl
def sConFun6(fu:Nat)(s:List ((Int×List (Int)))):Option (Bool):=
 (sIndFun5 fu s).bind fun r=>
 some (decide (r>=0))
def sConFun6_fa:FnA:=⟨.two lf (.two (.reg [(2,{})]) lf),⟨(.cons (.p (.sl qY22)) (.cons (.fn 57 .nil .nil) .nil)),[]⟩,[⟨(.cons (.p .bool) .nil),[]⟩],[0]⟩
def sConFun6_ft(fu:Nat):FnT:=⟨59,sConFun6_fa.i,sConFun6_fa.os,fun t=>sConFun6 fu t⟩
theorem hhZ(fu:Nat):Told Tryz.prog (sConFun6_ft fu):=tk fu sConFun6_fa (aaZ (heZ fu) abZ) Tryz.func59 (by kernel_rfl) fun t=>by kernel_rfl
def spla(fu:Nat)(l:List ((Int×List (Int)))):Option (Bool):=
 bif (decide (((l.length:Nat):Int)>=1)) then
  bif (decide (((l.length:Nat):Int)<=1000)) then
   (sConFun6 fu l).bind fun r=>
   some (!r)
  else
   some false
 else
  some false
def spla_fa:FnA:=⟨.two lf (.two lf (.two (.reg [(11,{})]) lf)),⟨(.cons (.p (.sl qY22)) .nil),[]⟩,[⟨(.cons (.p .bool) .nil),[]⟩],[0]⟩
def spla_ft(fu:Nat):FnT:=⟨19,spla_fa.i,spla_fa.os,fun t=>spla fu t⟩
theorem iaZ(fu:Nat):Told Tryz.prog (spla_ft fu):=tk fu spla_fa (aaZ (hhZ fu) abZ) Tryz.func19 (by kernel_rfl) fun t=>by kernel_rfl
def inode_New(fu:Nat):Option ((Int×List (qT0))):=
 some (0,[(1,(1,(true,(true,(0,([],(1,[])))))))])
def inode_New_fa:FnA:=⟨.two (.reg [(0,{ids:=[100]})]) (.two (.reg [(1,{ids:=[101]})]) lf),⟨.nil,[]⟩,[⟨(.cons (.agg (.cons (.slf 8 0) qL5)) .nil),[(0,false,(.rows 93 qY3))]⟩],[0]⟩
def inode_New_ft(fu:Nat):FnT:=⟨68,inode_New_fa.i,inode_New_fa.os,fun t=>inode_New fu⟩
theorem f4Z(fu:Nat):Told Tryz.prog (inode_New_ft fu):=tk fu inode_New_fa abZ Tryz.func68 (by kernel_rfl) fun t=>by kernel_rfl
def model_New(fu:Nat):Option ((Int×(List (qT0)×List (List (UInt8))))):=
 (inode_New fu).bind fun r=>
 some (r.1,(r.2,(List.replicate (α:=List (UInt8)) 1 [])))
def model_New_fa:FnA:=⟨.two (.reg [(0,{ids:=[100]})]) (.two (.reg [(0,{ids:=[101]}),(1,{ids:=[102]})]) lf),⟨.nil,[]⟩,[⟨(.cons (.agg (.cons (.slf 8 0) (.cons (.p (.int .i64)) (.cons (.slf 1 1) .nil)))) .nil),[(0,false,(.rows 93 qY3)),(1,false,(.rows 40 (.sl .byte)))]⟩],[0]⟩
def model_New_ft(fu:Nat):FnT:=⟨21,model_New_fa.i,model_New_fa.os,fun t=>model_New fu⟩
theorem f8Z(fu:Nat):Told Tryz.prog (model_New_ft fu):=tk fu model_New_fa (aaZ (f4Z fu) abZ) Tryz.func21 (by kernel_rfl) fun t=>by kernel_rfl
def sClo4(fu:Nat)(s:List (qT0)):Option (List (qT0)):=
 nilQ s.length fun isNil=>
 bif isNil then
  some []
 else
  need ((Nat.ble ((0+s.length)*88) room)&&(Nat.ble (0+s.length) room))<|
  some s
def sClo4_fa:FnA:=⟨.two lf (.two (.two lf (.two lf lf)) (.two (.reg [(0,{ids:=[100]}),(2,{ids:=[101]})]) lf)),⟨(.cons (.p (.sl qY3)) .nil),[]⟩,[⟨(.cons (.slf 8 0) .nil),[(0,false,(.rows 93 qY3))]⟩],[103]⟩
def sClo4_ft(fu:Nat):FnT:=⟨116,sClo4_fa.i,sClo4_fa.os,fun t=>sClo4 fu t⟩
theorem kwZ(fu:Nat):Told Tryz.prog (sClo4_ft fu):=tk fu sClo4_fa abZ Tryz.func116 (by kernel_rfl) fun t=>by kernel_rfl
def sClo(fu:Nat)(s:List ((Int×Int))):Option (List ((Int×Int))):=
 nilQ s.length fun isNil=>
 bif isNil then
  some []
 else
  need ((Nat.ble ((0+s.length)*16) room)&&(Nat.ble (0+s.length) room))<|
  some s
def sClo_fa:FnA:=⟨.two lf (.two (.two lf (.two lf lf)) (.two (.reg [(0,{ids:=[100]}),(2,{ids:=[101]})]) lf)),⟨(.cons (.p (.sl qY34)) .nil),[]⟩,[⟨(.cons (.slf 2 0) .nil),[(0,false,(.rows 145 qY34))]⟩],[155]⟩
def sClo_ft(fu:Nat):FnT:=⟨67,sClo_fa.i,sClo_fa.os,fun t=>sClo fu t⟩
theorem hYZ(fu:Nat):Told Tryz.prog (sClo_ft fu):=tk fu sClo_fa abZ Tryz.func67 (by kernel_rfl) fun t=>by kernel_rfl
def sClo3(fu:Nat)(s:List ((List UInt8×Int))):Option (List ((List UInt8×Int))):=
 nilQ s.length fun isNil=>
 bif isNil then
  some []
 else
  need ((Nat.ble ((0+s.length)*24) room)&&(Nat.ble (0+s.length) room))<|
  some s
def sClo3_fa:FnA:=⟨.two lf (.two (.two lf (.two lf lf)) (.two (.reg [(0,{ids:=[100]}),(2,{ids:=[101]})]) lf)),⟨(.cons (.p (.sl (.pair .str (.int .i64)))) .nil),[]⟩,[⟨(.cons (.slf 2 0) .nil),[(0,false,(.rows 142 (.pair .str (.int .i64))))]⟩],[152]⟩
def sClo3_ft(fu:Nat):FnT:=⟨66,sClo3_fa.i,sClo3_fa.os,fun t=>sClo3 fu t⟩
theorem kEZ(fu:Nat):Told Tryz.prog (sClo3_ft fu):=tk fu sClo3_fa abZ Tryz.func66 (by kernel_rfl) fun t=>by kernel_rfl
def scop_l0(fu:Nat)(r:List (qT0))(x:Int)(h:Int)(h1:List (qT0))(h2:Int):Option ((Int×(Int×(List (qT0)×Int)))⊕((Int×(List (qT0)×Int)))):=
 bif (decide (x<((r.length:Nat):Int))) then
  (idx? x h1.length).bind fun q=>
  (h1)[q]?.bind fun r1=>
  (sClo fu r1.2.2.2.2.2.1).bind fun r2=>
  (idx? x h1.length).bind fun q1=>
  (h1)[q1]?.bind fun r3=>
  (sClo3 fu r3.2.2.2.2.2.2.2).bind fun r4=>
  (idx? x h1.length).bind fun q2=>
  (h1)[q2]?.bind fun r5=>
  (idx? x (List.set h1 q2 (r5.1,(r5.2.1,(r5.2.2.1,(r5.2.2.2.1,(r5.2.2.2.2.1,(r2,r5.2.2.2.2.2.2))))))).length).bind fun q3=>
  ((List.set h1 q2 (r5.1,(r5.2.1,(r5.2.2.1,(r5.2.2.2.1,(r5.2.2.2.2.1,(r2,r5.2.2.2.2.2.2))))))))[q3]?.bind fun r6=>
  some (.inl ((IntKind.wrap .i64 (x+1)),(h,((List.set (List.set h1 q2 (r5.1,(r5.2.1,(r5.2.2.1,(r5.2.2.2.1,(r5.2.2.2.2.1,(r2,r5.2.2.2.2.2.2))))))) q3 (r6.1,(r6.2.1,(r6.2.2.1,(r6.2.2.2.1,(r6.2.2.2.2.1,(r6.2.2.2.2.2.1,(r6.2.2.2.2.2.2.1,r4)))))))),h2))))
 else
  some (.inr (h,(h1,h2)))
def scop_l0_it(fu:Nat)(r:List (qT0))(tt:(Int×(Int×(List (qT0)×Int)))):Option ((Int×(List (qT0)×Int))):=
 iter fu (fun tt=>scop_l0 fu r tt.1 tt.2.1 tt.2.2.1 tt.2.2.2) tt
def scop(fu:Nat)(t:(List (qT0)×Int)):Option ((Int×List (qT0))):=
 (sClo4 fu t.1).bind fun r=>
 (scop_l0_it fu r (0,(t.2,(r,0)))).bind fun o=>
 some (o.1,o.2.1)
def scop_fa:FnA:=⟨.two (.reg [(0,{ids:=[100]}),(1,{ids:=[101]})]) (.two (.reg [(2,{ids:=[102]})]) (.two (.two lf (.one (.loop ⟨[1,2,11],⟨(.cons (.own 0 100 0 0) (.cons (.own 0 101 0 0) qL5)),[(100,false,(.vars (.cons (.slf 8 102) qL5))),(102,false,(.rows 93 qY3)),(101,false,(.vars (.cons (.nilp (.slice none 0 0)) qL5)))]⟩⟩ false [(0,⟨[1,2],⟨(.cons (.own 0 100 0 0) (.cons (.own 0 101 0 0) .nil)),[(100,false,(.vars (.cons (.slf 8 102) qL5))),(102,false,(.rows 93 qY3)),(101,false,(.vars (.cons (.nilp (.slice none 0 0)) qL5)))]⟩⟩)] (.two lf (.two lf (.two (.one (.two lf (.reg [(12,{ids:=[103],fn:=1}),(19,{ids:=[104],fn:=2})]))) lf)))))) lf)),⟨(.cons (.p (.pair (.sl qY3) (.int .i64))) .nil),[]⟩,[⟨(.cons (.agg (.cons (.slf 8 0) qL5)) .nil),[(0,false,(.rows 93 qY3))]⟩],[0]⟩
def scop_ft(fu:Nat):FnT:=⟨60,scop_fa.i,scop_fa.os,fun t=>scop fu t⟩
theorem mHZ(fu:Nat):Told Tryz.prog (scop_ft fu):=tk fu scop_fa (aaZ (kwZ fu) (aaZ (hYZ fu) (aaZ (kEZ fu) abZ))) Tryz.func60 (by kernel_rfl) fun t=>by kernel_rfl
def sClo2(fu:Nat)(s:List ((Int×List (Int)))):Option (List ((Int×List (Int)))):=
 nilQ s.length fun isNil=>
 bif isNil then
  some []
 else
  need ((Nat.ble ((0+s.length)*32) room)&&(Nat.ble (0+s.length) room))<|
  some s
def sClo2_fa:FnA:=⟨.two lf (.two (.two lf (.two lf lf)) (.two (.reg [(0,{ids:=[100]}),(2,{ids:=[101]})]) lf)),⟨(.cons (.p (.sl qY22)) .nil),[]⟩,[⟨(.cons (.slf 2 0) .nil),[(0,false,(.rows 37 qY22))]⟩],[47]⟩
def sClo2_ft(fu:Nat):FnT:=⟨61,sClo2_fa.i,sClo2_fa.os,fun t=>sClo2 fu t⟩
theorem ljZ(fu:Nat):Told Tryz.prog (sClo2_ft fu):=tk fu sClo2_fa abZ Tryz.func61 (by kernel_rfl) fun t=>by kernel_rfl
def sClo6(fu:Nat)(s:List (Int)):Option (List (Int)):=
 nilQ s.length fun isNil=>
 bif isNil then
  some []
 else
  need ((Nat.ble ((0+s.length)*8) room)&&(Nat.ble (0+s.length) room))<|
  some s
def sClo6_fa:FnA:=⟨.two lf (.two (.two lf (.two lf lf)) (.two (.reg [(0,{ids:=[100]}),(2,{ids:=[101]})]) lf)),⟨(.cons (.p (.sl (.int .i64))) .nil),[]⟩,[⟨(.cons (.slf 1 0) .nil),[(0,false,(.rows 3 (.int .i64)))]⟩],[13]⟩
def sClo6_ft(fu:Nat):FnT:=⟨62,sClo6_fa.i,sClo6_fa.os,fun t=>sClo6 fu t⟩
theorem gjZ(fu:Nat):Told Tryz.prog (sClo6_ft fu):=tk fu sClo6_fa abZ Tryz.func62 (by kernel_rfl) fun t=>by kernel_rfl
def sClo5(fu:Nat)(s:List (qT1)):Option (List (qT1)):=
 nilQ s.length fun isNil=>
 bif isNil then
  some []
 else
  need ((Nat.ble ((0+s.length)*40) room)&&(Nat.ble (0+s.length) room))<|
  some s
def sClo5_fa:FnA:=⟨.two lf (.two (.two lf (.two lf lf)) (.two (.reg [(0,{ids:=[100]}),(2,{ids:=[101]})]) lf)),⟨(.cons (.p (.sl qY25)) .nil),[]⟩,[⟨(.cons (.slf 3 0) .nil),[(0,false,(.rows 103 qY25))]⟩],[113]⟩
def sClo5_ft(fu:Nat):FnT:=⟨63,sClo5_fa.i,sClo5_fa.os,fun t=>sClo5 fu t⟩
theorem ksZ(fu:Nat):Told Tryz.prog (sClo5_ft fu):=tk fu sClo5_fa abZ Tryz.func63 (by kernel_rfl) fun t=>by kernel_rfl
def state_own_l0(fu:Nat)(r1:List ((Int×List (Int))))(x:Int)(h:Int)(h1:Int)(h2:Int)(h3:List (qT1))(h4:List ((Int×Int)))(h5:List (qT0))(h6:List ((Int×List (Int))))(h7:Int)(h8:Int)(h9:Int):Option ((Int×qT30)⊕(qT30)):=
 bif (decide (x<((r1.length:Nat):Int))) then
  (idx? x h6.length).bind fun q=>
  (h6)[q]?.bind fun r2=>
  (sClo6 fu r2.2).bind fun r3=>
  (idx? x h6.length).bind fun q1=>
  (h6)[q1]?.bind fun r4=>
  some (.inl ((IntKind.wrap .i64 (x+1)),(h,(h1,(h2,(h3,(h4,(h5,((List.set h6 q1 (r4.1,r3)),(h7,(h8,h9)))))))))))
 else
  some (.inr (h,(h1,(h2,(h3,(h4,(h5,(h6,(h7,(h8,h9))))))))))
def state_own_l0_it(fu:Nat)(r1:List ((Int×List (Int))))(tt:(Int×qT30)):Option (qT30):=
 iter fu (fun tt=>state_own_l0 fu r1 tt.1 tt.2.1 tt.2.2.1 tt.2.2.2.1 tt.2.2.2.2.1 tt.2.2.2.2.2.1 tt.2.2.2.2.2.2.1 tt.2.2.2.2.2.2.2.1 tt.2.2.2.2.2.2.2.2.1 tt.2.2.2.2.2.2.2.2.2.1 tt.2.2.2.2.2.2.2.2.2.2) tt
def state_own_l1(fu:Nat)(r5:List (qT1))(x1:Int)(h10:Int)(h11:Int)(h12:Int)(h13:List ((Int×Int)))(h14:List (qT0))(h15:List (qT1))(h16:List ((Int×List (Int))))(h17:Int)(h18:Int)(h19:Int):Option ((Int×qT52)⊕(qT52)):=
 bif (decide (x1<((r5.length:Nat):Int))) then
  none
 else
  some (.inr (h10,(h11,(h12,(h13,(h14,(h15,(h16,(h17,(h18,h19))))))))))
def state_own_l1_it(fu:Nat)(r5:List (qT1))(tt:(Int×qT52)):Option (qT52):=
 iter fu (fun tt=>state_own_l1 fu r5 tt.1 tt.2.1 tt.2.2.1 tt.2.2.2.1 tt.2.2.2.2.1 tt.2.2.2.2.2.1 tt.2.2.2.2.2.2.1 tt.2.2.2.2.2.2.2.1 tt.2.2.2.2.2.2.2.2.1 tt.2.2.2.2.2.2.2.2.2.1 tt.2.2.2.2.2.2.2.2.2.2) tt
def state_own(fu:Nat)(s:qT21):Option ((Int×(Int×(Int×(List (qT0)×(List (qT1)×(List ((Int×List (Int)))×List ((Int×Int))))))))):=
 (scop fu s.2.1).bind fun r=>
 (sClo2 fu s.2.2.2.1).bind fun r1=>
 (state_own_l0_it fu r1 (0,(s.1,(r.1,(s.2.2.1.1,(s.2.2.1.2,(s.2.2.2.2,(r.2,(r1,(0,(0,0))))))))))).bind fun o=>
 (sClo5 fu o.2.2.2.1).bind fun r5=>
 (state_own_l1_it fu r5 (0,(o.1,(o.2.1,(o.2.2.1,(o.2.2.2.2.1,(o.2.2.2.2.2.1,(r5,o.2.2.2.2.2.2)))))))).bind fun o1=>
 (sClo fu o1.2.2.2.1).bind fun r6=>
 some (o1.1,(o1.2.1,(o1.2.2.1,(o1.2.2.2.2.1,(o1.2.2.2.2.2.1,(o1.2.2.2.2.2.2.1,r6))))))
def state_own_fa:FnA:=⟨.two (.reg [(0,{ids:=[100]}),(1,{ids:=[101]})]) (.two (.reg [(2,{ids:=[102]})]) (.two (.reg [(2,{ids:=[103],fn:=1})]) (.two (.two lf (.one (.loop ⟨[1,2,18],⟨(.cons (.own 0 100 0 0) (.cons (.own 0 101 0 0) qL5)),[(100,false,(.vars (.cons (.p (.int .i64)) (.cons (.slf 8 102) (.cons (.p (.int .i64)) (.cons (.p (.int .i64)) (.cons (.p (.sl qY25)) (.cons (.slf 2 103) (.cons (.p (.sl qY34)) .nil))))))))),(102,false,(.rows 93 qY3)),(103,false,(.rows 37 qY22)),(101,false,qB16)]⟩⟩ false [(0,⟨[1,2],⟨(.cons (.own 0 100 0 0) (.cons (.own 0 101 0 0) .nil)),[(100,false,(.vars (.cons (.p (.int .i64)) (.cons (.slf 8 102) (.cons (.p (.int .i64)) (.cons (.p (.int .i64)) (.cons (.p (.sl qY25)) (.cons (.slf 2 103) (.cons (.p (.sl qY34)) .nil))))))))),(102,false,(.rows 93 qY3)),(103,false,(.rows 37 qY22)),(101,false,qB16)]⟩⟩)] (.two lf (.two lf (.two (.one (.two lf (.reg [(9,{ids:=[104],fn:=2})]))) lf)))))) (.two (.reg [(3,{ids:=[105],fn:=3})]) (.two (.two lf (.one (.loop ⟨[1,2,44],⟨(.cons (.own 0 100 0 0) (.cons (.own 0 101 0 0) qL5)),[(100,false,(.vars (.cons (.p (.int .i64)) (.cons (.slf 8 102) (.cons (.p (.int .i64)) (.cons (.p (.int .i64)) (.cons (.slf 3 105) (.cons (.slf 2 103) (.cons (.p (.sl qY34)) .nil))))))))),(102,false,(.rows 93 qY3)),(105,false,(.rows 103 qY25)),(103,false,(.rows 37 qY22)),(101,false,qB16)]⟩⟩ false [(2,⟨[1,2],⟨(.cons (.own 0 100 0 0) (.cons (.own 0 101 0 0) .nil)),[(100,false,(.vars (.cons (.p (.int .i64)) (.cons (.slf 8 102) (.cons (.p (.int .i64)) (.cons (.p (.int .i64)) (.cons (.slf 3 105) (.cons (.slf 2 103) (.cons (.p (.sl qY34)) .nil))))))))),(102,false,(.rows 93 qY3)),(105,false,(.rows 103 qY25)),(103,false,(.rows 37 qY22)),(101,false,qB16)]⟩⟩)] (.two lf (.two lf (.two (.one (.two lf (.two (.pre (.mem 0 15) lf) lf))) lf)))))) (.two (.reg [(2,{ids:=[106],fn:=4})]) lf)))))),⟨(.cons (.p qY14) .nil),[]⟩,[⟨(.cons (.agg (.cons (.p (.int .i64)) (.cons (.slf 8 0) (.cons (.p (.int .i64)) (.cons (.p (.int .i64)) (.cons (.slf 3 1) (.cons (.slf 2 2) (.cons (.slf 2 3) .nil)))))))) .nil),[(0,false,(.rows 93 qY3)),(1,false,(.rows 103 qY25)),(2,false,(.rows 37 qY22)),(3,false,(.rows 145 qY34))]⟩],[0]⟩
def state_own_ft(fu:Nat):FnT:=⟨20,state_own_fa.i,state_own_fa.os,fun t=>state_own fu t⟩
theorem cKZ(fu:Nat):Told Tryz.prog (state_own_ft fu):=tk fu state_own_fa (aaZ (mHZ fu) (aaZ (ljZ fu) (aaZ (gjZ fu) (aaZ (ksZ fu) (aaZ (hYZ fu) abZ))))) Tryz.func20 (by kernel_rfl) fun t=>by kernel_rfl
def state_New(fu:Nat)(window:Int)(l:List ((Int×List (Int)))):Option ((Int×(List (qT0)×(Int×(Int×(List (qT1)×(List ((Int×List (Int)))×(List ((Int×Int))×Int)))))))):=
 (rNew fu window).bind fun r=>
 bif (!(r.2==0)) then
  some (0,([],(0,(0,([],([],([],r.2)))))))
 else
  (spla fu l).bind fun r1=>
  bif (!r1) then
   some (0,([],(0,(0,([],([],([],2)))))))
  else
   (model_New fu).bind fun r2=>
   (state_own fu (0,((r2.2.1,r2.1),((r.1,[]),(l,[]))))).bind fun r3=>
   some (r3.1,(r3.2.2.2.1,(r3.2.1,(r3.2.2.1,(r3.2.2.2.2.1,(r3.2.2.2.2.2.1,(r3.2.2.2.2.2.2,0)))))))
def state_New_fa:FnA:=⟨.two (.reg [(0,{ids:=[100]})]) (.two (.reg [(1,{}),(5,{ids:=[101]})]) (.two (.two lf (.two lf lf)) (.two (.two (.reg [(1,{fn:=1})]) (.two lf lf)) (.two (.reg [(0,{ids:=[102,103],fn:=2}),(5,{ids:=[104,105,106,107],md:=[1],fn:=3})]) lf)))),⟨(.cons (.p (.int .i64)) (.cons (.p (.sl qY22)) .nil)),[]⟩,[⟨(.cons (.agg qL2) qL5),[]⟩],[1,0]⟩
def state_New_ft(fu:Nat):FnT:=⟨5,state_New_fa.i,state_New_fa.os,fun t=>state_New fu t.1 t.2⟩
theorem fOZ(fu:Nat):Told Tryz.prog (state_New_ft fu):=tk fu state_New_fa (aaZ (mWZ fu) (aaZ (iaZ fu) (aaZ (f8Z fu) (aaZ (cKZ fu) abZ)))) Tryz.func5 (by kernel_rfl) fun t=>by kernel_rfl
def pall1(fu:Nat)(p:(Int×List (Int))):Option (Bool):=
 (pRig fu p 256).bind fun r=>
 some (!r)
def pall1_fa:FnA:=⟨.two (.reg [(0,{ids:=[100]})]) (.two (.reg [(1,{})]) lf),⟨(.cons (.p qY22) .nil),[]⟩,[⟨(.cons (.p .bool) .nil),[]⟩],[0]⟩
def pall1_ft(fu:Nat):FnT:=⟨168,pall1_fa.i,pall1_fa.os,fun t=>pall1 fu t⟩
theorem l3Z(fu:Nat):Told Tryz.prog (pall1_ft fu):=tk fu pall1_fa (aaZ (hWZ fu) abZ) Tryz.func168 (by kernel_rfl) fun t=>by kernel_rfl
def sIndFun_l0(fu:Nat)(s:List ((Int×List (Int))))(x:Int):Option (Int⊕(Unit⊕Int)):=
 bif (decide (x<((s.length:Nat):Int))) then
  (idx? x s.length).bind fun q=>
  (s)[q]?.bind fun r=>
  (pall1 fu r).bind fun r1=>
  bif r1 then
   some (.inr (.inr x))
  else
   some (.inl (IntKind.wrap .i64 (x+1)))
 else
  some (.inr (.inl ()))
def sIndFun_l0_it(fu:Nat)(s:List ((Int×List (Int))))(tt:Int):Option (Unit⊕Int):=
 iter fu (fun tt=>sIndFun_l0 fu s tt) tt
def sIndFun(fu:Nat)(s:List ((Int×List (Int)))):Option (Int):=
 (sIndFun_l0_it fu s 0).bind fun o=>
 match o with
 |.inl s1=>
  some (-1)
 |.inr o1=>
  some o1
def sIndFun_fa:FnA:=⟨.two lf (.two (.two lf (.one (.loop ⟨[8],⟨qL5,[]⟩⟩ true [(0,⟨[],⟨.nil,[]⟩⟩)] (.two lf (.two lf (.two (.one (.two lf (.two (.reg [(5,{})]) (.two lf lf)))) lf)))))) lf),⟨(.cons (.p (.sl qY22)) (.cons (.fn 168 .nil .nil) .nil)),[]⟩,[⟨qL5,[]⟩],[0]⟩
def sIndFun_ft(fu:Nat):FnT:=⟨115,sIndFun_fa.i,sIndFun_fa.os,fun t=>sIndFun fu t⟩
theorem izZ(fu:Nat):Told Tryz.prog (sIndFun_ft fu):=tk fu sIndFun_fa (aaZ (l3Z fu) abZ) Tryz.func115 (by kernel_rfl) fun t=>by kernel_rfl
def sConFun(fu:Nat)(s:List ((Int×List (Int)))):Option (Bool):=
 (sIndFun fu s).bind fun r=>
 some (decide (r>=0))
def sConFun_fa:FnA:=⟨.two lf (.two (.reg [(2,{})]) lf),⟨(.cons (.p (.sl qY22)) (.cons (.fn 168 .nil .nil) .nil)),[]⟩,[⟨(.cons (.p .bool) .nil),[]⟩],[0]⟩
def sConFun_ft(fu:Nat):FnT:=⟨59,sConFun_fa.i,sConFun_fa.os,fun t=>sConFun fu t⟩
theorem hEZ(fu:Nat):Told Tryz.prog (sConFun_ft fu):=tk fu sConFun_fa (aaZ (izZ fu) abZ) Tryz.func59 (by kernel_rfl) fun t=>by kernel_rfl
def place_all(fu:Nat)(l:List ((Int×List (Int)))):Option (Bool):=
 bif (decide (((l.length:Nat):Int)>=1)) then
  bif (decide (((l.length:Nat):Int)<=1000)) then
   (sConFun fu l).bind fun r=>
   some (!r)
  else
   some false
 else
  some false
def place_all_fa:FnA:=⟨.two lf (.two (.reg [(10,{})]) lf),⟨(.cons (.p (.sl qY22)) .nil),[]⟩,[⟨(.cons (.p .bool) .nil),[]⟩],[0]⟩
def place_all_ft(fu:Nat):FnT:=⟨98,place_all_fa.i,place_all_fa.os,fun t=>place_all fu t⟩
theorem bTZ(fu:Nat):Told Tryz.prog (place_all_ft fu):=tk fu place_all_fa (aaZ (hEZ fu) abZ) Tryz.func98 (by kernel_rfl) fun t=>by kernel_rfl
def pMov1(fu:Nat)(n:Int):Option (Bool):=
 bif (decide (n>=0)) then
  some (decide (n<256))
 else
  some false
def pMov1_fa:FnA:=⟨.two lf lf,⟨qL5,[]⟩,[⟨(.cons (.p .bool) .nil),[]⟩],[0]⟩
def pMov1_ft(fu:Nat):FnT:=⟨117,pMov1_fa.i,pMov1_fa.os,fun t=>pMov1 fu t⟩
theorem lpZ(fu:Nat):Told Tryz.prog (pMov1_ft fu):=tk fu pMov1_fa abZ Tryz.func117 (by kernel_rfl) fun t=>by kernel_rfl
def pInd(fu:Nat)(p:(Int×List (Int)))(node:Int):Option (Int):=
 (sInd fu p.2 node).bind fun r=>
 some r
def pInd_fa:FnA:=⟨.two (.reg [(0,{ids:=[100]})]) (.two (.reg [(3,{})]) lf),⟨(.cons (.p qY22) qL5),[]⟩,[⟨qL5,[]⟩],[0]⟩
def pInd_ft(fu:Nat):FnT:=⟨119,pInd_fa.i,pInd_fa.os,fun t=>pInd fu t.1 t.2⟩
theorem isZ(fu:Nat):Told Tryz.prog (pInd_ft fu):=tk fu pInd_fa (aaZ (hFZ fu) abZ) Tryz.func119 (by kernel_rfl) fun t=>by kernel_rfl
def pMov2(fu:Nat)(p:(Int×List (Int)))(h:Int)(h1:Int):Option ((Bool×(Int×Int))):=
 (pInd fu p h).bind fun r=>
 bif (decide (r>=0)) then
  (pInd fu p h1).bind fun r1=>
  bif (decide (r1>=0)) then
   some (true,(h,h1))
  else
   some ((decide (p.1>=1099511627776)),(h,h1))
 else
  some (false,(h,h1))
def pMov2_fa:FnA:=⟨.two (.reg [(0,{ids:=[100]})]) (.two (.reg [(2,{}),(7,{})]) lf),⟨(.cons (.p qY22) qL35),[(0,false,(.vars qL5)),(1,false,(.vars qL5))]⟩,[⟨(.cons (.p .bool) .nil),[(0,false,(.vars qL5)),(1,false,(.vars qL5))]⟩],[0]⟩
def pMov2_ft(fu:Nat):FnT:=⟨118,pMov2_fa.i,pMov2_fa.os,u3 (pMov2 fu)⟩
theorem k1Z(fu:Nat):Told Tryz.prog (pMov2_ft fu):=tk fu pMov2_fa (aaZ (isZ fu) abZ) Tryz.func118 (by kernel_rfl) fun t=>by kernel_rfl
def sIndFun6_l0(fu:Nat)(s:List ((Int×List (Int))))(x:Int)(h2:Int)(h3:Int):Option ((Int×(Int×Int))⊕((Int×Int)⊕(Int×(Int×Int)))):=
 bif (decide (x<((s.length:Nat):Int))) then
  (idx? x s.length).bind fun q=>
  (s)[q]?.bind fun r=>
  (pMov2 fu r h2 h3).bind fun r1=>
  bif r1.1 then
   some (.inr (.inr (x,(r1.2.1,r1.2.2))))
  else
   some (.inl ((IntKind.wrap .i64 (x+1)),(r1.2.1,r1.2.2)))
 else
  some (.inr (.inl (h2,h3)))
def sIndFun6_l0_it(fu:Nat)(s:List ((Int×List (Int))))(tt:(Int×(Int×Int))):Option ((Int×Int)⊕(Int×(Int×Int))):=
 iter fu (u3 (sIndFun6_l0 fu s)) tt
def sIndFun6(fu:Nat)(s:List ((Int×List (Int))))(h:Int)(h1:Int):Option ((Int×(Int×Int))):=
 (sIndFun6_l0_it fu s (0,(h,h1))).bind fun o=>
 match o with
 |.inl s1=>
  some ((-1),(s1.1,s1.2))
 |.inr o1=>
  some o1
def sIndFun6_fa:FnA:=⟨.two lf (.two (.two lf (.one (.loop ⟨[1,8],⟨(.cons (.fn 118 .nil qL35) qL5),[(0,false,(.vars qL5)),(1,false,(.vars qL5))]⟩⟩ true [(0,⟨[1],⟨(.cons (.fn 118 .nil qL35) .nil),[(0,false,(.vars qL5)),(1,false,(.vars qL5))]⟩⟩)] (.two lf (.two lf (.two (.one (.two lf (.two (.reg [(5,{sh:=[0,1]})]) (.two lf lf)))) lf)))))) lf),⟨(.cons (.p (.sl qY22)) (.cons (.fn 118 .nil qL35) .nil)),[(0,false,(.vars qL5)),(1,false,(.vars qL5))]⟩,[⟨qL5,[(0,false,(.vars qL5)),(1,false,(.vars qL5))]⟩],[0]⟩
def sIndFun6_ft(fu:Nat):FnT:=⟨115,sIndFun6_fa.i,sIndFun6_fa.os,u3 (sIndFun6 fu)⟩
theorem gJZ(fu:Nat):Told Tryz.prog (sIndFun6_ft fu):=tk fu sIndFun6_fa (aaZ (k1Z fu) abZ) Tryz.func115 (by kernel_rfl) fun t=>by kernel_rfl
def sConFun3(fu:Nat)(s:List ((Int×List (Int))))(h:Int)(h1:Int):Option ((Bool×(Int×Int))):=
 (sIndFun6 fu s h h1).bind fun r=>
 some ((decide (r.1>=0)),(r.2.1,r.2.2))
def sConFun3_fa:FnA:=⟨.two lf (.two (.reg [(2,{sh:=[0,1]})]) lf),⟨(.cons (.p (.sl qY22)) (.cons (.fn 118 .nil qL35) .nil)),[(0,false,(.vars qL5)),(1,false,(.vars qL5))]⟩,[⟨(.cons (.p .bool) .nil),[(0,false,(.vars qL5)),(1,false,(.vars qL5))]⟩],[0]⟩
def sConFun3_ft(fu:Nat):FnT:=⟨59,sConFun3_fa.i,sConFun3_fa.os,u3 (sConFun3 fu)⟩
theorem hqZ(fu:Nat):Told Tryz.prog (sConFun3_ft fu):=tk fu sConFun3_fa (aaZ (gJZ fu) abZ) Tryz.func59 (by kernel_rfl) fun t=>by kernel_rfl
def place_own(fu:Nat)(p:(Int×List (Int))):Option ((Int×List (Int))):=
 (sClo6 fu p.2).bind fun r=>
 some (p.1,r)
def place_own_fa:FnA:=⟨.two (.reg [(0,{ids:=[100]}),(1,{ids:=[101]})]) (.two (.reg [(2,{ids:=[102]})]) lf),⟨(.cons (.p qY22) .nil),[]⟩,[⟨(.cons (.agg (.cons (.p (.int .i64)) (.cons (.slf 1 0) .nil))) .nil),[(0,false,(.rows 3 (.int .i64)))]⟩],[0]⟩
def place_own_ft(fu:Nat):FnT:=⟨120,place_own_fa.i,place_own_fa.os,fun t=>place_own fu t⟩
theorem fBZ(fu:Nat):Told Tryz.prog (place_own_ft fu):=tk fu place_own_fa (aaZ (gjZ fu) abZ) Tryz.func120 (by kernel_rfl) fun t=>by kernel_rfl
def pMov_l0(fu:Nat)(l:List ((Int×List (Int))))(x:Int)(h:Int)(h1:Int)(h2:List ((Int×List (Int))))(h3:List (Int)):Option ((Int×(Int×(Int×(List ((Int×List (Int)))×List (Int)))))⊕((List ((Int×List (Int)))×List (Int)))):=
 bif (decide (x<((l.length:Nat):Int))) then
  (idx? x l.length).bind fun q=>
  (l)[q]?.bind fun r4=>
  (place_own fu r4).bind fun r5=>
  (pInd fu r5 h).bind fun r6=>
  Option.bind (α:=((Int×(Int×(List ((Int×List (Int)))×(List (Int)×(Int×List (Int)))))))) (
   bif (decide (r6>=0)) then
    (idx? r6 r5.2.length).bind fun q1=>
    (r5.2)[q1]?.bind fun r7=>
    need ((Nat.ble ((h3.length+1)*8) room)&&(Nat.ble (h3.length+1) room))<|
    some (h,(h1,(h2,((h3++[x]),((IntKind.wrap .i64 (r5.1+1)),(List.set r5.2 q1 h1))))))
   else
    some (h,(h1,(h2,(h3,r5))))) fun o1=>
  need ((Nat.ble ((o1.2.2.1.length+1)*32) room)&&(Nat.ble (o1.2.2.1.length+1) room))<|
  some (.inl ((IntKind.wrap .i64 (x+1)),(o1.1,(o1.2.1,((o1.2.2.1++[o1.2.2.2.2]),o1.2.2.2.1)))))
 else
  some (.inr (h2,h3))
def pMov_l0_it(fu:Nat)(l:List ((Int×List (Int))))(tt:(Int×(Int×(Int×(List ((Int×List (Int)))×List (Int)))))):Option ((List ((Int×List (Int)))×List (Int))):=
 iter fu (fun tt=>pMov_l0 fu l tt.1 tt.2.1 tt.2.2.1 tt.2.2.2.1 tt.2.2.2.2) tt
def pMov(fu:Nat)(l:List ((Int×List (Int))))(from_:Int)(to_:Int):Option ((Int×(List ((Int×List (Int)))×List (Int)))):=
 (place_all fu l).bind fun r=>
 bif (!r) then
  some (2,([],[]))
 else
  Option.bind (α:=((Bool×(Int×Int)))) (
   (pMov1 fu from_).bind fun r1=>
   bif (!r1) then
    some (true,(from_,to_))
   else
    (pMov1 fu to_).bind fun r2=>
    bif (!r2) then
     some (true,(from_,to_))
    else
     bif (from_==to_) then
      some (true,(from_,to_))
     else
      (sConFun3 fu l from_ to_).bind fun r3=>
      some r3) fun o=>
  bif o.1 then
   some (100,([],[]))
  else
   (pMov_l0_it fu l (0,(o.2.1,(o.2.2,([],[]))))).bind fun o2=>
   some (0,o2)
def pMov_fa:FnA:=⟨.two (.reg [(0,{ids:=[100]}),(1,{ids:=[101]})]) (.two lf (.two lf (.two (.one (.two (.reg [(1,{})]) (.two lf (.two (.join ⟨[4,5,21],⟨(.cons (.own 0 100 0 0) (.cons (.own 0 101 0 0) (.cons (.p .bool) .nil))),[(100,false,(.vars qL5)),(101,false,(.vars qL5))]⟩⟩ false [] (.reg [(2,{fn:=1}),(7,{fn:=1}),(18,{sh:=[100,101],fn:=2})])) (.two lf lf))))) (.two lf (.two lf (.two (.two lf (.one (.pre (.ownNil 11 37 102) (.pre (.ownNil 12 3 103) (.loop ⟨[4,5,11,12,44],⟨(.cons (.own 0 100 0 0) (.cons (.own 0 101 0 0) (.cons (.slf 2 102) (.cons (.slf 1 103) qL5)))),[(100,false,(.vars qL5)),(101,false,(.vars qL5)),(102,false,(.rows 37 qY22)),(103,false,(.rows 3 (.int .i64)))]⟩⟩ false [(1,⟨[11,12],⟨(.cons (.slf 2 102) (.cons (.slf 1 103) .nil)),[(102,false,(.rows 37 qY22)),(103,false,(.rows 3 (.int .i64)))]⟩⟩)] (.two lf (.two lf (.two (.one (.two (.reg [(3,{ids:=[104]})]) (.two (.reg [(1,{ids:=[105],fn:=3})]) (.two (.two (.reg [(2,{md:=[2,0],fn:=4})]) (.two lf (.join ⟨[4,5,11,12,14],⟨(.cons (.own 0 100 0 0) (.cons (.own 0 101 0 0) (.cons (.slf 2 102) (.cons (.slf 1 107) (.cons (.own 0 104 0 0) .nil))))),[(100,false,(.vars qL5)),(101,false,(.vars qL5)),(102,false,(.rows 37 qY22)),(107,false,(.rows 3 (.int .i64))),(104,false,(.vars (.cons (.p (.int .i64)) (.cons (.slf 1 105) .nil)))),(105,false,(.rows 3 (.int .i64)))]⟩⟩ false [] (.two (.two lf (.two lf (.reg [(2,{ids:=[106]}),(3,{ids:=[107]})]))) lf)))) (.reg [(2,{ids:=[108]}),(3,{ids:=[109]})]))))) lf)))))))) lf)))))),⟨(.cons (.p (.sl qY22)) (.cons (.p (.int .i64)) qL5)),[]⟩,[⟨(.cons (.slf 2 0) (.cons (.slf 1 1) qL5)),[(0,false,(.rows 37 qY22)),(1,false,(.rows 3 (.int .i64)))]⟩],[47,13,0]⟩
def pMov_ft(fu:Nat):FnT:=⟨69,pMov_fa.i,pMov_fa.os,u3 (pMov fu)⟩
theorem l7Z(fu:Nat):Told Tryz.prog (pMov_ft fu):=tk fu pMov_fa (aaZ (bTZ fu) (aaZ (lpZ fu) (aaZ (hqZ fu) (aaZ (fBZ fu) (aaZ (isZ fu) abZ))))) Tryz.func69 (by kernel_rfl) fun t=>by kernel_rfl
def sMov(fu:Nat)(s:qT21)(from_:Int)(to_:Int):Option (qT53):=
 (state_own fu s).bind fun r=>
 (pMov fu s.2.2.2.1 from_ to_).bind fun r1=>
 Option.bind (α:=((Int×(Int×qT53)))) (
  bif (r1.1==0) then
   some (0,(0,(0,(r.1,(r.2.1,(r.2.2.1,(r.2.2.2.1,(r.2.2.2.2.1,(r1.2.1,(r.2.2.2.2.2.2,r1.2.2))))))))))
  else
   some (0,(0,(0,(r.1,(r.2.1,(r.2.2.1,(r.2.2.2.1,(r.2.2.2.2.1,(r.2.2.2.2.2.1,(r.2.2.2.2.2.2,r1.2.2))))))))))) fun o=>
 some (o.2.2.2.1,(o.2.2.2.2.1,(o.2.2.2.2.2.1,(r1.1,o.2.2.2.2.2.2))))
def sMov_fa:FnA:=⟨.two (.reg [(0,{ids:=[100]}),(1,{ids:=[101]})]) (.two (.reg [(1,{ids:=[102,103,104,105]}),(2,{ids:=[106]})]) (.two (.reg [(4,{ids:=[107,108],fn:=1})]) (.two (.two lf (.join ⟨[6,9,11],⟨(.cons (.own 0 101 0 0) (.cons (.own 0 106 0 0) (.cons (.slf 1 108) .nil))),[(101,false,qB16),(106,false,(.vars (.cons (.p (.int .i64)) (.cons (.slf 8 102) (.cons (.p (.int .i64)) (.cons (.p (.int .i64)) (.cons (.slf 3 103) (.cons (.slf 2 107) (.cons (.slf 2 105) .nil))))))))),(102,false,(.rows 93 qY3)),(103,false,(.rows 103 qY25)),(107,false,(.rows 37 qY22)),(105,false,(.rows 145 qY34)),(108,false,(.rows 3 (.int .i64)))]⟩⟩ false [] lf)) lf))),⟨(.cons (.p qY14) (.cons (.p (.int .i64)) qL5)),[]⟩,[⟨(.cons (.agg (.cons (.p (.int .i64)) (.cons (.slf 8 0) (.cons (.p (.int .i64)) (.cons (.p (.int .i64)) (.cons (.slf 3 1) (.cons (.slf 2 2) (.cons (.slf 2 3) .nil)))))))) (.cons (.slf 1 4) qL5)),[(0,false,(.rows 93 qY3)),(1,false,(.rows 103 qY25)),(2,false,(.rows 37 qY22)),(3,false,(.rows 145 qY34)),(4,false,(.rows 3 (.int .i64)))]⟩],[0,0,0]⟩
def sMov_ft(fu:Nat):FnT:=⟨22,sMov_fa.i,sMov_fa.os,u3 (sMov fu)⟩
theorem lPZ(fu:Nat):Told Tryz.prog (sMov_ft fu):=tk fu sMov_fa (aaZ (cKZ fu) (aaZ (l7Z fu) abZ)) Tryz.func22 (by kernel_rfl) fun t=>by kernel_rfl
def ssiz(fu:Nat)(n:Int):Option (Bool):=
 bif (decide (n>=16)) then
  some (decide (n<=65536))
 else
  some false
def ssiz_fa:FnA:=⟨.two lf lf,⟨qL5,[]⟩,[⟨(.cons (.p .bool) .nil),[]⟩],[0]⟩
def ssiz_ft(fu:Nat):FnT:=⟨70,ssiz_fa.i,ssiz_fa.os,fun t=>ssiz fu t⟩
theorem mEZ(fu:Nat):Told Tryz.prog (ssiz_ft fu):=tk fu ssiz_fa abZ Tryz.func70 (by kernel_rfl) fun t=>by kernel_rfl
def ibar(fu:Nat)(n:qT0):Option (Bool):=
 bif (!n.2.2.1) then
  bif (!n.2.2.2.1) then
   bif (n.2.2.2.2.1==0) then
    bif (n.2.2.2.2.2.2.1==0) then
     some ((IntKind.wrap .i64 (((n.2.2.2.2.2.1.length:Nat):Int)+((n.2.2.2.2.2.2.2.length:Nat):Int)))==0)
    else
     some false
   else
    some false
  else
   some false
 else
  some false
def ibar_fa:FnA:=⟨.two (.reg [(0,{ids:=[100]})]) lf,⟨(.cons (.p qY3) .nil),[]⟩,[⟨(.cons (.p .bool) .nil),[]⟩],[0]⟩
def ibar_ft(fu:Nat):FnT:=⟨171,ibar_fa.i,ibar_fa.os,fun t=>ibar fu t⟩
theorem mcZ(fu:Nat):Told Tryz.prog (ibar_ft fu):=tk fu ibar_fa abZ Tryz.func171 (by kernel_rfl) fun t=>by kernel_rfl
def idir1(fu:Nat)(e:(List UInt8×Int))(h:List UInt8)(h1:Int):Option ((Bool×(List UInt8×Int))):=
 bif (decide (((e.1.length:Nat):Int)<1)) then
  some (true,(e.1,h1))
 else
  bif (decide (((e.1.length:Nat):Int)>30)) then
   some (true,(e.1,h1))
  else
   bif ((Op.bytesLess e.1 h)||(e.1==h)) then
    some (true,(e.1,h1))
   else
    bif (decide (e.2<1)) then
     some (true,(e.1,h1))
    else
     some ((decide (e.2>h1)),(e.1,h1))
def idir1_fa:FnA:=⟨.two (.reg [(0,{ids:=[100]})]) (.two lf (.two lf lf)),⟨(.cons (.p (.pair .str (.int .i64))) qL35),[(0,false,(.vars (.cons (.p .str) .nil))),(1,false,(.vars qL5))]⟩,[⟨(.cons (.p .bool) .nil),[(0,false,(.vars (.cons (.p .str) .nil))),(1,false,(.vars qL5))]⟩],[0]⟩
def idir1_ft(fu:Nat):FnT:=⟨208,idir1_fa.i,idir1_fa.os,u3 (idir1 fu)⟩
theorem kSZ(fu:Nat):Told Tryz.prog (idir1_ft fu):=tk fu idir1_fa abZ Tryz.func208 (by kernel_rfl) fun t=>by kernel_rfl
def sIndFun7_l0(fu:Nat)(s:List ((List UInt8×Int)))(x:Int)(h2:List UInt8)(h3:Int):Option ((Int×(List UInt8×Int))⊕((List UInt8×Int)⊕(Int×(List UInt8×Int)))):=
 bif (decide (x<((s.length:Nat):Int))) then
  (idx? x s.length).bind fun q=>
  (s)[q]?.bind fun r=>
  (idir1 fu r h2 h3).bind fun r1=>
  bif r1.1 then
   some (.inr (.inr (x,(r1.2.1,r1.2.2))))
  else
   some (.inl ((IntKind.wrap .i64 (x+1)),(r1.2.1,r1.2.2)))
 else
  some (.inr (.inl (h2,h3)))
def sIndFun7_l0_it(fu:Nat)(s:List ((List UInt8×Int)))(tt:(Int×(List UInt8×Int))):Option ((List UInt8×Int)⊕(Int×(List UInt8×Int))):=
 iter fu (u3 (sIndFun7_l0 fu s)) tt
def sIndFun7(fu:Nat)(s:List ((List UInt8×Int)))(h:List UInt8)(h1:Int):Option ((Int×(List UInt8×Int))):=
 (sIndFun7_l0_it fu s (0,(h,h1))).bind fun o=>
 match o with
 |.inl s1=>
  some ((-1),(s1.1,s1.2))
 |.inr o1=>
  some o1
def sIndFun7_fa:FnA:=⟨.two lf (.two (.two lf (.one (.loop ⟨[1,8],⟨(.cons (.fn 208 .nil qL35) qL5),[(0,false,(.vars (.cons (.p .str) .nil))),(1,false,(.vars qL5))]⟩⟩ true [(0,⟨[1],⟨(.cons (.fn 208 .nil qL35) .nil),[(0,false,(.vars (.cons (.p .str) .nil))),(1,false,(.vars qL5))]⟩⟩)] (.two lf (.two lf (.two (.one (.two lf (.two (.reg [(5,{sh:=[0,1]})]) (.two lf lf)))) lf)))))) lf),⟨(.cons (.p (.sl (.pair .str (.int .i64)))) (.cons (.fn 208 .nil qL35) .nil)),[(0,false,(.vars (.cons (.p .str) .nil))),(1,false,(.vars qL5))]⟩,[⟨qL5,[(0,false,(.vars (.cons (.p .str) .nil))),(1,false,(.vars qL5))]⟩],[0]⟩
def sIndFun7_ft(fu:Nat):FnT:=⟨175,sIndFun7_fa.i,sIndFun7_fa.os,u3 (sIndFun7 fu)⟩
theorem gGZ(fu:Nat):Told Tryz.prog (sIndFun7_ft fu):=tk fu sIndFun7_fa (aaZ (kSZ fu) abZ) Tryz.func175 (by kernel_rfl) fun t=>by kernel_rfl
def sConFun8(fu:Nat)(s:List ((List UInt8×Int)))(h:List UInt8)(h1:Int):Option ((Bool×(List UInt8×Int))):=
 (sIndFun7 fu s h h1).bind fun r=>
 some ((decide (r.1>=0)),(r.2.1,r.2.2))
def sConFun8_fa:FnA:=⟨.two lf (.two (.reg [(2,{sh:=[0,1]})]) lf),⟨(.cons (.p (.sl (.pair .str (.int .i64)))) (.cons (.fn 208 .nil qL35) .nil)),[(0,false,(.vars (.cons (.p .str) .nil))),(1,false,(.vars qL5))]⟩,[⟨(.cons (.p .bool) .nil),[(0,false,(.vars (.cons (.p .str) .nil))),(1,false,(.vars qL5))]⟩],[0]⟩
def sConFun8_ft(fu:Nat):FnT:=⟨124,sConFun8_fa.i,sConFun8_fa.os,u3 (sConFun8 fu)⟩
theorem g9Z(fu:Nat):Told Tryz.prog (sConFun8_ft fu):=tk fu sConFun8_fa (aaZ (gGZ fu) abZ) Tryz.func124 (by kernel_rfl) fun t=>by kernel_rfl
def idir(fu:Nat)(n:qT0)(many:Int):Option (Bool):=
 bif (n.2.2.2.2.1==0) then
  bif (((n.2.2.2.2.2.1.length:Nat):Int)==0) then
   bif (decide (((n.2.2.2.2.2.2.2.length:Nat):Int)<=100)) then
    (sConFun8 fu n.2.2.2.2.2.2.2 [] many).bind fun r=>
    some (!r.1)
   else
    some false
  else
   some false
 else
  some false
def idir_fa:FnA:=⟨.two (.reg [(0,{ids:=[100]}),(1,{ids:=[101]})]) (.two (.reg [(0,{ids:=[102]})]) (.two lf (.two (.reg [(19,{sh:=[102,101]})]) lf))),⟨(.cons (.p qY3) qL5),[]⟩,[⟨(.cons (.p .bool) .nil),[]⟩],[0]⟩
def idir_ft(fu:Nat):FnT:=⟨172,idir_fa.i,idir_fa.os,fun t=>idir fu t.1 t.2⟩
theorem mCZ(fu:Nat):Told Tryz.prog (idir_ft fu):=tk fu idir_fa (aaZ (g9Z fu) abZ) Tryz.func172 (by kernel_rfl) fun t=>by kernel_rfl
def ifil1(fu:Nat)(p:(Int×Int))(h:qT27)(h1:Int):Option ((Bool×(qT27×Int))):=
 bif ((p.1==0)&&(p.2==0)) then
  some (false,(h,h1))
 else
  bif ((Option.getD (mget (k:=(.int .i64)) (v:=(.int .i64)) h p.1) 0)==1) then
   some (true,((mput (k:=(.int .i64)) (v:=(.int .i64)) h p.1 1),h1))
  else
   bif (decide (p.1<1)) then
    some (true,((mput (k:=(.int .i64)) (v:=(.int .i64)) h p.1 1),h1))
   else
    bif (decide (p.1>h1)) then
     some (true,((mput (k:=(.int .i64)) (v:=(.int .i64)) h p.1 1),h1))
    else
     bif (decide (p.2<1)) then
      some (true,((mput (k:=(.int .i64)) (v:=(.int .i64)) h p.1 1),h1))
     else
      some ((decide (p.2>1099511627776)),((mput (k:=(.int .i64)) (v:=(.int .i64)) h p.1 1),h1))
def ifil1_fa:FnA:=⟨.two (.reg [(0,{ids:=[100]})]) (.two (.two lf (.two lf lf)) (.two lf (.two lf lf))),⟨(.cons (.p qY34) (.cons (.own 0 0 0 0) (.cons (.own 0 2 0 0) .nil))),[(0,false,(.vars (.cons (.mp 1) .nil))),(1,false,qB37),(2,false,(.vars qL5))]⟩,[⟨(.cons (.p .bool) .nil),[(0,false,(.vars (.cons (.mp 1) .nil))),(1,false,qB37),(2,false,(.vars qL5))]⟩],[0]⟩
def ifil1_ft(fu:Nat):FnT:=⟨209,ifil1_fa.i,ifil1_fa.os,u3 (ifil1 fu)⟩
theorem kyZ(fu:Nat):Told Tryz.prog (ifil1_ft fu):=tk fu ifil1_fa abZ Tryz.func209 (by kernel_rfl) fun t=>by kernel_rfl
def sIndFun4_l0(fu:Nat)(s:List ((Int×Int)))(x:Int)(h2:qT27)(h3:Int):Option ((Int×(qT27×Int))⊕((qT27×Int)⊕(Int×(qT27×Int)))):=
 bif (decide (x<((s.length:Nat):Int))) then
  (idx? x s.length).bind fun q=>
  (s)[q]?.bind fun r=>
  (ifil1 fu r h2 h3).bind fun r1=>
  bif r1.1 then
   some (.inr (.inr (x,(r1.2.1,r1.2.2))))
  else
   some (.inl ((IntKind.wrap .i64 (x+1)),(r1.2.1,r1.2.2)))
 else
  some (.inr (.inl (h2,h3)))
def sIndFun4_l0_it(fu:Nat)(s:List ((Int×Int)))(tt:(Int×(qT27×Int))):Option ((qT27×Int)⊕(Int×(qT27×Int))):=
 iter fu (u3 (sIndFun4_l0 fu s)) tt
def sIndFun4(fu:Nat)(s:List ((Int×Int)))(h:qT27)(h1:Int):Option ((Int×(qT27×Int))):=
 (sIndFun4_l0_it fu s (0,(h,h1))).bind fun o=>
 match o with
 |.inl s1=>
  some ((-1),(s1.1,s1.2))
 |.inr o1=>
  some o1
def sIndFun4_fa:FnA:=⟨.two lf (.two (.two lf (.one (.loop ⟨[1,8],⟨(.cons (.fn 209 .nil (.cons (.own 0 0 0 0) (.cons (.own 0 2 0 0) .nil))) qL5),[(0,false,(.vars (.cons (.mp 1) .nil))),(1,false,qB37),(2,false,(.vars qL5))]⟩⟩ true [(0,⟨[1],⟨(.cons (.fn 209 .nil (.cons (.own 0 0 0 0) (.cons (.own 0 2 0 0) .nil))) .nil),[(0,false,(.vars (.cons (.mp 1) .nil))),(1,false,qB37),(2,false,(.vars qL5))]⟩⟩)] (.two lf (.two lf (.two (.one (.two lf (.two (.reg [(5,{sh:=[0,1,2]})]) (.two lf lf)))) lf)))))) lf),⟨(.cons (.p (.sl qY34)) (.cons (.fn 209 .nil (.cons (.own 0 0 0 0) (.cons (.own 0 2 0 0) .nil))) .nil)),[(0,false,(.vars (.cons (.mp 1) .nil))),(1,false,qB37),(2,false,(.vars qL5))]⟩,[⟨qL5,[(0,false,(.vars (.cons (.mp 1) .nil))),(1,false,qB37),(2,false,(.vars qL5))]⟩],[0]⟩
def sIndFun4_ft(fu:Nat):FnT:=⟨164,sIndFun4_fa.i,sIndFun4_fa.os,u3 (sIndFun4 fu)⟩
theorem hwZ(fu:Nat):Told Tryz.prog (sIndFun4_ft fu):=tk fu sIndFun4_fa (aaZ (kyZ fu) abZ) Tryz.func164 (by kernel_rfl) fun t=>by kernel_rfl
def sConFun5(fu:Nat)(s:List ((Int×Int)))(h:qT27)(h1:Int):Option ((Bool×(qT27×Int))):=
 (sIndFun4 fu s h h1).bind fun r=>
 some ((decide (r.1>=0)),(r.2.1,r.2.2))
def sConFun5_fa:FnA:=⟨.two lf (.two (.reg [(2,{sh:=[0,1,2]})]) lf),⟨(.cons (.p (.sl qY34)) (.cons (.fn 209 .nil (.cons (.own 0 0 0 0) (.cons (.own 0 2 0 0) .nil))) .nil)),[(0,false,(.vars (.cons (.mp 1) .nil))),(1,false,qB37),(2,false,(.vars qL5))]⟩,[⟨(.cons (.p .bool) .nil),[(0,false,(.vars (.cons (.mp 1) .nil))),(1,false,qB37),(2,false,(.vars qL5))]⟩],[0]⟩
def sConFun5_ft(fu:Nat):FnT:=⟨128,sConFun5_fa.i,sConFun5_fa.os,u3 (sConFun5 fu)⟩
theorem hkZ(fu:Nat):Told Tryz.prog (sConFun5_ft fu):=tk fu sConFun5_fa (aaZ (hwZ fu) abZ) Tryz.func128 (by kernel_rfl) fun t=>by kernel_rfl
def ifilm2(fu:Nat)(n:qT0)(stripe:Int)(h:qT27):Option ((Bool×qT27)):=
 bif (decide (n.2.2.2.2.1>=0)) then
  bif (decide (n.2.2.2.2.1<=65536)) then
   bif (((n.2.2.2.2.2.2.2.length:Nat):Int)==0) then
    bif (decide (((n.2.2.2.2.2.1.length:Nat):Int)<=4096)) then
     (sConFun5 fu n.2.2.2.2.2.1 h stripe).bind fun r=>
     some ((!r.1),r.2.1)
    else
     some (false,h)
   else
    some (false,h)
  else
   some (false,h)
 else
  some (false,h)
def ifilm2_fa:FnA:=⟨.two (.reg [(0,{ids:=[100]}),(1,{ids:=[101]}),(2,{ids:=[102]})]) (.two lf (.two (.reg [(24,{sh:=[102,0,101]})]) lf)),⟨(.cons (.p qY3) (.cons (.p (.int .i64)) (.cons (.mp 0) .nil))),[(0,false,qB37)]⟩,[⟨(.cons (.p .bool) .nil),[(0,false,qB37)]⟩],[0]⟩
def ifilm2_ft(fu:Nat):FnT:=⟨173,ifilm2_fa.i,ifilm2_fa.os,u3 (ifilm2 fu)⟩
theorem iLZ(fu:Nat):Told Tryz.prog (ifilm2_ft fu):=tk fu ifilm2_fa (aaZ (hkZ fu) abZ) Tryz.func173 (by kernel_rfl) fun t=>by kernel_rfl
def iRig_l0(fu:Nat)(o:(Bool×(List (qT0)×Int)))(t:(List (qT0)×Int))(x:Int)(h:List (qT0))(h1:Int)(h2:qT27):Option ((Int×(List (qT0)×(Int×qT27)))⊕((List (qT0)×Int)⊕Bool)):=
 bif (decide (x<((o.2.1.length:Nat):Int))) then
  (idx? x o.2.1.length).bind fun q=>
  (o.2.1)[q]?.bind fun r=>
  (ibar fu (r.1,(r.2.1,(r.2.2.1,(r.2.2.2.1,(r.2.2.2.2.1,(r.2.2.2.2.2.1,(r.2.2.2.2.2.2.1,r.2.2.2.2.2.2.2)))))))).bind fun r1=>
  Option.bind (α:=((Bool×(List (qT0)×(Int×(qT27×qT0)))))) (
   bif r.2.2.1 then
    some (r.2.2.2.1,(h,(h1,(h2,(r.1,(r.2.1,(r.2.2.1,(r.2.2.2.1,(r.2.2.2.2.1,(r.2.2.2.2.2.1,(r.2.2.2.2.2.2.1,r.2.2.2.2.2.2.2)))))))))))
   else
    some (false,(h,(h1,(h2,(r.1,(r.2.1,(r.2.2.1,(r.2.2.2.1,(r.2.2.2.2.1,(r.2.2.2.2.2.1,(r.2.2.2.2.2.2.1,r.2.2.2.2.2.2.2)))))))))))) fun o1=>
  Option.bind (α:=((Bool×(List (qT0)×(Int×(qT27×qT0)))))) (
   bif o1.1 then
    (idir fu (o1.2.2.2.2.1,(o1.2.2.2.2.2.1,(o1.2.2.2.2.2.2.1,(o1.2.2.2.2.2.2.2.1,(o1.2.2.2.2.2.2.2.2.1,(o1.2.2.2.2.2.2.2.2.2.1,(o1.2.2.2.2.2.2.2.2.2.2.1,o1.2.2.2.2.2.2.2.2.2.2.2))))))) ((t.1.length:Nat):Int)).bind fun r2=>
    some (r2,(o1.2.1,(o1.2.2.1,(o1.2.2.2.1,(o1.2.2.2.2.1,(o1.2.2.2.2.2.1,(o1.2.2.2.2.2.2.1,(o1.2.2.2.2.2.2.2.1,(o1.2.2.2.2.2.2.2.2.1,(o1.2.2.2.2.2.2.2.2.2.1,(o1.2.2.2.2.2.2.2.2.2.2.1,o1.2.2.2.2.2.2.2.2.2.2.2)))))))))))
   else
    Option.bind (α:=((Bool×(List (qT0)×(Int×(qT27×qT0)))))) (
     bif o1.2.2.2.2.2.2.1 then
      (ifilm2 fu (o1.2.2.2.2.1,(o1.2.2.2.2.2.1,(o1.2.2.2.2.2.2.1,(o1.2.2.2.2.2.2.2.1,(o1.2.2.2.2.2.2.2.2.1,(o1.2.2.2.2.2.2.2.2.2.1,(o1.2.2.2.2.2.2.2.2.2.2.1,o1.2.2.2.2.2.2.2.2.2.2.2))))))) o1.2.2.1 o1.2.2.2.1).bind fun r3=>
      some (r3.1,(o1.2.1,(o1.2.2.1,(r3.2,(o1.2.2.2.2.1,(o1.2.2.2.2.2.1,(o1.2.2.2.2.2.2.1,(o1.2.2.2.2.2.2.2.1,(o1.2.2.2.2.2.2.2.2.1,(o1.2.2.2.2.2.2.2.2.2.1,(o1.2.2.2.2.2.2.2.2.2.2.1,o1.2.2.2.2.2.2.2.2.2.2.2)))))))))))
     else
      some (r1,(o1.2.1,(o1.2.2.1,(o1.2.2.2.1,(o1.2.2.2.2.1,(o1.2.2.2.2.2.1,(o1.2.2.2.2.2.2.1,(o1.2.2.2.2.2.2.2.1,(o1.2.2.2.2.2.2.2.2.1,(o1.2.2.2.2.2.2.2.2.2.1,(o1.2.2.2.2.2.2.2.2.2.2.1,o1.2.2.2.2.2.2.2.2.2.2.2)))))))))))) fun o2=>
    some (o2.1,(o2.2.1,(o2.2.2.1,(o2.2.2.2.1,(o2.2.2.2.2.1,(o2.2.2.2.2.2.1,(o2.2.2.2.2.2.2.1,(o2.2.2.2.2.2.2.2.1,(o2.2.2.2.2.2.2.2.2.1,(o2.2.2.2.2.2.2.2.2.2.1,(o2.2.2.2.2.2.2.2.2.2.2.1,o2.2.2.2.2.2.2.2.2.2.2.2)))))))))))) fun o3=>
  Option.bind (α:=((Bool×(List (qT0)×(Int×qT27))))) (
   bif (!o3.1) then
    some (true,(o3.2.1,(o3.2.2.1,o3.2.2.2.1)))
   else
    bif (!(o3.2.2.2.2.1==(IntKind.wrap .i64 (x+1)))) then
     some (true,(o3.2.1,(o3.2.2.1,o3.2.2.2.1)))
    else
     bif (decide (o3.2.2.2.2.2.1<1)) then
      some (true,(o3.2.1,(o3.2.2.1,o3.2.2.2.1)))
     else
      bif (decide (o3.2.2.2.2.2.1>1099511627776)) then
       some (true,(o3.2.1,(o3.2.2.1,o3.2.2.2.1)))
      else
       bif o3.2.2.2.2.2.2.1 then
        bif (decide (o3.2.2.2.2.2.2.2.2.2.2.1<1)) then
         some (true,(o3.2.1,(o3.2.2.1,o3.2.2.2.1)))
        else
         some ((decide (o3.2.2.2.2.2.2.2.2.2.2.1>((t.1.length:Nat):Int))),(o3.2.1,(o3.2.2.1,o3.2.2.2.1)))
       else
        some (false,(o3.2.1,(o3.2.2.1,o3.2.2.2.1)))) fun o4=>
  bif o4.1 then
   some (.inr (.inr false))
  else
   some (.inl ((IntKind.wrap .i64 (x+1)),(o4.2.1,(o4.2.2.1,o4.2.2.2))))
 else
  some (.inr (.inl (h,h1)))
def iRig_l0_it(fu:Nat)(o:(Bool×(List (qT0)×Int)))(t:(List (qT0)×Int))(tt:(Int×(List (qT0)×(Int×qT27)))):Option ((List (qT0)×Int)⊕Bool):=
 iter fu (u4 (iRig_l0 fu o t)) tt
def iRig(fu:Nat)(t:(List (qT0)×Int)):Option (Bool):=
 Option.bind (α:=((Bool×(List (qT0)×Int)))) (
  bif (decide (((t.1.length:Nat):Int)<1)) then
   some (true,(t.1,t.2))
  else
   bif (decide (((t.1.length:Nat):Int)>500)) then
    some (true,(t.1,t.2))
   else
    bif (decide (t.2<0)) then
     some (true,(t.1,t.2))
    else
     some ((decide (t.2>1099511627776)),(t.1,t.2))) fun o=>
 bif o.1 then
  some false
 else
  (iRig_l0_it fu o t (0,(o.2.1,(o.2.2,([],0))))).bind fun o5=>
  match o5 with
  |.inl s=>
   (idx? 0 s.1.length).bind fun q1=>
   (s.1)[q1]?.bind fun r4=>
   bif r4.2.2.1 then
    bif r4.2.2.2.1 then
     some (r4.2.2.2.2.2.2.1==1)
    else
     some false
   else
    some false
  |.inr o6=>
   some o6
def iRig_fa:FnA:=⟨.two (.reg [(0,{ids:=[100]})]) (.two lf (.two (.two (.join ⟨[1,27],⟨qL41,[(100,false,qB40)]⟩⟩ false [] lf) (.two lf lf)) (.two (.reg [(0,{ids:=[101]})]) (.two (.two lf (.one (.loop ⟨[1,4,32],⟨(.cons (.own 0 100 0 0) (.cons (.mp 101) qL5)),[(100,false,qB40),(101,false,qB37)]⟩⟩ true [(0,⟨[1],⟨(.cons (.own 0 100 0 0) .nil),[(100,false,qB40)]⟩⟩)] (.two lf (.two lf (.two (.one (.two (.reg [(3,{ids:=[102]})]) (.two (.reg [(1,{})]) (.two (.one (.two (.join ⟨[1,4,6,39],⟨(.cons (.own 0 100 0 0) (.cons (.mp 101) (.cons (.own 0 102 0 0) (.cons (.p .bool) .nil)))),[(100,false,qB40),(101,false,qB37),(102,false,qB7)]⟩⟩ false [] lf) (.join ⟨[1,4,6,7],⟨(.cons (.own 0 100 0 0) (.cons (.mp 101) (.cons (.own 0 102 0 0) (.cons (.p .bool) .nil)))),[(100,false,qB40),(101,false,qB37),(102,false,qB7)]⟩⟩ false [] (.two (.reg [(2,{fn:=1})]) (.two lf (.join ⟨[1,4,6,7],⟨(.cons (.own 0 100 0 0) (.cons (.mp 101) (.cons (.own 0 102 0 0) (.cons (.p .bool) .nil)))),[(100,false,qB40),(101,false,qB37),(102,false,qB7)]⟩⟩ false [] (.two (.reg [(4,{sh:=[101],fn:=2})]) lf))))))) (.two (.join ⟨[1,4,90],⟨(.cons (.own 0 100 0 0) (.cons (.mp 101) (.cons (.p .bool) .nil))),[(100,false,qB40),(101,false,qB37)]⟩⟩ false [] lf) (.two lf lf)))))) lf)))))) (.two (.reg [(4,{ids:=[103]})]) lf))))),⟨(.cons (.p (.pair (.sl qY3) (.int .i64))) .nil),[]⟩,[⟨(.cons (.p .bool) .nil),[]⟩],[0]⟩
def iRig_ft(fu:Nat):FnT:=⟨121,iRig_fa.i,iRig_fa.os,fun t=>iRig fu t⟩
theorem lOZ(fu:Nat):Told Tryz.prog (iRig_ft fu):=tk fu iRig_fa (aaZ (mcZ fu) (aaZ (mCZ fu) (aaZ (iLZ fu) abZ))) Tryz.func121 (by kernel_rfl) fun t=>by kernel_rfl
def sConAny(fu:Nat)(s chars:List UInt8):Option Bool:=
 need (Nat.beq chars.length 2&&chars.all (fun b=>Nat.blt b.toNat 128)&&Nat.blt s.length 4294967281) (some (Go.Lib.containsAny s chars))
def sConAny_ft(fu:Nat):FnT:=⟨174,⟨(.cons (.p .str) (.cons (.p .str) .nil)),[]⟩,[⟨(.cons (.p .bool) .nil),[]⟩],fun t=>sConAny fu t.1 t.2⟩
theorem ivZ(fu:Nat):Told Tryz.prog (sConAny_ft fu):=
 dYZ Tryz.ca174 (by kernel_rfl) ⟨_,_,Tryz.func174,rfl,by kernel_rfl⟩
def tNam(fu:Nat)(s:List UInt8):Option (Bool):=
 bif (decide (((s.length:Nat):Int)>=1)) then
  bif (decide (((s.length:Nat):Int)<=30)) then
   bif (!(s==[46])) then
    bif (!(s==[46,46])) then
     (sConAny fu s [0,47]).bind fun r=>
     some (!r)
    else
     some false
   else
    some false
  else
   some false
 else
  some false
def tNam_fa:FnA:=⟨.two lf (.two (.reg [(18,{})]) lf),⟨(.cons (.p .str) .nil),[]⟩,[⟨(.cons (.p .bool) .nil),[]⟩],[0]⟩
def tNam_ft(fu:Nat):FnT:=⟨123,tNam_fa.i,tNam_fa.os,fun t=>tNam fu t⟩
theorem m0Z(fu:Nat):Told Tryz.prog (tNam_ft fu):=tk fu tNam_fa (aaZ (ivZ fu) abZ) Tryz.func123 (by kernel_rfl) fun t=>by kernel_rfl
end
end Go.Ab.D
