/- Functions of the program as plain Lean functions: each equation is checked by the kernel; what is told of a function follows from it. -/
import Derived.Test.YtdeibkibmmnnoaaGreatE4
import Derived.Test.YtdeibkibmmnnoaaGreatProg
import Derived.KernelRfl
namespace Go.Proofs
open Go.Shelf
def Tryz.ca88_ren:Go.Shelf.Ren:=⟨fun|150=>88|153=>105|152=>112|226=>113|227=>114|228=>115|137=>118|119=>119|224=>120|225=>121|217=>123|266=>124|n=>n,fun|9=>9|4=>4|3=>3|5=>5|21=>21|117=>153|116=>152|0=>0|46=>145|124=>159|n=>n,fun|n=>n⟩
theorem Tryz.ca88:Go.Proofs.Lays.n150 Tryz.prog Tryz.ca88_ren:={
 mixed:=by kernel_rfl
 f119:=Tryz.func119.trans (congrArg some (by kernel_rfl))
 f137:=Tryz.func118.trans (congrArg some (by kernel_rfl))
 f150:=Tryz.func88.trans (congrArg some (by kernel_rfl))
 f152:=Tryz.func112.trans (congrArg some (by kernel_rfl))
 f153:=Tryz.func105.trans (congrArg some (by kernel_rfl))
 f217:=Tryz.func123.trans (congrArg some (by kernel_rfl))
 f224:=Tryz.func120.trans (congrArg some (by kernel_rfl))
 f225:=Tryz.func121.trans (congrArg some (by kernel_rfl))
 f226:=Tryz.func113.trans (congrArg some (by kernel_rfl))
 f227:=Tryz.func114.trans (congrArg some (by kernel_rfl))
 f228:=Tryz.func115.trans (congrArg some (by kernel_rfl))
 f266:=Tryz.func124.trans (congrArg some (by kernel_rfl))
 t0:=Tryz.underlying0
 a0:=Tryz.isAgg0
 z0:=Tryz.sizeOf0
 v0:=Tryz.zeroValue0
 t3:=Tryz.underlying3
 a3:=Tryz.isAgg3
 z3:=Tryz.sizeOf3
 v3:=Tryz.zeroValue3
 t4:=Tryz.underlying4
 a4:=Tryz.isAgg4
 z4:=Tryz.sizeOf4
 v4:=Tryz.zeroValue4
 t5:=Tryz.underlying5
 a5:=Tryz.isAgg5
 z5:=Tryz.sizeOf5
 v5:=Tryz.zeroValue5
 t9:=Tryz.underlying9
 a9:=Tryz.isAgg9
 z9:=Tryz.sizeOf9
 v9:=Tryz.zeroValue9
 t21:=Tryz.underlying21
 a21:=Tryz.isAgg21
 z21:=Tryz.sizeOf21
 v21:=Tryz.zeroValue21
 t46:=Tryz.underlying145
 a46:=Tryz.isAgg145
 z46:=Tryz.sizeOf145
 v46:=Tryz.zeroValue145
 t116:=Tryz.underlying152
 a116:=Tryz.isAgg152
 z116:=Tryz.sizeOf152
 t117:=Tryz.underlying153
 a117:=Tryz.isAgg153
 z117:=Tryz.sizeOf153
 v117:=Tryz.zeroValue153
 t124:=Tryz.underlying159
 a124:=Tryz.isAgg159
 z124:=Tryz.sizeOf159
 v124:=Tryz.zeroValue159}
end Go.Proofs
namespace Go.Proofs
open Go.Shelf
def Tryz.ins98_ren:Go.Shelf.Ren:=⟨fun|22=>98|29=>107|30=>108|36=>117|17=>122|n=>n,fun|24=>37|9=>79|3=>3|4=>4|0=>0|n=>n,fun|n=>n⟩
theorem Tryz.ins98:Go.Proofs.InsLay Tryz.prog Tryz.ins98_ren:={
 mixed:=by kernel_rfl
 f22:=⟨Tryz.f98.name,by decide,Tryz.func98.trans (congrArg some (by kernel_rfl))⟩
 x29:=by kernel_rfl
 t0:=Tryz.underlying0
 a0:=Tryz.isAgg0
 z0:=Tryz.sizeOf0
 v0:=Tryz.zeroValue0
 t3:=Tryz.underlying3
 a3:=Tryz.isAgg3
 z3:=Tryz.sizeOf3
 v3:=Tryz.zeroValue3
 t4:=Tryz.underlying4
 a4:=Tryz.isAgg4
 z4:=Tryz.sizeOf4
 v4:=Tryz.zeroValue4
 t24:=Tryz.underlying37
 a24:=Tryz.isAgg37
 z24:=Tryz.sizeOf37
 v24:=Tryz.zeroValue37}
end Go.Proofs
set_option linter.all false
set_option maxRecDepth 100000
set_option maxHeartbeats 4000000
namespace Go.Ab.D
open Go.Proofs
open Go Go.Ab
noncomputable section
abbrev qY0:Ty:=(.pair (.int .i64) (.pair (.int .i64) (.pair .bool (.pair .bool (.pair (.int .i64) (.pair (.sl (.pair (.int .i64) (.int .i64))) (.pair (.int .i64) (.sl (.pair .str (.int .i64))))))))))
abbrev qT1:Type:=(Int×(Int×(Bool×(Bool×(Int×(List ((Int×Int))×(Int×List ((List UInt8×Int)))))))))
abbrev qB2:BKd:=(.vars (.cons (.p (.sl qY0)) (.cons (.p (.int .i64)) (.cons (.p (.sl (.sl .byte))) (.cons (.p (.int .i64)) (.cons (.p (.int .i64)) (.cons (.p (.int .u8)) (.cons (.p (.int .i64)) (.cons (.p (.int .i64)) (.cons (.p .str) (.cons (.p (.int .i64)) (.cons (.p (.int .i64)) (.cons (.p .str) (.cons (.p (.int .i64)) (.cons (.p (.int .i64)) (.cons (.p (.sl .byte)) (.cons (.p (.int .i64)) (.cons (.p (.int .i64)) (.cons (.p (.int .i64)) (.cons (.p (.int .i64)) (.cons (.p (.int .i64)) (.cons (.p .bool) (.cons (.p (.int .i64)) (.cons (.nilp (.slice none 0 0)) (.cons (.nilp (.slice none 0 0)) (.cons (.p .bool) (.cons (.p (.int .i64)) .nil)))))))))))))))))))))))))))
abbrev qY3:Ty:=(.pair (.int .i64) (.pair (.int .i64) (.pair .bool (.pair .bool (.pair (.int .i64) (.pair (.sl (.pair (.int .i64) (.int .i64))) (.pair (.int .i64) (.ref 1 (.pair .str (.int .i64))))))))))
abbrev qL4:KdL:=(.cons (.p (.int .i64)) .nil)
abbrev qT5:Type:=((Int×(Int×(Bool×(Bool×(Int×(List ((Int×Int))×(Int×(List ((List UInt8×Int))⊕Option (Nat×(Nat×Nat)))))))))))
abbrev qY6:Ty:=(.pair (.int .i64) (.int .i64))
abbrev qB7:BKd:=(.vars (.cons (.p (.sl qY0)) (.cons (.p (.int .i64)) (.cons (.p (.sl (.sl .byte))) (.cons (.p (.int .i64)) (.cons (.p (.int .i64)) (.cons (.p (.int .u8)) (.cons (.p (.int .i64)) (.cons (.p (.int .i64)) (.cons (.p .str) (.cons (.p (.int .i64)) (.cons (.p (.int .i64)) (.cons (.p .str) (.cons (.p (.int .i64)) (.cons (.p (.int .i64)) (.cons (.p (.sl .byte)) (.cons (.p (.int .i64)) (.cons (.p (.int .i64)) (.cons (.p (.int .i64)) (.cons (.p (.int .i64)) (.cons (.p (.int .i64)) (.cons (.p .bool) (.cons (.p (.int .i64)) (.cons (.p (.sl .byte)) (.cons (.p (.sl (.pair .str (.int .i64)))) (.cons (.p .bool) qL4))))))))))))))))))))))))))
abbrev qL8:KdL:=(.cons (.p (.int .i64)) (.cons (.p (.int .i64)) (.cons (.p .bool) (.cons (.p .bool) (.cons (.p (.int .i64)) (.cons (.p (.sl qY6)) (.cons (.p (.int .i64)) (.cons (.p (.sl (.pair .str (.int .i64)))) .nil))))))))
abbrev qT9:Type:=(List (qT1)×(Int×(List (List (UInt8))×(Int×(Int×(Int×(Int×(Int×(List UInt8×(Int×(Int×(List UInt8×(Int×(Int×(List (UInt8)×(Int×(Int×(Int×(Int×(Int×(Bool×(Int×(Bool×Int)))))))))))))))))))))))
abbrev qL10:KdL:=(.cons (.p (.int .i64)) (.cons (.p (.int .i64)) (.cons (.p (.int .u8)) (.cons (.p (.int .i64)) (.cons (.p (.int .i64)) (.cons (.p .str) (.cons (.p (.int .i64)) (.cons (.p (.int .i64)) (.cons (.p .str) (.cons (.p (.int .i64)) (.cons (.p (.int .i64)) (.cons (.p (.sl .byte)) .nil))))))))))))
abbrev qT11:Type:=((List ((((Int×Int)×(List (UInt8)⊕Option (Nat×(Nat×Nat))))×Nat))×Nat)×(List ((Int×(Int×(UInt8×((Int×Int)×(List UInt8×((Int×Int)×(List UInt8×(Int×(Int×List (UInt8)))))))))))×(List ((Int×(Int×(Int×((Int×Int)×(Bool×(Int×(List (UInt8)×(List ((List UInt8×Int))×(Bool×Int))))))))))×(List (UInt8)×List ((Nat×List (UInt8)))))))
abbrev qT12:Type:=(Int×(List (qT1)×(Int×(List (List (UInt8))×(Int×(Int×(Int×(Int×(Int×(List UInt8×(Int×(Int×(List UInt8×(Int×(Int×(List (UInt8)×(Int×(Int×(Int×(Int×(Int×(Int×(Bool×(Int×(Bool×(Int×(List (qT1)×(Int×(List (List (UInt8))×(Int×(Int×(Int×(Int×(Int×(List UInt8×(Int×(Int×(List UInt8×(Int×(Int×(List (UInt8)×(Int×(Int×(Int×(Int×(Int×(Bool×(Int×(List (UInt8)×(List ((List UInt8×Int))×(Bool×Int)))))))))))))))))))))))))))))))))))))))))))))))))))
abbrev qY13:Ty:=(.pair (.int .i64) (.pair (.int .i64) (.pair .bool (.pair .bool (.pair (.int .i64) (.pair (.ref 0 qY6) (.pair (.int .i64) (.ref 2 (.pair .str (.int .i64))))))))))
abbrev qT14:Type:=((Int×(Int×(Bool×(Bool×(Int×((List ((Int×Int))⊕Option (Nat×(Nat×Nat)))×(Int×(List ((List UInt8×Int))⊕Option (Nat×(Nat×Nat)))))))))))
abbrev qY15:Ty:=(.pair (.int .i64) (.pair (.int .i64) (.pair .byte (.pair qY6 (.pair .str (.pair qY6 (.pair .str (.pair (.int .i64) (.pair (.int .i64) (.sl .byte))))))))))
abbrev qT16:Type:=(List ((((Int×Int)×(List (UInt8)⊕Option (Nat×(Nat×Nat))))×Nat))×Nat)
abbrev qL17:KdL:=(.cons (.p (.int .i64)) (.cons (.p (.int .i64)) (.cons (.p (.int .i64)) (.cons (.p (.int .i64)) (.cons (.p (.int .i64)) (.cons (.p .bool) (.cons (.p (.int .i64)) (.cons (.p (.sl .byte)) (.cons (.p (.sl (.pair .str (.int .i64)))) (.cons (.p .bool) qL4))))))))))
abbrev qT18:Type:=(Int×(Int×(Int×(Int×(Int×(List UInt8×(Int×(Int×(List UInt8×(Int×(Int×(List (UInt8)×(Int×(Int×(Int×(Int×(Int×(Int×(Bool×(Int×(Bool×(Int×(Int×(List (qT1)×List (List (UInt8))))))))))))))))))))))))))
abbrev qT19:Type:=((Nat×List ((List UInt8×Int))))
abbrev qY20:Ty:=(.pair (.int .i64) (.pair (.int .i64) (.pair (.int .i64) (.pair qY6 (.pair .bool (.pair (.int .i64) (.pair (.sl .byte) (.pair (.sl (.pair .str (.int .i64))) (.pair .bool (.int .i64))))))))))
abbrev qT21:Type:=(Int×(Int×(Int×(Int×(Int×(Bool×(Int×(List (UInt8)×(List ((List UInt8×Int))×(Bool×Int))))))))))
abbrev qY22:Ty:=(.pair (.int .i64) (.pair (.int .i64) (.pair .bool (.pair .bool (.pair (.int .i64) (.pair (.ref 0 qY6) (.pair (.int .i64) (.sl (.pair .str (.int .i64))))))))))
abbrev qT23:Type:=(List (qT1)×(Int×(List (List (UInt8))×(Int×(Int×(Int×(Int×(Int×(List UInt8×(Int×(Int×(List UInt8×(Int×(Int×(List (UInt8)×(Int×(Int×(Int×(Int×(Int×(Bool×(Int×(List (UInt8)×(List ((List UInt8×Int))×(Bool×(Int×(Int×(Int×(List (qT1)×List (List (UInt8)))))))))))))))))))))))))))))))
abbrev qL24:KdL:=(.cons (.p .bool) (.cons (.p .bool) (.cons (.p .bool) (.cons (.p .bool) (.cons (.p (.int .i64)) (.cons (.p .bool) .nil))))))
abbrev qL25:KdL:=(.cons (.p (.int .i64)) (.cons (.p (.int .i64)) (.cons (.p (.int .i64)) (.cons (.p (.int .i64)) (.cons (.p (.int .i64)) (.cons (.p .bool) (.cons (.p (.int .i64)) (.cons (.nilp (.slice none 0 0)) (.cons (.nilp (.slice none 0 0)) (.cons (.p .bool) qL4))))))))))
abbrev qT26:Type:=(Int×(Int×(UInt8×((Int×Int)×(List UInt8×((Int×Int)×(List UInt8×(Int×(Int×List (UInt8))))))))))
abbrev qB27:BKd:=(.fam 79 (.pair .str (.int .i64)))
abbrev qB28:BKd:=(.vars (.cons (.p (.sl qY0)) qL4))
abbrev qL29:KdL:=(.cons (.nilp (.slice none 0 0)) (.cons (.p (.int .i64)) (.cons (.nilp (.slice none 0 0)) .nil)))
abbrev qT30:Type:=((Int×(Int×(Bool×(Bool×(Int×((List ((Int×Int))⊕Option (Nat×(Nat×Nat)))×(Int×List ((List UInt8×Int))))))))))
abbrev qB31:BKd:=(.vars (.cons (.p (.sl qY0)) (.cons (.p (.int .i64)) (.cons (.p (.sl (.sl .byte))) .nil))))
abbrev qB32:BKd:=(.vars (.cons (.nilp (.slice none 0 0)) qL4))
abbrev qY33:Ty:=(.pair (.sl qY0) (.int .i64))
abbrev qT34:Type:=(qT16×(Int×(List (qT1)×(List (List (UInt8))×(List ((Int×Int))×(Int×(Int×(Int×(Int×(Int×(List UInt8×(Int×(Int×(List UInt8×(Int×(Int×(List (UInt8)×List ((Nat×List (UInt8))))))))))))))))))))
abbrev qB35:BKd:=(.vars (.cons (.mp 1) .nil))
abbrev qT36:Type:=(List (((Int×Int)×Nat))×Nat)
abbrev qT37:Type:=(Int×(Int×(Int×((Int×Int)×(Bool×(Int×(List (UInt8)×(List ((List UInt8×Int))×(Bool×Int)))))))))
abbrev qT38:Type:=(List (qT1)×(Int×List (List (UInt8))))
abbrev qL39:KdL:=(.cons (.own 0 0 0 0) .nil)
abbrev qB40:BKd:=(.vars (.cons (.slf 8 100) (.cons (.p (.int .i64)) (.cons (.slf 1 101) .nil))))
abbrev qL41:KdL:=(.cons (.p (.int .i64)) qL4)
abbrev qB42:BKd:=(.rows 79 (.pair .str (.int .i64)))
abbrev qT43:Type:=((Nat×List ((Int×Int))))
abbrev qB44:BKd:=(.vars (.cons (.p .str) .nil))
abbrev qT45:Type:=(Int×(List (qT1)×Int))
abbrev qL46:KdL:=(.cons (.own 0 100 0 0) (.cons (.p .bool) .nil))
abbrev qT47:Type:=(Bool×(Bool×(Bool×(Bool×(Int×Bool)))))
abbrev qT48:Type:=(List ((List UInt8×Int))×List UInt8)
abbrev qT49:Type:=(qT16×(Int×(List (qT1)×(List (List (UInt8))×(List ((Int×Int))×List ((Nat×List (UInt8))))))))
abbrev qB50:BKd:=(.vars (.cons (.slf 8 102) qL4))
abbrev qB51:BKd:=(.map qY6 (.ref 4 .byte))
abbrev qB52:BKd:=(.vars (.cons (.slf 8 1) (.cons (.p (.int .i64)) (.cons (.slf 1 2) (.cons (.p (.int .i64)) (.cons (.p (.int .i64)) (.cons (.p (.int .u8)) (.cons (.p (.int .i64)) (.cons (.p (.int .i64)) (.cons (.p .str) (.cons (.p (.int .i64)) (.cons (.p (.int .i64)) (.cons (.p .str) (.cons (.p (.int .i64)) (.cons (.p (.int .i64)) (.cons (.p (.sl .byte)) qL25))))))))))))))))
abbrev qB53:BKd:=(.map (.int .i64) (.int .i64))
theorem mixed:Tryz.prog.follows .mixedOrders=true:=by kernel_rfl
abbrev lf:Ov:=.leaf
theorem tk{T:List FnT}(fu:Nat){f:FuncId}{fn:Func}(fa:FnA){spec:fa.i.D->Option (OutS fa.os)}(hT:∀e∈T,Told Tryz.prog e)(hf:Tryz.prog.funcs[f]? =some fn)(hb:(fn.body.isSome&&!(fn.name=="runtime.NumGoroutine"))=true)(hs:∀t,evF Tryz.prog T fu fn fa t=spec t):Told Tryz.prog ⟨f,fa.i,fa.os,spec⟩:=by
 have h:=(ZAD _ _).mp hb;exact pOZ hT mixed hf (by simpa using h.2) h.1 hs
def u2{a b W:Type}(F:a->b->W)(t:a×b):=F t.1 t.2
def u3{a b c W:Type}(F:a->b->c->W)(t:a×b×c):=u2 (F t.1) t.2
def u4{a b c d W:Type}(F:a->b->c->d->W)(t:a×b×c×d):=u3 (F t.1) t.2
def u5{a b c d e W:Type}(F:a->b->c->d->e->W)(t:a×b×c×d×e):=u4 (F t.1) t.2
def u6{a b c d e f W:Type}(F:a->b->c->d->e->f->W)(t:a×b×c×d×e×f):=u5 (F t.1) t.2
def u7{a b c d e f g W:Type}(F:a->b->c->d->e->f->g->W)(t:a×b×c×d×e×f×g):=u6 (F t.1) t.2
def u8{a b c d e f g h W:Type}(F:a->b->c->d->e->f->g->h->W)(t:a×b×c×d×e×f×g×h):=u7 (F t.1) t.2
def u9{a b c d e f g h i W:Type}(F:a->b->c->d->e->f->g->h->i->W)(t:a×b×c×d×e×f×g×h×i):=u8 (F t.1) t.2
def u10{a b c d e f g h i j W:Type}(F:a->b->c->d->e->f->g->h->i->j->W)(t:a×b×c×d×e×f×g×h×i×j):=u9 (F t.1) t.2
def u11{a b c d e f g h i j k W:Type}(F:a->b->c->d->e->f->g->h->i->j->k->W)(t:a×b×c×d×e×f×g×h×i×j×k):=u10 (F t.1) t.2
def u12{a b c d e f g h i j k l W:Type}(F:a->b->c->d->e->f->g->h->i->j->k->l->W)(t:a×b×c×d×e×f×g×h×i×j×k×l):=u11 (F t.1) t.2
def u13{a b c d e f g h i j k l m W:Type}(F:a->b->c->d->e->f->g->h->i->j->k->l->m->W)(t:a×b×c×d×e×f×g×h×i×j×k×l×m):=u12 (F t.1) t.2
def u14{a b c d e f g h i j k l m n W:Type}(F:a->b->c->d->e->f->g->h->i->j->k->l->m->n->W)(t:a×b×c×d×e×f×g×h×i×j×k×l×m×n):=u13 (F t.1) t.2
def u15{a b c d e f g h i j k l m n o W:Type}(F:a->b->c->d->e->f->g->h->i->j->k->l->m->n->o->W)(t:a×b×c×d×e×f×g×h×i×j×k×l×m×n×o):=u14 (F t.1) t.2
def u16{a b c d e f g h i j k l m n o p W:Type}(F:a->b->c->d->e->f->g->h->i->j->k->l->m->n->o->p->W)(t:a×b×c×d×e×f×g×h×i×j×k×l×m×n×o×p):=u15 (F t.1) t.2
def u17{a b c d e f g h i j k l m n o p q W:Type}(F:a->b->c->d->e->f->g->h->i->j->k->l->m->n->o->p->q->W)(t:a×b×c×d×e×f×g×h×i×j×k×l×m×n×o×p×q):=u16 (F t.1) t.2
def u18{a b c d e f g h i j k l m n o p q r W:Type}(F:a->b->c->d->e->f->g->h->i->j->k->l->m->n->o->p->q->r->W)(t:a×b×c×d×e×f×g×h×i×j×k×l×m×n×o×p×q×r):=u17 (F t.1) t.2
def u19{a b c d e f g h i j k l m n o p q r s W:Type}(F:a->b->c->d->e->f->g->h->i->j->k->l->m->n->o->p->q->r->s->W)(t:a×b×c×d×e×f×g×h×i×j×k×l×m×n×o×p×q×r×s):=u18 (F t.1) t.2
def u20{a b c d e f g h i j k l m n o p q r s x W:Type}(F:a->b->c->d->e->f->g->h->i->j->k->l->m->n->o->p->q->r->s->x->W)(t:a×b×c×d×e×f×g×h×i×j×k×l×m×n×o×p×q×r×s×x):=u19 (F t.1) t.2
def u21{a b c d e f g h i j k l m n o p q r s x y W:Type}(F:a->b->c->d->e->f->g->h->i->j->k->l->m->n->o->p->q->r->s->x->y->W)(t:a×b×c×d×e×f×g×h×i×j×k×l×m×n×o×p×q×r×s×x×y):=u20 (F t.1) t.2
def u22{a b c d e f g h i j k l m n o p q r s x y z W:Type}(F:a->b->c->d->e->f->g->h->i->j->k->l->m->n->o->p->q->r->s->x->y->z->W)(t:a×b×c×d×e×f×g×h×i×j×k×l×m×n×o×p×q×r×s×x×y×z):=u21 (F t.1) t.2
def u23{a b c d e f g h i j k l m n o p q r s x y z a1 W:Type}(F:a->b->c->d->e->f->g->h->i->j->k->l->m->n->o->p->q->r->s->x->y->z->a1->W)(t:a×b×c×d×e×f×g×h×i×j×k×l×m×n×o×p×q×r×s×x×y×z×a1):=u22 (F t.1) t.2
def u24{a b c d e f g h i j k l m n o p q r s x y z a1 b1 W:Type}(F:a->b->c->d->e->f->g->h->i->j->k->l->m->n->o->p->q->r->s->x->y->z->a1->b1->W)(t:a×b×c×d×e×f×g×h×i×j×k×l×m×n×o×p×q×r×s×x×y×z×a1×b1):=u23 (F t.1) t.2
def u25{a b c d e f g h i j k l m n o p q r s x y z a1 b1 c1 W:Type}(F:a->b->c->d->e->f->g->h->i->j->k->l->m->n->o->p->q->r->s->x->y->z->a1->b1->c1->W)(t:a×b×c×d×e×f×g×h×i×j×k×l×m×n×o×p×q×r×s×x×y×z×a1×b1×c1):=u24 (F t.1) t.2
def u26{a b c d e f g h i j k l m n o p q r s x y z a1 b1 c1 d1 W:Type}(F:a->b->c->d->e->f->g->h->i->j->k->l->m->n->o->p->q->r->s->x->y->z->a1->b1->c1->d1->W)(t:a×b×c×d×e×f×g×h×i×j×k×l×m×n×o×p×q×r×s×x×y×z×a1×b1×c1×d1):=u25 (F t.1) t.2
def inode_New(fu:Nat):Option ((Int×List (qT1))):=
 some (0,[(1,(1,(true,(true,(0,([],(1,[])))))))])
def inode_New_fa:FnA:=⟨.two (.reg [(0,{ids:=[100]})]) (.two (.reg [(1,{ids:=[101]})]) lf),⟨.nil,[]⟩,[⟨(.cons (.agg (.cons (.slf 8 0) qL4)) .nil),[(0,false,(.rows 49 qY0))]⟩],[0]⟩
def inode_New_ft(fu:Nat):FnT:=⟨40,inode_New_fa.i,inode_New_fa.os,fun t=>inode_New fu⟩
theorem fZZ(fu:Nat):Told Tryz.prog (inode_New_ft fu):=tk fu inode_New_fa acZ Tryz.func40 (by kernel_rfl) fun t=>by kernel_rfl
def model_New(fu:Nat):Option ((Int×(List (qT1)×List (List (UInt8))))):=
 (inode_New fu).bind fun r=>
 some (r.1,(r.2,(List.replicate (α:=List (UInt8)) 1 [])))
def model_New_fa:FnA:=⟨.two (.reg [(0,{ids:=[100]})]) (.two (.reg [(0,{ids:=[101]}),(1,{ids:=[102]})]) lf),⟨.nil,[]⟩,[⟨(.cons (.agg (.cons (.slf 8 0) (.cons (.p (.int .i64)) (.cons (.slf 1 1) .nil)))) .nil),[(0,false,(.rows 49 qY0)),(1,false,(.rows 33 (.sl .byte)))]⟩],[0]⟩
def model_New_ft(fu:Nat):FnT:=⟨16,model_New_fa.i,model_New_fa.os,fun t=>model_New fu⟩
theorem dxZ(fu:Nat):Told Tryz.prog (model_New_ft fu):=tk fu model_New_fa (aaZ (fZZ fu) acZ) Tryz.func16 (by kernel_rfl) fun t=>by kernel_rfl
def kit_Great_l0(fu:Nat)(r2:qT1)(x:Int)(x1:Int)(h2:List (qT1))(h3:Int):Option (qT45⊕((List (qT1)×Int)⊕(qT45⊕(Unit⊕Bool)))):=
 bif (decide (x1<((r2.2.2.2.2.2.2.2.length:Nat):Int))) then
  (idx? x h2.length).bind fun q3=>
  (h2)[q3]?.bind fun r3=>
  (idx? x1 r3.2.2.2.2.2.2.2.length).bind fun q4=>
  (r3.2.2.2.2.2.2.2)[q4]?.bind fun r4=>
  bif (decide (((r4.1.length:Nat):Int)>3000)) then
   some (.inr (.inr (.inr (.inr true))))
  else
   some (.inl ((IntKind.wrap .i64 (x1+1)),(h2,h3)))
 else
  some (.inr (.inl (h2,h3)))
def kit_Great_l0_it(fu:Nat)(r2:qT1)(x:Int)(tt:qT45):Option ((List (qT1)×Int)⊕(qT45⊕(Unit⊕Bool))):=
 iter fu (fun tt=>kit_Great_l0 fu r2 x tt.1 tt.2.1 tt.2.2) tt
def kit_Great_l1(fu:Nat)(t:(List (qT1)×Int))(x:Int)(h:List (qT1))(h1:Int):Option (qT45⊕(Unit⊕Bool)):=
 bif (decide (x<((t.1.length:Nat):Int))) then
  Option.bind (α:=((Bool×(List (qT1)×Int)))) (
   (idx? x h.length).bind fun q=>
   (h)[q]?.bind fun r=>
   bif (decide (((r.2.2.2.2.2.1.length:Nat):Int)>120)) then
    some (true,(h,h1))
   else
    (idx? x h.length).bind fun q1=>
    (h)[q1]?.bind fun r1=>
    some ((decide (((r1.2.2.2.2.2.2.2.length:Nat):Int)>120)),(h,h1))) fun o=>
  bif o.1 then
   some (.inr (.inr true))
  else
   (idx? x o.2.1.length).bind fun q2=>
   (o.2.1)[q2]?.bind fun r2=>
   (kit_Great_l0_it fu r2 x (0,(o.2.1,o.2.2))).bind fun o1=>
   match o1 with
   |.inl s=>
    some (.inl ((IntKind.wrap .i64 (x+1)),(s.1,s.2)))
   |.inr o2=>
    some o2
 else
  some (.inr (.inl ()))
def kit_Great_l1_it(fu:Nat)(t:(List (qT1)×Int))(tt:qT45):Option (Unit⊕Bool):=
 iter fu (fun tt=>kit_Great_l1 fu t tt.1 tt.2.1 tt.2.2) tt
def kit_Great(fu:Nat)(t:(List (qT1)×Int)):Option (Bool):=
 bif (decide (((t.1.length:Nat):Int)>40)) then
  some true
 else
  (kit_Great_l1_it fu t (0,(t.1,t.2))).bind fun o3=>
  match o3 with
  |.inl s1=>
   some false
  |.inr o4=>
   some o4
def kit_Great_fa:FnA:=⟨.two (.reg [(0,{ids:=[100]})]) (.two (.two lf (.two lf lf)) (.two (.two lf (.one (.loop ⟨[1,12],⟨(.cons (.own 0 100 0 0) qL4),[(100,false,qB28)]⟩⟩ true [(0,⟨[],⟨.nil,[]⟩⟩)] (.two lf (.two lf (.two (.one (.two lf (.two (.two (.join ⟨[1,32],⟨qL46,[(100,false,qB28)]⟩⟩ false [] lf) (.two lf lf)) (.two lf (.one (.loop ⟨[1,40],⟨(.cons (.own 0 100 0 0) qL4),[(100,false,qB28)]⟩⟩ true [(2,⟨[1],⟨(.cons (.own 0 100 0 0) .nil),[(100,false,qB28)]⟩⟩)] (.two lf (.two lf (.two (.one (.two lf (.two lf (.two lf lf)))) lf))))))))) lf)))))) lf)),⟨(.cons (.p qY33) .nil),[]⟩,[⟨(.cons (.p .bool) .nil),[]⟩],[0]⟩
def kit_Great_ft(fu:Nat):FnT:=⟨47,kit_Great_fa.i,kit_Great_fa.os,fun t=>kit_Great fu t⟩
theorem gaZ(fu:Nat):Told Tryz.prog (kit_Great_ft fu):=tk fu kit_Great_fa acZ Tryz.func47 (by kernel_rfl) fun t=>by kernel_rfl
def law22_Great_l0(fu:Nat)(o:(Bool×qT38))(n:Int)(x:Int)(h:List (qT1))(h1:Int)(h2:List (List (UInt8))):Option ((Int×(Int×qT38))⊕(Int)):=
 bif (decide (x<((o.2.2.2.length:Nat):Int))) then
  (idx? x h2.length).bind fun q=>
  (h2)[q]?.bind fun r1=>
  some (.inl ((IntKind.wrap .i64 (n+((r1.length:Nat):Int))),((IntKind.wrap .i64 (x+1)),(h,(h1,h2)))))
 else
  some (.inr n)
def law22_Great_l0_it(fu:Nat)(o:(Bool×qT38))(tt:(Int×(Int×qT38))):Option (Int):=
 iter fu (fun tt=>law22_Great_l0 fu o tt.1 tt.2.1 tt.2.2.1 tt.2.2.2.1 tt.2.2.2.2) tt
def law22_Great(fu:Nat)(m:((List (qT1)×Int)×List (List (UInt8)))):Option (Bool):=
 Option.bind (α:=((Bool×qT38))) (
  (kit_Great fu (m.1.1,m.1.2)).bind fun r=>
  bif r then
   some (true,(m.1.1,(m.1.2,m.2)))
  else
   some ((decide (((m.2.length:Nat):Int)>60)),(m.1.1,(m.1.2,m.2)))) fun o=>
 bif o.1 then
  some true
 else
  (law22_Great_l0_it fu o (0,(0,(o.2.1,(o.2.2.1,o.2.2.2))))).bind fun o1=>
  some (decide (o1>70000))
def law22_Great_fa:FnA:=⟨.two (.reg [(0,{ids:=[100]})]) (.two (.two (.join ⟨[1,13],⟨qL46,[(100,false,qB31)]⟩⟩ false [] (.reg [(2,{})])) (.two lf lf)) (.two lf (.two (.two lf (.one (.loop ⟨[1,3,17],⟨(.cons (.own 0 100 0 0) qL41),[(100,false,qB31)]⟩⟩ false [(0,⟨[3],⟨qL4,[]⟩⟩)] (.two lf (.two lf (.two (.one lf) lf)))))) lf))),⟨(.cons (.p (.pair qY33 (.sl (.sl .byte)))) .nil),[]⟩,[⟨(.cons (.p .bool) .nil),[]⟩],[0]⟩
def law22_Great_ft(fu:Nat):FnT:=⟨22,law22_Great_fa.i,law22_Great_fa.os,fun t=>law22_Great fu t⟩
theorem eRZ(fu:Nat):Told Tryz.prog (law22_Great_ft fu):=tk fu law22_Great_fa (aaZ (gaZ fu) acZ) Tryz.func22 (by kernel_rfl) fun t=>by kernel_rfl
def law21_Huge_l0(fu:Nat)(o:(Bool×qT21))(x:Int)(h:Int)(h1:Int)(h2:Int)(h3:Int)(h4:Int)(h5:Bool)(h6:Int)(h7:List (UInt8))(h8:List ((List UInt8×Int)))(h9:Bool)(h10:Int):Option ((Int×qT21)⊕(Unit⊕Bool)):=
 bif (decide (x<((o.2.2.2.2.2.2.2.2.2.1.length:Nat):Int))) then
  (idx? x h8.length).bind fun q=>
  (h8)[q]?.bind fun r1=>
  bif (decide (((r1.1.length:Nat):Int)>3000)) then
   some (.inr (.inr true))
  else
   some (.inl ((IntKind.wrap .i64 (x+1)),(h,(h1,(h2,(h3,(h4,(h5,(h6,(h7,(h8,(h9,h10))))))))))))
 else
  some (.inr (.inl ()))
def law21_Huge_l0_it(fu:Nat)(o:(Bool×qT21))(tt:(Int×qT21)):Option (Unit⊕Bool):=
 iter fu (fun tt=>law21_Huge_l0 fu o tt.1 tt.2.1 tt.2.2.1 tt.2.2.2.1 tt.2.2.2.2.1 tt.2.2.2.2.2.1 tt.2.2.2.2.2.2.1 tt.2.2.2.2.2.2.2.1 tt.2.2.2.2.2.2.2.2.1 tt.2.2.2.2.2.2.2.2.2.1 tt.2.2.2.2.2.2.2.2.2.2.1 tt.2.2.2.2.2.2.2.2.2.2.2) tt
def law21_Huge(fu:Nat)(c:qT26)(r:qT37):Option (Bool):=
 Option.bind (α:=((Bool×qT21))) (
  bif (decide (((c.2.2.2.2.1.length:Nat):Int)>3000)) then
   some (true,(r.1,(r.2.1,(r.2.2.1,(r.2.2.2.1.1,(r.2.2.2.1.2,(r.2.2.2.2.1,(r.2.2.2.2.2.1,(r.2.2.2.2.2.2.1,(r.2.2.2.2.2.2.2.1,(r.2.2.2.2.2.2.2.2.1,r.2.2.2.2.2.2.2.2.2)))))))))))
  else
   bif (decide (((c.2.2.2.2.2.2.1.length:Nat):Int)>3000)) then
    some (true,(r.1,(r.2.1,(r.2.2.1,(r.2.2.2.1.1,(r.2.2.2.1.2,(r.2.2.2.2.1,(r.2.2.2.2.2.1,(r.2.2.2.2.2.2.1,(r.2.2.2.2.2.2.2.1,(r.2.2.2.2.2.2.2.2.1,r.2.2.2.2.2.2.2.2.2)))))))))))
   else
    bif (decide (((c.2.2.2.2.2.2.2.2.2.length:Nat):Int)>5000)) then
     some (true,(r.1,(r.2.1,(r.2.2.1,(r.2.2.2.1.1,(r.2.2.2.1.2,(r.2.2.2.2.1,(r.2.2.2.2.2.1,(r.2.2.2.2.2.2.1,(r.2.2.2.2.2.2.2.1,(r.2.2.2.2.2.2.2.2.1,r.2.2.2.2.2.2.2.2.2)))))))))))
    else
     bif (decide (((r.2.2.2.2.2.2.1.length:Nat):Int)>5000)) then
      some (true,(r.1,(r.2.1,(r.2.2.1,(r.2.2.2.1.1,(r.2.2.2.1.2,(r.2.2.2.2.1,(r.2.2.2.2.2.1,(r.2.2.2.2.2.2.1,(r.2.2.2.2.2.2.2.1,(r.2.2.2.2.2.2.2.2.1,r.2.2.2.2.2.2.2.2.2)))))))))))
     else
      some ((decide (((r.2.2.2.2.2.2.2.1.length:Nat):Int)>120)),(r.1,(r.2.1,(r.2.2.1,(r.2.2.2.1.1,(r.2.2.2.1.2,(r.2.2.2.2.1,(r.2.2.2.2.2.1,(r.2.2.2.2.2.2.1,(r.2.2.2.2.2.2.2.1,(r.2.2.2.2.2.2.2.2.1,r.2.2.2.2.2.2.2.2.2)))))))))))) fun o=>
 bif o.1 then
  some true
 else
  (law21_Huge_l0_it fu o (0,(o.2.1,(o.2.2.1,(o.2.2.2.1,(o.2.2.2.2.1,(o.2.2.2.2.2.1,(o.2.2.2.2.2.2.1,(o.2.2.2.2.2.2.2.1,(o.2.2.2.2.2.2.2.2.1,(o.2.2.2.2.2.2.2.2.2.1,(o.2.2.2.2.2.2.2.2.2.2.1,o.2.2.2.2.2.2.2.2.2.2.2)))))))))))).bind fun o1=>
  match o1 with
  |.inl s=>
   some false
  |.inr o2=>
   some o2
def law21_Huge_fa:FnA:=⟨.two (.reg [(0,{ids:=[100]}),(1,{ids:=[101]})]) (.two (.two (.join ⟨[3,33],⟨(.cons (.own 0 101 0 0) (.cons (.p .bool) .nil)),[(101,false,(.vars qL17))]⟩⟩ false [] lf) (.two lf lf)) (.two (.two lf (.one (.loop ⟨[3,37],⟨(.cons (.own 0 101 0 0) qL4),[(101,false,(.vars qL17))]⟩⟩ true [(0,⟨[],⟨.nil,[]⟩⟩)] (.two lf (.two lf (.two (.one (.two lf (.two lf (.two lf lf)))) lf)))))) lf)),⟨(.cons (.p qY15) (.cons (.p qY20) .nil)),[]⟩,[⟨(.cons (.p .bool) .nil),[]⟩],[0]⟩
def law21_Huge_ft(fu:Nat):FnT:=⟨23,law21_Huge_fa.i,law21_Huge_fa.os,fun t=>law21_Huge fu t.1 t.2⟩
theorem fBZ(fu:Nat):Told Tryz.prog (law21_Huge_ft fu):=tk fu law21_Huge_fa acZ Tryz.func23 (by kernel_rfl) fun t=>by kernel_rfl
def kit_Pick(fu:Nat)(x:Int)(n:Int):Option (Int):=
 bif (decide (n<1)) then
  some 0
 else
  need (!(decide (n=0)))<|
  bif (decide ((Int.tmod x n)<0)) then
   some (IntKind.wrap .i64 ((Int.tmod x n)+n))
  else
   some (Int.tmod x n)
def kit_Pick_fa:FnA:=⟨.two lf (.two (.two lf (.two lf lf)) (.two lf (.two (.two lf lf) lf))),⟨qL41,[]⟩,[⟨qL4,[]⟩],[0]⟩
def kit_Pick_ft(fu:Nat):FnT:=⟨24,kit_Pick_fa.i,kit_Pick_fa.os,fun t=>kit_Pick fu t.1 t.2⟩
theorem gZZ(fu:Nat):Told Tryz.prog (kit_Pick_ft fu):=tk fu kit_Pick_fa acZ Tryz.func24 (by kernel_rfl) fun t=>by kernel_rfl
def ibar(fu:Nat)(n:qT1):Option (Bool):=
 bif (!n.2.2.1) then
  bif (!n.2.2.2.1) then
   bif (n.2.2.2.2.1==0) then
    bif (n.2.2.2.2.2.2.1==0) then
     some ((IntKind.wrap .i64 (((n.2.2.2.2.2.1.length:Nat):Int)+((n.2.2.2.2.2.2.2.length:Nat):Int)))==0)
    else
     some false
   else
    some false
  else
   some false
 else
  some false
def ibar_fa:FnA:=⟨.two (.reg [(0,{ids:=[100]})]) lf,⟨(.cons (.p qY0) .nil),[]⟩,[⟨(.cons (.p .bool) .nil),[]⟩],[0]⟩
def ibar_ft(fu:Nat):FnT:=⟨85,ibar_fa.i,ibar_fa.os,fun t=>ibar fu t⟩
theorem m6Z(fu:Nat):Told Tryz.prog (ibar_ft fu):=tk fu ibar_fa acZ Tryz.func85 (by kernel_rfl) fun t=>by kernel_rfl
def idir1(fu:Nat)(e:(List UInt8×Int))(h:List UInt8)(h1:Int):Option ((Bool×(List UInt8×Int))):=
 bif (decide (((e.1.length:Nat):Int)<1)) then
  some (true,(e.1,h1))
 else
  bif (decide (((e.1.length:Nat):Int)>30)) then
   some (true,(e.1,h1))
  else
   bif ((Op.bytesLess e.1 h)||(e.1==h)) then
    some (true,(e.1,h1))
   else
    bif (decide (e.2<1)) then
     some (true,(e.1,h1))
    else
     some ((decide (e.2>h1)),(e.1,h1))
def idir1_fa:FnA:=⟨.two (.reg [(0,{ids:=[100]})]) (.two lf (.two lf lf)),⟨(.cons (.p (.pair .str (.int .i64))) (.cons (.own 0 0 0 0) (.cons (.own 0 1 0 0) .nil))),[(0,false,qB44),(1,false,(.vars qL4))]⟩,[⟨(.cons (.p .bool) .nil),[(0,false,qB44),(1,false,(.vars qL4))]⟩],[0]⟩
def idir1_ft(fu:Nat):FnT:=⟨102,idir1_fa.i,idir1_fa.os,u3 (idir1 fu)⟩
theorem lWZ(fu:Nat):Told Tryz.prog (idir1_ft fu):=tk fu idir1_fa acZ Tryz.func102 (by kernel_rfl) fun t=>by kernel_rfl
def sIndFun6_l0(fu:Nat)(s:List ((List UInt8×Int)))(x:Int)(h2:List UInt8)(h3:Int):Option ((Int×(List UInt8×Int))⊕((List UInt8×Int)⊕(Int×(List UInt8×Int)))):=
 bif (decide (x<((s.length:Nat):Int))) then
  (idx? x s.length).bind fun q=>
  (s)[q]?.bind fun r=>
  (idir1 fu r h2 h3).bind fun r1=>
  bif r1.1 then
   some (.inr (.inr (x,(r1.2.1,r1.2.2))))
  else
   some (.inl ((IntKind.wrap .i64 (x+1)),(r1.2.1,r1.2.2)))
 else
  some (.inr (.inl (h2,h3)))
def sIndFun6_l0_it(fu:Nat)(s:List ((List UInt8×Int)))(tt:(Int×(List UInt8×Int))):Option ((List UInt8×Int)⊕(Int×(List UInt8×Int))):=
 iter fu (fun tt=>sIndFun6_l0 fu s tt.1 tt.2.1 tt.2.2) tt
def sIndFun6(fu:Nat)(s:List ((List UInt8×Int)))(h:List UInt8)(h1:Int):Option ((Int×(List UInt8×Int))):=
 (sIndFun6_l0_it fu s (0,(h,h1))).bind fun o=>
 match o with
 |.inl s1=>
  some ((-1),(s1.1,s1.2))
 |.inr o1=>
  some o1
def sIndFun6_fa:FnA:=⟨.two lf (.two (.two lf (.one (.loop ⟨[1,8],⟨(.cons (.fn 102 .nil (.cons (.own 0 0 0 0) (.cons (.own 0 1 0 0) .nil))) qL4),[(0,false,qB44),(1,false,(.vars qL4))]⟩⟩ true [(0,⟨[1],⟨(.cons (.fn 102 .nil (.cons (.own 0 0 0 0) (.cons (.own 0 1 0 0) .nil))) .nil),[(0,false,qB44),(1,false,(.vars qL4))]⟩⟩)] (.two lf (.two lf (.two (.one (.two lf (.two (.reg [(5,{sh:=[0,1]})]) (.two lf lf)))) lf)))))) lf),⟨(.cons (.p (.sl (.pair .str (.int .i64)))) (.cons (.fn 102 .nil (.cons (.own 0 0 0 0) (.cons (.own 0 1 0 0) .nil))) .nil)),[(0,false,qB44),(1,false,(.vars qL4))]⟩,[⟨qL4,[(0,false,qB44),(1,false,(.vars qL4))]⟩],[0]⟩
def sIndFun6_ft(fu:Nat):FnT:=⟨89,sIndFun6_fa.i,sIndFun6_fa.os,u3 (sIndFun6 fu)⟩
theorem hxZ(fu:Nat):Told Tryz.prog (sIndFun6_ft fu):=tk fu sIndFun6_fa (aaZ (lWZ fu) acZ) Tryz.func89 (by kernel_rfl) fun t=>by kernel_rfl
def sConFun3(fu:Nat)(s:List ((List UInt8×Int)))(h:List UInt8)(h1:Int):Option ((Bool×(List UInt8×Int))):=
 (sIndFun6 fu s h h1).bind fun r=>
 some ((decide (r.1>=0)),(r.2.1,r.2.2))
def sConFun3_fa:FnA:=⟨.two lf (.two (.reg [(2,{sh:=[0,1]})]) lf),⟨(.cons (.p (.sl (.pair .str (.int .i64)))) (.cons (.fn 102 .nil (.cons (.own 0 0 0 0) (.cons (.own 0 1 0 0) .nil))) .nil)),[(0,false,qB44),(1,false,(.vars qL4))]⟩,[⟨(.cons (.p .bool) .nil),[(0,false,qB44),(1,false,(.vars qL4))]⟩],[0]⟩
def sConFun3_ft(fu:Nat):FnT:=⟨63,sConFun3_fa.i,sConFun3_fa.os,u3 (sConFun3 fu)⟩
theorem h4Z(fu:Nat):Told Tryz.prog (sConFun3_ft fu):=tk fu sConFun3_fa (aaZ (hxZ fu) acZ) Tryz.func63 (by kernel_rfl) fun t=>by kernel_rfl
def idir(fu:Nat)(n:qT1)(many:Int):Option (Bool):=
 bif (n.2.2.2.2.1==0) then
  bif (((n.2.2.2.2.2.1.length:Nat):Int)==0) then
   bif (decide (((n.2.2.2.2.2.2.2.length:Nat):Int)<=100)) then
    (sConFun3 fu n.2.2.2.2.2.2.2 [] many).bind fun r=>
    some (!r.1)
   else
    some false
  else
   some false
 else
  some false
def idir_fa:FnA:=⟨.two (.reg [(0,{ids:=[100]}),(1,{ids:=[101]})]) (.two (.reg [(0,{ids:=[102]})]) (.two lf (.two (.reg [(19,{sh:=[102,101]})]) lf))),⟨(.cons (.p qY0) qL4),[]⟩,[⟨(.cons (.p .bool) .nil),[]⟩],[0]⟩
def idir_ft(fu:Nat):FnT:=⟨86,idir_fa.i,idir_fa.os,fun t=>idir fu t.1 t.2⟩
theorem nQZ(fu:Nat):Told Tryz.prog (idir_ft fu):=tk fu idir_fa (aaZ (h4Z fu) acZ) Tryz.func86 (by kernel_rfl) fun t=>by kernel_rfl
def ifil1(fu:Nat)(p:(Int×Int))(h:qT36)(h1:Int):Option ((Bool×(qT36×Int))):=
 bif ((p.1==0)&&(p.2==0)) then
  some (false,(h,h1))
 else
  bif ((Option.getD (mget (k:=(.int .i64)) (v:=(.int .i64)) h p.1) 0)==1) then
   some (true,((mput (k:=(.int .i64)) (v:=(.int .i64)) h p.1 1),h1))
  else
   bif (decide (p.1<1)) then
    some (true,((mput (k:=(.int .i64)) (v:=(.int .i64)) h p.1 1),h1))
   else
    bif (decide (p.1>h1)) then
     some (true,((mput (k:=(.int .i64)) (v:=(.int .i64)) h p.1 1),h1))
    else
     bif (decide (p.2<1)) then
      some (true,((mput (k:=(.int .i64)) (v:=(.int .i64)) h p.1 1),h1))
     else
      some ((decide (p.2>1099511627776)),((mput (k:=(.int .i64)) (v:=(.int .i64)) h p.1 1),h1))
def ifil1_fa:FnA:=⟨.two (.reg [(0,{ids:=[100]})]) (.two (.two lf (.two lf lf)) (.two lf (.two lf lf))),⟨(.cons (.p qY6) (.cons (.own 0 0 0 0) (.cons (.own 0 2 0 0) .nil))),[(0,false,qB35),(1,false,qB53),(2,false,(.vars qL4))]⟩,[⟨(.cons (.p .bool) .nil),[(0,false,qB35),(1,false,qB53),(2,false,(.vars qL4))]⟩],[0]⟩
def ifil1_ft(fu:Nat):FnT:=⟨103,ifil1_fa.i,ifil1_fa.os,u3 (ifil1 fu)⟩
theorem l8Z(fu:Nat):Told Tryz.prog (ifil1_ft fu):=tk fu ifil1_fa acZ Tryz.func103 (by kernel_rfl) fun t=>by kernel_rfl
def sIndFun5_l0(fu:Nat)(s:List ((Int×Int)))(x:Int)(h2:qT36)(h3:Int):Option ((Int×(qT36×Int))⊕((qT36×Int)⊕(Int×(qT36×Int)))):=
 bif (decide (x<((s.length:Nat):Int))) then
  (idx? x s.length).bind fun q=>
  (s)[q]?.bind fun r=>
  (ifil1 fu r h2 h3).bind fun r1=>
  bif r1.1 then
   some (.inr (.inr (x,(r1.2.1,r1.2.2))))
  else
   some (.inl ((IntKind.wrap .i64 (x+1)),(r1.2.1,r1.2.2)))
 else
  some (.inr (.inl (h2,h3)))
def sIndFun5_l0_it(fu:Nat)(s:List ((Int×Int)))(tt:(Int×(qT36×Int))):Option ((qT36×Int)⊕(Int×(qT36×Int))):=
 iter fu (fun tt=>sIndFun5_l0 fu s tt.1 tt.2.1 tt.2.2) tt
def sIndFun5(fu:Nat)(s:List ((Int×Int)))(h:qT36)(h1:Int):Option ((Int×(qT36×Int))):=
 (sIndFun5_l0_it fu s (0,(h,h1))).bind fun o=>
 match o with
 |.inl s1=>
  some ((-1),(s1.1,s1.2))
 |.inr o1=>
  some o1
def sIndFun5_fa:FnA:=⟨.two lf (.two (.two lf (.one (.loop ⟨[1,8],⟨(.cons (.fn 103 .nil (.cons (.own 0 0 0 0) (.cons (.own 0 2 0 0) .nil))) qL4),[(0,false,qB35),(1,false,qB53),(2,false,(.vars qL4))]⟩⟩ true [(0,⟨[1],⟨(.cons (.fn 103 .nil (.cons (.own 0 0 0 0) (.cons (.own 0 2 0 0) .nil))) .nil),[(0,false,qB35),(1,false,qB53),(2,false,(.vars qL4))]⟩⟩)] (.two lf (.two lf (.two (.one (.two lf (.two (.reg [(5,{sh:=[0,1,2]})]) (.two lf lf)))) lf)))))) lf),⟨(.cons (.p (.sl qY6)) (.cons (.fn 103 .nil (.cons (.own 0 0 0 0) (.cons (.own 0 2 0 0) .nil))) .nil)),[(0,false,qB35),(1,false,qB53),(2,false,(.vars qL4))]⟩,[⟨qL4,[(0,false,qB35),(1,false,qB53),(2,false,(.vars qL4))]⟩],[0]⟩
def sIndFun5_ft(fu:Nat):FnT:=⟨111,sIndFun5_fa.i,sIndFun5_fa.os,u3 (sIndFun5 fu)⟩
theorem hnZ(fu:Nat):Told Tryz.prog (sIndFun5_ft fu):=tk fu sIndFun5_fa (aaZ (l8Z fu) acZ) Tryz.func111 (by kernel_rfl) fun t=>by kernel_rfl
def sConFun2(fu:Nat)(s:List ((Int×Int)))(h:qT36)(h1:Int):Option ((Bool×(qT36×Int))):=
 (sIndFun5 fu s h h1).bind fun r=>
 some ((decide (r.1>=0)),(r.2.1,r.2.2))
def sConFun2_fa:FnA:=⟨.two lf (.two (.reg [(2,{sh:=[0,1,2]})]) lf),⟨(.cons (.p (.sl qY6)) (.cons (.fn 103 .nil (.cons (.own 0 0 0 0) (.cons (.own 0 2 0 0) .nil))) .nil)),[(0,false,qB35),(1,false,qB53),(2,false,(.vars qL4))]⟩,[⟨(.cons (.p .bool) .nil),[(0,false,qB35),(1,false,qB53),(2,false,(.vars qL4))]⟩],[0]⟩
def sConFun2_ft(fu:Nat):FnT:=⟨104,sConFun2_fa.i,sConFun2_fa.os,u3 (sConFun2 fu)⟩
theorem htZ(fu:Nat):Told Tryz.prog (sConFun2_ft fu):=tk fu sConFun2_fa (aaZ (hnZ fu) acZ) Tryz.func104 (by kernel_rfl) fun t=>by kernel_rfl
def ifilm2(fu:Nat)(n:qT1)(stripe:Int)(h:qT36):Option ((Bool×qT36)):=
 bif (decide (n.2.2.2.2.1>=0)) then
  bif (decide (n.2.2.2.2.1<=65536)) then
   bif (((n.2.2.2.2.2.2.2.length:Nat):Int)==0) then
    bif (decide (((n.2.2.2.2.2.1.length:Nat):Int)<=4096)) then
     (sConFun2 fu n.2.2.2.2.2.1 h stripe).bind fun r=>
     some ((!r.1),r.2.1)
    else
     some (false,h)
   else
    some (false,h)
  else
   some (false,h)
 else
  some (false,h)
def ifilm2_fa:FnA:=⟨.two (.reg [(0,{ids:=[100]}),(1,{ids:=[101]}),(2,{ids:=[102]})]) (.two lf (.two (.reg [(24,{sh:=[102,0,101]})]) lf)),⟨(.cons (.p qY0) (.cons (.p (.int .i64)) (.cons (.mp 0) .nil))),[(0,false,qB53)]⟩,[⟨(.cons (.p .bool) .nil),[(0,false,qB53)]⟩],[0]⟩
def ifilm2_ft(fu:Nat):FnT:=⟨87,ifilm2_fa.i,ifilm2_fa.os,u3 (ifilm2 fu)⟩
theorem j1Z(fu:Nat):Told Tryz.prog (ifilm2_ft fu):=tk fu ifilm2_fa (aaZ (htZ fu) acZ) Tryz.func87 (by kernel_rfl) fun t=>by kernel_rfl
def iRig_l0(fu:Nat)(o:(Bool×(List (qT1)×Int)))(t:(List (qT1)×Int))(x:Int)(h:List (qT1))(h1:Int)(h2:qT36):Option ((Int×(List (qT1)×(Int×qT36)))⊕((List (qT1)×Int)⊕Bool)):=
 bif (decide (x<((o.2.1.length:Nat):Int))) then
  (idx? x o.2.1.length).bind fun q=>
  (o.2.1)[q]?.bind fun r=>
  (ibar fu (r.1,(r.2.1,(r.2.2.1,(r.2.2.2.1,(r.2.2.2.2.1,(r.2.2.2.2.2.1,(r.2.2.2.2.2.2.1,r.2.2.2.2.2.2.2)))))))).bind fun r1=>
  Option.bind (α:=((Bool×(List (qT1)×(Int×(qT36×qT1)))))) (
   bif r.2.2.1 then
    some (r.2.2.2.1,(h,(h1,(h2,(r.1,(r.2.1,(r.2.2.1,(r.2.2.2.1,(r.2.2.2.2.1,(r.2.2.2.2.2.1,(r.2.2.2.2.2.2.1,r.2.2.2.2.2.2.2)))))))))))
   else
    some (false,(h,(h1,(h2,(r.1,(r.2.1,(r.2.2.1,(r.2.2.2.1,(r.2.2.2.2.1,(r.2.2.2.2.2.1,(r.2.2.2.2.2.2.1,r.2.2.2.2.2.2.2)))))))))))) fun o1=>
  Option.bind (α:=((Bool×(List (qT1)×(Int×(qT36×qT1)))))) (
   bif o1.1 then
    (idir fu (o1.2.2.2.2.1,(o1.2.2.2.2.2.1,(o1.2.2.2.2.2.2.1,(o1.2.2.2.2.2.2.2.1,(o1.2.2.2.2.2.2.2.2.1,(o1.2.2.2.2.2.2.2.2.2.1,(o1.2.2.2.2.2.2.2.2.2.2.1,o1.2.2.2.2.2.2.2.2.2.2.2))))))) ((t.1.length:Nat):Int)).bind fun r2=>
    some (r2,(o1.2.1,(o1.2.2.1,(o1.2.2.2.1,(o1.2.2.2.2.1,(o1.2.2.2.2.2.1,(o1.2.2.2.2.2.2.1,(o1.2.2.2.2.2.2.2.1,(o1.2.2.2.2.2.2.2.2.1,(o1.2.2.2.2.2.2.2.2.2.1,(o1.2.2.2.2.2.2.2.2.2.2.1,o1.2.2.2.2.2.2.2.2.2.2.2)))))))))))
   else
    Option.bind (α:=((Bool×(List (qT1)×(Int×(qT36×qT1)))))) (
     bif o1.2.2.2.2.2.2.1 then
      (ifilm2 fu (o1.2.2.2.2.1,(o1.2.2.2.2.2.1,(o1.2.2.2.2.2.2.1,(o1.2.2.2.2.2.2.2.1,(o1.2.2.2.2.2.2.2.2.1,(o1.2.2.2.2.2.2.2.2.2.1,(o1.2.2.2.2.2.2.2.2.2.2.1,o1.2.2.2.2.2.2.2.2.2.2.2))))))) o1.2.2.1 o1.2.2.2.1).bind fun r3=>
      some (r3.1,(o1.2.1,(o1.2.2.1,(r3.2,(o1.2.2.2.2.1,(o1.2.2.2.2.2.1,(o1.2.2.2.2.2.2.1,(o1.2.2.2.2.2.2.2.1,(o1.2.2.2.2.2.2.2.2.1,(o1.2.2.2.2.2.2.2.2.2.1,(o1.2.2.2.2.2.2.2.2.2.2.1,o1.2.2.2.2.2.2.2.2.2.2.2)))))))))))
     else
      some (r1,(o1.2.1,(o1.2.2.1,(o1.2.2.2.1,(o1.2.2.2.2.1,(o1.2.2.2.2.2.1,(o1.2.2.2.2.2.2.1,(o1.2.2.2.2.2.2.2.1,(o1.2.2.2.2.2.2.2.2.1,(o1.2.2.2.2.2.2.2.2.2.1,(o1.2.2.2.2.2.2.2.2.2.2.1,o1.2.2.2.2.2.2.2.2.2.2.2)))))))))))) fun o2=>
    some (o2.1,(o2.2.1,(o2.2.2.1,(o2.2.2.2.1,(o2.2.2.2.2.1,(o2.2.2.2.2.2.1,(o2.2.2.2.2.2.2.1,(o2.2.2.2.2.2.2.2.1,(o2.2.2.2.2.2.2.2.2.1,(o2.2.2.2.2.2.2.2.2.2.1,(o2.2.2.2.2.2.2.2.2.2.2.1,o2.2.2.2.2.2.2.2.2.2.2.2)))))))))))) fun o3=>
  Option.bind (α:=((Bool×(List (qT1)×(Int×qT36))))) (
   bif (!o3.1) then
    some (true,(o3.2.1,(o3.2.2.1,o3.2.2.2.1)))
   else
    bif (!(o3.2.2.2.2.1==(IntKind.wrap .i64 (x+1)))) then
     some (true,(o3.2.1,(o3.2.2.1,o3.2.2.2.1)))
    else
     bif (decide (o3.2.2.2.2.2.1<1)) then
      some (true,(o3.2.1,(o3.2.2.1,o3.2.2.2.1)))
     else
      bif (decide (o3.2.2.2.2.2.1>1099511627776)) then
       some (true,(o3.2.1,(o3.2.2.1,o3.2.2.2.1)))
      else
       bif o3.2.2.2.2.2.2.1 then
        bif (decide (o3.2.2.2.2.2.2.2.2.2.2.1<1)) then
         some (true,(o3.2.1,(o3.2.2.1,o3.2.2.2.1)))
        else
         some ((decide (o3.2.2.2.2.2.2.2.2.2.2.1>((t.1.length:Nat):Int))),(o3.2.1,(o3.2.2.1,o3.2.2.2.1)))
       else
        some (false,(o3.2.1,(o3.2.2.1,o3.2.2.2.1)))) fun o4=>
  bif o4.1 then
   some (.inr (.inr false))
  else
   some (.inl ((IntKind.wrap .i64 (x+1)),(o4.2.1,(o4.2.2.1,o4.2.2.2))))
 else
  some (.inr (.inl (h,h1)))
def iRig_l0_it(fu:Nat)(o:(Bool×(List (qT1)×Int)))(t:(List (qT1)×Int))(tt:(Int×(List (qT1)×(Int×qT36)))):Option ((List (qT1)×Int)⊕Bool):=
 iter fu (fun tt=>iRig_l0 fu o t tt.1 tt.2.1 tt.2.2.1 tt.2.2.2) tt
def iRig(fu:Nat)(t:(List (qT1)×Int)):Option (Bool):=
 Option.bind (α:=((Bool×(List (qT1)×Int)))) (
  bif (decide (((t.1.length:Nat):Int)<1)) then
   some (true,(t.1,t.2))
  else
   bif (decide (((t.1.length:Nat):Int)>500)) then
    some (true,(t.1,t.2))
   else
    bif (decide (t.2<0)) then
     some (true,(t.1,t.2))
    else
     some ((decide (t.2>1099511627776)),(t.1,t.2))) fun o=>
 bif o.1 then
  some false
 else
  (iRig_l0_it fu o t (0,(o.2.1,(o.2.2,([],0))))).bind fun o5=>
  match o5 with
  |.inl s=>
   (idx? 0 s.1.length).bind fun q1=>
   (s.1)[q1]?.bind fun r4=>
   bif r4.2.2.1 then
    bif r4.2.2.2.1 then
     some (r4.2.2.2.2.2.2.1==1)
    else
     some false
   else
    some false
  |.inr o6=>
   some o6
def iRig_fa:FnA:=⟨.two (.reg [(0,{ids:=[100]})]) (.two lf (.two (.two (.join ⟨[1,27],⟨qL46,[(100,false,qB28)]⟩⟩ false [] lf) (.two lf lf)) (.two (.reg [(0,{ids:=[101]})]) (.two (.two lf (.one (.loop ⟨[1,4,32],⟨(.cons (.own 0 100 0 0) (.cons (.mp 101) qL4)),[(100,false,qB28),(101,false,qB53)]⟩⟩ true [(0,⟨[1],⟨(.cons (.own 0 100 0 0) .nil),[(100,false,qB28)]⟩⟩)] (.two lf (.two lf (.two (.one (.two (.reg [(3,{ids:=[102]})]) (.two (.reg [(1,{})]) (.two (.one (.two (.join ⟨[1,4,6,39],⟨(.cons (.own 0 100 0 0) (.cons (.mp 101) (.cons (.own 0 102 0 0) (.cons (.p .bool) .nil)))),[(100,false,qB28),(101,false,qB53),(102,false,(.vars qL8))]⟩⟩ false [] lf) (.join ⟨[1,4,6,7],⟨(.cons (.own 0 100 0 0) (.cons (.mp 101) (.cons (.own 0 102 0 0) (.cons (.p .bool) .nil)))),[(100,false,qB28),(101,false,qB53),(102,false,(.vars qL8))]⟩⟩ false [] (.two (.reg [(2,{fn:=1})]) (.two lf (.join ⟨[1,4,6,7],⟨(.cons (.own 0 100 0 0) (.cons (.mp 101) (.cons (.own 0 102 0 0) (.cons (.p .bool) .nil)))),[(100,false,qB28),(101,false,qB53),(102,false,(.vars qL8))]⟩⟩ false [] (.two (.reg [(4,{sh:=[101],fn:=2})]) lf))))))) (.two (.join ⟨[1,4,90],⟨(.cons (.own 0 100 0 0) (.cons (.mp 101) (.cons (.p .bool) .nil))),[(100,false,qB28),(101,false,qB53)]⟩⟩ false [] lf) (.two lf lf)))))) lf)))))) (.two (.reg [(4,{ids:=[103]})]) lf))))),⟨(.cons (.p qY33) .nil),[]⟩,[⟨(.cons (.p .bool) .nil),[]⟩],[0]⟩
def iRig_ft(fu:Nat):FnT:=⟨60,iRig_fa.i,iRig_fa.os,fun t=>iRig fu t⟩
theorem emZ(fu:Nat):Told Tryz.prog (iRig_ft fu):=tk fu iRig_fa (aaZ (m6Z fu) (aaZ (nQZ fu) (aaZ (j1Z fu) acZ))) Tryz.func60 (by kernel_rfl) fun t=>by kernel_rfl
def sConAny(fu:Nat)(s chars:List UInt8):Option Bool:=
 need (Nat.beq chars.length 2&&chars.all (fun b=>Nat.blt b.toNat 128)&&Nat.blt s.length 4294967281) (some (Go.Lib.containsAny s chars))
def sConAny_ft(fu:Nat):FnT:=⟨88,⟨(.cons (.p .str) (.cons (.p .str) .nil)),[]⟩,[⟨(.cons (.p .bool) .nil),[]⟩],fun t=>sConAny fu t.1 t.2⟩
theorem i4Z(fu:Nat):Told Tryz.prog (sConAny_ft fu):=
 eQZ Tryz.ca88 (by kernel_rfl) ⟨_,_,Tryz.func88,rfl,by kernel_rfl⟩
def tNam(fu:Nat)(s:List UInt8):Option (Bool):=
 bif (decide (((s.length:Nat):Int)>=1)) then
  bif (decide (((s.length:Nat):Int)<=30)) then
   bif (!(s==[46])) then
    bif (!(s==[46,46])) then
     (sConAny fu s [0,47]).bind fun r=>
     some (!r)
    else
     some false
   else
    some false
  else
   some false
 else
  some false
def tNam_fa:FnA:=⟨.two lf (.two (.reg [(18,{})]) lf),⟨(.cons (.p .str) .nil),[]⟩,[⟨(.cons (.p .bool) .nil),[]⟩],[0]⟩
def tNam_ft(fu:Nat):FnT:=⟨62,tNam_fa.i,tNam_fa.os,fun t=>tNam fu t⟩
theorem cRZ(fu:Nat):Told Tryz.prog (tNam_ft fu):=tk fu tNam_fa (aaZ (i4Z fu) acZ) Tryz.func62 (by kernel_rfl) fun t=>by kernel_rfl
def tRig1(fu:Nat)(e:(List UInt8×Int))(h:List (Int))(h1:List (qT1))(h2:Int)(h3:Int)(h4:Int)(h5:Bool)(h6:Bool)(h7:Int)(h8:List ((Int×Int)))(h9:Int)(h10:List ((List UInt8×Int))):Option ((Bool×(List (Int)×(List (qT1)×(Int×qT1))))):=
 (idx? e.2 h.length).bind fun q=>
 (h)[q]?.bind fun r=>
 (idx? e.2 h.length).bind fun q1=>
 (h)[q1]?.bind fun r1=>
 (idx? (IntKind.wrap .i64 (e.2-1)) h1.length).bind fun q2=>
 (h1)[q2]?.bind fun r2=>
 (tNam fu e.1).bind fun r3=>
 bif (!r3) then
  some (true,((List.set h q1 (IntKind.wrap .i64 (r+1))),(h1,(h2,(h3,(h4,(h5,(h6,(h7,(h8,(h9,h10)))))))))))
 else
  bif (!r2.2.2.1) then
   some (true,((List.set h q1 (IntKind.wrap .i64 (r+1))),(h1,(h2,(h3,(h4,(h5,(h6,(h7,(h8,(h9,h10)))))))))))
  else
   some ((!(r2.2.2.2.2.2.2.1==h3)),((List.set h q1 (IntKind.wrap .i64 (r+1))),(h1,(h2,(h3,(h4,(h5,(h6,(h7,(h8,(h9,h10)))))))))))
def tRig1_fa:FnA:=⟨.two (.reg [(0,{ids:=[100]})]) (.two lf (.two (.reg [(7,{ids:=[101]})]) (.two (.reg [(2,{})]) lf))),⟨(.cons (.p (.pair .str (.int .i64))) (.cons (.own 0 0 0 0) (.cons (.own 0 2 0 0) (.cons (.own 0 3 0 0) .nil)))),[(0,false,(.vars (.cons (.slf 1 1) .nil))),(1,false,(.rows 3 (.int .i64))),(2,false,qB28),(3,false,(.vars qL8))]⟩,[⟨(.cons (.p .bool) .nil),[(0,false,(.vars (.cons (.slf 1 1) .nil))),(1,false,(.rows 3 (.int .i64))),(2,false,qB28),(3,false,(.vars qL8))]⟩],[0]⟩
def tRig1_ft(fu:Nat):FnT:=⟨61,tRig1_fa.i,tRig1_fa.os,u12 (tRig1 fu)⟩
theorem lTZ(fu:Nat):Told Tryz.prog (tRig1_ft fu):=tk fu tRig1_fa (aaZ (cRZ fu) acZ) Tryz.func61 (by kernel_rfl) fun t=>by kernel_rfl
def sIndFun3_l0(fu:Nat)(s:List ((List UInt8×Int)))(x:Int)(h11:List (Int))(h12:List (qT1))(h13:Int)(h14:Int)(h15:Int)(h16:Bool)(h17:Bool)(h18:Int)(h19:List ((Int×Int)))(h20:Int)(h21:List ((List UInt8×Int))):Option ((Int×(List (Int)×(List (qT1)×(Int×qT1))))⊕((List (Int)×(List (qT1)×(Int×qT1)))⊕(Int×(List (Int)×(List (qT1)×(Int×qT1)))))):=
 bif (decide (x<((s.length:Nat):Int))) then
  (idx? x s.length).bind fun q=>
  (s)[q]?.bind fun r=>
  (tRig1 fu r h11 h12 h13 h14 h15 h16 h17 h18 h19 h20 h21).bind fun r1=>
  bif r1.1 then
   some (.inr (.inr (x,(r1.2.1,(r1.2.2.1,(r1.2.2.2.1,(r1.2.2.2.2.1,(r1.2.2.2.2.2.1,(r1.2.2.2.2.2.2.1,(r1.2.2.2.2.2.2.2.1,(r1.2.2.2.2.2.2.2.2.1,(r1.2.2.2.2.2.2.2.2.2.1,(r1.2.2.2.2.2.2.2.2.2.2.1,r1.2.2.2.2.2.2.2.2.2.2.2)))))))))))))
  else
   some (.inl ((IntKind.wrap .i64 (x+1)),(r1.2.1,(r1.2.2.1,(r1.2.2.2.1,(r1.2.2.2.2.1,(r1.2.2.2.2.2.1,(r1.2.2.2.2.2.2.1,(r1.2.2.2.2.2.2.2.1,(r1.2.2.2.2.2.2.2.2.1,(r1.2.2.2.2.2.2.2.2.2.1,(r1.2.2.2.2.2.2.2.2.2.2.1,r1.2.2.2.2.2.2.2.2.2.2.2))))))))))))
 else
  some (.inr (.inl (h11,(h12,(h13,(h14,(h15,(h16,(h17,(h18,(h19,(h20,h21))))))))))))
def sIndFun3_l0_it(fu:Nat)(s:List ((List UInt8×Int)))(tt:(Int×(List (Int)×(List (qT1)×(Int×qT1))))):Option ((List (Int)×(List (qT1)×(Int×qT1)))⊕(Int×(List (Int)×(List (qT1)×(Int×qT1))))):=
 iter fu (fun tt=>sIndFun3_l0 fu s tt.1 tt.2.1 tt.2.2.1 tt.2.2.2.1 tt.2.2.2.2.1 tt.2.2.2.2.2.1 tt.2.2.2.2.2.2.1 tt.2.2.2.2.2.2.2.1 tt.2.2.2.2.2.2.2.2.1 tt.2.2.2.2.2.2.2.2.2.1 tt.2.2.2.2.2.2.2.2.2.2.1 tt.2.2.2.2.2.2.2.2.2.2.2) tt
def sIndFun3(fu:Nat)(s:List ((List UInt8×Int)))(h:List (Int))(h1:List (qT1))(h2:Int)(h3:Int)(h4:Int)(h5:Bool)(h6:Bool)(h7:Int)(h8:List ((Int×Int)))(h9:Int)(h10:List ((List UInt8×Int))):Option ((Int×(List (Int)×(List (qT1)×(Int×qT1))))):=
 (sIndFun3_l0_it fu s (0,(h,(h1,(h2,(h3,(h4,(h5,(h6,(h7,(h8,(h9,h10)))))))))))).bind fun o=>
 match o with
 |.inl s1=>
  some ((-1),(s1.1,(s1.2.1,(s1.2.2.1,(s1.2.2.2.1,(s1.2.2.2.2.1,(s1.2.2.2.2.2.1,(s1.2.2.2.2.2.2.1,(s1.2.2.2.2.2.2.2.1,(s1.2.2.2.2.2.2.2.2.1,(s1.2.2.2.2.2.2.2.2.2.1,s1.2.2.2.2.2.2.2.2.2.2)))))))))))
 |.inr o1=>
  some o1
def sIndFun3_fa:FnA:=⟨.two lf (.two (.two lf (.one (.loop ⟨[1,8],⟨(.cons (.fn 61 .nil (.cons (.own 0 0 0 0) (.cons (.own 0 2 0 0) (.cons (.own 0 3 0 0) .nil)))) qL4),[(0,false,(.vars (.cons (.slf 1 1) .nil))),(1,false,(.rows 3 (.int .i64))),(2,false,qB28),(3,false,(.vars qL8))]⟩⟩ true [(0,⟨[1],⟨(.cons (.fn 61 .nil (.cons (.own 0 0 0 0) (.cons (.own 0 2 0 0) (.cons (.own 0 3 0 0) .nil)))) .nil),[(0,false,(.vars (.cons (.slf 1 1) .nil))),(1,false,(.rows 3 (.int .i64))),(2,false,qB28),(3,false,(.vars qL8))]⟩⟩)] (.two lf (.two lf (.two (.one (.two lf (.two (.reg [(5,{sh:=[0,1,2,3]})]) (.two lf lf)))) lf)))))) lf),⟨(.cons (.p (.sl (.pair .str (.int .i64)))) (.cons (.fn 61 .nil (.cons (.own 0 0 0 0) (.cons (.own 0 2 0 0) (.cons (.own 0 3 0 0) .nil)))) .nil)),[(0,false,(.vars (.cons (.slf 1 1) .nil))),(1,false,(.rows 3 (.int .i64))),(2,false,qB28),(3,false,(.vars qL8))]⟩,[⟨qL4,[(0,false,(.vars (.cons (.slf 1 1) .nil))),(1,false,(.rows 3 (.int .i64))),(2,false,qB28),(3,false,(.vars qL8))]⟩],[0]⟩
def sIndFun3_ft(fu:Nat):FnT:=⟨89,sIndFun3_fa.i,sIndFun3_fa.os,u12 (sIndFun3 fu)⟩
theorem hvZ(fu:Nat):Told Tryz.prog (sIndFun3_ft fu):=tk fu sIndFun3_fa (aaZ (lTZ fu) acZ) Tryz.func89 (by kernel_rfl) fun t=>by kernel_rfl
def sConFun(fu:Nat)(s:List ((List UInt8×Int)))(h:List (Int))(h1:List (qT1))(h2:Int)(h3:Int)(h4:Int)(h5:Bool)(h6:Bool)(h7:Int)(h8:List ((Int×Int)))(h9:Int)(h10:List ((List UInt8×Int))):Option ((Bool×(List (Int)×(List (qT1)×(Int×qT1))))):=
 (sIndFun3 fu s h h1 h2 h3 h4 h5 h6 h7 h8 h9 h10).bind fun r=>
 some ((decide (r.1>=0)),(r.2.1,(r.2.2.1,(r.2.2.2.1,(r.2.2.2.2.1,(r.2.2.2.2.2.1,(r.2.2.2.2.2.2.1,(r.2.2.2.2.2.2.2.1,(r.2.2.2.2.2.2.2.2.1,(r.2.2.2.2.2.2.2.2.2.1,(r.2.2.2.2.2.2.2.2.2.2.1,r.2.2.2.2.2.2.2.2.2.2.2)))))))))))
def sConFun_fa:FnA:=⟨.two lf (.two (.reg [(2,{sh:=[0,1,2,3]})]) lf),⟨(.cons (.p (.sl (.pair .str (.int .i64)))) (.cons (.fn 61 .nil (.cons (.own 0 0 0 0) (.cons (.own 0 2 0 0) (.cons (.own 0 3 0 0) .nil)))) .nil)),[(0,false,(.vars (.cons (.slf 1 1) .nil))),(1,false,(.rows 3 (.int .i64))),(2,false,qB28),(3,false,(.vars qL8))]⟩,[⟨(.cons (.p .bool) .nil),[(0,false,(.vars (.cons (.slf 1 1) .nil))),(1,false,(.rows 3 (.int .i64))),(2,false,qB28),(3,false,(.vars qL8))]⟩],[0]⟩
def sConFun_ft(fu:Nat):FnT:=⟨63,sConFun_fa.i,sConFun_fa.os,u12 (sConFun fu)⟩
theorem ikZ(fu:Nat):Told Tryz.prog (sConFun_ft fu):=tk fu sConFun_fa (aaZ (hvZ fu) acZ) Tryz.func63 (by kernel_rfl) fun t=>by kernel_rfl
def trea_l0(fu:Nat)(t:(List (qT1)×Int))(id1:Int)(x:Int)(h:List (qT1))(h1:Int):Option ((Int×qT45)⊕(Int⊕Bool)):=
 bif (decide (x<((t.1.length:Nat):Int))) then
  bif (id1==1) then
   some (.inr (.inr true))
  else
   (idx? (IntKind.wrap .i64 (id1-1)) h.length).bind fun q=>
   (h)[q]?.bind fun r=>
   bif (!r.2.2.1) then
    some (.inr (.inr false))
   else
    (idx? (IntKind.wrap .i64 (id1-1)) h.length).bind fun q1=>
    (h)[q1]?.bind fun r1=>
    some (.inl (r1.2.2.2.2.2.2.1,((IntKind.wrap .i64 (x+1)),(h,h1))))
 else
  some (.inr (.inl id1))
def trea_l0_it(fu:Nat)(t:(List (qT1)×Int))(tt:(Int×qT45)):Option (Int⊕Bool):=
 iter fu (fun tt=>trea_l0 fu t tt.1 tt.2.1 tt.2.2.1 tt.2.2.2) tt
def trea(fu:Nat)(t:(List (qT1)×Int))(id:Int):Option (Bool):=
 (trea_l0_it fu t (id,(0,(t.1,t.2)))).bind fun o=>
 match o with
 |.inl s=>
  some (s==1)
 |.inr o1=>
  some o1
def trea_fa:FnA:=⟨.two (.reg [(0,{ids:=[100]})]) (.two (.two lf (.one (.loop ⟨[1,2,8],⟨(.cons (.p (.int .i64)) (.cons (.own 0 100 0 0) qL4)),[(100,false,qB28)]⟩⟩ true [(0,⟨[1],⟨qL4,[]⟩⟩)] (.two lf (.two lf (.two (.one (.two (.two lf (.two lf lf)) (.two (.two lf (.two lf lf)) lf))) lf)))))) lf),⟨(.cons (.p qY33) qL4),[]⟩,[⟨(.cons (.p .bool) .nil),[]⟩],[0]⟩
def trea_ft(fu:Nat):FnT:=⟨64,trea_fa.i,trea_fa.os,fun t=>trea fu t.1 t.2⟩
theorem mPZ(fu:Nat):Told Tryz.prog (trea_ft fu):=tk fu trea_fa acZ Tryz.func64 (by kernel_rfl) fun t=>by kernel_rfl
def tRig_l0(fu:Nat)(t:(List (qT1)×Int))(x:Int)(h:List (qT1))(h1:Int)(h2:List (Int)):Option ((Int×(List (qT1)×(Int×List (Int))))⊕((List (qT1)×(Int×List (Int)))⊕Bool)):=
 bif (decide (x<((t.1.length:Nat):Int))) then
  (idx? x t.1.length).bind fun q1=>
  (t.1)[q1]?.bind fun r1=>
  Option.bind (α:=((Bool×(List (qT1)×(Int×List (Int)))))) (
   (sConFun fu r1.2.2.2.2.2.2.2 h2 h h1 r1.1 r1.2.1 r1.2.2.1 r1.2.2.2.1 r1.2.2.2.2.1 r1.2.2.2.2.2.1 r1.2.2.2.2.2.2.1 r1.2.2.2.2.2.2.2).bind fun r2=>
   bif r2.1 then
    some (true,(r2.2.2.1,(r2.2.2.2.1,r2.2.1)))
   else
    bif r2.2.2.2.2.2.2.1 then
     (trea fu (r2.2.2.1,r2.2.2.2.1) r2.2.2.2.2.1).bind fun r3=>
     some ((!r3),(r2.2.2.1,(r2.2.2.2.1,r2.2.1)))
    else
     some (false,(r2.2.2.1,(r2.2.2.2.1,r2.2.1)))) fun o=>
  bif o.1 then
   some (.inr (.inr false))
  else
   some (.inl ((IntKind.wrap .i64 (x+1)),(o.2.1,(o.2.2.1,o.2.2.2))))
 else
  some (.inr (.inl (h,(h1,h2))))
def tRig_l0_it(fu:Nat)(t:(List (qT1)×Int))(tt:(Int×(List (qT1)×(Int×List (Int))))):Option ((List (qT1)×(Int×List (Int)))⊕Bool):=
 iter fu (fun tt=>tRig_l0 fu t tt.1 tt.2.1 tt.2.2.1 tt.2.2.2) tt
def tRig_l1(fu:Nat)(s:(List (qT1)×(Int×List (Int))))(x1:Int)(h3:List (Int)):Option ((Int×List (Int))⊕(Unit⊕Bool)):=
 bif (decide (x1<((s.1.length:Nat):Int))) then
  (idx? x1 s.1.length).bind fun q2=>
  (s.1)[q2]?.bind fun r4=>
  Option.bind (α:=((Bool×(List (Int)×qT1)))) (
   bif (r4.1==1) then
    some (true,(h3,(r4.1,(r4.2.1,(r4.2.2.1,(r4.2.2.2.1,(r4.2.2.2.2.1,(r4.2.2.2.2.2.1,(r4.2.2.2.2.2.2.1,r4.2.2.2.2.2.2.2)))))))))
   else
    some ((!r4.2.2.1),(h3,(r4.1,(r4.2.1,(r4.2.2.1,(r4.2.2.2.1,(r4.2.2.2.2.1,(r4.2.2.2.2.2.1,(r4.2.2.2.2.2.2.1,r4.2.2.2.2.2.2.2)))))))))) fun o3=>
  Option.bind (α:=((Int×(List (Int)×qT1)))) (
   bif o3.1 then
    some (0,(o3.2.1,(o3.2.2.1,(o3.2.2.2.1,(o3.2.2.2.2.1,(o3.2.2.2.2.2.1,(o3.2.2.2.2.2.2.1,(o3.2.2.2.2.2.2.2.1,(o3.2.2.2.2.2.2.2.2.1,o3.2.2.2.2.2.2.2.2.2)))))))))
   else
    some (1,(o3.2.1,(o3.2.2.1,(o3.2.2.2.1,(o3.2.2.2.2.1,(o3.2.2.2.2.2.1,(o3.2.2.2.2.2.2.1,(o3.2.2.2.2.2.2.2.1,(o3.2.2.2.2.2.2.2.2.1,o3.2.2.2.2.2.2.2.2.2)))))))))) fun o4=>
  (idx? o4.2.2.1 o4.2.1.length).bind fun q3=>
  (o4.2.1)[q3]?.bind fun r5=>
  bif (!(r5==o4.1)) then
   some (.inr (.inr false))
  else
   some (.inl ((IntKind.wrap .i64 (x1+1)),o4.2.1))
 else
  some (.inr (.inl ()))
def tRig_l1_it(fu:Nat)(s:(List (qT1)×(Int×List (Int))))(tt:(Int×List (Int))):Option (Unit⊕Bool):=
 iter fu (fun tt=>tRig_l1 fu s tt.1 tt.2) tt
def tRig(fu:Nat)(t:(List (qT1)×Int)):Option (Bool):=
 (iRig fu (t.1,t.2)).bind fun r=>
 bif (!r) then
  some false
 else
  (upto? (IntKind.wrap .i64 (((t.1.length:Nat):Int)+1)) room).bind fun m=>
  (upto? (IntKind.wrap .i64 (((t.1.length:Nat):Int)+1)) m).bind fun q=>
  need (Nat.ble (m*8) room)<|
  (tRig_l0_it fu t (0,(t.1,(t.2,(List.replicate (α:=Int) q 0))))).bind fun o1=>
  match o1 with
  |.inl s=>
   (tRig_l1_it fu s (0,s.2.2)).bind fun o5=>
   match o5 with
   |.inl s1=>
    some true
   |.inr o6=>
    some o6
  |.inr o2=>
   some o2
def tRig_fa:FnA:=⟨.two (.reg [(0,{ids:=[100]})]) (.two (.two (.reg [(1,{})]) (.two lf lf)) (.two (.reg [(4,{ids:=[101]}),(5,{ids:=[102]})]) (.two (.two lf (.one (.loop ⟨[1,3,21],⟨(.cons (.own 0 100 0 0) (.cons (.own 0 102 0 0) qL4)),[(100,false,qB28),(102,false,(.vars (.cons (.slf 1 101) .nil))),(101,false,(.rows 3 (.int .i64)))]⟩⟩ true [(0,⟨[1,3],⟨(.cons (.own 0 100 0 0) (.cons (.own 0 102 0 0) .nil)),[(100,false,qB28),(102,false,(.vars (.cons (.slf 1 101) .nil))),(101,false,(.rows 3 (.int .i64)))]⟩⟩)] (.two lf (.two lf (.two (.one (.two (.reg [(2,{ids:=[103]})]) (.two lf (.two (.join ⟨[1,3,40],⟨(.cons (.own 0 100 0 0) (.cons (.own 0 102 0 0) (.cons (.p .bool) .nil))),[(100,false,qB28),(102,false,(.vars (.cons (.slf 1 101) .nil))),(101,false,(.rows 3 (.int .i64)))]⟩⟩ false [] (.reg [(3,{sh:=[102,101,100,103],fn:=1}),(11,{fn:=2})])) (.two lf lf))))) lf)))))) (.two (.two lf (.one (.loop ⟨[3,45],⟨(.cons (.own 0 102 0 0) qL4),[(102,false,(.vars (.cons (.slf 1 101) .nil))),(101,false,(.rows 3 (.int .i64)))]⟩⟩ true [(2,⟨[],⟨.nil,[]⟩⟩)] (.two lf (.two lf (.two (.one (.two (.reg [(2,{ids:=[104]})]) (.two lf (.two (.two (.join ⟨[3,8,56],⟨(.cons (.own 0 102 0 0) (.cons (.own 0 104 0 0) (.cons (.p .bool) .nil))),[(102,false,(.vars (.cons (.slf 1 101) .nil))),(101,false,(.rows 3 (.int .i64))),(104,false,(.vars qL8))]⟩⟩ false [] lf) (.join ⟨[3,8,9],⟨(.cons (.own 0 102 0 0) (.cons (.own 0 104 0 0) qL4)),[(102,false,(.vars (.cons (.slf 1 101) .nil))),(101,false,(.rows 3 (.int .i64))),(104,false,(.vars qL8))]⟩⟩ false [] lf)) (.two lf (.two lf lf)))))) lf)))))) lf)))),⟨(.cons (.p qY33) .nil),[]⟩,[⟨(.cons (.p .bool) .nil),[]⟩],[0]⟩
def tRig_ft(fu:Nat):FnT:=⟨41,tRig_fa.i,tRig_fa.os,fun t=>tRig fu t⟩
theorem jaZ(fu:Nat):Told Tryz.prog (tRig_ft fu):=tk fu tRig_fa (aaZ (emZ fu) (aaZ (ikZ fu) (aaZ (mPZ fu) acZ))) Tryz.func41 (by kernel_rfl) fun t=>by kernel_rfl
def mRig_l0(fu:Nat)(o:(Bool×qT38))(x:Int)(h:List (qT1))(h1:Int)(h2:List (List (UInt8))):Option ((Int×qT38)⊕(Unit⊕Bool)):=
 bif (decide (x<((o.2.1.length:Nat):Int))) then
  (idx? x o.2.1.length).bind fun q=>
  (o.2.1)[q]?.bind fun r1=>
  Option.bind (α:=((Bool×qT38))) (
   bif (decide (((r1.2.2.2.2.2.1.length:Nat):Int)>0)) then
    some (true,(h,(h1,h2)))
   else
    (idx? x h2.length).bind fun q1=>
    (h2)[q1]?.bind fun r2=>
    some ((!(((r2.length:Nat):Int)==r1.2.2.2.2.1)),(h,(h1,h2)))) fun o1=>
  bif o1.1 then
   some (.inr (.inr false))
  else
   some (.inl ((IntKind.wrap .i64 (x+1)),(o1.2.1,(o1.2.2.1,o1.2.2.2))))
 else
  some (.inr (.inl ()))
def mRig_l0_it(fu:Nat)(o:(Bool×qT38))(tt:(Int×qT38)):Option (Unit⊕Bool):=
 iter fu (fun tt=>mRig_l0 fu o tt.1 tt.2.1 tt.2.2.1 tt.2.2.2) tt
def mRig(fu:Nat)(m:((List (qT1)×Int)×List (List (UInt8)))):Option (Bool):=
 Option.bind (α:=((Bool×qT38))) (
  (tRig fu (m.1.1,m.1.2)).bind fun r=>
  bif (!r) then
   some (true,(m.1.1,(m.1.2,m.2)))
  else
   some ((!(((m.2.length:Nat):Int)==((m.1.1.length:Nat):Int))),(m.1.1,(m.1.2,m.2)))) fun o=>
 bif o.1 then
  some false
 else
  (mRig_l0_it fu o (0,(o.2.1,(o.2.2.1,o.2.2.2)))).bind fun o2=>
  match o2 with
  |.inl s=>
   some true
  |.inr o3=>
   some o3
def mRig_fa:FnA:=⟨.two (.reg [(0,{ids:=[100]})]) (.two (.two (.join ⟨[1,18],⟨qL46,[(100,false,qB31)]⟩⟩ false [] (.reg [(2,{})])) (.two lf lf)) (.two (.two lf (.one (.loop ⟨[1,23],⟨(.cons (.own 0 100 0 0) qL4),[(100,false,qB31)]⟩⟩ true [(0,⟨[],⟨.nil,[]⟩⟩)] (.two lf (.two lf (.two (.one (.two (.reg [(3,{ids:=[101]})]) (.two (.join ⟨[1,42],⟨qL46,[(100,false,qB31)]⟩⟩ false [] lf) (.two lf lf)))) lf)))))) lf)),⟨(.cons (.p (.pair qY33 (.sl (.sl .byte)))) .nil),[]⟩,[⟨(.cons (.p .bool) .nil),[]⟩],[0]⟩
def mRig_ft(fu:Nat):FnT:=⟨19,mRig_fa.i,mRig_fa.os,fun t=>mRig fu t⟩
theorem iKZ(fu:Nat):Told Tryz.prog (mRig_ft fu):=tk fu mRig_fa (aaZ (jaZ fu) acZ) Tryz.func19 (by kernel_rfl) fun t=>by kernel_rfl
def csha1(fu:Nat):Option (qT47):=
 some (true,(true,(false,(false,(0,false)))))
def csha1_fa:FnA:=⟨.two (.reg [(0,{ids:=[100]})]) lf,⟨.nil,[]⟩,[⟨(.cons (.agg qL24) .nil),[]⟩],[0]⟩
def csha1_ft(fu:Nat):FnT:=⟨65,csha1_fa.i,csha1_fa.os,fun t=>csha1 fu⟩
theorem lxZ(fu:Nat):Told Tryz.prog (csha1_ft fu):=tk fu csha1_fa acZ Tryz.func65 (by kernel_rfl) fun t=>by kernel_rfl
def csha2(fu:Nat):Option (qT47):=
 some (true,(false,(false,(true,(4096,false)))))
def csha2_fa:FnA:=⟨.two (.reg [(0,{ids:=[100]})]) lf,⟨.nil,[]⟩,[⟨(.cons (.agg qL24) .nil),[]⟩],[0]⟩
def csha2_ft(fu:Nat):FnT:=⟨66,csha2_fa.i,csha2_fa.os,fun t=>csha2 fu⟩
theorem lcZ(fu:Nat):Told Tryz.prog (csha2_ft fu):=tk fu csha2_fa acZ Tryz.func66 (by kernel_rfl) fun t=>by kernel_rfl
def csha3(fu:Nat):Option (qT47):=
 some (true,(false,(false,(true,(0,true)))))
def csha3_fa:FnA:=⟨.two (.reg [(0,{ids:=[100]})]) lf,⟨.nil,[]⟩,[⟨(.cons (.agg qL24) .nil),[]⟩],[0]⟩
def csha3_ft(fu:Nat):FnT:=⟨67,csha3_fa.i,csha3_fa.os,fun t=>csha3 fu⟩
theorem lbZ(fu:Nat):Told Tryz.prog (csha3_ft fu):=tk fu csha3_fa acZ Tryz.func67 (by kernel_rfl) fun t=>by kernel_rfl
def csha4(fu:Nat):Option (qT47):=
 some (true,(false,(false,(false,(2147483648,false)))))
def csha4_fa:FnA:=⟨.two (.reg [(0,{ids:=[100]})]) lf,⟨.nil,[]⟩,[⟨(.cons (.agg qL24) .nil),[]⟩],[0]⟩
def csha4_ft(fu:Nat):FnT:=⟨68,csha4_fa.i,csha4_fa.os,fun t=>csha4 fu⟩
theorem mdZ(fu:Nat):Told Tryz.prog (csha4_ft fu):=tk fu csha4_fa acZ Tryz.func68 (by kernel_rfl) fun t=>by kernel_rfl
def csha5(fu:Nat):Option (qT47):=
 some (true,(true,(true,(false,(0,false)))))
def csha5_fa:FnA:=⟨.two (.reg [(0,{ids:=[100]})]) lf,⟨.nil,[]⟩,[⟨(.cons (.agg qL24) .nil),[]⟩],[0]⟩
def csha5_ft(fu:Nat):FnT:=⟨69,csha5_fa.i,csha5_fa.os,fun t=>csha5 fu⟩
theorem ltZ(fu:Nat):Told Tryz.prog (csha5_ft fu):=tk fu csha5_fa acZ Tryz.func69 (by kernel_rfl) fun t=>by kernel_rfl
def csha6(fu:Nat):Option (qT47):=
 some (true,(true,(false,(false,(4096,false)))))
def csha6_fa:FnA:=⟨.two (.reg [(0,{ids:=[100]})]) lf,⟨.nil,[]⟩,[⟨(.cons (.agg qL24) .nil),[]⟩],[0]⟩
def csha6_ft(fu:Nat):FnT:=⟨70,csha6_fa.i,csha6_fa.os,fun t=>csha6 fu⟩
theorem lfZ(fu:Nat):Told Tryz.prog (csha6_ft fu):=tk fu csha6_fa acZ Tryz.func70 (by kernel_rfl) fun t=>by kernel_rfl
def csha7(fu:Nat):Option (qT47):=
 some (true,(false,(false,(false,(0,false)))))
def csha7_fa:FnA:=⟨.two (.reg [(0,{ids:=[100]})]) lf,⟨.nil,[]⟩,[⟨(.cons (.agg qL24) .nil),[]⟩],[0]⟩
def csha7_ft(fu:Nat):FnT:=⟨71,csha7_fa.i,csha7_fa.os,fun t=>csha7 fu⟩
theorem lGZ(fu:Nat):Told Tryz.prog (csha7_ft fu):=tk fu csha7_fa acZ Tryz.func71 (by kernel_rfl) fun t=>by kernel_rfl
def csha8(fu:Nat):Option (qT47):=
 some (false,(false,(false,(false,(0,false)))))
def csha8_fa:FnA:=⟨.two (.reg [(0,{ids:=[100]})]) lf,⟨.nil,[]⟩,[⟨(.cons (.agg qL24) .nil),[]⟩],[0]⟩
def csha8_ft(fu:Nat):FnT:=⟨72,csha8_fa.i,csha8_fa.os,fun t=>csha8 fu⟩
theorem lUZ(fu:Nat):Told Tryz.prog (csha8_ft fu):=tk fu csha8_fa acZ Tryz.func72 (by kernel_rfl) fun t=>by kernel_rfl
def csha(fu:Nat)(o:Int):Option ((Bool×(Bool×(Bool×(Bool×(Int×(Bool×Bool))))))):=
 need ((!((UInt8.ofNat 2)==(UInt8.ofNat 1)))&&true)<|
 need ((!((UInt8.ofNat 3)==(UInt8.ofNat 1)))&&((!((UInt8.ofNat 3)==(UInt8.ofNat 2)))&&true))<|
 need ((!((UInt8.ofNat 7)==(UInt8.ofNat 1)))&&((!((UInt8.ofNat 7)==(UInt8.ofNat 2)))&&((!((UInt8.ofNat 7)==(UInt8.ofNat 3)))&&true)))<|
 need ((!((UInt8.ofNat 8)==(UInt8.ofNat 1)))&&((!((UInt8.ofNat 8)==(UInt8.ofNat 2)))&&((!((UInt8.ofNat 8)==(UInt8.ofNat 3)))&&((!((UInt8.ofNat 8)==(UInt8.ofNat 7)))&&true))))<|
 need ((!((UInt8.ofNat 4)==(UInt8.ofNat 1)))&&((!((UInt8.ofNat 4)==(UInt8.ofNat 2)))&&((!((UInt8.ofNat 4)==(UInt8.ofNat 3)))&&((!((UInt8.ofNat 4)==(UInt8.ofNat 7)))&&((!((UInt8.ofNat 4)==(UInt8.ofNat 8)))&&true)))))<|
 need ((!((UInt8.ofNat 5)==(UInt8.ofNat 1)))&&((!((UInt8.ofNat 5)==(UInt8.ofNat 2)))&&((!((UInt8.ofNat 5)==(UInt8.ofNat 3)))&&((!((UInt8.ofNat 5)==(UInt8.ofNat 7)))&&((!((UInt8.ofNat 5)==(UInt8.ofNat 8)))&&((!((UInt8.ofNat 5)==(UInt8.ofNat 4)))&&true))))))<|
 need ((!((UInt8.ofNat 6)==(UInt8.ofNat 1)))&&((!((UInt8.ofNat 6)==(UInt8.ofNat 2)))&&((!((UInt8.ofNat 6)==(UInt8.ofNat 3)))&&((!((UInt8.ofNat 6)==(UInt8.ofNat 7)))&&((!((UInt8.ofNat 6)==(UInt8.ofNat 8)))&&((!((UInt8.ofNat 6)==(UInt8.ofNat 4)))&&((!((UInt8.ofNat 6)==(UInt8.ofNat 5)))&&true)))))))<|
 need ((!((UInt8.ofNat 9)==(UInt8.ofNat 1)))&&((!((UInt8.ofNat 9)==(UInt8.ofNat 2)))&&((!((UInt8.ofNat 9)==(UInt8.ofNat 3)))&&((!((UInt8.ofNat 9)==(UInt8.ofNat 7)))&&((!((UInt8.ofNat 9)==(UInt8.ofNat 8)))&&((!((UInt8.ofNat 9)==(UInt8.ofNat 4)))&&((!((UInt8.ofNat 9)==(UInt8.ofNat 5)))&&((!((UInt8.ofNat 9)==(UInt8.ofNat 6)))&&true))))))))<|
 need ((!((UInt8.ofNat 10)==(UInt8.ofNat 1)))&&((!((UInt8.ofNat 10)==(UInt8.ofNat 2)))&&((!((UInt8.ofNat 10)==(UInt8.ofNat 3)))&&((!((UInt8.ofNat 10)==(UInt8.ofNat 7)))&&((!((UInt8.ofNat 10)==(UInt8.ofNat 8)))&&((!((UInt8.ofNat 10)==(UInt8.ofNat 4)))&&((!((UInt8.ofNat 10)==(UInt8.ofNat 5)))&&((!((UInt8.ofNat 10)==(UInt8.ofNat 6)))&&((!((UInt8.ofNat 10)==(UInt8.ofNat 9)))&&true)))))))))<|
 need ((!((UInt8.ofNat 11)==(UInt8.ofNat 1)))&&((!((UInt8.ofNat 11)==(UInt8.ofNat 2)))&&((!((UInt8.ofNat 11)==(UInt8.ofNat 3)))&&((!((UInt8.ofNat 11)==(UInt8.ofNat 7)))&&((!((UInt8.ofNat 11)==(UInt8.ofNat 8)))&&((!((UInt8.ofNat 11)==(UInt8.ofNat 4)))&&((!((UInt8.ofNat 11)==(UInt8.ofNat 5)))&&((!((UInt8.ofNat 11)==(UInt8.ofNat 6)))&&((!((UInt8.ofNat 11)==(UInt8.ofNat 9)))&&((!((UInt8.ofNat 11)==(UInt8.ofNat 10)))&&true))))))))))<|
 need ((!((UInt8.ofNat 12)==(UInt8.ofNat 1)))&&((!((UInt8.ofNat 12)==(UInt8.ofNat 2)))&&((!((UInt8.ofNat 12)==(UInt8.ofNat 3)))&&((!((UInt8.ofNat 12)==(UInt8.ofNat 7)))&&((!((UInt8.ofNat 12)==(UInt8.ofNat 8)))&&((!((UInt8.ofNat 12)==(UInt8.ofNat 4)))&&((!((UInt8.ofNat 12)==(UInt8.ofNat 5)))&&((!((UInt8.ofNat 12)==(UInt8.ofNat 6)))&&((!((UInt8.ofNat 12)==(UInt8.ofNat 9)))&&((!((UInt8.ofNat 12)==(UInt8.ofNat 10)))&&((!((UInt8.ofNat 12)==(UInt8.ofNat 11)))&&true)))))))))))<|
 (byte? o).bind fun c=>
 bif (c==(UInt8.ofNat 1)) then
  (csha1 fu).bind fun r=>
  some (r.1,(r.2.1,(r.2.2.1,(r.2.2.2.1,(r.2.2.2.2.1,(r.2.2.2.2.2,true))))))
 else
  bif (c==(UInt8.ofNat 2)) then
   (csha1 fu).bind fun r1=>
   some (r1.1,(r1.2.1,(r1.2.2.1,(r1.2.2.2.1,(r1.2.2.2.2.1,(r1.2.2.2.2.2,true))))))
  else
   bif (c==(UInt8.ofNat 3)) then
    (csha1 fu).bind fun r2=>
    some (r2.1,(r2.2.1,(r2.2.2.1,(r2.2.2.2.1,(r2.2.2.2.2.1,(r2.2.2.2.2.2,true))))))
   else
    bif (c==(UInt8.ofNat 7)) then
     (csha1 fu).bind fun r3=>
     some (r3.1,(r3.2.1,(r3.2.2.1,(r3.2.2.2.1,(r3.2.2.2.2.1,(r3.2.2.2.2.2,true))))))
    else
     bif (c==(UInt8.ofNat 8)) then
      (csha1 fu).bind fun r4=>
      some (r4.1,(r4.2.1,(r4.2.2.1,(r4.2.2.2.1,(r4.2.2.2.2.1,(r4.2.2.2.2.2,true))))))
     else
      bif (c==(UInt8.ofNat 4)) then
       (csha2 fu).bind fun r5=>
       some (r5.1,(r5.2.1,(r5.2.2.1,(r5.2.2.2.1,(r5.2.2.2.2.1,(r5.2.2.2.2.2,true))))))
      else
       bif (c==(UInt8.ofNat 5)) then
        (csha3 fu).bind fun r6=>
        some (r6.1,(r6.2.1,(r6.2.2.1,(r6.2.2.2.1,(r6.2.2.2.2.1,(r6.2.2.2.2.2,true))))))
       else
        bif (c==(UInt8.ofNat 6)) then
         (csha4 fu).bind fun r7=>
         some (r7.1,(r7.2.1,(r7.2.2.1,(r7.2.2.2.1,(r7.2.2.2.2.1,(r7.2.2.2.2.2,true))))))
        else
         bif (c==(UInt8.ofNat 9)) then
          (csha5 fu).bind fun r8=>
          some (r8.1,(r8.2.1,(r8.2.2.1,(r8.2.2.2.1,(r8.2.2.2.2.1,(r8.2.2.2.2.2,true))))))
         else
          bif (c==(UInt8.ofNat 10)) then
           (csha6 fu).bind fun r9=>
           some (r9.1,(r9.2.1,(r9.2.2.1,(r9.2.2.2.1,(r9.2.2.2.2.1,(r9.2.2.2.2.2,true))))))
          else
           bif (c==(UInt8.ofNat 11)) then
            (csha7 fu).bind fun r10=>
            some (r10.1,(r10.2.1,(r10.2.2.1,(r10.2.2.2.1,(r10.2.2.2.2.1,(r10.2.2.2.2.2,true))))))
           else
            bif (c==(UInt8.ofNat 12)) then
             (csha8 fu).bind fun r11=>
             some (r11.1,(r11.2.1,(r11.2.2.1,(r11.2.2.2.1,(r11.2.2.2.2.1,(r11.2.2.2.2.2,true))))))
            else
             some (false,(false,(false,(false,(0,(false,false))))))
def csha_fa:FnA:=⟨.two (.reg [(0,{ids:=[100]})]) (.two lf (.two (.reg [(0,{ids:=[101]})]) (.two lf (.sel (.slot 6 (.fn 65 .nil .nil)) (.two (.two lf lf) (.two (.reg [(1,{})]) lf)) (.sel (.slot 6 (.fn 66 .nil .nil)) (.two (.two lf lf) (.two (.reg [(1,{fn:=1})]) lf)) (.sel (.slot 6 (.fn 67 .nil .nil)) (.two (.two lf lf) (.two (.reg [(1,{fn:=2})]) lf)) (.sel (.slot 6 (.fn 68 .nil .nil)) (.two (.two lf lf) (.two (.reg [(1,{fn:=3})]) lf)) (.sel (.slot 6 (.fn 69 .nil .nil)) (.two (.two lf lf) (.two (.reg [(1,{fn:=4})]) lf)) (.sel (.slot 6 (.fn 70 .nil .nil)) (.two (.two lf lf) (.two (.reg [(1,{fn:=5})]) lf)) (.sel (.slot 6 (.fn 71 .nil .nil)) (.two (.two lf lf) (.two (.reg [(1,{fn:=6})]) lf)) (.two (.two lf (.two lf lf)) (.two (.reg [(1,{fn:=7})]) lf)))))))))))),⟨(.cons (.p (.int .u8)) .nil),[]⟩,[⟨(.cons (.agg qL24) (.cons (.p .bool) .nil)),[]⟩],[0,0]⟩
def csha_ft(fu:Nat):FnT:=⟨44,csha_fa.i,csha_fa.os,fun t=>csha fu t⟩
theorem n6Z(fu:Nat):Told Tryz.prog (csha_ft fu):=tk fu csha_fa (aaZ (lxZ fu) (aaZ (lcZ fu) (aaZ (lbZ fu) (aaZ (mdZ fu) (aaZ (ltZ fu) (aaZ (lfZ fu) (aaZ (lGZ fu) (aaZ (lUZ fu) acZ)))))))) Tryz.func44 (by kernel_rfl) fun t=>by kernel_rfl
def cwho(fu:Nat)(client:Int)(xid:Int):Option (Bool):=
 bif (decide (client>=0)) then
  bif (decide (client<16)) then
   bif (decide (xid>=1)) then
    some (decide (xid<=1099511627776))
   else
    some false
  else
   some false
 else
  some false
def cwho_fa:FnA:=⟨.two lf lf,⟨qL41,[]⟩,[⟨(.cons (.p .bool) .nil),[]⟩],[0]⟩
def cwho_ft(fu:Nat):FnT:=⟨42,cwho_fa.i,cwho_fa.os,fun t=>cwho fu t.1 t.2⟩
theorem iDZ(fu:Nat):Told Tryz.prog (cwho_ft fu):=tk fu cwho_fa acZ Tryz.func42 (by kernel_rfl) fun t=>by kernel_rfl
def hRig(fu:Nat)(h:(Int×Int)):Option (Bool):=
 bif (decide (h.1>=1)) then
  bif (decide (h.1<=500)) then
   bif (decide (h.2>=1)) then
    some (decide (h.2<=1099511627776))
   else
    some false
  else
   some false
 else
  some false
def hRig_fa:FnA:=⟨.two (.reg [(0,{ids:=[100]})]) lf,⟨(.cons (.p qY6) .nil),[]⟩,[⟨(.cons (.p .bool) .nil),[]⟩],[0]⟩
def hRig_ft(fu:Nat):FnT:=⟨43,hRig_fa.i,hRig_fa.os,fun t=>hRig fu t⟩
theorem ilZ(fu:Nat):Told Tryz.prog (hRig_ft fu):=tk fu hRig_fa acZ Tryz.func43 (by kernel_rfl) fun t=>by kernel_rfl
def cRigCal1(fu:Nat)(is_:Bool)(h:(Int×Int)):Option (Bool):=
 bif is_ then
  (hRig fu (h.1,h.2)).bind fun r=>
  bif r then
   some true
  else
   bif (!is_) then
    some ((h.1==0)&&(h.2==0))
   else
    some false
 else
  bif (!is_) then
   some ((h.1==0)&&(h.2==0))
  else
   some false
def cRigCal1_fa:FnA:=⟨.two (.reg [(0,{ids:=[100]})]) (.two (.reg [(3,{})]) lf),⟨(.cons (.p .bool) (.cons (.p qY6) .nil)),[]⟩,[⟨(.cons (.p .bool) .nil),[]⟩],[0]⟩
def cRigCal1_ft(fu:Nat):FnT:=⟨45,cRigCal1_fa.i,cRigCal1_fa.os,fun t=>cRigCal1 fu t.1 t.2⟩
theorem h9Z(fu:Nat):Told Tryz.prog (cRigCal1_ft fu):=tk fu cRigCal1_fa (aaZ (ilZ fu) acZ) Tryz.func45 (by kernel_rfl) fun t=>by kernel_rfl
def cRigCal2(fu:Nat)(is_:Bool)(l:List UInt8):Option (Bool):=
 bif (l==[]) then
  some true
 else
  bif is_ then
   some (decide (((l.length:Nat):Int)<=100))
  else
   some false
def cRigCal2_fa:FnA:=⟨.two lf lf,⟨(.cons (.p .bool) (.cons (.p .str) .nil)),[]⟩,[⟨(.cons (.p .bool) .nil),[]⟩],[0]⟩
def cRigCal2_ft(fu:Nat):FnT:=⟨46,cRigCal2_fa.i,cRigCal2_fa.os,fun t=>cRigCal2 fu t.1 t.2⟩
theorem hGZ(fu:Nat):Told Tryz.prog (cRigCal2_ft fu):=tk fu cRigCal2_fa acZ Tryz.func46 (by kernel_rfl) fun t=>by kernel_rfl
def cRigCal(fu:Nat)(c:qT26):Option (Bool):=
 (csha fu ((c.2.2.1.toNat:Nat):Int)).bind fun r=>
 Option.bind (α:=((Bool×(Int×(Int×(Int×(Int×(Int×(List UInt8×(Int×(Int×(List UInt8×(Int×(Int×(List (UInt8)×qT47))))))))))))))) (
  bif (!r.2.2.2.2.2.2) then
   some (true,(c.1,(c.2.1,(((c.2.2.1.toNat:Nat):Int),(c.2.2.2.1.1,(c.2.2.2.1.2,(c.2.2.2.2.1,(c.2.2.2.2.2.1.1,(c.2.2.2.2.2.1.2,(c.2.2.2.2.2.2.1,(c.2.2.2.2.2.2.2.1,(c.2.2.2.2.2.2.2.2.1,(c.2.2.2.2.2.2.2.2.2,(r.1,(r.2.1,(r.2.2.1,(r.2.2.2.1,(r.2.2.2.2.1,r.2.2.2.2.2.1))))))))))))))))))
  else
   (cwho fu c.1 c.2.1).bind fun r1=>
   some ((!r1),(c.1,(c.2.1,(((c.2.2.1.toNat:Nat):Int),(c.2.2.2.1.1,(c.2.2.2.1.2,(c.2.2.2.2.1,(c.2.2.2.2.2.1.1,(c.2.2.2.2.2.1.2,(c.2.2.2.2.2.2.1,(c.2.2.2.2.2.2.2.1,(c.2.2.2.2.2.2.2.2.1,(c.2.2.2.2.2.2.2.2.2,(r.1,(r.2.1,(r.2.2.1,(r.2.2.2.1,(r.2.2.2.2.1,r.2.2.2.2.2.1))))))))))))))))))) fun o=>
 bif o.1 then
  some false
 else
  Option.bind (α:=((Bool×(Int×(Int×(Int×(Int×(Int×(List UInt8×(Int×(Int×(List UInt8×(Int×(Int×(List (UInt8)×qT47))))))))))))))) (
   (cRigCal1 fu o.2.2.2.2.2.2.2.2.2.2.2.2.2.1 (o.2.2.2.2.1,o.2.2.2.2.2.1)).bind fun r2=>
   bif (!r2) then
    some (true,(o.2.1,(o.2.2.1,(o.2.2.2.1,(o.2.2.2.2.1,(o.2.2.2.2.2.1,(o.2.2.2.2.2.2.1,(o.2.2.2.2.2.2.2.1,(o.2.2.2.2.2.2.2.2.1,(o.2.2.2.2.2.2.2.2.2.1,(o.2.2.2.2.2.2.2.2.2.2.1,(o.2.2.2.2.2.2.2.2.2.2.2.1,(o.2.2.2.2.2.2.2.2.2.2.2.2.1,(o.2.2.2.2.2.2.2.2.2.2.2.2.2.1,(o.2.2.2.2.2.2.2.2.2.2.2.2.2.2.1,(o.2.2.2.2.2.2.2.2.2.2.2.2.2.2.2.1,(o.2.2.2.2.2.2.2.2.2.2.2.2.2.2.2.2.1,(o.2.2.2.2.2.2.2.2.2.2.2.2.2.2.2.2.2.1,o.2.2.2.2.2.2.2.2.2.2.2.2.2.2.2.2.2.2))))))))))))))))))
   else
    (cRigCal1 fu o.2.2.2.2.2.2.2.2.2.2.2.2.2.2.2.1 (o.2.2.2.2.2.2.2.1,o.2.2.2.2.2.2.2.2.1)).bind fun r3=>
    bif (!r3) then
     some (true,(o.2.1,(o.2.2.1,(o.2.2.2.1,(o.2.2.2.2.1,(o.2.2.2.2.2.1,(o.2.2.2.2.2.2.1,(o.2.2.2.2.2.2.2.1,(o.2.2.2.2.2.2.2.2.1,(o.2.2.2.2.2.2.2.2.2.1,(o.2.2.2.2.2.2.2.2.2.2.1,(o.2.2.2.2.2.2.2.2.2.2.2.1,(o.2.2.2.2.2.2.2.2.2.2.2.2.1,(o.2.2.2.2.2.2.2.2.2.2.2.2.2.1,(o.2.2.2.2.2.2.2.2.2.2.2.2.2.2.1,(o.2.2.2.2.2.2.2.2.2.2.2.2.2.2.2.1,(o.2.2.2.2.2.2.2.2.2.2.2.2.2.2.2.2.1,(o.2.2.2.2.2.2.2.2.2.2.2.2.2.2.2.2.2.1,o.2.2.2.2.2.2.2.2.2.2.2.2.2.2.2.2.2.2))))))))))))))))))
    else
     (cRigCal2 fu o.2.2.2.2.2.2.2.2.2.2.2.2.2.2.1 o.2.2.2.2.2.2.1).bind fun r4=>
     bif (!r4) then
      some (true,(o.2.1,(o.2.2.1,(o.2.2.2.1,(o.2.2.2.2.1,(o.2.2.2.2.2.1,(o.2.2.2.2.2.2.1,(o.2.2.2.2.2.2.2.1,(o.2.2.2.2.2.2.2.2.1,(o.2.2.2.2.2.2.2.2.2.1,(o.2.2.2.2.2.2.2.2.2.2.1,(o.2.2.2.2.2.2.2.2.2.2.2.1,(o.2.2.2.2.2.2.2.2.2.2.2.2.1,(o.2.2.2.2.2.2.2.2.2.2.2.2.2.1,(o.2.2.2.2.2.2.2.2.2.2.2.2.2.2.1,(o.2.2.2.2.2.2.2.2.2.2.2.2.2.2.2.1,(o.2.2.2.2.2.2.2.2.2.2.2.2.2.2.2.2.1,(o.2.2.2.2.2.2.2.2.2.2.2.2.2.2.2.2.2.1,o.2.2.2.2.2.2.2.2.2.2.2.2.2.2.2.2.2.2))))))))))))))))))
     else
      (cRigCal2 fu o.2.2.2.2.2.2.2.2.2.2.2.2.2.2.2.1 o.2.2.2.2.2.2.2.2.2.1).bind fun r5=>
      some ((!r5),(o.2.1,(o.2.2.1,(o.2.2.2.1,(o.2.2.2.2.1,(o.2.2.2.2.2.1,(o.2.2.2.2.2.2.1,(o.2.2.2.2.2.2.2.1,(o.2.2.2.2.2.2.2.2.1,(o.2.2.2.2.2.2.2.2.2.1,(o.2.2.2.2.2.2.2.2.2.2.1,(o.2.2.2.2.2.2.2.2.2.2.2.1,(o.2.2.2.2.2.2.2.2.2.2.2.2.1,(o.2.2.2.2.2.2.2.2.2.2.2.2.2.1,(o.2.2.2.2.2.2.2.2.2.2.2.2.2.2.1,(o.2.2.2.2.2.2.2.2.2.2.2.2.2.2.2.1,(o.2.2.2.2.2.2.2.2.2.2.2.2.2.2.2.2.1,(o.2.2.2.2.2.2.2.2.2.2.2.2.2.2.2.2.2.1,o.2.2.2.2.2.2.2.2.2.2.2.2.2.2.2.2.2.2))))))))))))))))))) fun o1=>
  bif o1.1 then
   some false
  else
   Option.bind (α:=((Bool×(Int×(Int×(Int×(Int×(Int×(List UInt8×(Int×(Int×(List UInt8×(Int×(Int×(List (UInt8)×qT47))))))))))))))) (
    bif (decide (o1.2.2.2.2.2.2.2.2.2.2.1<0)) then
     some (true,(o1.2.1,(o1.2.2.1,(o1.2.2.2.1,(o1.2.2.2.2.1,(o1.2.2.2.2.2.1,(o1.2.2.2.2.2.2.1,(o1.2.2.2.2.2.2.2.1,(o1.2.2.2.2.2.2.2.2.1,(o1.2.2.2.2.2.2.2.2.2.1,(o1.2.2.2.2.2.2.2.2.2.2.1,(o1.2.2.2.2.2.2.2.2.2.2.2.1,(o1.2.2.2.2.2.2.2.2.2.2.2.2.1,(o1.2.2.2.2.2.2.2.2.2.2.2.2.2.1,(o1.2.2.2.2.2.2.2.2.2.2.2.2.2.2.1,(o1.2.2.2.2.2.2.2.2.2.2.2.2.2.2.2.1,(o1.2.2.2.2.2.2.2.2.2.2.2.2.2.2.2.2.1,(o1.2.2.2.2.2.2.2.2.2.2.2.2.2.2.2.2.2.1,o1.2.2.2.2.2.2.2.2.2.2.2.2.2.2.2.2.2.2))))))))))))))))))
    else
     bif (decide (o1.2.2.2.2.2.2.2.2.2.2.1>2147483648)) then
      some (true,(o1.2.1,(o1.2.2.1,(o1.2.2.2.1,(o1.2.2.2.2.1,(o1.2.2.2.2.2.1,(o1.2.2.2.2.2.2.1,(o1.2.2.2.2.2.2.2.1,(o1.2.2.2.2.2.2.2.2.1,(o1.2.2.2.2.2.2.2.2.2.1,(o1.2.2.2.2.2.2.2.2.2.2.1,(o1.2.2.2.2.2.2.2.2.2.2.2.1,(o1.2.2.2.2.2.2.2.2.2.2.2.2.1,(o1.2.2.2.2.2.2.2.2.2.2.2.2.2.1,(o1.2.2.2.2.2.2.2.2.2.2.2.2.2.2.1,(o1.2.2.2.2.2.2.2.2.2.2.2.2.2.2.2.1,(o1.2.2.2.2.2.2.2.2.2.2.2.2.2.2.2.2.1,(o1.2.2.2.2.2.2.2.2.2.2.2.2.2.2.2.2.2.1,o1.2.2.2.2.2.2.2.2.2.2.2.2.2.2.2.2.2.2))))))))))))))))))
     else
      bif (!o1.2.2.2.2.2.2.2.2.2.2.2.2.2.2.2.2.1) then
       bif (!(o1.2.2.2.2.2.2.2.2.2.2.1==0)) then
        some (true,(o1.2.1,(o1.2.2.1,(o1.2.2.2.1,(o1.2.2.2.2.1,(o1.2.2.2.2.2.1,(o1.2.2.2.2.2.2.1,(o1.2.2.2.2.2.2.2.1,(o1.2.2.2.2.2.2.2.2.1,(o1.2.2.2.2.2.2.2.2.2.1,(o1.2.2.2.2.2.2.2.2.2.2.1,(o1.2.2.2.2.2.2.2.2.2.2.2.1,(o1.2.2.2.2.2.2.2.2.2.2.2.2.1,(o1.2.2.2.2.2.2.2.2.2.2.2.2.2.1,(o1.2.2.2.2.2.2.2.2.2.2.2.2.2.2.1,(o1.2.2.2.2.2.2.2.2.2.2.2.2.2.2.2.1,(o1.2.2.2.2.2.2.2.2.2.2.2.2.2.2.2.2.1,(o1.2.2.2.2.2.2.2.2.2.2.2.2.2.2.2.2.2.1,o1.2.2.2.2.2.2.2.2.2.2.2.2.2.2.2.2.2.2))))))))))))))))))
       else
        bif (decide (o1.2.2.2.2.2.2.2.2.2.2.2.1<0)) then
         some (true,(o1.2.1,(o1.2.2.1,(o1.2.2.2.1,(o1.2.2.2.2.1,(o1.2.2.2.2.2.1,(o1.2.2.2.2.2.2.1,(o1.2.2.2.2.2.2.2.1,(o1.2.2.2.2.2.2.2.2.1,(o1.2.2.2.2.2.2.2.2.2.1,(o1.2.2.2.2.2.2.2.2.2.2.1,(o1.2.2.2.2.2.2.2.2.2.2.2.1,(o1.2.2.2.2.2.2.2.2.2.2.2.2.1,(o1.2.2.2.2.2.2.2.2.2.2.2.2.2.1,(o1.2.2.2.2.2.2.2.2.2.2.2.2.2.2.1,(o1.2.2.2.2.2.2.2.2.2.2.2.2.2.2.2.1,(o1.2.2.2.2.2.2.2.2.2.2.2.2.2.2.2.2.1,(o1.2.2.2.2.2.2.2.2.2.2.2.2.2.2.2.2.2.1,o1.2.2.2.2.2.2.2.2.2.2.2.2.2.2.2.2.2.2))))))))))))))))))
        else
         some ((decide (o1.2.2.2.2.2.2.2.2.2.2.2.1>o1.2.2.2.2.2.2.2.2.2.2.2.2.2.2.2.2.2.1)),(o1.2.1,(o1.2.2.1,(o1.2.2.2.1,(o1.2.2.2.2.1,(o1.2.2.2.2.2.1,(o1.2.2.2.2.2.2.1,(o1.2.2.2.2.2.2.2.1,(o1.2.2.2.2.2.2.2.2.1,(o1.2.2.2.2.2.2.2.2.2.1,(o1.2.2.2.2.2.2.2.2.2.2.1,(o1.2.2.2.2.2.2.2.2.2.2.2.1,(o1.2.2.2.2.2.2.2.2.2.2.2.2.1,(o1.2.2.2.2.2.2.2.2.2.2.2.2.2.1,(o1.2.2.2.2.2.2.2.2.2.2.2.2.2.2.1,(o1.2.2.2.2.2.2.2.2.2.2.2.2.2.2.2.1,(o1.2.2.2.2.2.2.2.2.2.2.2.2.2.2.2.2.1,(o1.2.2.2.2.2.2.2.2.2.2.2.2.2.2.2.2.2.1,o1.2.2.2.2.2.2.2.2.2.2.2.2.2.2.2.2.2.2))))))))))))))))))
      else
       bif (decide (o1.2.2.2.2.2.2.2.2.2.2.2.1<0)) then
        some (true,(o1.2.1,(o1.2.2.1,(o1.2.2.2.1,(o1.2.2.2.2.1,(o1.2.2.2.2.2.1,(o1.2.2.2.2.2.2.1,(o1.2.2.2.2.2.2.2.1,(o1.2.2.2.2.2.2.2.2.1,(o1.2.2.2.2.2.2.2.2.2.1,(o1.2.2.2.2.2.2.2.2.2.2.1,(o1.2.2.2.2.2.2.2.2.2.2.2.1,(o1.2.2.2.2.2.2.2.2.2.2.2.2.1,(o1.2.2.2.2.2.2.2.2.2.2.2.2.2.1,(o1.2.2.2.2.2.2.2.2.2.2.2.2.2.2.1,(o1.2.2.2.2.2.2.2.2.2.2.2.2.2.2.2.1,(o1.2.2.2.2.2.2.2.2.2.2.2.2.2.2.2.2.1,(o1.2.2.2.2.2.2.2.2.2.2.2.2.2.2.2.2.2.1,o1.2.2.2.2.2.2.2.2.2.2.2.2.2.2.2.2.2.2))))))))))))))))))
       else
        some ((decide (o1.2.2.2.2.2.2.2.2.2.2.2.1>o1.2.2.2.2.2.2.2.2.2.2.2.2.2.2.2.2.2.1)),(o1.2.1,(o1.2.2.1,(o1.2.2.2.1,(o1.2.2.2.2.1,(o1.2.2.2.2.2.1,(o1.2.2.2.2.2.2.1,(o1.2.2.2.2.2.2.2.1,(o1.2.2.2.2.2.2.2.2.1,(o1.2.2.2.2.2.2.2.2.2.1,(o1.2.2.2.2.2.2.2.2.2.2.1,(o1.2.2.2.2.2.2.2.2.2.2.2.1,(o1.2.2.2.2.2.2.2.2.2.2.2.2.1,(o1.2.2.2.2.2.2.2.2.2.2.2.2.2.1,(o1.2.2.2.2.2.2.2.2.2.2.2.2.2.2.1,(o1.2.2.2.2.2.2.2.2.2.2.2.2.2.2.2.1,(o1.2.2.2.2.2.2.2.2.2.2.2.2.2.2.2.2.1,(o1.2.2.2.2.2.2.2.2.2.2.2.2.2.2.2.2.2.1,o1.2.2.2.2.2.2.2.2.2.2.2.2.2.2.2.2.2.2))))))))))))))))))) fun o2=>
   bif o2.1 then
    some false
   else
    bif (((o2.2.2.2.2.2.2.2.2.2.2.2.2.1.length:Nat):Int)==0) then
     some true
    else
     bif o2.2.2.2.2.2.2.2.2.2.2.2.2.2.2.2.2.2.2 then
      some (decide (((o2.2.2.2.2.2.2.2.2.2.2.2.2.1.length:Nat):Int)<=4096))
     else
      some false
def cRigCal_fa:FnA:=⟨.two (.reg [(0,{ids:=[100]})]) (.two (.reg [(2,{}),(6,{ids:=[101]})]) (.two (.two (.join ⟨[1,3,22],⟨(.cons (.own 0 100 0 0) (.cons (.own 0 101 0 0) (.cons (.p .bool) .nil))),[(100,false,(.vars qL10)),(101,false,(.vars qL24))]⟩⟩ false [] (.reg [(7,{fn:=1})])) (.two lf lf)) (.two lf (.two lf (.two (.two (.join ⟨[1,3,56],⟨(.cons (.own 0 100 0 0) (.cons (.own 0 101 0 0) (.cons (.p .bool) .nil))),[(100,false,(.vars qL10)),(101,false,(.vars qL24))]⟩⟩ false [] (.reg [(5,{fn:=2}),(13,{fn:=2}),(22,{fn:=3}),(31,{fn:=3})])) (.two lf lf)) (.two (.two (.join ⟨[1,3,86],⟨(.cons (.own 0 100 0 0) (.cons (.own 0 101 0 0) (.cons (.p .bool) .nil))),[(100,false,(.vars qL10)),(101,false,(.vars qL24))]⟩⟩ false [] lf) (.two lf lf)) lf)))))),⟨(.cons (.p qY15) .nil),[]⟩,[⟨(.cons (.p .bool) .nil),[]⟩],[0]⟩
def cRigCal_ft(fu:Nat):FnT:=⟨21,cRigCal_fa.i,cRigCal_fa.os,fun t=>cRigCal fu t⟩
theorem eEZ(fu:Nat):Told Tryz.prog (cRigCal_ft fu):=tk fu cRigCal_fa (aaZ (n6Z fu) (aaZ (iDZ fu) (aaZ (h9Z fu) (aaZ (hGZ fu) acZ)))) Tryz.func21 (by kernel_rfl) fun t=>by kernel_rfl
def sClo3(fu:Nat)(s:List ((Int×Int))):Option (List ((Int×Int))):=
 nilQ s.length fun isNil=>
 bif isNil then
  some []
 else
  need ((Nat.ble ((0+s.length)*16) room)&&(Nat.ble (0+s.length) room))<|
  some s
def sClo3_fa:FnA:=⟨.two lf (.two (.two lf (.two lf lf)) (.two (.reg [(0,{ids:=[100]}),(2,{ids:=[101]})]) lf)),⟨(.cons (.p (.sl qY6)) .nil),[]⟩,[⟨(.cons (.slf 2 0) .nil),[(0,false,(.rows 103 qY6))]⟩],[113]⟩
def sClo3_ft(fu:Nat):FnT:=⟨57,sClo3_fa.i,sClo3_fa.os,fun t=>sClo3 fu t⟩
theorem dmZ(fu:Nat):Told Tryz.prog (sClo3_ft fu):=tk fu sClo3_fa acZ Tryz.func57 (by kernel_rfl) fun t=>by kernel_rfl
def sClo2(fu:Nat)(s:List ((List UInt8×Int))):Option (List ((List UInt8×Int))):=
 nilQ s.length fun isNil=>
 bif isNil then
  some []
 else
  need ((Nat.ble ((0+s.length)*24) room)&&(Nat.ble (0+s.length) room))<|
  some s
def sClo2_fa:FnA:=⟨.two lf (.two (.two lf (.two lf lf)) (.two (.reg [(0,{ids:=[100]}),(2,{ids:=[101]})]) lf)),⟨(.cons (.p (.sl (.pair .str (.int .i64)))) .nil),[]⟩,[⟨(.cons (.slf 2 0) .nil),[(0,false,qB42)]⟩],[89]⟩
def sClo2_ft(fu:Nat):FnT:=⟨58,sClo2_fa.i,sClo2_fa.os,fun t=>sClo2 fu t⟩
theorem crZ(fu:Nat):Told Tryz.prog (sClo2_ft fu):=tk fu sClo2_fa acZ Tryz.func58 (by kernel_rfl) fun t=>by kernel_rfl
def inode_own(fu:Nat)(n:qT1):Option ((Int×(Int×(Bool×(Bool×(Int×(Int×(List ((Int×Int))×List ((List UInt8×Int)))))))))):=
 (sClo3 fu n.2.2.2.2.2.1).bind fun r=>
 (sClo2 fu n.2.2.2.2.2.2.2).bind fun r1=>
 some (n.1,(n.2.1,(n.2.2.1,(n.2.2.2.1,(n.2.2.2.2.1,(n.2.2.2.2.2.2.1,(r,r1)))))))
def inode_own_fa:FnA:=⟨.two (.reg [(0,{ids:=[100]}),(1,{ids:=[101]})]) (.two (.reg [(2,{ids:=[102]}),(5,{ids:=[103],fn:=1})]) lf),⟨(.cons (.p qY0) .nil),[]⟩,[⟨(.cons (.agg (.cons (.p (.int .i64)) (.cons (.p (.int .i64)) (.cons (.p .bool) (.cons (.p .bool) (.cons (.p (.int .i64)) (.cons (.slf 2 0) (.cons (.p (.int .i64)) (.cons (.slf 2 1) .nil))))))))) .nil),[(0,false,(.rows 103 qY6)),(1,false,qB42)]⟩],[0]⟩
def inode_own_ft(fu:Nat):FnT:=⟨83,inode_own_fa.i,inode_own_fa.os,fun t=>inode_own fu t⟩
theorem b1Z(fu:Nat):Told Tryz.prog (inode_own_ft fu):=tk fu inode_own_fa (aaZ (dmZ fu) (aaZ (crZ fu) acZ)) Tryz.func83 (by kernel_rfl) fun t=>by kernel_rfl
def inode_Get(fu:Nat)(t:(List (qT1)×Int))(h:(Int×Int)):Option ((Int×(Int×(Bool×(Bool×(Int×(List ((Int×Int))×(Int×(List ((List UInt8×Int))×Int))))))))):=
 Option.bind (α:=((Bool×(List (qT1)×(Int×(Int×(Int×(Int×(Int×(Bool×(Bool×(Int×Int)))))))))))) (
  bif (decide (h.1<1)) then
   some (true,(t.1,(t.2,(h.1,(h.2,(0,(0,(false,(false,(0,0))))))))))
  else
   some ((decide (h.1>((t.1.length:Nat):Int))),(t.1,(t.2,(h.1,(h.2,(0,(0,(false,(false,(0,0))))))))))) fun o=>
 bif o.1 then
  some (0,(0,(false,(false,(0,([],(0,([],170))))))))
 else
  (idx? (IntKind.wrap .i64 (o.2.2.2.1-1)) o.2.1.length).bind fun q=>
  (o.2.1)[q]?.bind fun r=>
  Option.bind (α:=((Bool×(Int×(Int×(Bool×(Bool×(Int×(Int×qT1))))))))) (
   bif (!r.2.2.1) then
    some (true,(o.2.2.2.2.2.1,(o.2.2.2.2.2.2.1,(o.2.2.2.2.2.2.2.1,(o.2.2.2.2.2.2.2.2.1,(o.2.2.2.2.2.2.2.2.2.1,(o.2.2.2.2.2.2.2.2.2.2,(r.1,(r.2.1,(r.2.2.1,(r.2.2.2.1,(r.2.2.2.2.1,(r.2.2.2.2.2.1,(r.2.2.2.2.2.2.1,r.2.2.2.2.2.2.2))))))))))))))
   else
    some ((!(r.2.1==o.2.2.2.2.1)),(o.2.2.2.2.2.1,(o.2.2.2.2.2.2.1,(o.2.2.2.2.2.2.2.1,(o.2.2.2.2.2.2.2.2.1,(o.2.2.2.2.2.2.2.2.2.1,(o.2.2.2.2.2.2.2.2.2.2,(r.1,(r.2.1,(r.2.2.1,(r.2.2.2.1,(r.2.2.2.2.1,(r.2.2.2.2.2.1,(r.2.2.2.2.2.2.1,r.2.2.2.2.2.2.2))))))))))))))) fun o1=>
  bif o1.1 then
   some (0,(0,(false,(false,(0,([],(0,([],170))))))))
  else
   (inode_own fu (o1.2.2.2.2.2.2.2.1,(o1.2.2.2.2.2.2.2.2.1,(o1.2.2.2.2.2.2.2.2.2.1,(o1.2.2.2.2.2.2.2.2.2.2.1,(o1.2.2.2.2.2.2.2.2.2.2.2.1,(o1.2.2.2.2.2.2.2.2.2.2.2.2.1,(o1.2.2.2.2.2.2.2.2.2.2.2.2.2.1,o1.2.2.2.2.2.2.2.2.2.2.2.2.2.2)))))))).bind fun r1=>
   some (r1.1,(r1.2.1,(r1.2.2.1,(r1.2.2.2.1,(r1.2.2.2.2.1,(r1.2.2.2.2.2.2.1,(r1.2.2.2.2.2.1,(r1.2.2.2.2.2.2.2,0))))))))
def inode_Get_fa:FnA:=⟨.two (.reg [(0,{ids:=[100]}),(1,{ids:=[101]}),(2,{ids:=[102]})]) (.two (.two (.join ⟨[2,3,4,17],⟨(.cons (.own 0 100 0 0) (.cons (.own 0 101 0 0) (.cons (.own 0 102 0 0) (.cons (.p .bool) .nil)))),[(100,false,qB28),(101,false,(.vars qL41)),(102,false,(.vars (.cons (.p (.int .i64)) (.cons (.p (.int .i64)) (.cons (.p .bool) (.cons (.p .bool) (.cons (.p (.int .i64)) qL29)))))))]⟩⟩ false [] lf) (.two lf lf)) (.two (.reg [(7,{ids:=[103]})]) (.two (.two (.join ⟨[4,6,35],⟨(.cons (.own 0 102 0 0) (.cons (.own 0 103 0 0) (.cons (.p .bool) .nil))),[(102,false,(.vars (.cons (.p (.int .i64)) (.cons (.p (.int .i64)) (.cons (.p .bool) (.cons (.p .bool) (.cons (.p (.int .i64)) qL29))))))),(103,false,(.vars qL8))]⟩⟩ false [] lf) (.two lf lf)) (.two (.reg [(1,{ids:=[104,105]})]) lf)))),⟨(.cons (.p qY33) (.cons (.p qY6) .nil)),[]⟩,[⟨(.cons (.agg qL8) qL4),[]⟩],[1,0]⟩
def inode_Get_ft(fu:Nat):FnT:=⟨55,inode_Get_fa.i,inode_Get_fa.os,fun t=>inode_Get fu t.1 t.2⟩
theorem coZ(fu:Nat):Told Tryz.prog (inode_Get_ft fu):=tk fu inode_Get_fa (aaZ (b1Z fu) acZ) Tryz.func55 (by kernel_rfl) fun t=>by kernel_rfl
def tdir(fu:Nat)(t:(List (qT1)×Int))(h:(Int×Int)):Option ((Int×(Int×(Bool×(Bool×(Int×(List ((Int×Int))×(Int×(List ((List UInt8×Int))×Int))))))))):=
 (inode_Get fu (t.1,t.2) (h.1,h.2)).bind fun r=>
 Option.bind (α:=((Bool×(Int×(Int×(Bool×(Bool×(Int×(Int×qT1))))))))) (
  bif (r.2.2.2.2.2.2.2.2==0) then
   some ((!r.2.2.2.1),(0,(0,(false,(false,(0,(0,(r.1,(r.2.1,(r.2.2.1,(r.2.2.2.1,(r.2.2.2.2.1,(r.2.2.2.2.2.1,(r.2.2.2.2.2.2.1,r.2.2.2.2.2.2.2.1))))))))))))))
  else
   some (false,(0,(0,(false,(false,(0,(0,(r.1,(r.2.1,(r.2.2.1,(r.2.2.2.1,(r.2.2.2.2.1,(r.2.2.2.2.2.1,(r.2.2.2.2.2.2.1,r.2.2.2.2.2.2.2.1))))))))))))))) fun o=>
 bif o.1 then
  some (0,(0,(false,(false,(0,([],(0,([],173))))))))
 else
  some (o.2.2.2.2.2.2.2.1,(o.2.2.2.2.2.2.2.2.1,(o.2.2.2.2.2.2.2.2.2.1,(o.2.2.2.2.2.2.2.2.2.2.1,(o.2.2.2.2.2.2.2.2.2.2.2.1,(o.2.2.2.2.2.2.2.2.2.2.2.2.1,(o.2.2.2.2.2.2.2.2.2.2.2.2.2.1,(o.2.2.2.2.2.2.2.2.2.2.2.2.2.2,r.2.2.2.2.2.2.2.2))))))))
def tdir_fa:FnA:=⟨.two (.reg [(0,{ids:=[100]}),(1,{ids:=[101]}),(2,{ids:=[102]})]) (.two (.reg [(2,{}),(6,{ids:=[103]})]) (.two (.two (.join ⟨[4,6,20],⟨(.cons (.own 0 102 0 0) (.cons (.own 0 103 0 0) (.cons (.p .bool) .nil))),[(102,false,(.vars (.cons (.p (.int .i64)) (.cons (.p (.int .i64)) (.cons (.p .bool) (.cons (.p .bool) (.cons (.p (.int .i64)) qL29))))))),(103,false,(.vars qL8))]⟩⟩ false [] lf) (.two lf lf)) lf)),⟨(.cons (.p qY33) (.cons (.p qY6) .nil)),[]⟩,[⟨(.cons (.agg qL8) qL4),[]⟩],[0,0]⟩
def tdir_ft(fu:Nat):FnT:=⟨90,tdir_fa.i,tdir_fa.os,fun t=>tdir fu t.1 t.2⟩
theorem nqZ(fu:Nat):Told Tryz.prog (tdir_ft fu):=tk fu tdir_fa (aaZ (coZ fu) acZ) Tryz.func90 (by kernel_rfl) fun t=>by kernel_rfl
def task_l0(fu:Nat)(l:List ((Int×Int)))(x:Int)(h:List (qT1))(h1:Int)(h2:List (qT1)):Option ((Int×(List (qT1)×(Int×List (qT1))))⊕(List (qT1)⊕(Int×List (qT1)))):=
 bif (decide (x<((l.length:Nat):Int))) then
  (idx? x l.length).bind fun q=>
  (l)[q]?.bind fun r1=>
  (tdir fu (h,h1) (r1.1,r1.2)).bind fun r2=>
  bif (!(r2.2.2.2.2.2.2.2.2==0)) then
   some (.inr (.inr (r2.2.2.2.2.2.2.2.2,[])))
  else
   need ((Nat.ble ((h2.length+1)*88) room)&&(Nat.ble (h2.length+1) room))<|
   some (.inl ((IntKind.wrap .i64 (x+1)),(h,(h1,(h2++[(r2.1,(r2.2.1,(r2.2.2.1,(r2.2.2.2.1,(r2.2.2.2.2.1,(r2.2.2.2.2.2.1,(r2.2.2.2.2.2.2.1,r2.2.2.2.2.2.2.2.1)))))))])))))
 else
  some (.inr (.inl h2))
def task_l0_it(fu:Nat)(l:List ((Int×Int)))(tt:(Int×(List (qT1)×(Int×List (qT1))))):Option (List (qT1)⊕(Int×List (qT1))):=
 iter fu (fun tt=>task_l0 fu l tt.1 tt.2.1 tt.2.2.1 tt.2.2.2) tt
def task(fu:Nat)(t:(List (qT1)×Int))(l:List ((Int×Int))):Option ((Int×List (qT1))):=
 (tRig fu (t.1,t.2)).bind fun r=>
 bif (!r) then
  some (180,[])
 else
  (task_l0_it fu l (0,(t.1,(t.2,[])))).bind fun o=>
  match o with
  |.inl s=>
   some (0,s)
  |.inr o1=>
   some o1
def task_fa:FnA:=⟨.two (.reg [(0,{ids:=[100]})]) (.two (.two (.reg [(1,{})]) (.two lf lf)) (.two lf (.two (.two lf (.one (.pre (.ownNil 6 49 101) (.loop ⟨[2,6,16],⟨(.cons (.own 0 100 0 0) (.cons (.slf 8 101) qL4)),[(100,false,qB28),(101,false,(.rows 49 qY0))]⟩⟩ true [(0,⟨[6],⟨(.cons (.slf 8 101) .nil),[(101,false,(.rows 49 qY0))]⟩⟩)] (.two lf (.two lf (.two (.one (.two (.reg [(2,{ids:=[102]})]) (.two (.reg [(2,{fn:=1}),(6,{ids:=[103]})]) (.two (.two lf (.two lf lf)) (.reg [(2,{ids:=[104]}),(3,{ids:=[105]})]))))) lf))))))) lf))),⟨(.cons (.p qY33) (.cons (.p (.sl qY6)) .nil)),[]⟩,[⟨(.cons (.slf 8 0) qL4),[(0,false,(.rows 49 qY0))]⟩],[59,0]⟩
def task_ft(fu:Nat):FnT:=⟨73,task_fa.i,task_fa.os,fun t=>task fu t.1 t.2⟩
theorem cKZ(fu:Nat):Told Tryz.prog (task_ft fu):=tk fu task_fa (aaZ (jaZ fu) (aaZ (nqZ fu) acZ)) Tryz.func73 (by kernel_rfl) fun t=>by kernel_rfl
def ibytabiru(fu:Nat)(a b:List UInt8):Option Int:=
 some (Go.Lib.compareBytes a b)
def ibytabiru_ft(fu:Nat):FnT:=⟨116,⟨(.cons (.p .str) (.cons (.p .str) .nil)),[]⟩,[⟨qL4,[]⟩],fun t=>ibytabiru fu t.1 t.2⟩
theorem gsZ(fu:Nat):Told Tryz.prog (ibytabiru_ft fu):=
 gdZ Tryz.func116 (by kernel_rfl) (by kernel_rfl) (by kernel_rfl) (by kernel_rfl)
def ibytComSt(fu:Nat)(a:List UInt8)(b:List UInt8):Option (Int):=
 (ibytabiru fu a b).bind fun r=>
 some r
def ibytComSt_fa:FnA:=⟨.two lf (.two (.reg [(2,{})]) lf),⟨(.cons (.p .str) (.cons (.p .str) .nil)),[]⟩,[⟨qL4,[]⟩],[0]⟩
def ibytComSt_ft(fu:Nat):FnT:=⟨106,ibytComSt_fa.i,ibytComSt_fa.os,fun t=>ibytComSt fu t.1 t.2⟩
theorem gjZ(fu:Nat):Told Tryz.prog (ibytComSt_ft fu):=tk fu ibytComSt_fa (aaZ (gsZ fu) acZ) Tryz.func106 (by kernel_rfl) fun t=>by kernel_rfl
def sCom(fu:Nat)(a:List UInt8)(b:List UInt8):Option (Int):=
 (ibytComSt fu a b).bind fun r=>
 some r
def sCom_fa:FnA:=⟨.two lf (.two (.reg [(2,{})]) lf),⟨(.cons (.p .str) (.cons (.p .str) .nil)),[]⟩,[⟨qL4,[]⟩],[0]⟩
def sCom_ft(fu:Nat):FnT:=⟨93,sCom_fa.i,sCom_fa.os,fun t=>sCom fu t.1 t.2⟩
theorem nFZ(fu:Nat):Told Tryz.prog (sCom_ft fu):=tk fu sCom_fa (aaZ (gjZ fu) acZ) Tryz.func93 (by kernel_rfl) fun t=>by kernel_rfl
def tent1(fu:Nat)(e:(List UInt8×Int))(name:List UInt8):Option (Int):=
 (sCom fu e.1 name).bind fun r=>
 some r
def tent1_fa:FnA:=⟨.two (.reg [(0,{ids:=[100]})]) (.two (.reg [(3,{})]) lf),⟨(.cons (.p (.pair .str (.int .i64))) (.cons (.p .str) .nil)),[]⟩,[⟨qL4,[]⟩],[0]⟩
def tent1_ft(fu:Nat):FnT:=⟨92,tent1_fa.i,tent1_fa.os,fun t=>tent1 fu t.1 t.2⟩
theorem lqZ(fu:Nat):Told Tryz.prog (tent1_ft fu):=tk fu tent1_fa (aaZ (nFZ fu) acZ) Tryz.func92 (by kernel_rfl) fun t=>by kernel_rfl
def sBinSeaFu_l0(fu:Nat)(x:List ((List UInt8×Int)))(target:List UInt8)(i:Int)(j:Int):Option ((Int×Int)⊕(Int)):=
 bif (decide (i<j)) then
  (idx? (IntKind.wrap .i64 (Int.fdiv (IntKind.wrap .u64 (IntKind.wrap .i64 (i+j))) 2)) x.length).bind fun q=>
  (x)[q]?.bind fun r=>
  (tent1 fu r target).bind fun r1=>
  Option.bind (α:=((Int×Int))) (
   bif (decide (r1<0)) then
    some ((IntKind.wrap .i64 ((IntKind.wrap .i64 (Int.fdiv (IntKind.wrap .u64 (IntKind.wrap .i64 (i+j))) 2))+1)),j)
   else
    some (i,(IntKind.wrap .i64 (Int.fdiv (IntKind.wrap .u64 (IntKind.wrap .i64 (i+j))) 2)))) fun o=>
  some (.inl (o.1,o.2))
 else
  some (.inr i)
def sBinSeaFu_l0_it(fu:Nat)(x:List ((List UInt8×Int)))(target:List UInt8)(tt:(Int×Int)):Option (Int):=
 iter fu (fun tt=>sBinSeaFu_l0 fu x target tt.1 tt.2) tt
def sBinSeaFu(fu:Nat)(x:List ((List UInt8×Int)))(target:List UInt8):Option ((Int×Bool)):=
 (sBinSeaFu_l0_it fu x target (0,((x.length:Nat):Int))).bind fun o1=>
 bif (decide (o1<((x.length:Nat):Int))) then
  (idx? o1 x.length).bind fun q1=>
  (x)[q1]?.bind fun r2=>
  (tent1 fu r2 target).bind fun r3=>
  some (o1,(r3==0))
 else
  some (o1,false)
def sBinSeaFu_fa:FnA:=⟨.two lf (.two lf (.two lf (.two (.one (.loop ⟨[9,10],⟨qL41,[]⟩⟩ false [(0,⟨[9],⟨qL4,[]⟩⟩)] (.two (.two lf lf) (.one (.two lf (.two (.reg [(6,{})]) (.join ⟨[9,10],⟨qL41,[]⟩⟩ false [] lf))))))) (.two (.reg [(11,{})]) lf)))),⟨(.cons (.p (.sl (.pair .str (.int .i64)))) (.cons (.p .str) (.cons (.fn 92 .nil .nil) .nil))),[]⟩,[⟨(.cons (.p (.int .i64)) (.cons (.p .bool) .nil)),[]⟩],[0,0]⟩
def sBinSeaFu_ft(fu:Nat):FnT:=⟨91,sBinSeaFu_fa.i,sBinSeaFu_fa.os,fun t=>sBinSeaFu fu t.1 t.2⟩
theorem gnZ(fu:Nat):Told Tryz.prog (sBinSeaFu_ft fu):=tk fu sBinSeaFu_fa (aaZ (lqZ fu) acZ) Tryz.func91 (by kernel_rfl) fun t=>by kernel_rfl
def tent(fu:Nat)(n:qT1)(name:List UInt8):Option ((Int×Bool)):=
 (sBinSeaFu fu n.2.2.2.2.2.2.2 name).bind fun r=>
 some (r.1,r.2)
def tent_fa:FnA:=⟨.two (.reg [(0,{ids:=[100]})]) (.two (.reg [(3,{})]) lf),⟨(.cons (.p qY0) (.cons (.p .str) .nil)),[]⟩,[⟨(.cons (.p (.int .i64)) (.cons (.p .bool) .nil)),[]⟩],[0,0]⟩
def tent_ft(fu:Nat):FnT:=⟨74,tent_fa.i,tent_fa.os,fun t=>tent fu t.1 t.2⟩
theorem bRZ(fu:Nat):Told Tryz.prog (tent_ft fu):=tk fu tent_fa (aaZ (gnZ fu) acZ) Tryz.func74 (by kernel_rfl) fun t=>by kernel_rfl
def tLoo(fu:Nat)(t:(List (qT1)×Int))(dir:(Int×Int))(name:List UInt8):Option ((Int×(Int×Int))):=
 (task fu (t.1,t.2) [(dir.1,dir.2)]).bind fun r=>
 bif (!(r.1==0)) then
  some (0,(0,r.1))
 else
  (tNam fu name).bind fun r1=>
  bif (!r1) then
   some (0,(0,176))
  else
   (idx? 0 r.2.length).bind fun q=>
   (r.2)[q]?.bind fun r2=>
   (tent fu r2 name).bind fun r3=>
   bif (!r3.2) then
    some (0,(0,171))
   else
    (idx? 0 r.2.length).bind fun q1=>
    (r.2)[q1]?.bind fun r4=>
    (idx? r3.1 r4.2.2.2.2.2.2.2.length).bind fun q2=>
    (r4.2.2.2.2.2.2.2)[q2]?.bind fun r5=>
    (idx? (IntKind.wrap .i64 (r5.2-1)) t.1.length).bind fun q3=>
    (t.1)[q3]?.bind fun r6=>
    some (r5.2,(r6.2.1,0))
def tLoo_fa:FnA:=⟨.two (.reg [(0,{ids:=[100]}),(1,{ids:=[101]}),(2,{ids:=[102]})]) (.two (.reg [(2,{ids:=[103]}),(3,{ids:=[104],md:=[0,1]})]) (.two (.two lf (.two lf lf)) (.two (.two (.reg [(1,{fn:=1})]) (.two lf lf)) (.two (.reg [(4,{fn:=2})]) (.two (.two lf (.two lf lf)) (.two lf lf)))))),⟨(.cons (.p qY33) (.cons (.p qY6) (.cons (.p .str) .nil))),[]⟩,[⟨(.cons (.agg qL41) qL4),[]⟩],[0,0]⟩
def tLoo_ft(fu:Nat):FnT:=⟨48,tLoo_fa.i,tLoo_fa.os,u3 (tLoo fu)⟩
theorem mWZ(fu:Nat):Told Tryz.prog (tLoo_ft fu):=tk fu tLoo_fa (aaZ (cKZ fu) (aaZ (cRZ fu) (aaZ (bRZ fu) acZ))) Tryz.func48 (by kernel_rfl) fun t=>by kernel_rfl
def mdoeloo(fu:Nat)(h:List (qT1))(h1:Int)(h2:List (List (UInt8)))(h3:Int)(h4:Int)(h5:Int)(h6:Int)(h7:Int)(h8:List UInt8)(h9:Int)(h10:Int)(h11:List UInt8)(h12:Int)(h13:Int)(h14:List (UInt8))(h15:Int)(h16:Int)(h17:Int)(h18:Int)(h19:Int)(h20:Bool)(h21:Int)(h22:Bool)(h23:Int):Option ((Int×qT9)):=
 (tLoo fu (h,h1) (h6,h7) h8).bind fun r=>
 bif (r.2.2==0) then
  (idx? (IntKind.wrap .i64 (r.1-1)) h.length).bind fun q=>
  (h)[q]?.bind fun r1=>
  some (r.2.2,(h,(h1,(h2,(h3,(h4,(h5,(h6,(h7,(h8,(h9,(h10,(h11,(h12,(h13,(h14,(h15,(h16,(h17,(r.1,(r.2.1,(r1.2.2.2.1,(r1.2.2.2.2.1,(h22,h23))))))))))))))))))))))))
 else
  some (r.2.2,(h,(h1,(h2,(h3,(h4,(h5,(h6,(h7,(h8,(h9,(h10,(h11,(h12,(h13,(h14,(h15,(h16,(h17,(h18,(h19,(h20,(h21,(h22,h23))))))))))))))))))))))))
def mdoeloo_fa:FnA:=⟨.two lf (.two (.reg [(14,{}),(18,{ids:=[100]})]) (.two (.two lf (.two (.two (.reg [(10,{ids:=[101]})]) lf) lf)) lf)),⟨qL39,[(0,false,qB2)]⟩,[⟨qL4,[(0,false,qB2)]⟩],[0]⟩
def mdoeloo_ft(fu:Nat):FnT:=⟨25,mdoeloo_fa.i,mdoeloo_fa.os,u24 (mdoeloo fu)⟩
theorem ivZ(fu:Nat):Told Tryz.prog (mdoeloo_ft fu):=tk fu mdoeloo_fa (aaZ (mWZ fu) acZ) Tryz.func25 (by kernel_rfl) fun t=>by kernel_rfl
def sClo(fu:Nat)(s:List (qT1)):Option (List (qT1)):=
 nilQ s.length fun isNil=>
 bif isNil then
  some []
 else
  need ((Nat.ble ((0+s.length)*88) room)&&(Nat.ble (0+s.length) room))<|
  some s
def sClo_fa:FnA:=⟨.two lf (.two (.two lf (.two lf lf)) (.two (.reg [(0,{ids:=[100]}),(2,{ids:=[101]})]) lf)),⟨(.cons (.p (.sl qY0)) .nil),[]⟩,[⟨(.cons (.slf 8 0) .nil),[(0,false,(.rows 49 qY0))]⟩],[59]⟩
def sClo_ft(fu:Nat):FnT:=⟨56,sClo_fa.i,sClo_fa.os,fun t=>sClo fu t⟩
theorem ctZ(fu:Nat):Told Tryz.prog (sClo_ft fu):=tk fu sClo_fa acZ Tryz.func56 (by kernel_rfl) fun t=>by kernel_rfl
def tcop_l0(fu:Nat)(r:List (qT1))(x:Int)(h:Int)(h1:List (qT1))(h2:Int):Option ((Int×qT45)⊕(qT45)):=
 bif (decide (x<((r.length:Nat):Int))) then
  (idx? x h1.length).bind fun q=>
  (h1)[q]?.bind fun r1=>
  (sClo3 fu r1.2.2.2.2.2.1).bind fun r2=>
  (h1)[q]?.bind fun r3=>
  (sClo2 fu r3.2.2.2.2.2.2.2).bind fun r4=>
  (h1)[q]?.bind fun r5=>
  ((List.set h1 q (r5.1,(r5.2.1,(r5.2.2.1,(r5.2.2.2.1,(r5.2.2.2.2.1,(r2,r5.2.2.2.2.2.2))))))))[q]?.bind fun r6=>
  some (.inl ((IntKind.wrap .i64 (x+1)),(h,((List.set (List.set h1 q (r5.1,(r5.2.1,(r5.2.2.1,(r5.2.2.2.1,(r5.2.2.2.2.1,(r2,r5.2.2.2.2.2.2))))))) q (r6.1,(r6.2.1,(r6.2.2.1,(r6.2.2.2.1,(r6.2.2.2.2.1,(r6.2.2.2.2.2.1,(r6.2.2.2.2.2.2.1,r4)))))))),h2))))
 else
  some (.inr (h,(h1,h2)))
def tcop_l0_it(fu:Nat)(r:List (qT1))(tt:(Int×qT45)):Option (qT45):=
 iter fu (fun tt=>tcop_l0 fu r tt.1 tt.2.1 tt.2.2.1 tt.2.2.2) tt
def tcop(fu:Nat)(t:(List (qT1)×Int)):Option ((Int×List (qT1))):=
 (sClo fu t.1).bind fun r=>
 (tcop_l0_it fu r (0,(t.2,(r,0)))).bind fun o=>
 some (o.1,o.2.1)
def tcop_fa:FnA:=⟨.two (.reg [(0,{ids:=[100]}),(1,{ids:=[101]})]) (.two (.reg [(2,{ids:=[102]})]) (.two (.two lf (.one (.loop ⟨[1,2,12],⟨(.cons (.own 0 100 0 0) (.cons (.own 0 101 0 0) qL4)),[(100,false,qB50),(102,false,(.rows 49 qY0)),(101,false,qB32)]⟩⟩ false [(0,⟨[1,2],⟨(.cons (.own 0 100 0 0) (.cons (.own 0 101 0 0) .nil)),[(100,false,qB50),(102,false,(.rows 49 qY0)),(101,false,qB32)]⟩⟩)] (.two lf (.two lf (.two (.one (.two lf (.two lf (.reg [(6,{ids:=[103],fn:=1}),(11,{ids:=[104],fn:=2})])))) lf)))))) lf)),⟨(.cons (.p qY33) .nil),[]⟩,[⟨(.cons (.agg (.cons (.slf 8 0) qL4)) .nil),[(0,false,(.rows 49 qY0))]⟩],[0]⟩
def tcop_ft(fu:Nat):FnT:=⟨75,tcop_fa.i,tcop_fa.os,fun t=>tcop fu t⟩
theorem fuZ(fu:Nat):Told Tryz.prog (tcop_ft fu):=tk fu tcop_fa (aaZ (ctZ fu) (aaZ (dmZ fu) (aaZ (crZ fu) acZ))) Tryz.func75 (by kernel_rfl) fun t=>by kernel_rfl
def icopE_l0(fu:Nat)(r:List (qT1))(x:Int)(h:Int)(h1:List qT5)(h2:Int)(h3:List qT19):Option ((Int×(Int×(List qT5×(Int×List qT19))))⊕((Int×(List qT5×(Int×List qT19))))):=
 bif (decide (x<((r.length:Nat):Int))) then
  (idx? x h1.length).bind fun q=>
  (h1)[q]?.bind fun r1=>
  (lowD (.ref 1 (.pair .str (.int .i64))) r1.2.2.2.2.2.2.2).bind fun x1=>
  (inode_own fu (r1.1,(r1.2.1,(r1.2.2.1,(r1.2.2.2.1,(r1.2.2.2.2.1,(r1.2.2.2.2.2.1,(r1.2.2.2.2.2.2.1,x1)))))))).bind fun r2=>
  (idx? x h1.length).bind fun q1=>
  (h1)[q1]?.bind fun r3=>
  some (.inl ((IntKind.wrap .i64 (x+1)),(h,((List.set h1 q1 (r2.1,(r2.2.1,(r2.2.2.1,(r2.2.2.2.1,(r2.2.2.2.2.1,(r2.2.2.2.2.2.2.1,(r2.2.2.2.2.2.1,(.inr (some (h3.length,(0,r2.2.2.2.2.2.2.2.length)))))))))))),(h2,(h3++[(1,r2.2.2.2.2.2.2.2)]))))))
 else
  some (.inr (h,(h1,(h2,h3))))
def icopE_l0_it(fu:Nat)(r:List (qT1))(tt:(Int×(Int×(List qT5×(Int×List qT19))))):Option ((Int×(List qT5×(Int×List qT19)))):=
 iter fu (fun tt=>icopE_l0 fu r tt.1 tt.2.1 tt.2.2.1 tt.2.2.2.1 tt.2.2.2.2) tt
def icopE(fu:Nat)(t:(List (qT1)×Int)):Option ((Int×(List qT5×List qT19))):=
 (sClo fu t.1).bind fun r=>
 (icopE_l0_it fu r (0,(t.2,((List.map (liftT qY3) r),(0,[]))))).bind fun o=>
 some (o.1,(o.2.1,o.2.2.2))
def icopE_fa:FnA:=⟨.two (.reg [(0,{ids:=[100]}),(1,{ids:=[101]})]) (.two (.reg [(2,{ids:=[102]})]) (.two (.two lf (.one (.pre (.newFam 1 79 (.pair .str (.int .i64))) (.pre (.toRef 102 qY3) (.loop ⟨[1,2,10,12],⟨(.cons (.own 0 100 0 0) (.cons (.own 0 101 0 0) (.cons (.slf 8 102) qL4))),[(100,false,qB50),(102,false,(.rows 49 qY3)),(101,false,qB32),(999985,false,qB27)]⟩⟩ false [(0,⟨[1,2],⟨(.cons (.own 0 100 0 0) (.cons (.own 0 101 0 0) .nil)),[(100,false,qB50),(102,false,(.rows 49 qY3)),(101,false,qB32),(999985,false,qB27)]⟩⟩)] (.two lf (.two lf (.two (.one (.two (.reg [(3,{ids:=[103]})]) (.reg [(4,{ids:=[104,105],md:=[3],fn:=1}),(6,{sh:=[105,999985]})]))) lf)))))))) lf)),⟨(.cons (.p qY33) .nil),[]⟩,[⟨(.cons (.agg (.cons (.slf 8 0) qL4)) .nil),[(0,false,(.rows 49 qY3)),(999985,false,qB27)]⟩],[0]⟩
def icopE_ft(fu:Nat):FnT:=⟨94,icopE_fa.i,icopE_fa.os,fun t=>icopE fu t⟩
theorem l1Z(fu:Nat):Told Tryz.prog (icopE_ft fu):=tk fu icopE_fa (aaZ (ctZ fu) (aaZ (b1Z fu) acZ)) Tryz.func94 (by kernel_rfl) fun t=>by kernel_rfl
def inode_is(fu:Nat)(t:(List (qT1)×Int))(id:Int)(dir:Bool):Option (Bool):=
 bif (decide (id>=1)) then
  bif (decide (id<=((t.1.length:Nat):Int))) then
   (idx? (IntKind.wrap .i64 (id-1)) t.1.length).bind fun q=>
   (t.1)[q]?.bind fun r=>
   bif r.2.2.1 then
    (idx? (IntKind.wrap .i64 (id-1)) t.1.length).bind fun q1=>
    (t.1)[q1]?.bind fun r1=>
    some (r1.2.2.2.1==dir)
   else
    some false
  else
   some false
 else
  some false
def inode_is_fa:FnA:=⟨.two (.reg [(0,{ids:=[100]})]) lf,⟨(.cons (.p qY33) (.cons (.p (.int .i64)) (.cons (.p .bool) .nil))),[]⟩,[⟨(.cons (.p .bool) .nil),[]⟩],[0]⟩
def inode_is_ft(fu:Nat):FnT:=⟨95,inode_is_fa.i,inode_is_fa.os,u3 (inode_is fu)⟩
theorem c7Z(fu:Nat):Told Tryz.prog (inode_is_ft fu):=tk fu inode_is_fa acZ Tryz.func95 (by kernel_rfl) fun t=>by kernel_rfl
def iAll1(fu:Nat)(n:qT1):Option (Bool):=
 some (!n.2.2.1)
def iAll1_fa:FnA:=⟨.two (.reg [(0,{ids:=[100]})]) lf,⟨(.cons (.p qY0) .nil),[]⟩,[⟨(.cons (.p .bool) .nil),[]⟩],[0]⟩
def iAll1_ft(fu:Nat):FnT:=⟨96,iAll1_fa.i,iAll1_fa.os,fun t=>iAll1 fu t⟩
theorem lgZ(fu:Nat):Told Tryz.prog (iAll1_ft fu):=tk fu iAll1_fa acZ Tryz.func96 (by kernel_rfl) fun t=>by kernel_rfl
def sIndFun2_l0(fu:Nat)(s:List (qT1))(x:Int):Option (Int⊕(Unit⊕Int)):=
 bif (decide (x<((s.length:Nat):Int))) then
  (idx? x s.length).bind fun q=>
  (s)[q]?.bind fun r=>
  (iAll1 fu r).bind fun r1=>
  bif r1 then
   some (.inr (.inr x))
  else
   some (.inl (IntKind.wrap .i64 (x+1)))
 else
  some (.inr (.inl ()))
def sIndFun2_l0_it(fu:Nat)(s:List (qT1))(tt:Int):Option (Unit⊕Int):=
 iter fu (fun tt=>sIndFun2_l0 fu s tt) tt
def sIndFun2(fu:Nat)(s:List (qT1)):Option (Int):=
 (sIndFun2_l0_it fu s 0).bind fun o=>
 match o with
 |.inl s1=>
  some (-1)
 |.inr o1=>
  some o1
def sIndFun2_fa:FnA:=⟨.two lf (.two (.two lf (.one (.loop ⟨[8],⟨qL4,[]⟩⟩ true [(0,⟨[],⟨.nil,[]⟩⟩)] (.two lf (.two lf (.two (.one (.two lf (.two (.reg [(5,{})]) (.two lf lf)))) lf)))))) lf),⟨(.cons (.p (.sl qY0)) (.cons (.fn 96 .nil .nil) .nil)),[]⟩,[⟨qL4,[]⟩],[0]⟩
def sIndFun2_ft(fu:Nat):FnT:=⟨97,sIndFun2_fa.i,sIndFun2_fa.os,fun t=>sIndFun2 fu t⟩
theorem h6Z(fu:Nat):Told Tryz.prog (sIndFun2_ft fu):=tk fu sIndFun2_fa (aaZ (lgZ fu) acZ) Tryz.func97 (by kernel_rfl) fun t=>by kernel_rfl
def iAllE(fu:Nat)(t:(List (qT1)×Int))(dir:Bool)(parent:Int):Option ((Int×(Int×(Int×(Int×(List qT5×List qT19)))))):=
 (icopE fu (t.1,t.2)).bind fun r=>
 (iRig fu (t.1,t.2)).bind fun r1=>
 bif (!r1) then
  some (r.1,(0,(0,(180,(r.2.1,r.2.2)))))
 else
  (inode_is fu (t.1,t.2) parent true).bind fun r2=>
  bif (!r2) then
   some (r.1,(0,(0,(2,(r.2.1,r.2.2)))))
  else
   (unrefL (unrefD [⟨1,(.pair .str (.int .i64)),(List.map frz1 r.2.2)⟩] qY3) r.2.1).bind fun l=>
   (sIndFun2 fu l).bind fun r3=>
   Option.bind (α:=((Bool×(Int×(Int×(Int×(Int×(List qT5×List qT19)))))))) (
    bif (decide (r3<0)) then
     some ((decide (((r.2.1.length:Nat):Int)>=500)),(0,(0,(0,(r.1,(r.2.1,r.2.2))))))
    else
     some (false,(0,(0,(0,(r.1,(r.2.1,r.2.2))))))) fun o=>
   bif o.1 then
    some (o.2.2.2.2.1,(0,(0,(5,(o.2.2.2.2.2.1,o.2.2.2.2.2.2)))))
   else
    Option.bind (α:=((Int×(Int×(Int×(Int×(Int×(List qT5×List qT19))))))⊕(Int×(Int×(Int×(Int×(List qT5×List qT19))))))) (
     bif (decide (r3<0)) then
      need ((Nat.ble ((o.2.2.2.2.2.1.length+1)*88) room)&&(Nat.ble (o.2.2.2.2.2.1.length+1) room))<|
      some (.inl (((o.2.2.2.2.2.1.length:Nat):Int),(o.2.1,(o.2.2.1,(o.2.2.2.1,(o.2.2.2.2.1,((o.2.2.2.2.2.1++(List.map (liftT qY3) ([((IntKind.wrap .i64 (((o.2.2.2.2.2.1.length:Nat):Int)+1)),(0,(false,(false,(0,([],(0,[])))))))]:List (qT1)))),o.2.2.2.2.2.2)))))))
     else
      (idx? r3 o.2.2.2.2.2.1.length).bind fun q=>
      (o.2.2.2.2.2.1)[q]?.bind fun r4=>
      bif (decide (r4.2.1>=1099511627776)) then
       some (.inr (o.2.2.2.2.1,(0,(0,(5,(o.2.2.2.2.2.1,o.2.2.2.2.2.2))))))
      else
       some (.inl (r3,(o.2.1,(o.2.2.1,(o.2.2.2.1,(o.2.2.2.2.1,(o.2.2.2.2.2.1,o.2.2.2.2.2.2)))))))) fun o1=>
    match o1 with
    |.inl s=>
     (idx? s.1 s.2.2.2.2.2.1.length).bind fun q1=>
     (s.2.2.2.2.2.1)[q1]?.bind fun r5=>
     (s.2.2.2.2.2.1)[q1]?.bind fun r6=>
     ((List.set s.2.2.2.2.2.1 q1 (r6.1,((IntKind.wrap .i64 (r5.2.1+1)),r6.2.2))))[q1]?.bind fun r7=>
     ((List.set (List.set s.2.2.2.2.2.1 q1 (r6.1,((IntKind.wrap .i64 (r5.2.1+1)),r6.2.2))) q1 (r7.1,(r7.2.1,(true,r7.2.2.2)))))[q1]?.bind fun r8=>
     ((List.set (List.set (List.set s.2.2.2.2.2.1 q1 (r6.1,((IntKind.wrap .i64 (r5.2.1+1)),r6.2.2))) q1 (r7.1,(r7.2.1,(true,r7.2.2.2)))) q1 (r8.1,(r8.2.1,(r8.2.2.1,(dir,r8.2.2.2.2))))))[q1]?.bind fun r9=>
     ((List.set (List.set (List.set (List.set s.2.2.2.2.2.1 q1 (r6.1,((IntKind.wrap .i64 (r5.2.1+1)),r6.2.2))) q1 (r7.1,(r7.2.1,(true,r7.2.2.2)))) q1 (r8.1,(r8.2.1,(r8.2.2.1,(dir,r8.2.2.2.2))))) q1 (r9.1,(r9.2.1,(r9.2.2.1,(r9.2.2.2.1,(r9.2.2.2.2.1,(r9.2.2.2.2.2.1,(parent,r9.2.2.2.2.2.2.2)))))))))[q1]?.bind fun r10=>
     ((List.set (List.set (List.set (List.set s.2.2.2.2.2.1 q1 (r6.1,((IntKind.wrap .i64 (r5.2.1+1)),r6.2.2))) q1 (r7.1,(r7.2.1,(true,r7.2.2.2)))) q1 (r8.1,(r8.2.1,(r8.2.2.1,(dir,r8.2.2.2.2))))) q1 (r9.1,(r9.2.1,(r9.2.2.1,(r9.2.2.2.1,(r9.2.2.2.2.1,(r9.2.2.2.2.2.1,(parent,r9.2.2.2.2.2.2.2)))))))))[q1]?.bind fun r11=>
     some (s.2.2.2.2.1,(r10.1,(r11.2.1,(0,((List.set (List.set (List.set (List.set s.2.2.2.2.2.1 q1 (r6.1,((IntKind.wrap .i64 (r5.2.1+1)),r6.2.2))) q1 (r7.1,(r7.2.1,(true,r7.2.2.2)))) q1 (r8.1,(r8.2.1,(r8.2.2.1,(dir,r8.2.2.2.2))))) q1 (r9.1,(r9.2.1,(r9.2.2.1,(r9.2.2.2.1,(r9.2.2.2.2.1,(r9.2.2.2.2.2.1,(parent,r9.2.2.2.2.2.2.2)))))))),s.2.2.2.2.2.2)))))
    |.inr o2=>
     some o2
def iAllE_fa:FnA:=⟨.two (.reg [(0,{ids:=[100]}),(1,{ids:=[101]}),(2,{ids:=[102]})]) (.two (.reg [(1,{ids:=[103,999985]}),(2,{ids:=[104]})]) (.two (.one (.two (.reg [(1,{fn:=1})]) (.two lf (.two (.reg [(2,{fn:=2})]) (.two lf lf))))) (.two lf (.two (.reg [(3,{md:=[2,0],fn:=3})]) (.two (.one (.two (.join ⟨[6,7,9,32],⟨(.cons (.own 0 101 0 0) (.cons (.own 0 102 0 0) (.cons (.own 0 104 0 0) (.cons (.p .bool) .nil)))),[(101,false,qB32),(102,false,(.vars qL41)),(104,false,(.vars (.cons (.slf 8 103) qL4))),(103,false,(.rows 49 qY3)),(999985,false,qB27)]⟩⟩ false [] lf) (.two lf (.two lf (.join ⟨[6,7,9,11],⟨(.cons (.own 0 101 0 0) (.cons (.own 0 102 0 0) (.cons (.own 0 104 0 0) qL4))),[(101,false,qB32),(102,false,(.vars qL41)),(104,false,(.vars (.cons (.slf 8 106) qL4))),(106,false,(.rows 49 qY3)),(999985,false,qB27)]⟩⟩ true [] (.two (.two lf (.reg [(5,{ids:=[105]}),(6,{ids:=[106]})])) (.two lf (.two lf lf)))))))) (.two lf (.two lf lf))))))),⟨(.cons (.p qY33) (.cons (.p .bool) qL4)),[]⟩,[⟨(.cons (.agg (.cons (.slf 8 0) qL4)) (.cons (.agg qL41) qL4)),[(0,false,(.rows 49 qY3)),(999985,false,qB27)]⟩],[0,0,0]⟩
def iAllE_ft(fu:Nat):FnT:=⟨76,iAllE_fa.i,iAllE_fa.os,u3 (iAllE fu)⟩
theorem lsZ(fu:Nat):Told Tryz.prog (iAllE_ft fu):=tk fu iAllE_fa (aaZ (l1Z fu) (aaZ (emZ fu) (aaZ (c7Z fu) (aaZ (h6Z fu) acZ)))) Tryz.func76 (by kernel_rfl) fun t=>by kernel_rfl
def sIns(fu:Nat)(i:Int)(l v:List ((List UInt8×Int))):Option (List ((List UInt8×Int))×List ((List UInt8×Int))):=
 (upto? i l.length).bind fun q=>need (Nat.blt 0 v.length&&Nat.ble ((l.length+v.length)*24) room&&Nat.ble (l.length+v.length) room) (some (v,l.take q++v++l.drop q))
def sIns_ft(fu:Nat):FnT:=⟨98,⟨(.cons (.slf 2 0) (.cons (.p (.int .i64)) (.cons (.slf 2 1) .nil))),[(0,false,qB42),(1,false,qB42)]⟩,[⟨(.cons (.slf 2 2) .nil),[(1,false,qB42),(2,false,qB42)]⟩],u3 (sIns fu)⟩
theorem hZZ(fu:Nat):Told Tryz.prog (sIns_ft fu):=
 kdZ (u:=(.pair .str (.int .i64))) Tryz.ins98 (by decide) (by intro h;cases h) Tryz.sizeOf79 Tryz.isAgg79 (by kernel_rfl) ⟨_,_,Tryz.func98,rfl,by kernel_rfl⟩
def tput(fu:Nat)(dir:Int)(name:List UInt8)(id:Int)(h:Int)(h1:List qT5)(h2:List qT19):Option ((Int×(List qT5×List qT19))):=
 (idx? (IntKind.wrap .i64 (dir-1)) h1.length).bind fun q=>
 (h1)[q]?.bind fun r=>
 (unrefD [⟨1,(.pair .str (.int .i64)),(List.map frz1 h2)⟩] qY3 r).bind fun x=>
 (tent fu x name).bind fun r1=>
 (h1)[q]?.bind fun r2=>
 (openM h2 r2.2.2.2.2.2.2.2).bind fun m=>
 (sIns fu r1.1 m.1 [(name,id)]).bind fun r3=>
 (h1)[q]?.bind fun r4=>
 some (h,((List.set h1 q (r4.1,(r4.2.1,(r4.2.2.1,(r4.2.2.2.1,(r4.2.2.2.2.1,(r4.2.2.2.2.2.1,(r4.2.2.2.2.2.2.1,(.inr (some (m.2.length,(0,r3.2.length)))))))))))),(m.2++[(1,r3.2)])))
def tput_fa:FnA:=⟨.two lf (.two (.reg [(4,{md:=[2,0]})]) (.reg [(9,{ids:=[100]}),(10,{ids:=[101],sh:=[605089,100],md:=[505089,0,0],fn:=1}),(13,{sh:=[101,999985]})])),⟨(.cons (.own 0 0 0 0) (.cons (.p (.int .i64)) (.cons (.p .str) qL4))),[(0,false,(.vars (.cons (.slf 8 1) qL4))),(1,false,(.rows 49 qY3)),(999985,false,qB27)]⟩,[⟨.nil,[(0,false,(.vars (.cons (.slf 8 1) qL4))),(1,false,(.rows 49 qY3)),(999985,false,qB27)]⟩],[]⟩
def tput_ft(fu:Nat):FnT:=⟨77,tput_fa.i,tput_fa.os,u6 (tput fu)⟩
theorem hTZ(fu:Nat):Told Tryz.prog (tput_ft fu):=tk fu tput_fa (aaZ (bRZ fu) (aaZ (hZZ fu) acZ)) Tryz.func77 (by kernel_rfl) fun t=>by kernel_rfl
def tree_Make(fu:Nat)(t:(List (qT1)×Int))(dir:(Int×Int))(name:List UInt8)(is_:Bool):Option ((List (qT1)×(Int×(Int×(Int×Int))))):=
 (task fu (t.1,t.2) [(dir.1,dir.2)]).bind fun r=>
 bif (!(r.1==0)) then
  (tcop fu (t.1,t.2)).bind fun r1=>
  some (r1.2,(r1.1,(0,(0,r.1))))
 else
  (idx? 0 r.2.length).bind fun q=>
  (r.2)[q]?.bind fun r2=>
  (tent fu r2 name).bind fun r3=>
  (tNam fu name).bind fun r4=>
  bif (!r4) then
   (tcop fu (t.1,t.2)).bind fun r5=>
   some (r5.2,(r5.1,(0,(0,176))))
  else
   bif r3.2 then
    (tcop fu (t.1,t.2)).bind fun r6=>
    some (r6.2,(r6.1,(0,(0,172))))
   else
    (idx? 0 r.2.length).bind fun q1=>
    (r.2)[q1]?.bind fun r7=>
    bif (decide (((r7.2.2.2.2.2.2.2.length:Nat):Int)>=100)) then
     (tcop fu (t.1,t.2)).bind fun r8=>
     some (r8.2,(r8.1,(0,(0,5))))
    else
     (iAllE fu (t.1,t.2) is_ dir.1).bind fun r9=>
     bif (!(r9.2.2.2.1==0)) then
      (unrefL (unrefD [⟨1,(.pair .str (.int .i64)),(List.map frz1 r9.2.2.2.2.2)⟩] qY3) r9.2.2.2.2.1).bind fun l2=>
      some (l2,(r9.1,(0,(0,r9.2.2.2.1))))
     else
      (tput fu dir.1 name r9.2.1 r9.1 r9.2.2.2.2.1 r9.2.2.2.2.2).bind fun r10=>
      (unrefL (unrefD [⟨1,(.pair .str (.int .i64)),(List.map frz1 r10.2.2)⟩] qY3) r10.2.1).bind fun l3=>
      some (l3,(r10.1,(r9.2.1,(r9.2.2.1,0))))
def tree_Make_fa:FnA:=⟨.two (.reg [(0,{ids:=[100]}),(1,{ids:=[101]}),(2,{ids:=[102]}),(3,{ids:=[103]})]) (.two (.reg [(2,{ids:=[104]}),(3,{ids:=[105],md:=[0,1]})]) (.two (.two lf (.two (.two (.reg [(1,{ids:=[106],fn:=1})]) lf) lf)) (.two (.reg [(4,{fn:=2})]) (.two (.one (.two (.reg [(1,{fn:=3})]) (.two (.two (.reg [(1,{ids:=[107],fn:=1})]) lf) (.two lf (.two (.two (.reg [(1,{ids:=[108],fn:=1})]) lf) (.two lf (.two (.two (.reg [(1,{ids:=[109],fn:=1})]) lf) lf))))))) (.two (.reg [(4,{ids:=[110,999985],fn:=4}),(9,{ids:=[111]}),(10,{ids:=[112]})]) (.two (.two lf (.two lf lf)) (.two (.reg [(5,{sh:=[111,110,999985],fn:=5})]) lf))))))),⟨(.cons (.p qY33) (.cons (.p qY6) (.cons (.p .str) (.cons (.p .bool) .nil)))),[]⟩,[⟨(.cons (.agg (.cons (.p (.sl qY0)) qL4)) (.cons (.agg qL41) qL4)),[]⟩],[1,0,0]⟩
def tree_Make_ft(fu:Nat):FnT:=⟨49,tree_Make_fa.i,tree_Make_fa.os,u4 (tree_Make fu)⟩
theorem gmZ(fu:Nat):Told Tryz.prog (tree_Make_ft fu):=tk fu tree_Make_fa (aaZ (cKZ fu) (aaZ (fuZ fu) (aaZ (bRZ fu) (aaZ (cRZ fu) (aaZ (lsZ fu) (aaZ (hTZ fu) acZ)))))) Tryz.func49 (by kernel_rfl) fun t=>by kernel_rfl
def mdoemak(fu:Nat)(h:List (qT1))(h1:Int)(h2:List (List (UInt8)))(h3:Int)(h4:Int)(h5:Int)(h6:Int)(h7:Int)(h8:List UInt8)(h9:Int)(h10:Int)(h11:List UInt8)(h12:Int)(h13:Int)(h14:List (UInt8))(h15:Int)(h16:Int)(h17:Int)(h18:Int)(h19:Int)(h20:Bool)(h21:Int)(h22:Bool)(h23:Int):Option ((Int×qT9)):=
 (tree_Make fu (h,h1) (h6,h7) h8 (h5==3)).bind fun r=>
 bif (r.2.2.2.2==0) then
  some (r.2.2.2.2,(r.1,(r.2.1,(h2,(h3,(h4,(h5,(h6,(h7,(h8,(h9,(h10,(h11,(h12,(h13,(h14,(h15,(h16,(h17,(r.2.2.1,(r.2.2.2.1,((h5==3),(h21,(h22,h23))))))))))))))))))))))))
 else
  some (r.2.2.2.2,(h,(h1,(h2,(h3,(h4,(h5,(h6,(h7,(h8,(h9,(h10,(h11,(h12,(h13,(h14,(h15,(h16,(h17,(h18,(h19,(h20,(h21,(h22,h23))))))))))))))))))))))))
def mdoemak_fa:FnA:=⟨.two lf (.two (.reg [(20,{}),(25,{ids:=[100]}),(26,{ids:=[101]})]) (.two (.two lf lf) lf)),⟨qL39,[(0,false,qB2)]⟩,[⟨qL4,[(0,false,qB2)]⟩],[0]⟩
def mdoemak_ft(fu:Nat):FnT:=⟨26,mdoemak_fa.i,mdoemak_fa.os,u24 (mdoemak fu)⟩
theorem izZ(fu:Nat):Told Tryz.prog (mdoemak_ft fu):=tk fu mdoemak_fa (aaZ (gmZ fu) acZ) Tryz.func26 (by kernel_rfl) fun t=>by kernel_rfl
def mdoefil(fu:Nat)(h:List (qT1))(h1:Int)(h2:List (List (UInt8)))(h3:Int)(h4:Int)(h5:Int)(h6:Int)(h7:Int)(h8:List UInt8)(h9:Int)(h10:Int)(h11:List UInt8)(h12:Int)(h13:Int)(h14:List (UInt8))(h15:Int)(h16:Int)(h17:Int)(h18:Int)(h19:Int)(h20:Bool)(h21:Int)(h22:Bool)(h23:Int):Option ((Int×(List (UInt8)×(Int×qT9)))):=
 (inode_Get fu (h,h1) (h6,h7)).bind fun r=>
 bif (!(r.2.2.2.2.2.2.2.2==0)) then
  some (0,([],(r.2.2.2.2.2.2.2.2,(h,(h1,(h2,(h3,(h4,(h5,(h6,(h7,(h8,(h9,(h10,(h11,(h12,(h13,(h14,(h15,(h16,(h17,(h18,(h19,(h20,(h21,(h22,h23))))))))))))))))))))))))))
 else
  bif r.2.2.2.1 then
   some (0,([],(174,(h,(h1,(h2,(h3,(h4,(h5,(h6,(h7,(h8,(h9,(h10,(h11,(h12,(h13,(h14,(h15,(h16,(h17,(h18,(h19,(h20,(h21,(h22,h23))))))))))))))))))))))))))
  else
   (idx? (IntKind.wrap .i64 (r.1-1)) h2.length).bind fun q=>
   (h2)[q]?.bind fun r1=>
   some (r.1,(r1,(0,(h,(h1,(h2,(h3,(h4,(h5,(h6,(h7,(h8,(h9,(h10,(h11,(h12,(h13,(h14,(h15,(h16,(h17,(h18,(h19,(h20,(h21,(h22,h23))))))))))))))))))))))))))
def mdoefil_fa:FnA:=⟨.two lf (.two (.reg [(9,{}),(13,{ids:=[100]})]) (.two (.one (.two lf (.two lf (.two lf (.two lf lf))))) lf)),⟨qL39,[(0,false,qB2)]⟩,[⟨(.cons (.p (.int .i64)) (.cons (.p (.sl .byte)) qL4)),[(0,false,qB2)]⟩],[0,0,0]⟩
def mdoefil_ft(fu:Nat):FnT:=⟨50,mdoefil_fa.i,mdoefil_fa.os,u24 (mdoefil fu)⟩
theorem cSZ(fu:Nat):Told Tryz.prog (mdoefil_ft fu):=tk fu mdoefil_fa (aaZ (coZ fu) acZ) Tryz.func50 (by kernel_rfl) fun t=>by kernel_rfl
def sClo4(fu:Nat)(s:List (UInt8)):Option (List (UInt8)):=
 nilQ s.length fun isNil=>
 bif isNil then
  some []
 else
  need ((Nat.ble ((0+s.length)*1) room)&&(Nat.ble (0+s.length) room))<|
  some s
def sClo4_fa:FnA:=⟨.two lf (.two (.two lf (.two lf lf)) (.two (.reg [(0,{ids:=[100]}),(2,{ids:=[101]})]) lf)),⟨(.cons (.p (.sl .byte)) .nil),[]⟩,[⟨(.cons (.slf 1 0) .nil),[(0,false,(.rows 5 .byte))]⟩],[15]⟩
def sClo4_ft(fu:Nat):FnT:=⟨36,sClo4_fa.i,sClo4_fa.os,fun t=>sClo4 fu t⟩
theorem eAZ(fu:Nat):Told Tryz.prog (sClo4_ft fu):=tk fu sClo4_fa acZ Tryz.func36 (by kernel_rfl) fun t=>by kernel_rfl
def mdoerea(fu:Nat)(h:List (qT1))(h1:Int)(h2:List (List (UInt8)))(h3:Int)(h4:Int)(h5:Int)(h6:Int)(h7:Int)(h8:List UInt8)(h9:Int)(h10:Int)(h11:List UInt8)(h12:Int)(h13:Int)(h14:List (UInt8))(h15:Int)(h16:Int)(h17:Int)(h18:Int)(h19:Int)(h20:Bool)(h21:Int)(h22:Bool)(h23:Int):Option ((Int×(List (qT1)×(Int×(List (List (UInt8))×(Int×(Int×(Int×(Int×(Int×(List UInt8×(Int×(Int×(List UInt8×(Int×(Int×(List (UInt8)×(Int×(Int×(Int×(Int×(Int×(Bool×(Int×(List (UInt8)×(Bool×Int)))))))))))))))))))))))))):=
 (mdoefil fu h h1 h2 h3 h4 h5 h6 h7 h8 h9 h10 h11 h12 h13 h14 h15 h16 h17 h18 h19 h20 h21 h22 h23).bind fun r=>
 bif (!(r.2.2.1==0)) then
  some (r.2.2.1,(r.2.2.2.1,(r.2.2.2.2.1,(r.2.2.2.2.2.1,(r.2.2.2.2.2.2.1,(r.2.2.2.2.2.2.2.1,(r.2.2.2.2.2.2.2.2.1,(r.2.2.2.2.2.2.2.2.2.1,(r.2.2.2.2.2.2.2.2.2.2.1,(r.2.2.2.2.2.2.2.2.2.2.2.1,(r.2.2.2.2.2.2.2.2.2.2.2.2.1,(r.2.2.2.2.2.2.2.2.2.2.2.2.2.1,(r.2.2.2.2.2.2.2.2.2.2.2.2.2.2.1,(r.2.2.2.2.2.2.2.2.2.2.2.2.2.2.2.1,(r.2.2.2.2.2.2.2.2.2.2.2.2.2.2.2.2.1,(r.2.2.2.2.2.2.2.2.2.2.2.2.2.2.2.2.2.1,(r.2.2.2.2.2.2.2.2.2.2.2.2.2.2.2.2.2.2.1,(r.2.2.2.2.2.2.2.2.2.2.2.2.2.2.2.2.2.2.2.1,(r.2.2.2.2.2.2.2.2.2.2.2.2.2.2.2.2.2.2.2.2.1,(r.2.2.2.2.2.2.2.2.2.2.2.2.2.2.2.2.2.2.2.2.2.1,(r.2.2.2.2.2.2.2.2.2.2.2.2.2.2.2.2.2.2.2.2.2.2.1,(r.2.2.2.2.2.2.2.2.2.2.2.2.2.2.2.2.2.2.2.2.2.2.2.1,(r.2.2.2.2.2.2.2.2.2.2.2.2.2.2.2.2.2.2.2.2.2.2.2.2.1,([],(r.2.2.2.2.2.2.2.2.2.2.2.2.2.2.2.2.2.2.2.2.2.2.2.2.2.1,r.2.2.2.2.2.2.2.2.2.2.2.2.2.2.2.2.2.2.2.2.2.2.2.2.2.2)))))))))))))))))))))))))
 else
  (upto? (if(if((r.2.1.length:Nat):Int)<(IntKind.wrap .i64 (r.2.2.2.2.2.2.2.2.2.2.2.2.2.2.2.1+r.2.2.2.2.2.2.2.2.2.2.2.2.2.2.2.2.1)) then((r.2.1.length:Nat):Int) else(IntKind.wrap .i64 (r.2.2.2.2.2.2.2.2.2.2.2.2.2.2.2.1+r.2.2.2.2.2.2.2.2.2.2.2.2.2.2.2.2.1)))>(if((r.2.1.length:Nat):Int)<r.2.2.2.2.2.2.2.2.2.2.2.2.2.2.2.1 then((r.2.1.length:Nat):Int) else r.2.2.2.2.2.2.2.2.2.2.2.2.2.2.2.1) then(if((r.2.1.length:Nat):Int)<(IntKind.wrap .i64 (r.2.2.2.2.2.2.2.2.2.2.2.2.2.2.2.1+r.2.2.2.2.2.2.2.2.2.2.2.2.2.2.2.2.1)) then((r.2.1.length:Nat):Int) else(IntKind.wrap .i64 (r.2.2.2.2.2.2.2.2.2.2.2.2.2.2.2.1+r.2.2.2.2.2.2.2.2.2.2.2.2.2.2.2.2.1))) else(if((r.2.1.length:Nat):Int)<r.2.2.2.2.2.2.2.2.2.2.2.2.2.2.2.1 then((r.2.1.length:Nat):Int) else r.2.2.2.2.2.2.2.2.2.2.2.2.2.2.2.1)) r.2.1.length).bind fun q=>
  (upto? (if((r.2.1.length:Nat):Int)<r.2.2.2.2.2.2.2.2.2.2.2.2.2.2.2.1 then((r.2.1.length:Nat):Int) else r.2.2.2.2.2.2.2.2.2.2.2.2.2.2.2.1) q).bind fun q1=>
  (sClo4 fu (List.drop q1 (List.take q r.2.1))).bind fun r1=>
  some (0,(r.2.2.2.1,(r.2.2.2.2.1,(r.2.2.2.2.2.1,(r.2.2.2.2.2.2.1,(r.2.2.2.2.2.2.2.1,(r.2.2.2.2.2.2.2.2.1,(r.2.2.2.2.2.2.2.2.2.1,(r.2.2.2.2.2.2.2.2.2.2.1,(r.2.2.2.2.2.2.2.2.2.2.2.1,(r.2.2.2.2.2.2.2.2.2.2.2.2.1,(r.2.2.2.2.2.2.2.2.2.2.2.2.2.1,(r.2.2.2.2.2.2.2.2.2.2.2.2.2.2.1,(r.2.2.2.2.2.2.2.2.2.2.2.2.2.2.2.1,(r.2.2.2.2.2.2.2.2.2.2.2.2.2.2.2.2.1,(r.2.2.2.2.2.2.2.2.2.2.2.2.2.2.2.2.2.1,(r.2.2.2.2.2.2.2.2.2.2.2.2.2.2.2.2.2.2.1,(r.2.2.2.2.2.2.2.2.2.2.2.2.2.2.2.2.2.2.2.1,(r.2.2.2.2.2.2.2.2.2.2.2.2.2.2.2.2.2.2.2.2.1,(r.2.2.2.2.2.2.2.2.2.2.2.2.2.2.2.2.2.2.2.2.2.1,(r.2.2.2.2.2.2.2.2.2.2.2.2.2.2.2.2.2.2.2.2.2.2.1,(r.2.2.2.2.2.2.2.2.2.2.2.2.2.2.2.2.2.2.2.2.2.2.2.1,(((r.2.1.length:Nat):Int),(r1,((decide ((IntKind.wrap .i64 (r.2.2.2.2.2.2.2.2.2.2.2.2.2.2.2.1+r.2.2.2.2.2.2.2.2.2.2.2.2.2.2.2.2.1))<((r.2.1.length:Nat):Int))),r.2.2.2.2.2.2.2.2.2.2.2.2.2.2.2.2.2.2.2.2.2.2.2.2.2.2)))))))))))))))))))))))))
def mdoerea_fa:FnA:=⟨.two lf (.two (.reg [(1,{sh:=[0]})]) (.two (.two lf (.two lf lf)) (.two lf (.two lf (.two (.reg [(9,{ids:=[100],fn:=1})]) (.two lf (.pre (.pureCell 0 22) lf))))))),⟨qL39,[(0,false,qB2)]⟩,[⟨qL4,[(0,false,(.vars (.cons (.p (.sl qY0)) (.cons (.p (.int .i64)) (.cons (.p (.sl (.sl .byte))) (.cons (.p (.int .i64)) (.cons (.p (.int .i64)) (.cons (.p (.int .u8)) (.cons (.p (.int .i64)) (.cons (.p (.int .i64)) (.cons (.p .str) (.cons (.p (.int .i64)) (.cons (.p (.int .i64)) (.cons (.p .str) (.cons (.p (.int .i64)) (.cons (.p (.int .i64)) (.cons (.p (.sl .byte)) (.cons (.p (.int .i64)) (.cons (.p (.int .i64)) (.cons (.p (.int .i64)) (.cons (.p (.int .i64)) (.cons (.p (.int .i64)) (.cons (.p .bool) (.cons (.p (.int .i64)) (.cons (.p (.sl .byte)) (.cons (.nilp (.slice none 0 0)) (.cons (.p .bool) qL4)))))))))))))))))))))))))))]⟩],[0]⟩
def mdoerea_ft(fu:Nat):FnT:=⟨27,mdoerea_fa.i,mdoerea_fa.os,u24 (mdoerea fu)⟩
theorem jcZ(fu:Nat):Told Tryz.prog (mdoerea_ft fu):=tk fu mdoerea_fa (aaZ (cSZ fu) (aaZ (eAZ fu) acZ)) Tryz.func27 (by kernel_rfl) fun t=>by kernel_rfl
def sClo5(fu:Nat)(s:List (List (UInt8))):Option (List (List (UInt8))):=
 nilQ s.length fun isNil=>
 bif isNil then
  some []
 else
  need ((Nat.ble ((0+s.length)*24) room)&&(Nat.ble (0+s.length) room))<|
  some s
def sClo5_fa:FnA:=⟨.two lf (.two (.two lf (.two lf lf)) (.two (.reg [(0,{ids:=[100]}),(2,{ids:=[101]})]) lf)),⟨(.cons (.p (.sl (.sl .byte))) .nil),[]⟩,[⟨(.cons (.slf 1 0) .nil),[(0,false,(.rows 33 (.sl .byte)))]⟩],[43]⟩
def sClo5_ft(fu:Nat):FnT:=⟨78,sClo5_fa.i,sClo5_fa.os,fun t=>sClo5 fu t⟩
theorem g1Z(fu:Nat):Told Tryz.prog (sClo5_ft fu):=tk fu sClo5_fa acZ Tryz.func78 (by kernel_rfl) fun t=>by kernel_rfl
def mcop_l0(fu:Nat)(r:List (qT1))(x:Int)(h:Int)(h1:List (qT1))(h2:Int):Option ((Int×qT45)⊕(qT45)):=
 bif (decide (x<((r.length:Nat):Int))) then
  (idx? x h1.length).bind fun q=>
  (h1)[q]?.bind fun r1=>
  (sClo3 fu r1.2.2.2.2.2.1).bind fun r2=>
  (idx? x h1.length).bind fun q1=>
  (h1)[q1]?.bind fun r3=>
  (sClo2 fu r3.2.2.2.2.2.2.2).bind fun r4=>
  (idx? x h1.length).bind fun q2=>
  (h1)[q2]?.bind fun r5=>
  (idx? x (List.set h1 q2 (r5.1,(r5.2.1,(r5.2.2.1,(r5.2.2.2.1,(r5.2.2.2.2.1,(r2,r5.2.2.2.2.2.2))))))).length).bind fun q3=>
  ((List.set h1 q2 (r5.1,(r5.2.1,(r5.2.2.1,(r5.2.2.2.1,(r5.2.2.2.2.1,(r2,r5.2.2.2.2.2.2))))))))[q3]?.bind fun r6=>
  some (.inl ((IntKind.wrap .i64 (x+1)),(h,((List.set (List.set h1 q2 (r5.1,(r5.2.1,(r5.2.2.1,(r5.2.2.2.1,(r5.2.2.2.2.1,(r2,r5.2.2.2.2.2.2))))))) q3 (r6.1,(r6.2.1,(r6.2.2.1,(r6.2.2.2.1,(r6.2.2.2.2.1,(r6.2.2.2.2.2.1,(r6.2.2.2.2.2.2.1,r4)))))))),h2))))
 else
  some (.inr (h,(h1,h2)))
def mcop_l0_it(fu:Nat)(r:List (qT1))(tt:(Int×qT45)):Option (qT45):=
 iter fu (fun tt=>mcop_l0 fu r tt.1 tt.2.1 tt.2.2.1 tt.2.2.2) tt
def mcop(fu:Nat)(t:(List (qT1)×Int)):Option ((Int×List (qT1))):=
 (sClo fu t.1).bind fun r=>
 (mcop_l0_it fu r (0,(t.2,(r,0)))).bind fun o=>
 some (o.1,o.2.1)
def mcop_fa:FnA:=⟨.two (.reg [(0,{ids:=[100]}),(1,{ids:=[101]})]) (.two (.reg [(2,{ids:=[102]})]) (.two (.two lf (.one (.loop ⟨[1,2,11],⟨(.cons (.own 0 100 0 0) (.cons (.own 0 101 0 0) qL4)),[(100,false,qB50),(102,false,(.rows 49 qY0)),(101,false,qB32)]⟩⟩ false [(0,⟨[1,2],⟨(.cons (.own 0 100 0 0) (.cons (.own 0 101 0 0) .nil)),[(100,false,qB50),(102,false,(.rows 49 qY0)),(101,false,qB32)]⟩⟩)] (.two lf (.two lf (.two (.one (.two lf (.reg [(12,{ids:=[103],fn:=1}),(19,{ids:=[104],fn:=2})]))) lf)))))) lf)),⟨(.cons (.p qY33) .nil),[]⟩,[⟨(.cons (.agg (.cons (.slf 8 0) qL4)) .nil),[(0,false,(.rows 49 qY0))]⟩],[0]⟩
def mcop_ft(fu:Nat):FnT:=⟨35,mcop_fa.i,mcop_fa.os,fun t=>mcop fu t⟩
theorem dYZ(fu:Nat):Told Tryz.prog (mcop_ft fu):=tk fu mcop_fa (aaZ (ctZ fu) (aaZ (dmZ fu) (aaZ (crZ fu) acZ))) Tryz.func35 (by kernel_rfl) fun t=>by kernel_rfl
end
end Go.Ab.D
