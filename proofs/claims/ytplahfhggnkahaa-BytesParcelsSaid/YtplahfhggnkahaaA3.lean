/- The abstract evaluator: regions, code, functions. -/
import Derived.Test.YtplahfhggnkahaaA2
set_option linter.all false
namespace Go.Ab
noncomputable section

inductive Gh where
  | freeze (slot : Nat)
  /-- a nil slice becomes one of the call's own -/
  | ownNil (slot : Nat) (e : TypeId) (id : Nat)
  /-- a nil slice in a block's cell becomes one of the call's own -/
  | ownCell (blk off : Nat) (e : TypeId) (id : Nat)
  /-- a block goes on under another number -/
  | renum (old new : Nat)
  /-- a slot's own memory becomes pure -/
  | pure (slot : Nat)
/-- What tells two states apart. -/
inductive Cn where
  | slot (k : Nat) (kd : Kd)
  | cell (b j : Nat) (kd : Kd)
  | key (id : Nat)
/-- Annotated code. -/
inductive AC where
  | skip
  | ret
  | exit (id : Nat)
  | seq (a b : AC)
  | cond (c : Operand) (a b : AC)
  | block (id : Nat) (a : AC)
  | loop (sh : LShp) (ret : Bool) (outs : List (Nat × LShp)) (a : AC)
  | region (id : Nat) (ops : List (Oper × Ann)) (draw : Bool)
  | join (sh : LShp) (ret : Bool) (outs : List (Nat × LShp)) (a : AC)
  | pre (g : Gh) (a : AC)
  /-- two sets of notes for the same code: the first if the slot holds that kind -/
  | sel (q : Cn) (a b : AC)
  | bad (c : Code)
def AC.erase : AC → Code
  | .skip => .skip
  | .ret => .ret
  | .exit i => .exit i
  | .seq a b => .seq a.erase b.erase
  | .cond c a b => .cond c a.erase b.erase
  | .block i a => .block i a.erase
  | .loop _ _ _ a => .loop a.erase
  | .region i ops d => .region i (ops.map (·.1)).toArray d
  | .join _ _ _ a => a.erase
  | .pre _ a => a.erase
  | .sel _ a _ => a.erase
  | .bad c => c

/-- The notes on code, without the code. -/
inductive Ov where
  | leaf
  | one (a : Ov)
  | two (a b : Ov)
  | loop (sh : LShp) (ret : Bool) (outs : List (Nat × LShp)) (a : Ov)
  | reg (l : List (Nat × Ann))
  | join (sh : LShp) (ret : Bool) (outs : List (Nat × LShp)) (a : Ov)
  | pre (g : Gh) (a : Ov)
  | sel (q : Cn) (a b : Ov)
def annAt : List (Nat × Ann) → Nat → Ann
  | [], _ => {}
  | (i, a) :: r, k => bq (Nat.beq i k) a (annAt r k)
def annOps (l : List (Nat × Ann)) : Nat → List Oper → List (Oper × Ann)
  | _, [] => []
  | k, o :: r => (o, annAt l k) :: annOps l (k + 1) r
def plain : Code → AC
  | .ret => .ret
  | .exit i => .exit i
  | .seq a b => .seq (plain a) (plain b)
  | .cond c a b => .cond c (plain a) (plain b)
  | .block i a => .block i (plain a)
  | .region i ops d => .region i (annOps [] 0 ops.toList) d
  | .skip => .skip
  | c => .bad c
/-- Code with notes. -/
def build : Ov → Code → AC
  | .one x, .block i a => .block i (build x a)
  | .two x y, .seq a b => .seq (build x a) (build y b)
  | .two x y, .cond c a b => .cond c (build x a) (build y b)
  | .loop sh rt outs x, .loop a => .loop sh rt outs (build x a)
  | .reg l, .region i ops d => .region i (annOps l 0 ops.toList) d
  | .join sh rt outs x, c => .join sh rt outs (build x c)
  | .pre g x, c => .pre g (build x c)
  | .sel q x y, c => .sel q (build x c) (build y c)
  | _, c => plain c

/-- The slots that code writes. -/
def AC.wr : AC → List Nat
  | .seq a b => a.wr ++ b.wr
  | .cond _ a b => a.wr ++ b.wr
  | .block _ a => a.wr
  | .loop _ _ _ a => a.wr
  | .region _ ops _ => ops.filterMap (·.1.dst)
  | .join _ _ _ a => a.wr
  | .pre (.ownNil k _ _) a => k :: a.wr
  | .pre (.pure k) a => k :: a.wr
  | .pre _ a => a.wr
  | .sel _ a b => a.wr ++ b.wr
  | _ => []

/-- A function that is told: what it makes of typed arguments and blocks. -/
structure FnT where
  f : FuncId
  i : Shp
  os : List Shp
  spec : i.D → Option (OutS os)
abbrev Tbl := List FnT

section
variable (P : Program) (T : Tbl)
section
variable {β : Type}

/-- An argument, handed over as its mode says: 0: as it is; 1: frozen; 2: as pure memory for the call's time; from 10 on: nil becomes a slice of the call's own, of that type less 10. -/
def argM (H : Hp) (m : Nat) (a : AV) : Option (AV × Hp) :=
  match m with
  | 0 => some (a, H)
  | 1 => pureA H a
  | 2 => (pureA H a).map fun x => (x.1, H)
  | m => match a with
    | .p .opq (.slice none 0 0) => (ty P (m - 10)).ob fun u => bq (hkey H (m + 100000)) none (some (.slf u.cells (m + 100000), hset H (m + 100000) (some ⟨false, .rows (m - 10) u []⟩)))
    | .sl es old 0 n => match hget H old with
      | some ⟨false, .rows e t l⟩ => bq (Nat.beq es t.cells && Nat.ble n l.length && !hkey H (m + 100000)) (some (.slf es (m + 100000), hset (hset H old none) (m + 100000) (some ⟨false, .rows e t (l.take n)⟩))) none
      | _ => some (.sl es old 0 n, H)
    | a => some (a, H)
def argsM : Hp → List Nat → List AV → Option (List AV × Hp)
  | H, _, [] => some ([], H)
  | H, ms, a :: r => (argM P H (ms.headD 0) a).ob fun x => (argsM x.2 ms.tail r).map fun y => (x.1 :: y.1, y.2)
def setAll (H : Hp) : Hp → Hp
  | [] => H
  | (i, e) :: r => hset (setAll H r) i e
def killAll : Hp → List Nat → Hp
  | H, [] => H
  | H, i :: r => killAll (hset H i none) r
def freshAll (H : Hp) : List Nat → Bool
  | [] => true
  | i :: r => !hkey H i && freshAll H r
def tupA : List AV → AV
  | [a] => a
  | l => .tup l
def okKeys (f : Nat → Option Nat) : Hp → Bool
  | [] => true
  | (k, _) :: r => (f k).isSome && okKeys f r
def hkeys : Hp → List Nat
  | [] => []
  | (k, _) :: r => k :: hkeys r
/-- Nothing of memory. -/
def Ty.scal : Ty → Bool
  | .int _ | .byte | .bool | .str | .nat => true
  | .one t => t.scal
  | .pair a b => a.scal && b.scal
  | .arr _ t => t.scal
  | _ => false
def allScal : List Ty → Bool
  | [] => true
  | t :: r => t.scal && allScal r
/-- A callee's blocks come back under the caller's numbers. -/
def evCall (e : FnT) (args : List AV) (an : Ann) (H : Hp) (K : AV → Hp → Option β) : Option β :=
  (argsM P H an.md args).ob fun x =>
  need (freshAll x.2 an.ids && nodupN an.ids && eqN (hkKeys e.i.hs) (rangeN 0 an.sh.length) && (!memN 2 an.md || (e.os.all (fun o => allScal o.tys) && Nat.beq an.sh.length 0 && Nat.beq an.ids.length 0))) <|
  e.i.rco x.1 x.2 (zipN an.sh (rangeN 0 an.sh.length)) fun t =>
  (e.spec t).bind fun r => OutS.on e.os r fun o x2 =>
    let y := o.emb x2
    let all := an.sh ++ an.ids
    let back := zipN (rangeN 0 all.length) all
    need (nodupN all && nodupN (hkeys y.2) && allIn (hkeys y.2) (fstN back)) <|
    K (AV.ren (noOf back) (tupA y.1)) (setAll (killAll x.2 an.sh) (renH y.2 (noOf back) back))
def AV.fnv? : AV → Option (FuncId × List AV × List AV)
  | .fn f a c => some (f, a, c)
  | .p .opq (.func (.func f) a c) => bq (Nat.beq a.size 0 && Nat.beq c.size 0) (some (f, [], [])) none
  | _ => none

/-- Operations that only read. -/
def isR (o : Oper) : Bool :=
  match o.op with
  | .move _ | .assign _ | .pick _ _ _ | .build _ _ | .load _ _ | .nilCheck _ | .binOp _ _ _ _ _ | .unOp _ _ _ | .makeFunc _ _ _ | .slice _ _ _ _ _
  | .fieldAddr _ _ _ | .field _ _ _ | .indexAddr _ _ _ | .index _ _ _ | .extract _ _ | .lookup _ _ _ _ => true
  | .convert _ d _ => match P.underlying d with
    | some (.slice _) => false
    | _ => true
  | .call c => match c.callee with
    | .builtin .len | .builtin .min | .builtin .max | .builtin .cap => true
    | _ => false
  | _ => false
def evR (o : Oper) (r : Operand → AV) (H : Hp) (K : AV → Option β) : Option β :=
  match o.op with
  | .move x | .assign x => K (r x)
  | .pick c a b => evPick P o.type (r c) (r a) (r b) K
  | .build t ps => evBuild P t (ps.toList.map fun x => (x.1, r x.2)) K
  | .load t a => evLoad P t (r a) H K
  | .nilCheck x => match r x with
    | .own es id i j => K (.own es id i j)
    | .pt u l i j => K (.pt u l i j)
    | .fn f a c => K (.fn f a c)
    | _ => none
  | .binOp op t x y u => evBin P op t u (r x) (r y) H K
  | .lookup t x ix c => evLookup P t (r x) (r ix) c H K
  | .unOp op t x => evUn P op t (r x) K
  | .convert s d x => evConvert P s d (r x) H K
  | .makeFunc (.func f) a c => K (.fn f (a.toList.map r) (c.toList.map r))
  | .slice t x lo hi none => evSlice P t (r x) (lo.map r) (hi.map r) H K
  | .fieldAddr s x f => evFieldAddr P s (r x) f K
  | .field s x f => evField P s (r x) f K
  | .indexAddr t x ix => evIndexAddr P t (r x) (r ix) H K
  | .index t x ix => evIndex P t (r x) (r ix) K
  | .extract x i => (r x).tup?.ob fun l => l[i]?.ob K
  | .call c =>
    match c.callee with
    | .builtin .len => match c.args.toList, c.argTypes.toList with
      | [a], [t] => lenT P t H (r a) fun n => K (.i .i64 (n : Int))
      | _, _ => none
    | .builtin .cap => match c.args.toList, c.argTypes.toList with
      | [a], [t] => match P.underlying t with
        | some (.slice _) => match r a with
          | .p .opq (.slice none 0 0) => K (.i .i64 0)
          | a => lenS H a fun n => capQ n fun m => K (.i .i64 m)
        | _ => none
      | _, _ => none
    | .builtin .min => match P.underlying o.type with
      | some (.int k) => (ints? k (c.args.toList.map r)).ob fun l => match l with
        | x :: l => K (.i k (minI l x))
        | [] => none
      | _ => none
    | .builtin .max => match P.underlying o.type with
      | some (.int k) => (ints? k (c.args.toList.map r)).ob fun l => match l with
        | x :: l => K (.i k (maxI l x))
        | [] => none
      | _ => none
    | _ => none
  | _ => none
/-- Operations that write, or make memory. -/
def evW (o : Oper) (an : Ann) (r : Operand → AV) (H : Hp) (K : AV → Hp → Option β) : Option β :=
  match o.op with
  | .alloc t => evAlloc P t (an.ids.headD 0) H K
  | .box t x => evBox P t (r x) (an.ids.headD 0) H K
  | .buildSlice t n ps => evBuildSlice P t n (ps.toList.map fun x => (x.1, r x.2)) (an.ids.headD 0) H K
  | .store t a x => evStore P t (r a) (r x) H K
  | .convert s d x => match P.underlying d with
    | some .string => evConvert P s d (r x) H fun v => K v H
    | _ => evConvertW P s d (r x) (an.ids.headD 0) H K
  | .makeSlice t l c => evMake P t (r l) (r c) (an.ids.headD 0) H K
  | .makeMap t q => evMakeMap P t (q.map r) (an.ids.headD 0) H K
  | .mapUpdate t m k x | .insert t m k x => evMapUpd P t (r m) (r k) (r x) H K
  | .mapEntry t m k => evMapEntry P t (r m) (r k) H K
  | .entryStore _ m s x => evEntryStore (r m) (r s) (r x) H K
  | .call c =>
    match c.callee with
    | .builtin .append => match c.args.toList, c.argTypes.toList with
      | [s, x], [t, u] => match P.underlying u with
        | some (.int _) => evAppendZ P t (r s) (r x) (an.ids.headD 0) H K
        | some (.slice _) => evAppend P t (r s) (r x) (an.ids.headD 0) H K
        | some .string => evAppend P t (r s) (r x) (an.ids.headD 0) H K
        | _ => none
      | _, _ => none
    | .builtin .copy => match c.args.toList, c.argTypes.toList with
      | [d, x], t :: _ => evCopy P t (r d) (r x) H K
      | _, _ => none
    | .builtin .delete => match c.args.toList, c.argTypes.toList with
      | [m, k], t :: _ => evDelete P t (r m) (r k) H K
      | _, _ => none
    | .value f => (r f).fnv?.ob fun x => match T[an.fn]? with
      | some e => bq (Nat.beq e.f x.1) (evCall P e (x.2.1 ++ c.args.toList.map r ++ x.2.2) an H K) none
      | none => none
    | _ => none
  | _ => none

/-- One operation that is carried out. -/
def ev1 (o : Oper) (an : Ann) (st : St) (K : St → Option β) : Option β :=
  bq (isR P o) (evR P o st.opnd st.hp fun v => K (st.putO o.dst v)) (evW P T o an st.opnd st.hp fun v H => K { st.putO o.dst v with hp := H })
/-- A guarded one: what its guard yielded is known behind it. -/
def St.skip (st : St) (o : Oper) : St := st.putO o.dst (.tup [])
def evG (all : List Oper) (o : Oper) (st : St) (go skip : St → Option β) : Option β :=
  bq (dstOk st.nt o.dst) (match o.guard with
    | none => go st
    | some (j, want) => ((all[j]?).ob (·.dst)).ob fun d =>
      match st.tm.get d with
      | .tup [] => skip (st.skip o)
      | a => a.bool?.ob fun t =>
        bq t ((bq want (go { st with tm := st.tm.put d (.b true) }) (skip (St.skip { st with tm := st.tm.put d (.b true) } o)))) ((bq want (skip (St.skip { st with tm := st.tm.put d (.b false) } o)) (go { st with tm := st.tm.put d (.b false) })))) none
def evOps : List (Oper × Ann) → List Oper → St → (St → Option β) → Option β
  | [], _, st, K => K st
  | (o, an) :: rest, all, st, K => evG all o st (fun st => ev1 P T o an st fun st' => evOps rest all st' K) (fun st => evOps rest all st K)

/-! Regions that draw their order -/
def nubN : List Nat → List Nat
  | [] => []
  | i :: r => bq (memN i r) (nubN r) (i :: nubN r)
def foot (o : Oper) (an : Ann) (r : Operand → AV) : List Nat := nubN (an.sh ++ an.ids ++ AV.idsL (o.op.operands.toList.map r))
def hsub (H : Hp) : List Nat → Hp
  | [] => []
  | i :: r => bq (hkey H i) ((i, hget H i) :: hsub H r) (hsub H r)
def ltAll (n : Nat) : List Nat → Bool
  | [] => true
  | i :: r => Nat.blt i n && ltAll n r
/-- Operations that make memory under a number. -/
def mkOp (o : Oper) : Bool :=
  match o.op with
  | .alloc _ | .box _ _ | .buildSlice _ _ _ | .makeSlice _ _ _ | .makeMap _ _ => true
  | .convert s _ _ => match P.underlying s with | some .string => true | _ => false
  | .call c => match c.callee with | .builtin .append => true | _ => false
  | _ => false
/-- Is it none of slices held against nil? -/
def natBin (t : TypeId) : Bool := match P.underlying t with | some (.slice _) => false | _ => true
/-- Operations that may stand in any order. -/
def natR (o : Oper) : Bool :=
  match o.op with
  | .binOp _ t _ _ _ => natBin P t
  | .call c => match c.callee with
    | .builtin .cap => false
    | _ => true
  | _ => true
def ev1D (o : Oper) (an : Ann) (st : St) (K : St → Option β) : Option β :=
  bq (isR P o) (need (natR P o) <| evR P o st.opnd (hsub st.hp (foot o an st.opnd)) fun v => K (st.putO o.dst v))
    (need ((!mkOp P o || !Nat.beq an.ids.length 0) && ltAll 3 an.md) <| evW P T o an st.opnd (hsub st.hp (foot o an st.opnd)) fun v H =>
      need (allIn (hkeys H) (foot o an st.opnd)) <| K { st.putO o.dst v with hp := setAll (killAll st.hp (foot o an st.opnd)) H })
structure Fp where
  i : Nat
  fp : List Nat
  w : Bool
def meetN : List Nat → List Nat → Bool
  | [], _ => false
  | i :: r, l => memN i l || meetN r l
def clash (a b : Fp) : Bool := (a.w || b.w) && meetN a.fp b.fp
/-- Those that must come ahead of each. -/
def closN (done : List (Nat × List Nat)) : List Edge → List Nat
  | [] => []
  | e :: r => bq (Region.binds .any e) (e.on :: ((done.lookup e.on).getD [] ++ closN done r)) (closN done r)
def clos : Nat → List Oper → List (Nat × List Nat) → List (Nat × List Nat)
  | _, [], done => done
  | i, o :: r, done => clos (i + 1) r ((i, nubN (closN done o.after.toList)) :: done)
def pairOk (cl : List (Nat × List Nat)) (a b : Fp) : Bool := memN a.i ((cl.lookup b.i).getD []) || !clash a b
def pairsOk (cl : List (Nat × List Nat)) : List Fp → Bool
  | [] => true
  | b :: r => (r.all fun a => pairOk cl a b) && pairsOk cl r
/-- What an operation names: itself, those ahead of it, the slots that it looks at, the one that it writes. -/
structure Nm where
  i : Nat
  cl : List Nat
  rd : List Nat
  wr : Option Nat
def tmpsOf : List Operand → List Nat
  | [] => []
  | .tmp t :: r => t :: tmpsOf r
  | _ :: r => tmpsOf r
def guardOf (all : List Oper) (o : Oper) : List Nat :=
  match o.guard with
  | some (g, _) => (match all[g]? with | some x => (match x.dst with | some d => [d] | none => []) | none => [])
  | none => []
def nms (cl : List (Nat × List Nat)) (all : List Oper) : Nat → List Oper → List Nm
  | _, [] => []
  | i, o :: r => ⟨i, (cl.lookup i).getD [], guardOf all o ++ tmpsOf o.op.operands.toList, o.dst⟩ :: nms cl all (i + 1) r
def hasN (l : List Nat) : Option Nat → Bool
  | none => false
  | some d => memN d l
def sameO : Option Nat → Option Nat → Bool
  | some a, some b => Nat.beq a b
  | _, _ => false
def apartN (a b : Nm) : Bool := !hasN b.rd a.wr && !hasN a.rd b.wr && !sameO a.wr b.wr
def nmAll (a : Nm) : List Nm → Bool
  | [] => true
  | b :: r => (memN a.i b.cl || apartN a b) && nmAll a r
def nmsOk : List Nm → Bool
  | [] => true
  | a :: r => nmAll a r && nmsOk r
def edgesLt (i : Nat) : List Edge → Bool
  | [] => true
  | e :: r => (!Region.binds .any e || Nat.blt e.on i) && edgesLt i r
def edgesOk : Nat → List Oper → Bool
  | _, [] => true
  | i, o :: r => edgesLt i o.after.toList && (match o.op with | .select _ _ => false | _ => true) && edgesOk (i + 1) r
/-- The last one's footprint stands first. -/
def evOpsD : List (Nat × Oper × Ann) → List Oper → St → List Fp → (St → List Fp → Option β) → Option β
  | [], _, st, fs, K => K st fs
  | (i, o, an) :: rest, all, st, fs, K =>
    evG all o st (fun st => ev1D P T o an st fun st' => evOpsD rest all st' (⟨i, foot o an st.opnd, !isR P o⟩ :: fs) K) (fun st => evOpsD rest all st fs K)
def numb {α : Type} : Nat → List α → List (Nat × α)
  | _, [] => []
  | k, a :: r => (k, a) :: numb (k + 1) r

def Cn.holds (st : St) : Cn → Bool
  | .slot k kd => kd.fits (st.tm.get k)
  | .cell b j kd => match hget st.hp b with
    | some ⟨_, .vars c⟩ => kd.fits (c.getD j .junk)
    | _ => false
  | .key id => match hget st.hp id with
    | some _ => true
    | none => false
def renF (old new : Nat) (id : Nat) : Option Nat := bq (Nat.beq id old) (some new) (some id)
def Tr.ren (f : Nat → Option Nat) : Tr → Tr
  | .lf => .lf
  | .nd l v r => .nd (l.ren f) (AV.ren f v) (r.ren f)
def mapHp (f : Nat → Option Nat) : Hp → Hp
  | [] => []
  | (i, some e) :: r => (i, some (e.ren f)) :: mapHp f r
  | (i, none) :: r => (i, none) :: mapHp f r
def ghost (g : Gh) (st : St) : Option St :=
  match g with
  | .renum old new => match hget st.hp old with
    | some e => bq (hkey st.hp new) none (some { st with tm := st.tm.ren (renF old new), hp := hset (hset (mapHp (renF old new) st.hp) old none) new (some (e.ren (renF old new))) })
    | none => none
  | .pure k => (pureA st.hp (st.tm.get k)).map fun x => { st with tm := st.tm.put k x.1, hp := x.2 }
  | .freeze k => some { st with hp := frzA st.hp (st.tm.get k) }
  | .ownNil k e id => match st.tm.get k with
    | .p .opq (.slice none 0 0) => (ty P e).ob fun u => bq (hkey st.hp id) none (some { st with tm := st.tm.put k (.slf u.cells id), hp := hset st.hp id (some ⟨false, .rows e u []⟩) })
    | _ => some st
  | .ownCell b o e id => match hget st.hp b with
    | some ⟨false, .vars c⟩ => match c[o]? with
      | some (.p .opq (.slice none 0 0)) => (ty P e).ob fun u => bq (hkey st.hp id) none (some { st with hp := hset (hset st.hp b (some ⟨false, .vars (c.set o (.slf u.cells id))⟩)) id (some ⟨false, .rows e u []⟩) })
      | _ => some st
    | _ => some st
end

def Sum.on_ {α β γ : Type} (x : α ⊕ β) (f : α → γ) (g : β → γ) : γ := match x with | .inl a => f a | .inr b => g b
/-- A return out of a loop or a join. -/
def Out.retO {β γ : Type} : (ret : Bool) → (l : List (Nat × LShp)) → β → (Out ret l β → Option γ) → Option γ
  | true, l, b, K => K (Out.ret l b)
  | false, _, _, _ => none
/-- The number under which a join's own end goes. -/
def evS : {β : Type} → AC → St → (St → Option β) → (Nat → St → Option β) → (St → Option β) → Option β
  | _, .skip, st, K, _, _ => K st
  | _, .ret, st, _, _, R => R st
  | _, .exit i, st, _, X, _ => X i st
  | _, .seq a b, st, K, X, R => evS a st (fun st' => evS b st' K X R) X R
  | _, .cond c a b, st, K, X, R => (st.opnd c).bool?.ob fun t => bq t (evS a st K X R) (evS b st K X R)
  | _, .block i a, st, K, X, R => evS a st K (fun j st' => bq (Nat.beq j i) (K st') (X j st')) R
  | β, .loop sh rt outs a, st, K, X, R =>
      st.prj sh fun t0 =>
      (iter fuel (fun t => evS (β := sh.D ⊕ Out rt outs β) a (sh.inj ((st.tm.keep).junk a.wr) st.nt st.n0 t) (fun st'' => st''.prj sh fun t' => some (.inl t'))
          (fun i st'' => Out.mk st'' rt outs i fun o => some (.inr o))
          (fun st'' => (R st'').ob fun b => Out.retO rt outs b fun o => some (.inr o))) t0).bind fun o =>
      Out.on ((st.tm.keep).junk a.wr) st.nt st.n0 rt outs o X some
  | _, .region _ ops draw, st, K, _, _ => bq draw (need (edgesOk 0 (ops.map (·.1)) && nmsOk (nms (clos 0 (ops.map (·.1)) []) (ops.map (·.1)) 0 (ops.map (·.1)))) <| evOpsD P T (numb 0 ops) (ops.map (·.1)) st [] fun st' fs => need (pairsOk (clos 0 (ops.map (·.1)) []) fs) <| K st') (evOps P T ops (ops.map (·.1)) st K)
  | β, .join sh rt outs a, st, K, X, R =>
      (evS (β := Out rt ((0, sh) :: outs) β) a st (fun st'' => Out.mk st'' rt ((0, sh) :: outs) 0 some)
        (fun i st'' => Out.mk st'' rt ((0, sh) :: outs) (i + 1) some)
        (fun st'' => (R st'').ob fun b => Out.retO rt ((0, sh) :: outs) b some)).bind fun o =>
      Out.on ((st.tm.keep).junk a.wr) st.nt st.n0 rt ((0, sh) :: outs) o (fun i st'' => match i with | 0 => K st'' | i + 1 => X i st'') some
  | _, .pre g a, st, K, X, R => (ghost P g st).ob fun st' => evS a st' K X R
  | _, .sel q a b, st, K, X, R => bq (Cn.holds st q) (evS a st K X R) (evS b st K X R)
  | _, .bad _, _, _, _, _ => none

/-! Functions -/
structure FnA where
  ov : Ov
  i : Shp
  os : List Shp
  /-- how the results come back: 1: as pure memory -/
  md : List Nat
def initTm : Tr → Nat → List AV → Tr
  | t, _, [] => t
  | t, k, a :: r => initTm (t.put k a) (k + 1) r
def loadRes {β : Type} : List ResultVar → St → (List AV → Option β) → Option β
  | [], _, K => K []
  | .tmp t :: r, st, K => loadRes r st fun l => K (st.tm.get t :: l)
  | .cell a t :: r, st, K => evLoad P t (st.tm.get a) st.hp fun v => loadRes r st fun l => K (v :: l)
def fin (fn : Func) (fa : FnA) (st : St) : Option (OutS fa.os) :=
  loadRes P fn.results.toList st fun l => (argsM P st.hp fa.md l).ob fun x =>
    let n := fa.i.hs.length
    let ids := reach x.2 reachFuel (rangeN 0 n ++ AV.idsL x.1) []
    let news := ids.filter fun i => !Nat.blt i n
    let olds := ids.filter fun i => Nat.blt i n
    OutS.rco x.1 x.2 (zipN (olds ++ news) (olds ++ rangeN n news.length)) fa.os some
def depth (n : Nat) : Nat := Nat.log2 n + 1
def evF (fn : Func) (fa : FnA) (t : fa.i.D) : Option (OutS fa.os) :=
  let y := fa.i.emb t
  need (eqN (hkKeys fa.i.hs) (rangeN 0 fa.i.hs.length) && !memN 2 fa.md) <|
  fn.body.ob fun c => evS P T (build fa.ov c) ⟨initTm (Tr.full (depth fn.ntmps)) 0 y.1, fn.ntmps, fa.i.hs.length, y.2⟩ (fin P fn fa) (fun _ _ => none) (fin P fn fa)
end
end
end Go.Ab
