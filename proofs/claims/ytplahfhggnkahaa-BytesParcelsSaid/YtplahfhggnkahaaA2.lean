/- The abstract evaluator: operations. -/
import Derived.Test.YtplahfhggnkahaaA1
import Derived.Laws.Sem
set_option linter.all false
namespace Go.Ab
noncomputable section

/-- What a prover adds to an operation: numbers for new blocks; the callee's place in the table; blocks that are lent to it; how each argument is handed over (1: as pure memory). -/
structure Ann where
  ids : List Nat := []
  sh : List Nat := []
  md : List Nat := []
  fn : Nat := 0

section
variable (P : Program)

def typesFuel : Nat := 20
def tyFields (f : TypeId → Option Ty) : List TypeId → Option Ty
  | [] => none
  | [t] => f t
  | t :: r => (f t).ob fun a => (tyFields f r).map fun b => .pair a b
def tyOf : Nat → TypeId → Option Ty
  | 0, _ => none
  | n + 1, t => match P.underlying t with
    | some (.int .u8) => some .byte
    | some (.int k) => some (.int k)
    | some .bool => some .bool
    | some .string => some .str
    | some (.slice e) => (tyOf n e).map .sl
    | some (.array k e) => (tyOf n e).map (.arr k)
    | some (.struct fs) => match fs.toList.map (·.type) with
      | [f] => (tyOf n f).map .one
      | l => tyFields (tyOf n) l
    | some (.pointer _) | some (.map _ _) | some (.func _ _ _) => some .opq
    | _ => none
def isAggT (t : TypeId) : Bool := match P.underlying t with | some (.struct _) | some (.array _ _) => true | _ => false
def isScal (t : TypeId) : Bool := match P.underlying t with | some (.struct _) | some (.array _ _) => false | some _ => true | none => false
/-- A type's form, where its layout is that of its cells. -/
def ty (t : TypeId) : Option Ty := (tyOf P typesFuel t).ob fun u =>
  bq (Nat.beq u.cells (P.cellsOf t) && !Nat.beq u.cells 0 && (bq u.isAgg (isAggT P t) (isScal P t))) (some u) none
def isB (e : TypeId) : Bool := match P.underlying e with | some (.int .u8) => true | _ => false
def zeroOf (t : TypeId) : Option (List AV) := (P.info? t).ob fun i => i.zero.ob fun z => bq (z.cells.toList.all Value.oneCell') (some (z.cells.toList.map AV.lit)) none
/-- The zero of the type is the zero of its cells. -/
def Ty.plain : Ty → Bool
  | .opq | .nat => false
  | .one t => t.plain
  | .pair a b => a.plain && b.plain
  | .arr _ t => t.plain
  | _ => true
def Ty.zeros : Ty → List Value
  | .int k => [.int k 0]
  | .byte => [.int .u8 0]
  | .bool => [.bool false]
  | .str => [.string ⟨#[]⟩]
  | .sl _ => [.slice none 0 0]
  | .one t => t.zeros
  | .pair a b => a.zeros ++ b.zeros
  | .arr n t => (List.replicate n t.zeros).flatten
  | _ => []
/-- One cell of a zero that is as it should be. -/
def zcellOk : Value → Value → Bool
  | .int k n, .int k' n' => k == k' && n == n'
  | .bool a, .bool b => a == b
  | .string a, .string b => a.data.size == b.data.size && a.data.size == 0
  | .slice none 0 0, .slice none 0 0 => true
  | _, _ => false
def zlistOk : List Value → List Value → Bool
  | [], [] => true
  | a :: l, b :: r => zcellOk a b && zlistOk l r
  | _, _ => false
/-- Does the type u have the zero that t's type says? -/
def zeroOk (e : TypeId) (u : Ty) : Bool :=
  u.plain && match P.info? e with
  | some i => match i.zero with
    | some z => zlistOk z.cells.toList u.zeros && (match z with | .agg _ => u.isAgg | _ => !u.isAgg)
    | none => false
  | none => false

/-- Are values of type t held against each other part by part, as u's are? -/
def eqFs (f : TypeId → Ty → Bool) : List Field → Nat → Ty → Bool
  | [x], o, u => x.name != "_" && Nat.beq x.offset o && Nat.beq (P.cellsOf x.type) u.cells && f x.type u
  | x :: r, o, .pair a b => x.name != "_" && Nat.beq x.offset o && Nat.beq (P.cellsOf x.type) a.cells && f x.type a && eqFs f r (o + a.cells) b
  | _, _, _ => false
def formOk (t : TypeId) (u : Ty) : Bool := !Nat.beq u.cells 0 && bq u.isAgg (isAggT P t) (isScal P t)
def eqT : Nat → TypeId → Ty → Bool
  | 0, _, _ => false
  | n + 1, t, u => match P.underlying t, u with
    | some (.int k), .int k' => decide (k = k')
    | some (.int k), .byte => decide (k = .u8)
    | some .bool, .bool => true
    | some .string, .str => true
    | some (.struct fs), .one v => !P.stoodInHeld t && eqFs P (fun t u => formOk P t u && eqT n t u) fs.toList 0 v
    | some (.struct fs), .pair a b => !P.stoodInHeld t && eqFs P (fun t u => formOk P t u && eqT n t u) fs.toList 0 (.pair a b)
    | some (.array m e), .arr m' v => Nat.beq m m' && Nat.beq (P.cellsOf e) v.cells && formOk P e v && eqT n e v
    | _, _ => false

def room : Nat := 140737488355328
/-! Frozen blocks, and what reads of them -/
def frz (H : Hp) (id : Nat) : Hp := match hget H id with | some e => hset H id (some ⟨true, e.b⟩) | none => H
def frzA (H : Hp) : AV → Hp
  | .own _ id _ _ => frz H id
  | .sl _ id _ _ => frz H id
  | .slf _ id => frz H id
  | _ => H
/-- The pure value of what is pure, or frozen. -/
def view (H : Hp) : AV → Option AV
  | .p t x => some (.p t x)
  | .pt t l i j => some (.pt t l i j)
  | .fn f [] [] => some (.fn f [] [])
  | .slf es id => match hget H id with
    | some ⟨true, .rows _ t l⟩ => bq (Nat.beq es t.cells) (some (.p (.sl t) l)) none
    | _ => none
  | .sl es id off n => match hget H id with
    | some ⟨true, .rows _ t l⟩ => bq (Nat.beq es t.cells && Nat.ble (off + n) l.length) (some (.p (.sl t) ((l.drop off).take n))) none
    | _ => none
  | .own es id i j => match hget H id with
    | some ⟨true, .rows _ t l⟩ => bq (Nat.beq es t.cells) (some (.pt t l i j)) none
    | _ => none
  | _ => none
/-- The same, frozen first. -/
def pure1 (H : Hp) (a : AV) : Option (AV × Hp) := (view (frzA H a) a).map fun x => (x, frzA H a)
def pureL (H : Hp) : List AV → Option (List AV × Hp)
  | [] => some ([], H)
  | a :: r => (pure1 H a).ob fun x => (pureL x.2 r).map fun y => (x.1 :: y.1, y.2)
/-- A struct's own slices are frozen; it stays a struct. -/
def pureA (H : Hp) : AV → Option (AV × Hp)
  | .agg l => (pureL H l).map fun x => (.agg x.1, x.2)
  | a => pure1 H a

section
variable {β : Type}

/-- Reads of a row, at a cell. -/
def rdRow (u : Ty) (t : TypeId) (x : u.den) (j : Nat) (K : AV → Option β) : Option β :=
  (ty P t).ob fun want => sub u x j want fun y => K (.ofTy want y)
def rdRows (t : TypeId) (u : Ty) (l : List u.den) (i j : Nat) (K : AV → Option β) : Option β :=
  match ty P t with
  | some (.arr n u') => bq (decide (u' = u) && Nat.beq i 0 && Nat.beq j 0) (need (Nat.beq l.length n) <| K (.p (.arr n u) l)) (l[i]?.bind fun x => rdRow P u t x j K)
  | _ => l[i]?.bind fun x => rdRow P u t x j K
def rdVars (t : TypeId) (c : List AV) (j : Nat) (K : AV → Option β) : Option β :=
  bq (isAggT P t) (need (Nat.ble (j + P.cellsOf t) c.length && !Nat.beq (P.cellsOf t) 0) <| K (.agg ((c.drop j).take (P.cellsOf t)))) (bq (isScal P t) (c[j]?.ob K) none)
def evLoad (t : TypeId) (a : AV) (H : Hp) (K : AV → Option β) : Option β :=
  match a with
  | .own es id i j => match hget H id with
    | some ⟨_, .vars c⟩ => bq (Nat.beq i 0) (rdVars P t c j K) none
    | some ⟨_, .rows _ u l⟩ => bq (Nat.beq es u.cells) (rdRows P t u l i j K) none
    | _ => none
  | .pt u l i j => rdRows P t u l i j K
  | _ => none

def setFrom {α : Type} : List α → Nat → List α → List α
  | c, _, [] => c
  | c, j, x :: r => setFrom (c.set j x) (j + 1) r
def isMut (H : Hp) (id : Nat) : Bool := match hget H id with | some e => !e.fz | none => false
def wrRows (t : TypeId) (e : TypeId) (u : Ty) (l : List u.den) (i j : Nat) (id : Nat) (v : AV) (H : Hp) (K : AV → Hp → Option β) : Option β :=
  match ty P t with
  | some (.arr n u') => bq (decide (u' = u) && Nat.beq i 0 && Nat.beq j 0) (need (Nat.beq l.length n) <| asA (.arr n u) v fun l' => need (Nat.beq l'.length n) <| K .junk (hset H id (some ⟨false, .rows e u l'⟩))) (asA (.arr n u') v fun y => l[i]?.bind fun x => upd u x j (.arr n u') y fun x' => K .junk (hset H id (some ⟨false, .rows e u (l.set i x')⟩)))
  | some want => asA want v fun y => l[i]?.bind fun x => upd u x j want y fun x' => K .junk (hset H id (some ⟨false, .rows e u (l.set i x')⟩))
  | none => none
def evStore (t : TypeId) (a v : AV) (H : Hp) (K : AV → Hp → Option β) : Option β :=
  match a with
  | .own es id i j => match hget H id with
    | some ⟨false, .vars c⟩ => (cellsA v).ob fun vs =>
        need (Nat.beq i 0 && Nat.beq vs.length (P.cellsOf t) && !Nat.beq (P.cellsOf t) 0 && Nat.ble (j + vs.length) c.length) <| K .junk (hset H id (some ⟨false, .vars (setFrom c j vs)⟩))
    | some ⟨false, .rows e u l⟩ => bq (Nat.beq es u.cells) ((pureA H v).ob fun x => need (isMut x.2 id) <| wrRows P t e u l i j id x.1 x.2 K) none
    | _ => none
  | _ => none

/-- A new block under a number that is not used. -/
def newAt (H : Hp) (id : Nat) (b : Blk) (K : Hp → Option β) : Option β := bq (hkey H id) none (K (hset H id (some ⟨false, b⟩)))
def evAlloc (t : TypeId) (id : Nat) (H : Hp) (K : AV → Hp → Option β) : Option β :=
  match P.underlying t with
  | some (.array n e) => (ty P e).ob fun u => need (zeroOk P t (.arr n u)) <|
      newAt H id (.rows t u (List.replicate n u.zero)) fun H' => K (.own u.cells id 0 0) H'
  | _ => (zeroOf P t).ob fun z => newAt H id (.vars z) fun H' => K (.own 0 id 0 0) H'
def evBox (t : TypeId) (v : AV) (id : Nat) (H : Hp) (K : AV → Hp → Option β) : Option β :=
  match P.underlying t with
  | some (.array n e) => (ty P e).ob fun u => (pureA H v).ob fun x => asA (.arr n u) x.1 fun l => need (Nat.beq l.length n) <|
      newAt x.2 id (.rows t u l) fun H' => K (.own u.cells id 0 0) H'
  | _ => (cellsA v).ob fun c => newAt H id (.vars c) fun H' => K (.own 0 id 0 0) H'

def fieldOff (s : TypeId) (f : Nat) : Option (Nat × TypeId) :=
  match P.underlying s with
  | some (.struct fs) => fs[f]?.ob fun x => bq (Nat.beq (P.cellsOf x.type) 0) none (some (x.offset, x.type))
  | _ => none
def evFieldAddr (s : TypeId) (a : AV) (f : Nat) (K : AV → Option β) : Option β :=
  match fieldOff P s f, a with
  | some (o, _), .own es id i j => K (.own es id i (j + o))
  | some (o, _), .pt u l i j => K (.pt u l i (j + o))
  | _, _ => none
def evField (s : TypeId) (a : AV) (f : Nat) (K : AV → Option β) : Option β :=
  match fieldOff P s f, a with
  | some (o, t), .agg c => bq (isAggT P t) (need (Nat.ble (o + P.cellsOf t) c.length) <| K (.agg ((c.drop o).take (P.cellsOf t)))) (bq (isScal P t) (c[o]?.ob K) none)
  | some (o, t), .p u x => bq u.isAgg (rdRow P u t x o K) none
  | _, _ => none
/-- The list behind a slice of the call's own. -/
def ownRows (H : Hp) (es id : Nat) (K : (u : Ty) → List u.den → Option β) : Option β :=
  match hget H id with
  | some ⟨_, .rows _ u l⟩ => bq (Nat.beq es u.cells) (K u l) none
  | _ => none
def evIndexAddr (t : TypeId) (a ix : AV) (H : Hp) (K : AV → Option β) : Option β :=
  ix.any?.ob fun x =>
  match P.underlying t with
  | some (.array n e) => need (!Nat.beq (P.cellsOf e) 0) <| match a with
    | .own es id i j => bq (Nat.beq es (P.cellsOf e) && Nat.beq i 0 && Nat.beq j 0) ((idx? x n).bind fun q => K (.own es id q 0)) ((idx? x n).bind fun q => K (.own es id i (j + q * P.cellsOf e)))
    | .pt u l i j => bq (Nat.beq u.cells (P.cellsOf e) && Nat.beq i 0 && Nat.beq j 0) ((idx? x n).bind fun q => K (.pt u l q 0)) ((idx? x n).bind fun q => K (.pt u l i (j + q * P.cellsOf e)))
    | _ => none
  | some (.slice e) => need (!Nat.beq (P.cellsOf e) 0) <| match a with
    | .slf es id => bq (Nat.beq es (P.cellsOf e)) (ownRows H es id fun _ l => (idx? x l.length).bind fun q => K (.own es id q 0)) none
    | .sl es id off n => bq (Nat.beq es (P.cellsOf e)) ((idx? x n).bind fun q => K (.own es id (off + q) 0)) none
    | .p (.sl u) l => bq (Nat.beq u.cells (P.cellsOf e)) ((idx? x (List.length (α := u.den) l)).bind fun q => K (.pt u l q 0)) none
    | _ => none
  | _ => none
def evIndex (t : TypeId) (a ix : AV) (K : AV → Option β) : Option β :=
  ix.any?.ob fun x =>
  match P.underlying t with
  | some .string => a.str?.ob fun l => (idx? x l.length).bind fun q => l[q]?.bind fun c => K (.i .u8 (c.toNat : Int))
  | some (.array n e) => (ty P e).ob fun u => asA (.arr n u) a fun (l : List u.den) => (idx? x n).bind fun q =>
      l[q]?.bind fun y => K (.ofTy u y)
  | _ => none

def optI (a : Option AV) (d : Nat) (m : Nat) (K : Nat → Option β) : Option β :=
  match a with
  | none => K d
  | some a => a.any?.ob fun x => (upto? x m).bind K
/-- l[lo:hi]: hi is at most the length, lo at most hi. -/
def cutL {α : Type} (l : List α) (lo hi : Option AV) (K : List α → Option β) : Option β :=
  match lo, hi with
  | none, none => K l
  | none, some h => h.any?.ob fun x => (upto? x l.length).bind fun h => K (l.take h)
  | some b, none => b.any?.ob fun x => (upto? x l.length).bind fun b => K (l.drop b)
  | some b, some h => h.any?.ob fun y => (upto? y l.length).bind fun h => b.any?.ob fun x => (upto? x h).bind fun b => K ((l.take h).drop b)
def evSlice (t : TypeId) (a : AV) (lo hi : Option AV) (H : Hp) (K : AV → Option β) : Option β :=
  match P.underlying t with
  | some .string => a.str?.ob fun l => cutL l lo hi fun l' => K (.s l')
  | some (.slice e) => match a with
    | .slf es id => bq (Nat.beq es (P.cellsOf e) && !Nat.beq es 0) (match lo, hi with
        | none, none => K (.slf es id)
        | lo, hi => ownRows H es id fun _ l => optI hi l.length l.length fun h => optI lo 0 h fun b => K (.sl es id b (h - b))) none
    | .sl es id off n => bq (Nat.beq es (P.cellsOf e) && !Nat.beq es 0) (optI hi n n fun h => optI lo 0 h fun b => K (.sl es id (off + b) (h - b))) none
    | .p (.sl u) l => bq (Nat.beq u.cells (P.cellsOf e) && !Nat.beq u.cells 0) (cutL (α := u.den) l lo hi fun l' => K (.p (.sl u) l')) none
    | .p .opq (.slice none 0 0) => need (!Nat.beq (P.cellsOf e) 0) <| optI hi 0 0 fun h => optI lo 0 h fun _ => K (.p .opq (.slice none 0 0))
    | _ => none
  | some (.array n e) => match a with
    | .own es id 0 0 => bq (Nat.beq es (P.cellsOf e) && !Nat.beq es 0) (ownRows H es id fun _ l => need (Nat.ble n room && Nat.beq n l.length) <| match lo, hi with
        | none, none => K (.slf es id)
        | lo, hi => optI hi n n fun h => optI lo 0 h fun b => K (.sl es id b (h - b))) none
    | .pt u l 0 0 => bq (Nat.beq u.cells (P.cellsOf e) && !Nat.beq u.cells 0 && Nat.ble n room && Nat.beq n l.length) (cutL l lo hi fun l' => K (.p (.sl u) l')) none
    | _ => none
  | _ => none

/-- The elements of a slice, or the bytes of a string. -/
def rowsOf (H : Hp) (u : Ty) (a : AV) (K : List u.den → Option β) : Option β :=
  match a with
  | .p t x => dq t (.sl u) (fun h => K (Ty.to h x))
      (dq t .str (fun h => dq (.sl .byte) (.sl u) (fun h2 => K (Ty.to h2 (Ty.to h x : List UInt8))) none) ((nilSl t x (.sl u)).ob fun l => K l))
  | .slf es id => match hget H id with
    | some ⟨_, .rows _ t l⟩ => dq t u (fun h => (bq (Nat.beq es t.cells) (K (Ty.toL h l)) none)) none
    | _ => none
  | .sl es id off n => match hget H id with
    | some ⟨_, .rows _ t l⟩ => dq t u (fun h => (bq (Nat.beq es t.cells && Nat.ble (off + n) l.length) (K (((Ty.toL h l).drop off).take n)) none)) none
    | _ => none
  | _ => none
def lenS (H : Hp) (a : AV) (K : Nat → Option β) : Option β :=
  match a with
  | .sl _ _ _ n => K n
  | .slf es id => ownRows H es id fun _ l => K l.length
  | .p (.sl u) l => K (List.length (α := u.den) l)
  | .p .opq (.slice none 0 0) => K 0
  | _ => none
def lenM (H : Hp) (a : AV) (K : Nat → Option β) : Option β :=
  match a with
  | .p .opq (.map none) => K 0
  | .mp id => match hget H id with
    | some ⟨_, .map _ _ m⟩ => K m.1.length
    | _ => none
  | _ => none
def lenT (t : TypeId) (H : Hp) (a : AV) (K : Nat → Option β) : Option β :=
  match P.underlying t with
  | some .string => a.str?.ob fun l => K l.length
  | some (.slice _) => lenS H a K
  | some (.map _ _) => lenM H a K
  | some (.array n _) => K n
  | _ => none

/-- Room for so many elements more? -/
def roomOk (e : TypeId) (n : Nat) : Bool := Nat.ble (n * P.bytesOf e) room && Nat.ble n room
/-- Does the type's zero have so many cells? -/
def zlen (e : TypeId) (n : Nat) : Bool := match P.info? e with | some i => (match i.zero with | some z => Nat.beq z.cells.size n | none => false) | none => false
def evAppend (t : TypeId) (s x : AV) (id : Nat) (H : Hp) (K : AV → Hp → Option β) : Option β :=
  match P.underlying t with
  | some (.slice e) => (ty P e).ob fun u =>
    rowsOf H u x fun m =>
      match s with
      | .p .opq (.slice none 0 0) => need (zlen P e u.cells && roomOk P e m.length) <| newAt H id (.rows e u m) fun H' => K (.slf u.cells id) H'
      | .slf es old => match hget H old with
        | some ⟨false, .rows e' t l⟩ => dq t u (fun h => need (zlen P e u.cells && Nat.beq e e' && Nat.beq es u.cells && roomOk P e (l.length + m.length)) <|
            newAt (hset H old none) id (.rows e u (Ty.toL h l ++ m)) fun H' => K (.slf es id) H') none
        | _ => none
      | .sl es old 0 n => match hget H old with
        | some ⟨false, .rows e' t l⟩ => dq t u (fun h => need (zlen P e u.cells && Nat.beq e e' && Nat.beq es u.cells && Nat.ble n l.length && roomOk P e (n + m.length)) <|
            newAt (hset H old none) id (.rows e u ((Ty.toL h l).take n ++ m)) fun H' => K (.slf es id) H') none
        | _ => none
      | _ => none
  | _ => none
/-- append(s, make([]T, n)...) -/
def evAppendZ (t : TypeId) (s x : AV) (id : Nat) (H : Hp) (K : AV → Hp → Option β) : Option β :=
  match P.underlying t with
  | some (.slice e) => (ty P e).ob fun u => need (zeroOk P e u) <|
    x.any?.ob fun n => (upto? n room).bind fun m =>
      match s with
      | .p .opq (.slice none 0 0) => need (roomOk P e m) <| newAt H id (.rows e u (List.replicate m u.zero)) fun H' => K (.slf u.cells id) H'
      | _ => none
  | _ => none
def splice {α : Type} (l : List α) (at_ : Nat) (m : List α) : List α := l.take at_ ++ m ++ l.drop (at_ + m.length)
def evCopy (t : TypeId) (d x : AV) (H : Hp) (K : AV → Hp → Option β) : Option β :=
  match P.underlying t with
  | some (.slice e) => (ty P e).ob fun u =>
    rowsOf H u x fun m =>
      match d with
      | .slf es id => match hget H id with
        | some ⟨false, .rows e' t l⟩ => dq t u (fun h => need (Nat.beq es u.cells) <|
            K (.i .i64 ((min m.length l.length : Nat) : Int)) (hset H id (some ⟨false, .rows e' u (splice (Ty.toL h l) 0 (m.take l.length))⟩))) none
        | _ => none
      | .sl es id off n => match hget H id with
        | some ⟨false, .rows e' t l⟩ => dq t u (fun h => need (Nat.beq es u.cells && Nat.ble (off + n) l.length) <|
            K (.i .i64 ((min m.length n : Nat) : Int)) (hset H id (some ⟨false, .rows e' u (splice (Ty.toL h l) off (m.take n))⟩))) none
        | _ => none
      | _ => none
  | _ => none
def evConvert (src dst : TypeId) (a : AV) (H : Hp) (K : AV → Option β) : Option β :=
  match P.underlying src, P.underlying dst with
  | some (.int ks), some (.int k) => (a.int? ks).ob fun n => K (.i k (k.wrap n))
  | some .string, some .string => a.str?.ob fun l => K (.s l)
  | some (.slice e), some .string => bq (isB P e) (rowsOf H .byte a fun l => K (.s l)) none
  | some (.slice _), some (.slice e) => none
  | _, _ => none
/-- Bytes out of a string: memory of the call's own; bytes out of bytes that are the call's own. -/
def evConvertW (src dst : TypeId) (a : AV) (id : Nat) (H : Hp) (K : AV → Hp → Option β) : Option β :=
  match P.underlying src, P.underlying dst with
  | some .string, some (.slice e) => bq (isB P e) (a.str?.ob fun l => need (Nat.ble l.length room) <| newAt H id (.rows e .byte l) fun H' => K (.slf 1 id) H') none
  | some (.slice _), some (.slice e) => match a with
    | .slf es old => match hget H old with
      | some ⟨false, .rows _ .byte l⟩ => bq (Nat.beq src dst && isB P e && Nat.beq es 1) (need (Nat.blt 0 (List.length (α := UInt8) l)) <| K (.slf es old) H) none
      | _ => none
    | _ => none
  | _, _ => none
def evMake (t : TypeId) (l c : AV) (id : Nat) (H : Hp) (K : AV → Hp → Option β) : Option β :=
  match P.underlying t with
  | some (.slice e) => l.any?.ob fun n => c.any?.ob fun m => (upto? m room).bind fun m' => (upto? n m').bind fun n' =>
      (ty P e).ob fun u => need (zeroOk P e u && Nat.ble (m' * P.bytesOf e) room) <|
        newAt H id (.rows e u (List.replicate n' u.zero)) fun H' => K (.slf u.cells id) H'
  | _ => none

/-! Maps -/
def isFuncT (t : TypeId) : Bool := match P.underlying t with | some (.func _ _ _) => true | _ => false
def evMakeMap (t : TypeId) (r : Option AV) (id : Nat) (H : Hp) (K : AV → Hp → Option β) : Option β :=
  match P.underlying t with
  | some (.map kt et) => (ty P kt).ob fun k => need (match r with | none => true | some a => a.any?.isSome) <|
    bq (isFuncT P et) (newAt H id (.fmap k []) fun H' => K (.mp id) H') ((ty P et).ob fun v => newAt H id (.map k v ([], 0)) fun H' => K (.mp id) H')
  | _ => none
def tupIf (c : Bool) (v : AV) (ok : Bool) : AV := bq c (.tup [v, .b ok]) v
def keyOk (kt : TypeId) (k : Ty) : Bool := decide (ty P kt = some k) && eqT P typesFuel kt k && k.keyed
/-- Is it the type of maps from k to v, whose keys are held as here, and whose zero is v's? -/
def mapOk (t : TypeId) (k v : Ty) : Bool :=
  match P.underlying t with
  | some (.map kt et) => keyOk P kt k && decide (ty P et = some v) && zeroOk P et v
  | _ => false
def fmapOk (t : TypeId) (k : Ty) : Bool :=
  match P.underlying t with
  | some (.map kt et) => keyOk P kt k && isFuncT P et && (match P.info? et with | some i => (match i.zero with | some .nilFunc => true | _ => false) | none => false)
  | _ => false
def fchain {k : Ty} : List (k.den × AV) → k.den → (Option AV → Option β) → Option β
  | [], _, K => K none
  | (a, b) :: r, x, K => bq (k.eqb x a) (K (some b)) (fchain r x K)
def lookRes (c : Bool) (v : Ty) (r : Option v.den) (K : AV → Option β) : Option β := K (tupIf c (.ofTy v (r.getD v.zero)) r.isSome)
def evLookup (t : TypeId) (m ix : AV) (c : Bool) (H : Hp) (K : AV → Option β) : Option β :=
  match m with
  | .mp id => match hget H id with
    | some ⟨_, .map k v M⟩ => need (mapOk P t k v) <| asA k ix fun key => lookRes c v (mget M key) K
    | some ⟨_, .fmap k l⟩ => need (fmapOk P t k) <| asA k ix fun key => fchain l key fun r => match r with
        | some y => K (tupIf c y true)
        | none => K (tupIf c (.p .opq .nilFunc) false)
    | _ => none
  | .p .opq (.map none) => match P.underlying t with
    | some (.map kt et) => (ty P kt).ob fun k => (ty P et).ob fun v => need (mapOk P t k v) <| asA k ix fun _ => lookRes c v none K
    | _ => none
  | _ => none
def noKey {k : Ty} : List (k.den × AV) → k.den → Bool
  | [], _ => true
  | (a, _) :: r, x => !k.eqb x a && noKey r x
def evMapUpd (t : TypeId) (m key x : AV) (H : Hp) (K : AV → Hp → Option β) : Option β :=
  match m with
  | .mp id => match hget H id with
    | some ⟨false, .fmap k l⟩ => need (fmapOk P t k) <| asA k key fun a => need (noKey l a) <| (cellsA x).ob fun c => need (Nat.beq c.length 1) <|
        K .junk (hset H id (some ⟨false, .fmap k (l ++ [(a, x)])⟩))
    | _ => (pureA H x).ob fun y => match hget y.2 id with
      | some ⟨false, .map k v M⟩ => need (mapOk P t k v) <| asA k key fun a => asA v y.1 fun b => K .junk (hset y.2 id (some ⟨false, .map k v (mput M a b)⟩))
      | _ => none
  | _ => none
def evMapEntry (t : TypeId) (m key : AV) (H : Hp) (K : AV → Hp → Option β) : Option β :=
  match m with
  | .mp id => match hget H id with
    | some ⟨false, .map k v M⟩ => need (mapOk P t k v && v.plain) <| asA k key fun a => K (.tup [.ofTy v ((mget M a).getD v.zero), .i .i64 (mborn M a : Int)]) (hset H id (some ⟨false, .map k v (ment M a)⟩))
    | _ => none
  | _ => none
def evEntryStore (m stamp x : AV) (H : Hp) (K : AV → Hp → Option β) : Option β :=
  match m with
  | .mp id => (pureA H x).ob fun y => match hget y.2 id with
    | some ⟨false, .map k v M⟩ => stamp.any?.ob fun n => asA v y.1 fun b => (mstore M n b).bind fun M' => K .junk (hset y.2 id (some ⟨false, .map k v M'⟩))
    | _ => none
  | _ => none
def evDelete (t : TypeId) (m key : AV) (H : Hp) (K : AV → Hp → Option β) : Option β :=
  match m with
  | .mp id => match hget H id with
    | some ⟨false, .map k v M⟩ => need (mapOk P t k v) <| asA k key fun a => K (.tup []) (hset H id (some ⟨false, .map k v (mdel M a)⟩))
    | _ => none
  | _ => none

/-! Building -/
def fillA : (Nat → Option (Nat × Nat)) → List AV → List (Nat × AV) → Option (List AV)
  | _, cells, [] => some cells
  | pl, cells, (i, v) :: rest => (pl i).ob fun x => (cellsA v).ob fun c =>
      bq (Nat.beq c.length x.2 && Nat.ble (x.1 + c.length) cells.length) (fillA pl (setFrom cells x.1 c) rest) none
def evBuild (t : TypeId) (parts : List (Nat × AV)) (K : AV → Option β) : Option β :=
  (zeroOf P t).ob fun z =>
  match P.underlying t with
  | some (.struct fs) => (fs.toList.mapM fun f => (P.info? f.type).map fun i => (f.offset, i.size)).ob fun places => (fillA (places.toArray[·]?) z parts).ob fun c => K (.agg c)
  | some (.array _ e) => (P.info? e).ob fun ie => (fillA (fun i => some (i * ie.size, ie.size)) z parts).ob fun c => K (.agg c)
  | _ => none
def evBuildSlice (t : TypeId) (len : Nat) (parts : List (Nat × AV)) (id : Nat) (H : Hp) (K : AV → Hp → Option β) : Option β :=
  match P.underlying t with
  | some (.slice e) => (zeroOf P e).ob fun z => (ty P e).ob fun u =>
      need (Nat.beq z.length u.cells && Nat.ble (len * z.length) 16777216) <|
      (fillA (fun i => some (i * P.cellsOf e, P.cellsOf e)) (List.replicate len z).flatten parts).ob fun c =>
      (pureL H c).ob fun x => asmN (asm u) u.cells len x.1 fun l => newAt x.2 id (.rows e u l) fun H' => K (.slf u.cells id) H'
  | _ => none

/-! Arithmetic -/
def bitsI (op : BinOp) (k : IntKind) (a b : Int) : Int :=
  match op with
  | .and => k.wrap ((BitVec.ofInt k.bits a &&& BitVec.ofInt k.bits b).toNat : Int)
  | .or => k.wrap ((BitVec.ofInt k.bits a ||| BitVec.ofInt k.bits b).toNat : Int)
  | .xor => k.wrap ((BitVec.ofInt k.bits a ^^^ BitVec.ofInt k.bits b).toNat : Int)
  | _ => k.wrap ((BitVec.ofInt k.bits a &&& ~~~ BitVec.ofInt k.bits b).toNat : Int)
def sameK (op : BinOp) (k k' : IntKind) : Bool := match op with | .shl | .shr => true | _ => k == k'
def evInt (op : BinOp) (k : IntKind) (a b : Int) (K : AV → Option β) : Option β :=
  match op with
  | .add => K (.i k (k.wrap (a + b)))
  | .sub => K (.i k (k.wrap (a - b)))
  | .mul => K (.i k (k.wrap (a * b)))
  | .quo => need (!decide (b = 0)) <| K (.i k (k.wrap (a.tdiv b)))
  | .rem => need (!decide (b = 0)) <| K (.i k (a.tmod b))
  | .and | .or | .xor | .andNot => K (.i k (bitsI op k a b))
  | .shl => need (decide (0 ≤ b)) <| K (.i k (k.wrap (a * 2 ^ (min b.toNat k.bits))))
  | .shr => need (decide (0 ≤ b)) <| K (.i k (a.fdiv (2 ^ (min b.toNat k.bits))))
  | .eql => K (.b (a == b))
  | .neq => K (.b (!(a == b)))
  | .lss => K (.b (decide (a < b)))
  | .leq => K (.b (decide (a ≤ b)))
  | .gtr => K (.b (decide (a > b)))
  | .geq => K (.b (decide (a ≥ b)))
def evStr (op : BinOp) (a b : List UInt8) (K : AV → Option β) : Option β :=
  match op with
  | .add => need (Nat.ble (a.length + b.length) room) <| K (.s (a ++ b))
  | .eql => K (.b (a == b))
  | .neq => K (.b (!(a == b)))
  | .lss => K (.b (Op.bytesLess a b))
  | .leq => K (.b (Op.bytesLess a b || a == b))
  | .gtr => K (.b (!(Op.bytesLess a b || a == b)))
  | .geq => K (.b (!Op.bytesLess a b))
  | _ => none
/-- Whether an empty slice is nil is not known: all must go on alike. -/
def nilQ (n : Nat) (K : Bool → Option β) : Option β :=
  @ite _ (n = 0 → K true = K false) (Classical.propDecidable _) (K false) none
/-- How much room a slice has is not known. -/
def capQ (n : Nat) (K : Int → Option β) : Option β :=
  @dite _ (∃ r, ∀ c : Nat, n ≤ c → c ≤ 9223372036854775807 → K (c : Int) = some r) (Classical.propDecidable _) (fun h => some h.choose) (fun _ => none)
/-- Is one of them nil? -/
def eqNilP (a b : AV) : Option Bool :=
  match a, b with
  | .p .opq (.pointer none), .p .opq (.pointer none) => some true
  | .own _ _ _ _, .p .opq (.pointer none) => some false
  | .p .opq (.pointer none), .own _ _ _ _ => some false
  | .pt _ _ _ _, .p .opq (.pointer none) => some false
  | .p .opq (.pointer none), .pt _ _ _ _ => some false
  | _, _ => none
def eqNilM (a b : AV) : Option Bool :=
  match a, b with
  | .mp _, .p .opq (.map none) => some false
  | .p .opq (.map none), .mp _ => some false
  | .p .opq (.map none), .p .opq (.map none) => some true
  | _, _ => none
def eqNilF (a b : AV) : Option Bool :=
  match a, b with
  | .p .opq .nilFunc, .p .opq .nilFunc => some true
  | .fn _ _ _, .p .opq .nilFunc => some false
  | .p .opq .nilFunc, .fn _ _ _ => some false
  | _, _ => none
def evEq (t : TypeId) (a b : AV) (H : Hp) (K : Bool → Option β) : Option β :=
  match P.underlying t with
  | some (.pointer _) => (eqNilP a b).ob K
  | some (.map _ _) => (eqNilM a b).ob K
  | some (.func _ _ _) => (eqNilF a b).ob K
  | some (.slice _) => match a, b with
    | .p .opq (.slice none 0 0), .p .opq (.slice none 0 0) => K true
    | a, .p .opq (.slice none 0 0) => lenS H a fun n => nilQ n K
    | .p .opq (.slice none 0 0), b => lenS H b fun n => nilQ n K
    | _, _ => none
  | _ => (ty P t).ob fun u => need (eqT P typesFuel t u && !P.eqGuardType P.depth t) <| asA u a fun x => asA u b fun y => K (u.eqb x y)
def evBin (op : BinOp) (t u : TypeId) (a b : AV) (H : Hp) (K : AV → Option β) : Option β :=
  match P.underlying t with
  | some (.int k) => match P.underlying u with
    | some (.int k') => (a.int? k).ob fun x => (b.int? k').ob fun y =>
        need (sameK op k k') <| evInt op k x y K
    | _ => none
  | some .string => a.str?.ob fun x => b.str?.ob fun y => evStr op x y K
  | _ => match op with
    | .eql => evEq P t a b H fun r => K (.b r)
    | .neq => evEq P t a b H fun r => K (.b (!r))
    | _ => none
def evUn (op : UnOp) (t : TypeId) (a : AV) (K : AV → Option β) : Option β :=
  match op, P.underlying t with
  | .not, some .bool => a.bool?.ob fun x => K (.b (!x))
  | .neg, some (.int k) => (a.int? k).ob fun x => K (.i k (k.wrap (0 - x)))
  | .xor, some (.int k) => (a.int? k).ob fun x => K (.i k (bitsI .xor k (if k.signed then -1 else k.max) x))
  | _, _ => none
def minI : List Int → Int → Int
  | [], m => m
  | y :: r, m => minI r (if y < m then y else m)
def maxI : List Int → Int → Int
  | [], m => m
  | y :: r, m => maxI r (if y > m then y else m)
def ints? (k : IntKind) : List AV → Option (List Int)
  | [] => some []
  | a :: r => (a.int? k).ob fun n => (ints? k r).map (n :: ·)
def evPick (t : TypeId) (c a b : AV) (K : AV → Option β) : Option β :=
  c.bool?.ob fun q => match P.underlying t with
    | some .bool => match a.bool?, b.bool? with
      | some x, some y => K (.b (bq q x y))
      | some x, none => need q <| K (.b x)
      | none, some y => need (!q) <| K (.b y)
      | none, none => none
    | _ => bq q (K a) (K b)
end
end
end
end Go.Ab
