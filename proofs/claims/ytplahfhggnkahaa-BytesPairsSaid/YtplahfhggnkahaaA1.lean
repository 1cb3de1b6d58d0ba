/- An abstract evaluator over the model's code, by definition: typed pure values, blocks of the call's own under small numbers. Program-independent. -/
import Derived.Calls
set_option linter.all false
namespace Go.Ab

/-! As 'bind' and 'cond', for what is known by the code alone. The kernel opens those of greater height first: hence the unit. -/
def hg1 : Unit := ()
def hg2 : Unit := hg1
def hg3 : Unit := hg2
def hg4 : Unit := hg3
def hg5 : Unit := hg4
def _root_.Option.ob {α β : Type} (x : Option α) (f : α → Option β) : Option β := (fun (_ : Unit) => match x with | some a => f a | none => none) hg5
/-- if b then x else y -/
def bq {α : Type} (b : Bool) (x y : α) : α := (fun (_ : Unit) => match b with | true => x | false => y) hg5

/-- What cells stand for. -/
inductive Ty where
  | int (k : IntKind) | byte | bool | str | opq | nat
  | sl (t : Ty) | one (t : Ty) | pair (a b : Ty) | arr (n : Nat) (t : Ty)
  deriving DecidableEq

@[reducible] def Ty.den : Ty → Type
  | .int _ => Int
  | .byte => UInt8
  | .bool => Bool
  | .str => List UInt8
  | .opq => Value
  | .nat => Nat
  | .sl t => List t.den
  | .one t => t.den
  | .pair a b => a.den × b.den
  | .arr _ t => List t.den

def Ty.cells : Ty → Nat
  | .one t => t.cells
  | .pair a b => a.cells + b.cells
  | .arr n t => n * t.cells
  | _ => 1
/-- Is its value one of several cells? -/
def Ty.isAgg : Ty → Bool
  | .one _ | .pair _ _ | .arr _ _ => true
  | _ => false
def Ty.zero : (t : Ty) → t.den
  | .int _ => (0 : Int)
  | .byte => (0 : UInt8)
  | .bool => false
  | .str => ([] : List UInt8)
  | .opq => .nilFunc
  | .nat => (0 : Nat)
  | .sl t => ([] : List t.den)
  | .one t => t.zero
  | .pair a b => (a.zero, b.zero)
  | .arr n t => List.replicate n t.zero
def listEqb {α : Type} (f : α → α → Bool) : List α → List α → Bool
  | [], [] => true
  | a :: l, b :: r => f a b && listEqb f l r
  | _, _ => false
/-- Are two the same? (scalars, and structs of them) -/
def Ty.eqb : (t : Ty) → t.den → t.den → Bool
  | .int _, (a : Int), (b : Int) => a == b
  | .byte, (a : UInt8), (b : UInt8) => a == b
  | .bool, (a : Bool), (b : Bool) => a == b
  | .str, (a : List UInt8), (b : List UInt8) => a == b
  | .one t, a, b => t.eqb a b
  | .pair s t, a, b => s.eqb a.1 b.1 && t.eqb a.2 b.2
  | .arr _ t, a, b => listEqb t.eqb a b
  | _, _, _ => false
def Ty.keyed : Ty → Bool
  | .int _ | .byte | .bool | .str => true
  | .one t => t.keyed
  | .pair s t => s.keyed && t.keyed
  | .arr _ t => t.keyed
  | _ => false

def Ty.to {t u : Ty} (h : t = u) (x : t.den) : u.den := h ▸ x
def Ty.toL {t u : Ty} (h : t = u) (l : List t.den) : List u.den := h ▸ l

/-! Maps: the entries, each with the number of its making; the next number -/
abbrev GMap (k v : Ty) : Type := List ((k.den × v.den) × Nat) × Nat
abbrev mapTy (k v : Ty) : Ty := .pair (.sl (.pair (.pair k v) .nat)) .nat
section
variable {k v : Ty}
def mfind : List ((k.den × v.den) × Nat) → k.den → Option (v.den × Nat)
  | [], _ => none
  | ((a, b), n) :: r, x => bif k.eqb x a then some (b, n) else mfind r x
def mget (m : GMap k v) (x : k.den) : Option v.den := (mfind m.1 x).map (·.1)
def mset : List ((k.den × v.den) × Nat) → k.den → v.den → List ((k.den × v.den) × Nat)
  | [], _, _ => []
  | ((a, b), n) :: r, x, y => bif k.eqb x a then ((x, y), n) :: r else ((a, b), n) :: mset r x y
def mput (m : GMap k v) (x : k.den) (y : v.den) : GMap k v :=
  match mfind m.1 x with
  | some _ => (mset m.1 x y, m.2)
  | none => (m.1 ++ [((x, y), m.2)], m.2 + 1)
def mdelL : List ((k.den × v.den) × Nat) → k.den → List ((k.den × v.den) × Nat)
  | [], _ => []
  | ((a, b), n) :: r, x => bif k.eqb x a then r else ((a, b), n) :: mdelL r x
def mdel (m : GMap k v) (x : k.den) : GMap k v := (mdelL m.1 x, m.2)
/-- An entry's number, made if it is not there. -/
def mborn (m : GMap k v) (x : k.den) : Nat :=
  match mfind m.1 x with
  | some e => e.2
  | none => m.2
def ment (m : GMap k v) (x : k.den) : GMap k v :=
  match mfind m.1 x with
  | some e => (mset m.1 x e.1, m.2)
  | none => (m.1 ++ [((x, v.zero), m.2)], m.2 + 1)
def msetN : List ((k.den × v.den) × Nat) → Int → v.den → Option (List ((k.den × v.den) × Nat))
  | [], _, _ => none
  | ((a, b), n) :: r, i, y => bif (n : Int) == i then some (((a, y), n) :: r) else (msetN r i y).map (((a, b), n) :: ·)
def mstore (m : GMap k v) (i : Int) (y : v.den) : Option (GMap k v) := (msetN m.1 i y).map fun l => (l, m.2)
end

/-- if the types are the same -/
def dq {β : Type} (t u : Ty) (K : t = u → Option β) (E : Option β) : Option β := (fun (_ : Unit) => match (inferInstance : Decidable (t = u)) with | .isTrue h => K h | .isFalse _ => E) hg5

/-! Tuples of typed things -/
def HL : List Ty → Type
  | [] => Unit
  | t :: r => t.den × HL r
@[reducible] def TD : List Ty → Type
  | [] => Unit
  | [t] => t.den
  | t :: u :: r => t.den × TD (u :: r)
def tidy : (ts : List Ty) → HL ts → TD ts
  | [], _ => ()
  | [_], x => x.1
  | _ :: u :: r, x => (x.1, tidy (u :: r) x.2)
def untidy : (ts : List Ty) → TD ts → HL ts
  | [], _ => ()
  | [_], x => (x, ())
  | _ :: u :: r, x => (x.1, untidy (u :: r) x.2)

inductive AV where
  /-- a pure value -/
  | p (t : Ty) (x : t.den)
  /-- a pointer into pure memory -/
  | pt (t : Ty) (l : List t.den) (i j : Nat)
  | own (es id i j : Nat)
  | sl (es id off n : Nat)
  /-- a block's whole slice -/
  | slf (es id : Nat)
  | mp (id : Nat)
  | fn (f : FuncId) (first caps : List AV)
  | agg (l : List AV)
  | tup (l : List AV)
  | junk
instance : Inhabited AV := ⟨.junk⟩

inductive Blk where
  | vars (c : List AV)
  | rows (e : TypeId) (t : Ty) (l : List t.den)
  | map (kt vt : Ty) (m : GMap kt vt)
  /-- a map to functions, written down -/
  | fmap (kt : Ty) (l : List (kt.den × AV))
structure Ent where
  fz : Bool
  b : Blk
abbrev Hp := List (Nat × Option Ent)

abbrev AV.i (k : IntKind) (n : Int) : AV := .p (.int k) n
abbrev AV.b (t : Bool) : AV := .p .bool t
abbrev AV.s (l : List UInt8) : AV := .p .str l
/-- A cell's content as a value. -/
def AV.ofTy : (t : Ty) → t.den → AV
  | .byte, c => .p (.int .u8) (c.toNat : Int)
  | t, x => .p t x

/-! Eliminators -/
def castTo {t : Ty} (x : t.den) (u : Ty) : Option u.den := if h : t = u then some (h ▸ x) else none
def nilSl : (t : Ty) → t.den → (u : Ty) → Option u.den
  | .opq, .slice none 0 0, .sl s => some ([] : List s.den)
  | _, _, _ => none
def fnOpq (f : FuncId) : (u : Ty) → Option u.den
  | .opq => some (.func (.func f) #[] #[])
  | _ => none
def AV.get? (u : Ty) : AV → Option u.den
  | .p t x => if h : t = u then some (h ▸ x) else nilSl t x u
  | .fn f [] [] => fnOpq f u
  | _ => none
def AV.int? (k : IntKind) (a : AV) : Option Int := a.get? (.int k)
def AV.bool? (a : AV) : Option Bool := a.get? .bool
def AV.str? (a : AV) : Option (List UInt8) := a.get? .str
/-- An integer of whatever kind. -/
def anyI : (t : Ty) → t.den → Option Int
  | .int _, n => some n
  | _, _ => none
def AV.any? : AV → Option Int
  | .p t x => anyI t x
  | _ => none
def AV.tup? : AV → Option (List AV)
  | .tup l => some l
  | _ => none

def byte? (n : Int) : Option UInt8 := if 0 ≤ n ∧ n < 256 then some (UInt8.ofNat n.toNat) else none
/-- An index. -/
def idx? (i : Int) (n : Nat) : Option Nat := if 0 ≤ i ∧ i < n then some i.toNat else none
/-- A bound of a slice. -/
def upto? (i : Int) (n : Nat) : Option Nat := if 0 ≤ i ∧ i ≤ n then some i.toNat else none
def need {β : Type} (b : Bool) (K : Option β) : Option β := (fun (_ : Unit) => match b with | true => K | false => none) hg3

/-! The heap -/
def hget : Hp → Nat → Option Ent
  | [], _ => none
  | (i, e) :: r, id => bif Nat.beq i id then e else hget r id
def hkey : Hp → Nat → Bool
  | [], _ => false
  | (i, _) :: r, id => bif Nat.beq i id then true else hkey r id
def hset : Hp → Nat → Option Ent → Hp
  | [], id, e => [(id, e)]
  | (i, x) :: r, id, e => bif Nat.beq i id then (i, e) :: r else (i, x) :: hset r id e

/-! Values and their cells -/
section
variable {β : Type}
def split : (t : Ty) → t.den → List AV
  | .one t, x => split t x
  | .pair a b, x => split a x.1 ++ split b x.2
  | .arr _ _, _ => []
  | t, x => [.ofTy t x]
def aggA : AV → Bool
  | .p t _ => t.isAgg
  | .agg _ => true
  | _ => false
def cellsA : AV → Option (List AV)
  | .p t x => bif Nat.beq (split t x).length t.cells then some (split t x) else none
  | .agg l => some l
  | .tup _ => none
  | .junk => none
  | a => some [a]
def asmN {δ : Type} (f : List AV → (δ → Option β) → Option β) (c : Nat) : Nat → List AV → (List δ → Option β) → Option β
  | 0, _, K => K []
  | n + 1, cs, K => f (cs.take c) fun x => asmN f c n (cs.drop c) fun l => K (x :: l)
/-- Cells as a typed value. -/
def asm : (t : Ty) → List AV → (t.den → Option β) → Option β
  | .byte, cs, K => ((cs.headD .junk).int? .u8).ob fun n => (byte? n).bind K
  | .one t, cs, K => asm t cs K
  | .pair a b, cs, K => asm a (cs.take a.cells) fun x => asm b (cs.drop a.cells) fun y => K (x, y)
  | .arr n t, cs, K => asmN (asm t) t.cells n cs K
  | u, cs, K => ((cs.headD .junk).get? u).ob K
/-- A value as a typed one. -/
def asC (u : Ty) (a : AV) (K : u.den → Option β) : Option β :=
  (cellsA a).ob fun cs => need (Nat.beq cs.length u.cells && (aggA a == u.isAgg)) <| asm u cs K
def asA (u : Ty) (a : AV) (K : u.den → Option β) : Option β :=
  match a with
  | .p t x => dq t u (fun h => K (Ty.to h x)) (asC u (.p t x) K)
  | a => asC u a K
/-- The part of type u at cell o. -/
def sub : (t : Ty) → t.den → Nat → (u : Ty) → (u.den → Option β) → Option β
  | .one t, x, o, u, K => dq (.one t) u (fun h => bq (Nat.beq o 0) (K (Ty.to h x)) none) (sub t x o u K)
  | .pair a b, x, o, u, K => dq (.pair a b) u (fun h => bq (Nat.beq o 0) (K (Ty.to h x)) none)
      (bq (Nat.blt o a.cells) (sub a x.1 o u K) (sub b x.2 (o - a.cells) u K))
  | t, x, o, u, K => dq t u (fun h => bq (Nat.beq o 0) (K (Ty.to h x)) none) none
def upd : (t : Ty) → t.den → Nat → (u : Ty) → u.den → (t.den → Option β) → Option β
  | .one t, x, o, u, y, K => dq u (.one t) (fun h => bq (Nat.beq o 0) (K (Ty.to h y)) none) (upd t x o u y K)
  | .pair a b, x, o, u, y, K => dq u (.pair a b) (fun h => bq (Nat.beq o 0) (K (Ty.to h y)) none)
      (bq (Nat.blt o a.cells) (upd a x.1 o u y fun z => K (z, x.2)) (upd b x.2 (o - a.cells) u y fun z => K (x.1, z)))
  | t, _, o, u, y, K => dq u t (fun h => bq (Nat.beq o 0) (K (Ty.to h y)) none) none
end

/-! Renaming of the blocks' numbers (what has no new number becomes junk) -/
mutual
def AV.ren (f : Nat → Option Nat) : AV → AV
  | .p t x => .p t x
  | .pt t l i j => .pt t l i j
  | .own es id i j => match f id with | some k => .own es k i j | none => .junk
  | .sl es id off n => match f id with | some k => .sl es k off n | none => .junk
  | .slf es id => match f id with | some k => .slf es k | none => .junk
  | .mp id => match f id with | some k => .mp k | none => .junk
  | .fn g a c => .fn g (AV.renL f a) (AV.renL f c)
  | .agg l => .agg (AV.renL f l)
  | .tup l => .tup (AV.renL f l)
  | .junk => .junk
def AV.renL (f : Nat → Option Nat) : List AV → List AV
  | [] => []
  | a :: l => AV.ren f a :: AV.renL f l
end
def Blk.ren (f : Nat → Option Nat) : Blk → Blk
  | .vars c => .vars (AV.renL f c)
  | .rows e t l => .rows e t l
  | .map k v m => .map k v m
  | .fmap k l => .fmap k (l.map fun x => (x.1, AV.ren f x.2))
def Ent.ren (f : Nat → Option Nat) (e : Ent) : Ent := ⟨e.fz, e.b.ren f⟩
mutual
def AV.ids : AV → List Nat
  | .own _ id _ _ => [id]
  | .sl _ id _ _ => [id]
  | .slf _ id => [id]
  | .mp id => [id]
  | .fn _ a c => AV.idsL a ++ AV.idsL c
  | .agg l => AV.idsL l
  | .tup l => AV.idsL l
  | _ => []
def AV.idsL : List AV → List Nat
  | [] => []
  | a :: l => AV.ids a ++ AV.idsL l
end
def Ent.ids (e : Ent) : List Nat :=
  match e.b with
  | .vars c => AV.idsL c
  | .fmap _ l => l.flatMap fun x => AV.ids x.2
  | _ => []
def memN (n : Nat) : List Nat → Bool
  | [] => false
  | i :: r => bif Nat.beq i n then true else memN n r
/-- The live numbers that can be come to, in the order in which they are met. -/
def reach (H : Hp) : Nat → List Nat → List Nat → List Nat
  | 0, _, acc => acc
  | _ + 1, [], acc => acc
  | n + 1, id :: todo, acc =>
    bif memN id acc then reach H n todo acc else
    match hget H id with
    | none => reach H n todo acc
    | some e => reach H n (e.ids ++ todo) (acc ++ [id])
def reachFuel : Nat := 1000
def nodupN : List Nat → Bool
  | [] => true
  | i :: r => !memN i r && nodupN r
/-- What a number becomes. -/
def noOf : List (Nat × Nat) → Nat → Option Nat
  | [], _ => none
  | (i, k) :: r, id => bif Nat.beq i id then some k else noOf r id
/-- The blocks of these numbers, under new ones. -/
def renH (H : Hp) (f : Nat → Option Nat) : List (Nat × Nat) → Hp
  | [] => []
  | (id, k) :: r => match hget H id with
    | some e => (k, some (e.ren f)) :: renH H f r
    | none => renH H f r
def liveAll (H : Hp) : List Nat → Bool
  | [] => true
  | i :: r => (match hget H i with | some _ => true | none => false) && liveAll H r
def allIn : List Nat → List Nat → Bool
  | [], _ => true
  | i :: r, l => memN i l && allIn r l
def eqN : List Nat → List Nat → Bool
  | [], [] => true
  | i :: r, k :: l => Nat.beq i k && eqN r l
  | _, _ => false
def rangeN : Nat → Nat → List Nat
  | _, 0 => []
  | k, n + 1 => k :: rangeN (k + 1) n
/-- Are numbers below n left alone? -/
def fixN (n : Nat) : List (Nat × Nat) → Bool
  | [] => true
  | (i, k) :: r => (Nat.beq i k || (Nat.ble n i && Nat.ble n k)) && fixN n r
/-- Numbers below n are keys. -/
def fillN (H : Hp) : Nat → Hp
  | 0 => H
  | n + 1 => bif hkey H n then fillN H n else (n, none) :: fillN H n
def zipN : List Nat → List Nat → List (Nat × Nat)
  | i :: r, k :: ks => (i, k) :: zipN r ks
  | _, _ => []
def fstN : List (Nat × Nat) → List Nat
  | [] => []
  | (i, _) :: r => i :: fstN r
def sndN : List (Nat × Nat) → List Nat
  | [] => []
  | (_, k) :: r => k :: sndN r

/-! The state -/
inductive Tr where
  | lf
  | nd (l : Tr) (v : AV) (r : Tr)
def Tr.get : Tr → Nat → AV
  | .lf, _ => .junk
  | .nd l v r, n => bif Nat.beq n 0 then v else bif Nat.beq (n % 2) 1 then l.get (n / 2) else r.get (n / 2 - 1)
def Tr.put : Tr → Nat → AV → Tr
  | .lf, _, _ => .lf
  | .nd l v r, n, a => bif Nat.beq n 0 then .nd l a r else bif Nat.beq (n % 2) 1 then .nd (l.put (n / 2) a) v r else .nd l v (r.put (n / 2 - 1) a)
def Tr.full : Nat → Tr
  | 0 => .lf
  | d + 1 => .nd (Tr.full d) .junk (Tr.full d)
structure St where
  tm : Tr
  nt : Nat
  /-- so many blocks came in -/
  n0 : Nat
  hp : Hp
/-- A constant. -/
def AV.lit : Value → AV
  | .int k n => .p (.int k) n
  | .bool b => .p .bool b
  | .string s => .p .str s.data.toList
  | .agg _ => .junk
  | .tuple _ => .junk
  | v => .p .opq v
def oneCells : List Value → Bool
  | [] => true
  | .agg _ :: _ => false
  | .tuple _ :: _ => false
  | _ :: r => oneCells r
def St.opnd (st : St) : Operand → AV
  | .tmp t => st.tm.get t
  | .const (.agg cs) => bq (oneCells cs.toList) (.agg (cs.toList.map AV.lit)) .junk
  | .const v => .lit v
  | .global _ => .junk
  | .func f => .fn f [] []
def St.putO (st : St) (d : Option Nat) (a : AV) : St :=
  match d with
  | some d => { st with tm := st.tm.put d a }
  | none => st
def dstOk (nt : Nat) : Option Nat → Bool
  | some d => Nat.blt d nt
  | none => true

/-! Shapes -/
mutual
inductive Kd where
  | p (t : Ty)
  | pt (t : Ty)
  | own (es id i j : Nat)
  | ownx (es id j : Nat)
  | sl (es id : Nat)
  | slf (es id : Nat)
  | mp (id : Nat)
  | any
  | fn (f : FuncId) (a c : KdL)
  | agg (l : KdL)
  | tup (l : KdL)
  | nilp (v : Value)
inductive KdL where
  | nil
  | cons (k : Kd) (r : KdL)
end
inductive BKd where
  | vars (l : KdL)
  | rows (e : TypeId) (t : Ty)
  | map (kt vt : Ty)
abbrev HK := List (Nat × Bool × BKd)
structure Shp where
  ks : KdL
  hs : HK

mutual
/-- The types of a shape's parts, ahead of others. -/
def Kd.lv : Kd → List Ty → List Ty
  | .p t, r => t :: r
  | .pt t, r => .sl t :: r
  | .ownx _ _ _, r => .nat :: r
  | .sl _ _, r => .nat :: .nat :: r
  | .fn _ a c, r => KdL.lv a (KdL.lv c r)
  | .agg l, r => KdL.lv l r
  | .tup l, r => KdL.lv l r
  | _, r => r
def KdL.lv : KdL → List Ty → List Ty
  | .nil, r => r
  | .cons k l, r => Kd.lv k (KdL.lv l r)
end
def BKd.lv : BKd → List Ty → List Ty
  | .vars l, r => l.lv r
  | .rows _ t, r => .sl t :: r
  | .map k v, r => mapTy k v :: r
def hkLv : HK → List Ty → List Ty
  | [], r => r
  | (_, _, k) :: l, r => k.lv (hkLv l r)
def Shp.tys (s : Shp) : List Ty := s.ks.lv (hkLv s.hs [])
@[reducible] def Shp.D (s : Shp) : Type := TD s.tys

mutual
/-- The numbers that a shape names. -/
def Kd.ids : Kd → List Nat
  | .own _ id _ _ => [id]
  | .ownx _ id _ => [id]
  | .sl _ id => [id]
  | .slf _ id => [id]
  | .mp id => [id]
  | .fn _ a c => KdL.ids a ++ KdL.ids c
  | .agg l => KdL.ids l
  | .tup l => KdL.ids l
  | _ => []
def KdL.ids : KdL → List Nat
  | .nil => []
  | .cons k l => Kd.ids k ++ KdL.ids l
end
def BKd.ids : BKd → List Nat
  | .vars l => l.ids
  | _ => []
def hkIds : HK → List Nat
  | [] => []
  | (_, _, k) :: r => k.ids ++ hkIds r
def hkKeys : HK → List Nat
  | [] => []
  | (id, _, _) :: r => id :: hkKeys r
def KdL.length : KdL → Nat
  | .nil => 0
  | .cons _ r => r.length + 1
def KdL.map : KdL → List Kd
  | .nil => []
  | .cons k r => k :: r.map

/-! From typed things to values -/
mutual
def emb : (k : Kd) → (r : List Ty) → HL (k.lv r) → AV × HL r
  | .p t, _, x => (.p t x.1, x.2)
  | .pt t, _, x => (.pt t x.1 0 0, x.2)
  | .own es id i j, _, x => (.own es id i j, x)
  | .ownx es id j, _, x => (.own es id x.1 j, x.2)
  | .sl es id, _, x => (.sl es id x.1 x.2.1, x.2.2)
  | .slf es id, _, x => (.slf es id, x)
  | .mp id, _, x => (.mp id, x)
  | .any, _, x => (.junk, x)
  | .fn f a c, r, x => let y := embL a (c.lv r) x; let z := embL c r y.2; (.fn f y.1 z.1, z.2)
  | .agg l, r, x => let y := embL l r x; (.agg y.1, y.2)
  | .tup l, r, x => let y := embL l r x; (.tup y.1, y.2)
  | .nilp v, _, x => (.p .opq v, x)
def embL : (k : KdL) → (r : List Ty) → HL (k.lv r) → List AV × HL r
  | .nil, _, x => ([], x)
  | .cons k l, r, x => let y := emb k (l.lv r) x; let z := embL l r y.2; (y.1 :: z.1, z.2)
end
def embB : (k : BKd) → (r : List Ty) → HL (k.lv r) → Blk × HL r
  | .vars l, r, x => let y := embL l r x; (.vars y.1, y.2)
  | .rows e t, _, x => (.rows e t x.1, x.2)
  | .map k v, _, x => (.map k v x.1, x.2)
def embH : (h : HK) → (r : List Ty) → HL (hkLv h r) → Hp × HL r
  | [], _, x => ([], x)
  | (id, fz, k) :: l, r, x => let y := embB k (hkLv l r) x; let z := embH l r y.2; ((id, some ⟨fz, y.1⟩) :: z.1, z.2)
def Shp.emb (s : Shp) (t : s.D) : List AV × Hp :=
  let y := embL s.ks (hkLv s.hs []) (untidy s.tys t)
  (y.1, (embH s.hs [] y.2).1)

/-- One of several shapes. -/
@[reducible] def OutS : List Shp → Type
  | [] => Empty
  | [s] => s.D
  | s :: t :: r => s.D ⊕ OutS (t :: r)
def OutS.on {γ : Type} : (l : List Shp) → OutS l → ((s : Shp) → s.D → γ) → γ
  | [], x, _ => Empty.elim x
  | [s], x, K => K s x
  | s :: t :: r, x, K => match x with
    | .inl y => K s y
    | .inr y => OutS.on (t :: r) y K

/-! From values to typed things -/
def AV.own? (es id i j : Nat) : AV → Bool
  | .own es' id' i' j' => Nat.beq es es' && Nat.beq id id' && Nat.beq i i' && Nat.beq j j'
  | _ => false
def AV.ownx? (es id j : Nat) : AV → Option Nat
  | .own es' id' i j' => bif Nat.beq es es' && Nat.beq id id' && Nat.beq j j' then some i else none
  | _ => none
def AV.sl? (es id : Nat) : AV → Option (Nat × Nat)
  | .sl es' id' i n => bif Nat.beq es es' && Nat.beq id id' then some (i, n) else none
  | _ => none
def AV.slf? (es id : Nat) : AV → Bool
  | .slf es' id' => Nat.beq es es' && Nat.beq id id'
  | _ => false
def AV.mp? (id : Nat) : AV → Bool
  | .mp id' => Nat.beq id id'
  | _ => false
def AV.pt? (u : Ty) : AV → Option (List u.den)
  | .pt t l 0 0 => if h : t = u then some (h ▸ l) else none
  | _ => none
def AV.fn? (f : FuncId) : AV → Option (List AV × List AV)
  | .fn g a c => bif Nat.beq f g then some (a, c) else none
  | .p .opq (.func (.func g) a c) => bif Nat.beq f g && (Nat.beq a.size 0 && Nat.beq c.size 0) then some ([], []) else none
  | _ => none
def nilV? : Value → Value → Bool
  | .pointer none, .pointer none => true
  | .map none, .map none => true
  | .slice none 0 0, .slice none 0 0 => true
  | .nilFunc, .nilFunc => true
  | _, _ => false
def AV.nil? (v : Value) : AV → Bool
  | .p .opq x => nilV? v x
  | _ => false

section
variable {β : Type}
mutual
def co : (k : Kd) → (r : List Ty) → AV → HL r → (HL (k.lv r) → Option β) → Option β
  | .p t, _, a, x, K => asA t a fun y => K (y, x)
  | .pt t, _, a, x, K => (a.pt? t).ob fun l => K (l, x)
  | .own es id i j, _, a, x, K => need (a.own? es id i j) <| K x
  | .ownx es id j, _, a, x, K => (a.ownx? es id j).ob fun y => K (y, x)
  | .sl es id, _, a, x, K => (a.sl? es id).ob fun y => K (y.1, y.2, x)
  | .slf es id, _, a, x, K => need (a.slf? es id) <| K x
  | .mp id, _, a, x, K => need (a.mp? id) <| K x
  | .any, _, _, x, K => K x
  | .fn f ka kc, r, a, x, K => (a.fn? f).ob fun y => need (Nat.beq y.1.length ka.length && Nat.beq y.2.length kc.length) <|
      coL kc r y.2 x fun x1 => coL ka (kc.lv r) y.1 x1 K
  | .agg l, r, a, x, K => (cellsA a).ob fun c => need (aggA a && Nat.beq c.length l.length) <| coL l r c x K
  | .tup l, r, a, x, K => a.tup?.ob fun c => need (Nat.beq c.length l.length) <| coL l r c x K
  | .nilp v, _, a, x, K => need (a.nil? v) <| K x
def coL : (k : KdL) → (r : List Ty) → List AV → HL r → (HL (k.lv r) → Option β) → Option β
  | .nil, _, _, x, K => K x
  | .cons k l, r, c, x, K => coL l r c.tail x fun x1 => co k (l.lv r) (c.headD .junk) x1 K
end
def castL {t : Ty} (l : List t.den) (u : Ty) : Option (List u.den) := if h : t = u then some (h ▸ l) else none
def Blk.vars? (n : Nat) : Blk → Option (List AV)
  | .vars c => bif Nat.beq c.length n then some c else none
  | _ => none
def Blk.rows? (e : TypeId) (u : Ty) : Blk → Option (List u.den)
  | .rows e' t l => bif Nat.beq e e' then (if h : t = u then some (h ▸ l) else none) else none
  | _ => none
def Blk.map? (k v : Ty) : Blk → Option (GMap k v)
  | .map k' v' m => if h : mapTy k' v' = mapTy k v then some (Ty.to h m) else none
  | _ => none
def coB : (k : BKd) → (r : List Ty) → Blk → HL r → (HL (k.lv r) → Option β) → Option β
  | .vars l, r, b, x, K => (b.vars? l.length).ob fun c => coL l r c x K
  | .rows e t, _, b, x, K => (b.rows? e t).ob fun l => K (l, x)
  | .map k v, _, b, x, K => (b.map? k v).ob fun m => K (m, x)
def hblk? (fz : Bool) (H : Hp) (id : Nat) : Option Blk :=
  match hget H id with
  | some e => bif e.fz == fz then some e.b else none
  | none => none
/-- The heap's blocks of these numbers, no others. -/
def coH : (h : HK) → (r : List Ty) → Hp → HL r → (HL (hkLv h r) → Option β) → Option β
  | [], _, _, x, K => K x
  | (id, fz, k) :: l, r, H, x, K => (hblk? fz H id).ob fun b => coH l r H x fun x1 => coB k (hkLv l r) b x1 K
/-- All numbers that the shape names are its blocks'. -/
def Shp.ok (s : Shp) : Bool := nodupN (hkKeys s.hs) && allIn (s.ks.ids ++ hkIds s.hs) (hkKeys s.hs)
def Shp.co (s : Shp) (vs : List AV) (H : Hp) (K : s.D → Option β) : Option β :=
  need (s.ok && Nat.beq vs.length s.ks.length) <|
  coH s.hs [] H () fun x => coL s.ks (hkLv s.hs []) vs x fun y => K (tidy s.tys y)
end

/-! Which shape is it? -/
mutual
def Kd.fits : Kd → AV → Bool
  | .p t, a => match a with
    | .p t' x => decide (t' = t) || (nilSl t' x t).isSome || t'.isAgg
    | .agg _ => t.isAgg
    | .fn _ [] [] => decide (t = .opq)
    | _ => false
  | .pt _, a => match a with
    | .pt _ _ _ _ => true
    | _ => false
  | .own es id i j, a => a.own? es id i j
  | .ownx es id j, a => (a.ownx? es id j).isSome
  | .sl es id, a => (a.sl? es id).isSome
  | .slf es id, a => a.slf? es id
  | .mp id, a => a.mp? id
  | .any, _ => true
  | .fn f _ _, a => (a.fn? f).isSome
  | .agg l, a => match cellsA a with
    | some c => Nat.beq c.length l.length && KdL.fits l c
    | none => false
  | .tup l, a => match a with
    | .tup c => Nat.beq c.length l.length && KdL.fits l c
    | _ => false
  | .nilp v, a => a.nil? v
def KdL.fits : KdL → List AV → Bool
  | .nil, _ => true
  | .cons k l, c => k.fits (c.headD .junk) && l.fits c.tail
end
def hkFits : HK → Hp → Bool
  | [], _ => true
  | (id, fz, _) :: r, H => (match hget H id with | some e => e.fz == fz | none => false) && hkFits r H

/-! Slots -/
def AV.noRef : AV → Bool
  | .p _ _ => true
  | .pt _ _ _ _ => true
  | a => (AV.ids a).isEmpty
def Tr.keep : Tr → Tr
  | .lf => .lf
  | .nd l v r => .nd l.keep (bif v.noRef then v else .junk) r.keep
def Tr.junk (t : Tr) : List Nat → Tr
  | [] => t
  | k :: r => (t.put k .junk).junk r
structure LShp where
  live : List Nat
  s : Shp
abbrev LShp.D (s : LShp) : Type := s.s.D
/-- Renamed, the rest forgotten. -/
def Shp.rco {β : Type} (s : Shp) (vs : List AV) (H : Hp) (pairs : List (Nat × Nat)) (K : s.D → Option β) : Option β :=
  need (nodupN (fstN pairs) && nodupN (sndN pairs) && liveAll H (fstN pairs)) <| s.co (AV.renL (noOf pairs) vs) (renH H (noOf pairs) pairs) K
def OutS.rco {β : Type} (vs : List AV) (H : Hp) (pairs : List (Nat × Nat)) : (l : List Shp) → (OutS l → Option β) → Option β
  | [], _ => none
  | [s], K => s.rco vs H pairs K
  | s :: t :: r, K => bq (s.ks.fits (AV.renL (noOf pairs) vs) && hkFits s.hs (renH H (noOf pairs) pairs)) (s.rco vs H pairs fun x => K (.inl x)) (OutS.rco vs H pairs (t :: r) fun x => K (.inr x))
def St.prj {β : Type} (st : St) (sh : LShp) (K : sh.D → Option β) : Option β :=
  let vs := sh.live.map st.tm.get
  let ps := zipN (reach st.hp reachFuel (AV.idsL vs) []) (hkKeys sh.s.hs)
  need (fixN st.n0 ps) <| sh.s.rco vs st.hp ps K
def unTm : List Nat → List AV → Tr → Tr
  | k :: r, a :: l, t => unTm r l (t.put k a)
  | _, _, t => t
def LShp.inj (sh : LShp) (base : Tr) (nt n0 : Nat) (t : sh.D) : St :=
  let y := sh.s.emb t
  ⟨unTm sh.live y.1 base, nt, n0, fillN y.2 n0⟩

/-! Loops, and ways out -/
def fuel : Nat := 4611686018427387904
def iter {τ ο : Type} : Nat → (τ → Option (τ ⊕ ο)) → τ → Option ο
  | 0, _, _ => none
  | n + 1, f, s => (f s).ob fun r => match r with
    | .inl s' => iter n f s'
    | .inr o => some o
/-- Which way out, with what: the last one is the function's return, if there is one. -/
@[reducible] def Out (ret : Bool) : List (Nat × LShp) → Type → Type
  | [], β => bif ret then β else Empty
  | [(_, s)], β => bif ret then s.D ⊕ β else s.D
  | (_, s) :: o :: r, β => s.D ⊕ Out ret (o :: r) β
def Out.ret {β : Type} : (l : List (Nat × LShp)) → β → Out true l β
  | [], b => b
  | [_], b => .inr b
  | _ :: o :: r, b => .inr (Out.ret (o :: r) b)
/-- The state leaves by number i. -/
def Out.mk {β γ : Type} (st : St) : (ret : Bool) → (l : List (Nat × LShp)) → Nat → (Out ret l β → Option γ) → Option γ
  | _, [], _, _ => none
  | true, [(j, s)], i, K => bq (Nat.beq j i) (st.prj s fun t => K (.inl t)) none
  | false, [(j, s)], i, K => bq (Nat.beq j i) (st.prj s fun t => K t) none
  | ret, (j, s) :: o :: r, i, K => bq (Nat.beq j i) (st.prj s fun t => K (.inl t)) (Out.mk st ret (o :: r) i fun x => K (.inr x))
def Out.on {β : Type} (base : Tr) (nt n0 : Nat) : (ret : Bool) → (l : List (Nat × LShp)) → Out ret l β → (Nat → St → Option β) → (β → Option β) → Option β
  | true, [], x, _, R => R x
  | false, [], x, _, _ => Empty.elim x
  | true, [(j, s)], x, X, R => match x with | .inl t => X j (s.inj base nt n0 t) | .inr b => R b
  | false, [(j, s)], x, X, _ => X j (s.inj base nt n0 x)
  | ret, (j, s) :: o :: r, x, X, R => match x with | .inl t => X j (s.inj base nt n0 t) | .inr y => Out.on base nt n0 ret (o :: r) y X R
end Go.Ab
