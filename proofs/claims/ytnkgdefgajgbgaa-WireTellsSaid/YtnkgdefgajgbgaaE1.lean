/- An evaluator of the model's code over plain values, and its soundness; of no program. -/
import Derived.Calls
import Derived.Laws.Sem
import Derived.Deep.MidRow
import Derived.Below
import Derived.Laws.StructEq
import Derived.Laws.Cover3
import Derived.ChangeKeysEq
import Derived.Laws.BytesString
set_option linter.all false
/- An abstract evaluator over the model's code, by definition: typed pure values, blocks of the call's own under small numbers. Program-independent. -/
namespace Go.Ab

/-! As 'bind' and 'cond', for what is known by the code alone. The kernel opens those of greater height first: hence the unit. -/
def hg1 : Unit := ()
def hg2 : Unit := hg1
def hg3 : Unit := hg2
def hg4 : Unit := hg3
def hg5 : Unit := hg4
def _root_.Option.ob {α β : Type} (x : Option α) (f : α → Option β) : Option β := (fun (_ : Unit) => match x with | some a => f a | none => none) hg5
/-- if b then x else y -/
def bq {α : Type} (b : Bool) (x y : α) : α := (fun (_ : Unit) => match b with | true => x | false => y) hg5

/-- What cells stand for. -/
inductive Ty where
  | int (k : IntKind) | byte | bool | str | opq | nat
  | sl (t : Ty) | one (t : Ty) | pair (a b : Ty) | arr (n : Nat) (t : Ty)
  deriving DecidableEq

@[reducible] def Ty.den : Ty → Type
  | .int _ => Int
  | .byte => UInt8
  | .bool => Bool
  | .str => List UInt8
  | .opq => Value
  | .nat => Nat
  | .sl t => List t.den
  | .one t => t.den
  | .pair a b => a.den × b.den
  | .arr _ t => List t.den

def Ty.cells : Ty → Nat
  | .one t => t.cells
  | .pair a b => a.cells + b.cells
  | .arr n t => n * t.cells
  | _ => 1
/-- Is its value one of several cells? -/
def Ty.isAgg : Ty → Bool
  | .one _ | .pair _ _ | .arr _ _ => true
  | _ => false
def Ty.zero : (t : Ty) → t.den
  | .int _ => (0 : Int)
  | .byte => (0 : UInt8)
  | .bool => false
  | .str => ([] : List UInt8)
  | .opq => .nilFunc
  | .nat => (0 : Nat)
  | .sl t => ([] : List t.den)
  | .one t => t.zero
  | .pair a b => (a.zero, b.zero)
  | .arr n t => List.replicate n t.zero
def listEqb {α : Type} (f : α → α → Bool) : List α → List α → Bool
  | [], [] => true
  | a :: l, b :: r => f a b && listEqb f l r
  | _, _ => false
/-- Are two the same? (scalars, and structs of them) -/
def Ty.eqb : (t : Ty) → t.den → t.den → Bool
  | .int _, (a : Int), (b : Int) => a == b
  | .byte, (a : UInt8), (b : UInt8) => a == b
  | .bool, (a : Bool), (b : Bool) => a == b
  | .str, (a : List UInt8), (b : List UInt8) => a == b
  | .one t, a, b => t.eqb a b
  | .pair s t, a, b => s.eqb a.1 b.1 && t.eqb a.2 b.2
  | .arr _ t, a, b => listEqb t.eqb a b
  | _, _, _ => false
def Ty.keyed : Ty → Bool
  | .int _ | .byte | .bool | .str => true
  | .one t => t.keyed
  | .pair s t => s.keyed && t.keyed
  | .arr _ t => t.keyed
  | _ => false

def Ty.to {t u : Ty} (h : t = u) (x : t.den) : u.den := h ▸ x
def Ty.toL {t u : Ty} (h : t = u) (l : List t.den) : List u.den := h ▸ l

/-! Maps: the entries, each with the number of its making; the next number -/
abbrev GMap (k v : Ty) : Type := List ((k.den × v.den) × Nat) × Nat
abbrev mapTy (k v : Ty) : Ty := .pair (.sl (.pair (.pair k v) .nat)) .nat
section
variable {k v : Ty}
def mfind : List ((k.den × v.den) × Nat) → k.den → Option (v.den × Nat)
  | [], _ => none
  | ((a, b), n) :: r, x => bif k.eqb x a then some (b, n) else mfind r x
def mget (m : GMap k v) (x : k.den) : Option v.den := (mfind m.1 x).map (·.1)
def mset : List ((k.den × v.den) × Nat) → k.den → v.den → List ((k.den × v.den) × Nat)
  | [], _, _ => []
  | ((a, b), n) :: r, x, y => bif k.eqb x a then ((x, y), n) :: r else ((a, b), n) :: mset r x y
def mput (m : GMap k v) (x : k.den) (y : v.den) : GMap k v :=
  match mfind m.1 x with
  | some _ => (mset m.1 x y, m.2)
  | none => (m.1 ++ [((x, y), m.2)], m.2 + 1)
def mdelL : List ((k.den × v.den) × Nat) → k.den → List ((k.den × v.den) × Nat)
  | [], _ => []
  | ((a, b), n) :: r, x => bif k.eqb x a then r else ((a, b), n) :: mdelL r x
def mdel (m : GMap k v) (x : k.den) : GMap k v := (mdelL m.1 x, m.2)
/-- An entry's number, made if it is not there. -/
def mborn (m : GMap k v) (x : k.den) : Nat :=
  match mfind m.1 x with
  | some e => e.2
  | none => m.2
def ment (m : GMap k v) (x : k.den) : GMap k v :=
  match mfind m.1 x with
  | some e => (mset m.1 x e.1, m.2)
  | none => (m.1 ++ [((x, v.zero), m.2)], m.2 + 1)
def msetN : List ((k.den × v.den) × Nat) → Int → v.den → Option (List ((k.den × v.den) × Nat))
  | [], _, _ => none
  | ((a, b), n) :: r, i, y => bif (n : Int) == i then some (((a, y), n) :: r) else (msetN r i y).map (((a, b), n) :: ·)
def mstore (m : GMap k v) (i : Int) (y : v.den) : Option (GMap k v) := (msetN m.1 i y).map fun l => (l, m.2)
end

/-- if the types are the same -/
def dq {β : Type} (t u : Ty) (K : t = u → Option β) (E : Option β) : Option β := (fun (_ : Unit) => match (inferInstance : Decidable (t = u)) with | .isTrue h => K h | .isFalse _ => E) hg5

/-! Tuples of typed things -/
def HL : List Ty → Type
  | [] => Unit
  | t :: r => t.den × HL r
@[reducible] def TD : List Ty → Type
  | [] => Unit
  | [t] => t.den
  | t :: u :: r => t.den × TD (u :: r)
def tidy : (ts : List Ty) → HL ts → TD ts
  | [], _ => ()
  | [_], x => x.1
  | _ :: u :: r, x => (x.1, tidy (u :: r) x.2)
def untidy : (ts : List Ty) → TD ts → HL ts
  | [], _ => ()
  | [_], x => (x, ())
  | _ :: u :: r, x => (x.1, untidy (u :: r) x.2)

inductive AV where
  /-- a pure value -/
  | p (t : Ty) (x : t.den)
  /-- a pointer into pure memory -/
  | pt (t : Ty) (l : List t.den) (i j : Nat)
  | own (es id i j : Nat)
  | sl (es id off n : Nat)
  /-- a block's whole slice -/
  | slf (es id : Nat)
  | mp (id : Nat)
  | fn (f : FuncId) (first caps : List AV)
  | agg (l : List AV)
  | tup (l : List AV)
  | junk
instance : Inhabited AV := ⟨.junk⟩

inductive Blk where
  | vars (c : List AV)
  | rows (e : TypeId) (t : Ty) (l : List t.den)
  | map (kt vt : Ty) (m : GMap kt vt)
  /-- a map to functions, written down -/
  | fmap (kt : Ty) (l : List (kt.den × AV))
structure Ent where
  fz : Bool
  b : Blk
abbrev Hp := List (Nat × Option Ent)

abbrev AV.i (k : IntKind) (n : Int) : AV := .p (.int k) n
abbrev AV.b (t : Bool) : AV := .p .bool t
abbrev AV.s (l : List UInt8) : AV := .p .str l
/-- A cell's content as a value. -/
def AV.ofTy : (t : Ty) → t.den → AV
  | .byte, c => .p (.int .u8) (c.toNat : Int)
  | t, x => .p t x

/-! Eliminators -/
def castTo {t : Ty} (x : t.den) (u : Ty) : Option u.den := if h : t = u then some (h ▸ x) else none
def nilSl : (t : Ty) → t.den → (u : Ty) → Option u.den
  | .opq, .slice none 0 0, .sl s => some ([] : List s.den)
  | _, _, _ => none
def fnOpq (f : FuncId) : (u : Ty) → Option u.den
  | .opq => some (.func (.func f) #[] #[])
  | _ => none
def AV.get? (u : Ty) : AV → Option u.den
  | .p t x => if h : t = u then some (h ▸ x) else nilSl t x u
  | .fn f [] [] => fnOpq f u
  | _ => none
def AV.int? (k : IntKind) (a : AV) : Option Int := a.get? (.int k)
def AV.bool? (a : AV) : Option Bool := a.get? .bool
def AV.str? (a : AV) : Option (List UInt8) := a.get? .str
/-- An integer of whatever kind. -/
def anyI : (t : Ty) → t.den → Option Int
  | .int _, n => some n
  | _, _ => none
def AV.any? : AV → Option Int
  | .p t x => anyI t x
  | _ => none
def AV.tup? : AV → Option (List AV)
  | .tup l => some l
  | _ => none

def byte? (n : Int) : Option UInt8 := if 0 ≤ n ∧ n < 256 then some (UInt8.ofNat n.toNat) else none
/-- An index. -/
def idx? (i : Int) (n : Nat) : Option Nat := if 0 ≤ i ∧ i < n then some i.toNat else none
/-- A bound of a slice. -/
def upto? (i : Int) (n : Nat) : Option Nat := if 0 ≤ i ∧ i ≤ n then some i.toNat else none
def need {β : Type} (b : Bool) (K : Option β) : Option β := (fun (_ : Unit) => match b with | true => K | false => none) hg3

/-! The heap -/
def hget : Hp → Nat → Option Ent
  | [], _ => none
  | (i, e) :: r, id => bif Nat.beq i id then e else hget r id
def hkey : Hp → Nat → Bool
  | [], _ => false
  | (i, _) :: r, id => bif Nat.beq i id then true else hkey r id
def hset : Hp → Nat → Option Ent → Hp
  | [], id, e => [(id, e)]
  | (i, x) :: r, id, e => bif Nat.beq i id then (i, e) :: r else (i, x) :: hset r id e

/-! Values and their cells -/
section
variable {β : Type}
def split : (t : Ty) → t.den → List AV
  | .one t, x => split t x
  | .pair a b, x => split a x.1 ++ split b x.2
  | .arr _ _, _ => []
  | t, x => [.ofTy t x]
def aggA : AV → Bool
  | .p t _ => t.isAgg
  | .agg _ => true
  | _ => false
def cellsA : AV → Option (List AV)
  | .p t x => bif Nat.beq (split t x).length t.cells then some (split t x) else none
  | .agg l => some l
  | .tup _ => none
  | .junk => none
  | a => some [a]
def asmN {δ : Type} (f : List AV → (δ → Option β) → Option β) (c : Nat) : Nat → List AV → (List δ → Option β) → Option β
  | 0, _, K => K []
  | n + 1, cs, K => f (cs.take c) fun x => asmN f c n (cs.drop c) fun l => K (x :: l)
/-- Cells as a typed value. -/
def asm : (t : Ty) → List AV → (t.den → Option β) → Option β
  | .byte, cs, K => ((cs.headD .junk).int? .u8).ob fun n => (byte? n).bind K
  | .one t, cs, K => asm t cs K
  | .pair a b, cs, K => asm a (cs.take a.cells) fun x => asm b (cs.drop a.cells) fun y => K (x, y)
  | .arr n t, cs, K => asmN (asm t) t.cells n cs K
  | u, cs, K => ((cs.headD .junk).get? u).ob K
/-- A value as a typed one. -/
def asC (u : Ty) (a : AV) (K : u.den → Option β) : Option β :=
  (cellsA a).ob fun cs => need (Nat.beq cs.length u.cells && (aggA a == u.isAgg)) <| asm u cs K
def asA (u : Ty) (a : AV) (K : u.den → Option β) : Option β :=
  match a with
  | .p t x => dq t u (fun h => K (Ty.to h x)) (asC u (.p t x) K)
  | a => asC u a K
/-- The part of type u at cell o. -/
def sub : (t : Ty) → t.den → Nat → (u : Ty) → (u.den → Option β) → Option β
  | .one t, x, o, u, K => dq (.one t) u (fun h => bq (Nat.beq o 0) (K (Ty.to h x)) none) (sub t x o u K)
  | .pair a b, x, o, u, K => dq (.pair a b) u (fun h => bq (Nat.beq o 0) (K (Ty.to h x)) none)
      (bq (Nat.blt o a.cells) (sub a x.1 o u K) (sub b x.2 (o - a.cells) u K))
  | t, x, o, u, K => dq t u (fun h => bq (Nat.beq o 0) (K (Ty.to h x)) none) none
def upd : (t : Ty) → t.den → Nat → (u : Ty) → u.den → (t.den → Option β) → Option β
  | .one t, x, o, u, y, K => dq u (.one t) (fun h => bq (Nat.beq o 0) (K (Ty.to h y)) none) (upd t x o u y K)
  | .pair a b, x, o, u, y, K => dq u (.pair a b) (fun h => bq (Nat.beq o 0) (K (Ty.to h y)) none)
      (bq (Nat.blt o a.cells) (upd a x.1 o u y fun z => K (z, x.2)) (upd b x.2 (o - a.cells) u y fun z => K (x.1, z)))
  | t, _, o, u, y, K => dq u t (fun h => bq (Nat.beq o 0) (K (Ty.to h y)) none) none
end

/-! Renaming of the blocks' numbers (what has no new number becomes junk) -/
mutual
def AV.ren (f : Nat → Option Nat) : AV → AV
  | .p t x => .p t x
  | .pt t l i j => .pt t l i j
  | .own es id i j => match f id with | some k => .own es k i j | none => .junk
  | .sl es id off n => match f id with | some k => .sl es k off n | none => .junk
  | .slf es id => match f id with | some k => .slf es k | none => .junk
  | .mp id => match f id with | some k => .mp k | none => .junk
  | .fn g a c => .fn g (AV.renL f a) (AV.renL f c)
  | .agg l => .agg (AV.renL f l)
  | .tup l => .tup (AV.renL f l)
  | .junk => .junk
def AV.renL (f : Nat → Option Nat) : List AV → List AV
  | [] => []
  | a :: l => AV.ren f a :: AV.renL f l
end
def Blk.ren (f : Nat → Option Nat) : Blk → Blk
  | .vars c => .vars (AV.renL f c)
  | .rows e t l => .rows e t l
  | .map k v m => .map k v m
  | .fmap k l => .fmap k (l.map fun x => (x.1, AV.ren f x.2))
def Ent.ren (f : Nat → Option Nat) (e : Ent) : Ent := ⟨e.fz, e.b.ren f⟩
mutual
def AV.ids : AV → List Nat
  | .own _ id _ _ => [id]
  | .sl _ id _ _ => [id]
  | .slf _ id => [id]
  | .mp id => [id]
  | .fn _ a c => AV.idsL a ++ AV.idsL c
  | .agg l => AV.idsL l
  | .tup l => AV.idsL l
  | _ => []
def AV.idsL : List AV → List Nat
  | [] => []
  | a :: l => AV.ids a ++ AV.idsL l
end
def Ent.ids (e : Ent) : List Nat :=
  match e.b with
  | .vars c => AV.idsL c
  | .fmap _ l => l.flatMap fun x => AV.ids x.2
  | _ => []
def memN (n : Nat) : List Nat → Bool
  | [] => false
  | i :: r => bif Nat.beq i n then true else memN n r
/-- The live numbers that can be come to, in the order in which they are met. -/
def reach (H : Hp) : Nat → List Nat → List Nat → List Nat
  | 0, _, acc => acc
  | _ + 1, [], acc => acc
  | n + 1, id :: todo, acc =>
    bif memN id acc then reach H n todo acc else
    match hget H id with
    | none => reach H n todo acc
    | some e => reach H n (e.ids ++ todo) (acc ++ [id])
def reachFuel : Nat := 1000
def nodupN : List Nat → Bool
  | [] => true
  | i :: r => !memN i r && nodupN r
/-- What a number becomes. -/
def noOf : List (Nat × Nat) → Nat → Option Nat
  | [], _ => none
  | (i, k) :: r, id => bif Nat.beq i id then some k else noOf r id
/-- The blocks of these numbers, under new ones. -/
def renH (H : Hp) (f : Nat → Option Nat) : List (Nat × Nat) → Hp
  | [] => []
  | (id, k) :: r => match hget H id with
    | some e => (k, some (e.ren f)) :: renH H f r
    | none => renH H f r
def liveAll (H : Hp) : List Nat → Bool
  | [] => true
  | i :: r => (match hget H i with | some _ => true | none => false) && liveAll H r
def allIn : List Nat → List Nat → Bool
  | [], _ => true
  | i :: r, l => memN i l && allIn r l
def eqN : List Nat → List Nat → Bool
  | [], [] => true
  | i :: r, k :: l => Nat.beq i k && eqN r l
  | _, _ => false
def rangeN : Nat → Nat → List Nat
  | _, 0 => []
  | k, n + 1 => k :: rangeN (k + 1) n
/-- Are numbers below n left alone? -/
def fixN (n : Nat) : List (Nat × Nat) → Bool
  | [] => true
  | (i, k) :: r => (Nat.beq i k || (Nat.ble n i && Nat.ble n k)) && fixN n r
/-- Numbers below n are keys. -/
def fillN (H : Hp) : Nat → Hp
  | 0 => H
  | n + 1 => bif hkey H n then fillN H n else (n, none) :: fillN H n
def zipN : List Nat → List Nat → List (Nat × Nat)
  | i :: r, k :: ks => (i, k) :: zipN r ks
  | _, _ => []
def fstN : List (Nat × Nat) → List Nat
  | [] => []
  | (i, _) :: r => i :: fstN r
def sndN : List (Nat × Nat) → List Nat
  | [] => []
  | (_, k) :: r => k :: sndN r

/-! The state -/
inductive Tr where
  | lf
  | nd (l : Tr) (v : AV) (r : Tr)
def Tr.get : Tr → Nat → AV
  | .lf, _ => .junk
  | .nd l v r, n => bif Nat.beq n 0 then v else bif Nat.beq (n % 2) 1 then l.get (n / 2) else r.get (n / 2 - 1)
def Tr.put : Tr → Nat → AV → Tr
  | .lf, _, _ => .lf
  | .nd l v r, n, a => bif Nat.beq n 0 then .nd l a r else bif Nat.beq (n % 2) 1 then .nd (l.put (n / 2) a) v r else .nd l v (r.put (n / 2 - 1) a)
def Tr.full : Nat → Tr
  | 0 => .lf
  | d + 1 => .nd (Tr.full d) .junk (Tr.full d)
structure St where
  tm : Tr
  nt : Nat
  /-- so many blocks came in -/
  n0 : Nat
  hp : Hp
/-- A constant. -/
def AV.lit : Value → AV
  | .int k n => .p (.int k) n
  | .bool b => .p .bool b
  | .string s => .p .str s.data.toList
  | .agg _ => .junk
  | .tuple _ => .junk
  | v => .p .opq v
def oneCells : List Value → Bool
  | [] => true
  | .agg _ :: _ => false
  | .tuple _ :: _ => false
  | _ :: r => oneCells r
def St.opnd (st : St) : Operand → AV
  | .tmp t => st.tm.get t
  | .const (.agg cs) => bq (oneCells cs.toList) (.agg (cs.toList.map AV.lit)) .junk
  | .const v => .lit v
  | .global _ => .junk
  | .func f => .fn f [] []
def St.putO (st : St) (d : Option Nat) (a : AV) : St :=
  match d with
  | some d => { st with tm := st.tm.put d a }
  | none => st
def dstOk (nt : Nat) : Option Nat → Bool
  | some d => Nat.blt d nt
  | none => true

/-! Shapes -/
mutual
inductive Kd where
  | p (t : Ty)
  | pt (t : Ty)
  | own (es id i j : Nat)
  | ownx (es id j : Nat)
  | sl (es id : Nat)
  | slf (es id : Nat)
  | mp (id : Nat)
  | any
  | fn (f : FuncId) (a c : KdL)
  | agg (l : KdL)
  | tup (l : KdL)
  | nilp (v : Value)
inductive KdL where
  | nil
  | cons (k : Kd) (r : KdL)
end
inductive BKd where
  | vars (l : KdL)
  | rows (e : TypeId) (t : Ty)
  | map (kt vt : Ty)
abbrev HK := List (Nat × Bool × BKd)
structure Shp where
  ks : KdL
  hs : HK

mutual
/-- The types of a shape's parts, ahead of others. -/
def Kd.lv : Kd → List Ty → List Ty
  | .p t, r => t :: r
  | .pt t, r => .sl t :: r
  | .ownx _ _ _, r => .nat :: r
  | .sl _ _, r => .nat :: .nat :: r
  | .fn _ a c, r => KdL.lv a (KdL.lv c r)
  | .agg l, r => KdL.lv l r
  | .tup l, r => KdL.lv l r
  | _, r => r
def KdL.lv : KdL → List Ty → List Ty
  | .nil, r => r
  | .cons k l, r => Kd.lv k (KdL.lv l r)
end
def BKd.lv : BKd → List Ty → List Ty
  | .vars l, r => l.lv r
  | .rows _ t, r => .sl t :: r
  | .map k v, r => mapTy k v :: r
def hkLv : HK → List Ty → List Ty
  | [], r => r
  | (_, _, k) :: l, r => k.lv (hkLv l r)
def Shp.tys (s : Shp) : List Ty := s.ks.lv (hkLv s.hs [])
@[reducible] def Shp.D (s : Shp) : Type := TD s.tys

mutual
/-- The numbers that a shape names. -/
def Kd.ids : Kd → List Nat
  | .own _ id _ _ => [id]
  | .ownx _ id _ => [id]
  | .sl _ id => [id]
  | .slf _ id => [id]
  | .mp id => [id]
  | .fn _ a c => KdL.ids a ++ KdL.ids c
  | .agg l => KdL.ids l
  | .tup l => KdL.ids l
  | _ => []
def KdL.ids : KdL → List Nat
  | .nil => []
  | .cons k l => Kd.ids k ++ KdL.ids l
end
def BKd.ids : BKd → List Nat
  | .vars l => l.ids
  | _ => []
def hkIds : HK → List Nat
  | [] => []
  | (_, _, k) :: r => k.ids ++ hkIds r
def hkKeys : HK → List Nat
  | [] => []
  | (id, _, _) :: r => id :: hkKeys r
def KdL.length : KdL → Nat
  | .nil => 0
  | .cons _ r => r.length + 1
def KdL.map : KdL → List Kd
  | .nil => []
  | .cons k r => k :: r.map

/-! From typed things to values -/
mutual
def emb : (k : Kd) → (r : List Ty) → HL (k.lv r) → AV × HL r
  | .p t, _, x => (.p t x.1, x.2)
  | .pt t, _, x => (.pt t x.1 0 0, x.2)
  | .own es id i j, _, x => (.own es id i j, x)
  | .ownx es id j, _, x => (.own es id x.1 j, x.2)
  | .sl es id, _, x => (.sl es id x.1 x.2.1, x.2.2)
  | .slf es id, _, x => (.slf es id, x)
  | .mp id, _, x => (.mp id, x)
  | .any, _, x => (.junk, x)
  | .fn f a c, r, x => let y := embL a (c.lv r) x; let z := embL c r y.2; (.fn f y.1 z.1, z.2)
  | .agg l, r, x => let y := embL l r x; (.agg y.1, y.2)
  | .tup l, r, x => let y := embL l r x; (.tup y.1, y.2)
  | .nilp v, _, x => (.p .opq v, x)
def embL : (k : KdL) → (r : List Ty) → HL (k.lv r) → List AV × HL r
  | .nil, _, x => ([], x)
  | .cons k l, r, x => let y := emb k (l.lv r) x; let z := embL l r y.2; (y.1 :: z.1, z.2)
end
def embB : (k : BKd) → (r : List Ty) → HL (k.lv r) → Blk × HL r
  | .vars l, r, x => let y := embL l r x; (.vars y.1, y.2)
  | .rows e t, _, x => (.rows e t x.1, x.2)
  | .map k v, _, x => (.map k v x.1, x.2)
def embH : (h : HK) → (r : List Ty) → HL (hkLv h r) → Hp × HL r
  | [], _, x => ([], x)
  | (id, fz, k) :: l, r, x => let y := embB k (hkLv l r) x; let z := embH l r y.2; ((id, some ⟨fz, y.1⟩) :: z.1, z.2)
def Shp.emb (s : Shp) (t : s.D) : List AV × Hp :=
  let y := embL s.ks (hkLv s.hs []) (untidy s.tys t)
  (y.1, (embH s.hs [] y.2).1)

/-! The same, handed on: no part is reckoned twice -/
section
variable {γ : Type}
mutual
def embK : (k : Kd) → (r : List Ty) → HL (k.lv r) → (AV → HL r → γ) → γ
  | .p t, _, x, K => K (.p t x.1) x.2
  | .pt t, _, x, K => K (.pt t x.1 0 0) x.2
  | .own es id i j, _, x, K => K (.own es id i j) x
  | .ownx es id j, _, x, K => K (.own es id x.1 j) x.2
  | .sl es id, _, x, K => K (.sl es id x.1 x.2.1) x.2.2
  | .slf es id, _, x, K => K (.slf es id) x
  | .mp id, _, x, K => K (.mp id) x
  | .any, _, x, K => K .junk x
  | .fn f a c, r, x, K => embKL a (c.lv r) x fun va x1 => embKL c r x1 fun vc x2 => K (.fn f va vc) x2
  | .agg l, r, x, K => embKL l r x fun v x1 => K (.agg v) x1
  | .tup l, r, x, K => embKL l r x fun v x1 => K (.tup v) x1
  | .nilp v, _, x, K => K (.p .opq v) x
def embKL : (k : KdL) → (r : List Ty) → HL (k.lv r) → (List AV → HL r → γ) → γ
  | .nil, _, x, K => K [] x
  | .cons k l, r, x, K => embK k (l.lv r) x fun v x1 => embKL l r x1 fun vs x2 => K (v :: vs) x2
end
def embKB : (k : BKd) → (r : List Ty) → HL (k.lv r) → (Blk → HL r → γ) → γ
  | .vars l, r, x, K => embKL l r x fun v x1 => K (.vars v) x1
  | .rows e t, _, x, K => K (.rows e t x.1) x.2
  | .map k v, _, x, K => K (.map k v x.1) x.2
def embKH : (h : HK) → (r : List Ty) → HL (hkLv h r) → (Hp → HL r → γ) → γ
  | [], _, x, K => K [] x
  | (id, fz, k) :: l, r, x, K => embKB k (hkLv l r) x fun b x1 => embKH l r x1 fun H x2 => K ((id, some ⟨fz, b⟩) :: H) x2
def Shp.embC (s : Shp) (t : s.D) (K : List AV → Hp → γ) : γ := embKL s.ks (hkLv s.hs []) (untidy s.tys t) fun vs x1 => embKH s.hs [] x1 fun H _ => K vs H
mutual
theorem embK_eq : (k : Kd) → (r : List Ty) → (x : HL (k.lv r)) → (K : AV → HL r → γ) → embK k r x K = K (emb k r x).1 (emb k r x).2
  | .p _, _, _, _ | .pt _, _, _, _ | .own _ _ _ _, _, _, _ | .ownx _ _ _, _, _, _ | .sl _ _, _, _, _ | .slf _ _, _, _, _ | .mp _, _, _, _ | .any, _, _, _ | .nilp _, _, _, _ => rfl
  | .fn f a c, r, x, K => by
    simp only [embK, emb]
    rw [embKL_eq a (c.lv r) x, embKL_eq c r]
  | .agg l, r, x, K => by
    simp only [embK, emb]
    rw [embKL_eq l r x]
  | .tup l, r, x, K => by
    simp only [embK, emb]
    rw [embKL_eq l r x]
theorem embKL_eq : (k : KdL) → (r : List Ty) → (x : HL (k.lv r)) → (K : List AV → HL r → γ) → embKL k r x K = K (embL k r x).1 (embL k r x).2
  | .nil, _, _, _ => rfl
  | .cons k l, r, x, K => by
    simp only [embKL, embL]
    rw [embK_eq k (l.lv r) x, embKL_eq l r]
end
theorem embKB_eq (k : BKd) (r : List Ty) (x : HL (k.lv r)) (K : Blk → HL r → γ) : embKB k r x K = K (embB k r x).1 (embB k r x).2 := by
  cases k with
  | vars l => exact embKL_eq l r x _
  | rows e t => rfl
  | map k v => rfl
theorem embKH_eq : (h : HK) → (r : List Ty) → (x : HL (hkLv h r)) → (K : Hp → HL r → γ) → embKH h r x K = K (embH h r x).1 (embH h r x).2
  | [], _, _, _ => rfl
  | (id, fz, k) :: l, r, x, K => by
    simp only [embKH, embH]
    rw [embKB_eq k (hkLv l r) x, embKH_eq l r]
theorem Shp.embC_eq (s : Shp) (t : s.D) (K : List AV → Hp → γ) : s.embC t K = K (s.emb t).1 (s.emb t).2 := by
  exact (embKL_eq s.ks (hkLv s.hs []) (untidy s.tys t) fun vs x1 => embKH s.hs [] x1 fun H _ => K vs H).trans (embKH_eq s.hs [] _ _)
end

/-- One of several shapes. -/
@[reducible] def OutS : List Shp → Type
  | [] => Empty
  | [s] => s.D
  | s :: t :: r => s.D ⊕ OutS (t :: r)
def OutS.on {γ : Type} : (l : List Shp) → OutS l → ((s : Shp) → s.D → γ) → γ
  | [], x, _ => Empty.elim x
  | [s], x, K => K s x
  | s :: t :: r, x, K => match x with
    | .inl y => K s y
    | .inr y => OutS.on (t :: r) y K

/-! From values to typed things -/
def AV.own? (es id i j : Nat) : AV → Bool
  | .own es' id' i' j' => Nat.beq es es' && Nat.beq id id' && Nat.beq i i' && Nat.beq j j'
  | _ => false
def AV.ownx? (es id j : Nat) : AV → Option Nat
  | .own es' id' i j' => bif Nat.beq es es' && Nat.beq id id' && Nat.beq j j' then some i else none
  | _ => none
def AV.sl? (es id : Nat) : AV → Option (Nat × Nat)
  | .sl es' id' i n => bif Nat.beq es es' && Nat.beq id id' then some (i, n) else none
  | _ => none
def AV.slf? (es id : Nat) : AV → Bool
  | .slf es' id' => Nat.beq es es' && Nat.beq id id'
  | _ => false
def AV.mp? (id : Nat) : AV → Bool
  | .mp id' => Nat.beq id id'
  | _ => false
def AV.pt? (u : Ty) : AV → Option (List u.den)
  | .pt t l 0 0 => if h : t = u then some (h ▸ l) else none
  | _ => none
def AV.fn? (f : FuncId) : AV → Option (List AV × List AV)
  | .fn g a c => bif Nat.beq f g then some (a, c) else none
  | .p .opq (.func (.func g) a c) => bif Nat.beq f g && (Nat.beq a.size 0 && Nat.beq c.size 0) then some ([], []) else none
  | _ => none
def nilV? : Value → Value → Bool
  | .pointer none, .pointer none => true
  | .map none, .map none => true
  | .slice none 0 0, .slice none 0 0 => true
  | .nilFunc, .nilFunc => true
  | _, _ => false
def AV.nil? (v : Value) : AV → Bool
  | .p .opq x => nilV? v x
  | _ => false

section
variable {β : Type}
mutual
def co : (k : Kd) → (r : List Ty) → AV → HL r → (HL (k.lv r) → Option β) → Option β
  | .p t, _, a, x, K => asA t a fun y => K (y, x)
  | .pt t, _, a, x, K => (a.pt? t).ob fun l => K (l, x)
  | .own es id i j, _, a, x, K => need (a.own? es id i j) <| K x
  | .ownx es id j, _, a, x, K => (a.ownx? es id j).ob fun y => K (y, x)
  | .sl es id, _, a, x, K => (a.sl? es id).ob fun y => K (y.1, y.2, x)
  | .slf es id, _, a, x, K => need (a.slf? es id) <| K x
  | .mp id, _, a, x, K => need (a.mp? id) <| K x
  | .any, _, _, x, K => K x
  | .fn f ka kc, r, a, x, K => (a.fn? f).ob fun y => need (Nat.beq y.1.length ka.length && Nat.beq y.2.length kc.length) <|
      coL kc r y.2 x fun x1 => coL ka (kc.lv r) y.1 x1 K
  | .agg l, r, a, x, K => (cellsA a).ob fun c => need (aggA a && Nat.beq c.length l.length) <| coL l r c x K
  | .tup l, r, a, x, K => a.tup?.ob fun c => need (Nat.beq c.length l.length) <| coL l r c x K
  | .nilp v, _, a, x, K => need (a.nil? v) <| K x
def coL : (k : KdL) → (r : List Ty) → List AV → HL r → (HL (k.lv r) → Option β) → Option β
  | .nil, _, _, x, K => K x
  | .cons k l, r, c, x, K => coL l r c.tail x fun x1 => co k (l.lv r) (c.headD .junk) x1 K
end
def castL {t : Ty} (l : List t.den) (u : Ty) : Option (List u.den) := if h : t = u then some (h ▸ l) else none
def Blk.vars? (n : Nat) : Blk → Option (List AV)
  | .vars c => bif Nat.beq c.length n then some c else none
  | _ => none
def Blk.rows? (e : TypeId) (u : Ty) : Blk → Option (List u.den)
  | .rows e' t l => bif Nat.beq e e' then (if h : t = u then some (h ▸ l) else none) else none
  | _ => none
def Blk.map? (k v : Ty) : Blk → Option (GMap k v)
  | .map k' v' m => if h : mapTy k' v' = mapTy k v then some (Ty.to h m) else none
  | _ => none
def coB : (k : BKd) → (r : List Ty) → Blk → HL r → (HL (k.lv r) → Option β) → Option β
  | .vars l, r, b, x, K => (b.vars? l.length).ob fun c => coL l r c x K
  | .rows e t, _, b, x, K => (b.rows? e t).ob fun l => K (l, x)
  | .map k v, _, b, x, K => (b.map? k v).ob fun m => K (m, x)
def hblk? (fz : Bool) (H : Hp) (id : Nat) : Option Blk :=
  match hget H id with
  | some e => bif e.fz == fz then some e.b else none
  | none => none
/-- The heap's blocks of these numbers, no others. -/
def coH : (h : HK) → (r : List Ty) → Hp → HL r → (HL (hkLv h r) → Option β) → Option β
  | [], _, _, x, K => K x
  | (id, fz, k) :: l, r, H, x, K => (hblk? fz H id).ob fun b => coH l r H x fun x1 => coB k (hkLv l r) b x1 K
/-- All numbers that the shape names are its blocks'. -/
def Shp.ok (s : Shp) : Bool := nodupN (hkKeys s.hs) && allIn (s.ks.ids ++ hkIds s.hs) (hkKeys s.hs)
def Shp.co (s : Shp) (vs : List AV) (H : Hp) (K : s.D → Option β) : Option β :=
  need (s.ok && Nat.beq vs.length s.ks.length) <|
  coH s.hs [] H () fun x => coL s.ks (hkLv s.hs []) vs x fun y => K (tidy s.tys y)
end

/-! Which shape is it? -/
mutual
def Kd.fits : Kd → AV → Bool
  | .p t, a => match a with
    | .p t' x => decide (t' = t) || (nilSl t' x t).isSome || t'.isAgg
    | .agg _ => t.isAgg
    | .fn _ [] [] => decide (t = .opq)
    | _ => false
  | .pt _, a => match a with
    | .pt _ _ _ _ => true
    | _ => false
  | .own es id i j, a => a.own? es id i j
  | .ownx es id j, a => (a.ownx? es id j).isSome
  | .sl es id, a => (a.sl? es id).isSome
  | .slf es id, a => a.slf? es id
  | .mp id, a => a.mp? id
  | .any, _ => true
  | .fn f _ _, a => (a.fn? f).isSome
  | .agg l, a => match cellsA a with
    | some c => Nat.beq c.length l.length && KdL.fits l c
    | none => false
  | .tup l, a => match a with
    | .tup c => Nat.beq c.length l.length && KdL.fits l c
    | _ => false
  | .nilp v, a => a.nil? v
def KdL.fits : KdL → List AV → Bool
  | .nil, _ => true
  | .cons k l, c => k.fits (c.headD .junk) && l.fits c.tail
end
def hkFits : HK → Hp → Bool
  | [], _ => true
  | (id, fz, k) :: r, H => (match hget H id with
    | some e => e.fz == fz && (match k, e.b with
      | .vars l, .vars c => Nat.beq c.length l.length && l.fits c
      | _, _ => true)
    | none => false) && hkFits r H

/-! Slots -/
def AV.noRef : AV → Bool
  | .p _ _ => true
  | .pt _ _ _ _ => true
  | a => (AV.ids a).isEmpty
def Tr.keep : Tr → Tr
  | .lf => .lf
  | .nd l v r => .nd l.keep (bif v.noRef then v else .junk) r.keep
def Tr.junk (t : Tr) : List Nat → Tr
  | [] => t
  | k :: r => (t.put k .junk).junk r
structure LShp where
  live : List Nat
  s : Shp
abbrev LShp.D (s : LShp) : Type := s.s.D
/-- Renamed, the rest forgotten. -/
def Shp.rco {β : Type} (s : Shp) (vs : List AV) (H : Hp) (pairs : List (Nat × Nat)) (K : s.D → Option β) : Option β :=
  need (nodupN (fstN pairs) && nodupN (sndN pairs) && liveAll H (fstN pairs)) <| s.co (AV.renL (noOf pairs) vs) (renH H (noOf pairs) pairs) K
def OutS.rco {β : Type} (vs : List AV) (H : Hp) (pairs : List (Nat × Nat)) : (l : List Shp) → (OutS l → Option β) → Option β
  | [], _ => none
  | [s], K => s.rco vs H pairs K
  | s :: t :: r, K => bq (s.ks.fits (AV.renL (noOf pairs) vs) && hkFits s.hs (renH H (noOf pairs) pairs)) (s.rco vs H pairs fun x => K (.inl x)) (OutS.rco vs H pairs (t :: r) fun x => K (.inr x))
def St.prj {β : Type} (st : St) (sh : LShp) (K : sh.D → Option β) : Option β :=
  let vs := sh.live.map st.tm.get
  let ps := zipN (reach st.hp reachFuel (AV.idsL vs) []) (hkKeys sh.s.hs)
  need (fixN st.n0 ps) <| sh.s.rco vs st.hp ps K
def unTm : List Nat → List AV → Tr → Tr
  | k :: r, a :: l, t => unTm r l (t.put k a)
  | _, _, t => t
def LShp.inj (sh : LShp) (base : Tr) (nt n0 : Nat) (t : sh.D) : St := sh.s.embC t fun vs H => ⟨unTm sh.live vs base, nt, n0, fillN H n0⟩
theorem LShp.inj_eq (sh : LShp) (base : Tr) (nt n0 : Nat) (t : sh.D) : sh.inj base nt n0 t = ⟨unTm sh.live (sh.s.emb t).1 base, nt, n0, fillN (sh.s.emb t).2 n0⟩ := Shp.embC_eq _ _ _

/-! Loops, and ways out -/
def fuel : Nat := 4611686018427387904
def iter {τ ο : Type} : Nat → (τ → Option (τ ⊕ ο)) → τ → Option ο
  | 0, _, _ => none
  | n + 1, f, s => (f s).ob fun r => match r with
    | .inl s' => iter n f s'
    | .inr o => some o
/-- Which way out, with what: the last one is the function's return, if there is one. -/
@[reducible] def Out (ret : Bool) : List (Nat × LShp) → Type → Type
  | [], β => bif ret then β else Empty
  | [(_, s)], β => bif ret then s.D ⊕ β else s.D
  | (_, s) :: o :: r, β => s.D ⊕ Out ret (o :: r) β
def Out.ret {β : Type} : (l : List (Nat × LShp)) → β → Out true l β
  | [], b => b
  | [_], b => .inr b
  | _ :: o :: r, b => .inr (Out.ret (o :: r) b)
/-- The state leaves by number i. -/
def Out.mk {β γ : Type} (st : St) : (ret : Bool) → (l : List (Nat × LShp)) → Nat → (Out ret l β → Option γ) → Option γ
  | _, [], _, _ => none
  | true, [(j, s)], i, K => bq (Nat.beq j i) (st.prj s fun t => K (.inl t)) none
  | false, [(j, s)], i, K => bq (Nat.beq j i) (st.prj s fun t => K t) none
  | ret, (j, s) :: o :: r, i, K => bq (Nat.beq j i) (st.prj s fun t => K (.inl t)) (Out.mk st ret (o :: r) i fun x => K (.inr x))
def Out.on {β : Type} (base : Tr) (nt n0 : Nat) : (ret : Bool) → (l : List (Nat × LShp)) → Out ret l β → (Nat → St → Option β) → (β → Option β) → Option β
  | true, [], x, _, R => R x
  | false, [], x, _, _ => Empty.elim x
  | true, [(j, s)], x, X, R => match x with | .inl t => X j (s.inj base nt n0 t) | .inr b => R b
  | false, [(j, s)], x, X, _ => X j (s.inj base nt n0 x)
  | ret, (j, s) :: o :: r, x, X, R => match x with | .inl t => X j (s.inj base nt n0 t) | .inr y => Out.on base nt n0 ret (o :: r) y X R
end Go.Ab

/- The abstract evaluator: operations. -/
namespace Go.Ab
noncomputable section

/-- What a prover adds to an operation: numbers for new blocks; the callee's place in the table; blocks that are lent to it; how each argument is handed over (1: as pure memory). -/
structure Ann0 where
  ids : List Nat := []
  sh : List Nat := []
  md : List Nat := []
  fn : Nat := 0
structure Ann where
  ids : List Nat := []
  sh : List Nat := []
  md : List Nat := []
  fn : Nat := 0
  /-- for other states: where all these blocks are -/
  more : List Ann0 := []
def Ann.atL (H : Hp) (a : Ann) : List Ann0 → Ann
  | [] => a
  | m :: r => bq (liveAll H m.sh) { ids := m.ids, sh := m.sh, md := m.md, fn := m.fn } (Ann.atL H a r)
def Ann.at (a : Ann) (H : Hp) : Ann := a.atL H a.more

section
variable (P : Program)

def typesFuel : Nat := 20
def tyFields (f : TypeId → Option Ty) : List TypeId → Option Ty
  | [] => none
  | [t] => f t
  | t :: r => (f t).ob fun a => (tyFields f r).map fun b => .pair a b
def tyOf : Nat → TypeId → Option Ty
  | 0, _ => none
  | n + 1, t => match P.underlying t with
    | some (.int .u8) => some .byte
    | some (.int k) => some (.int k)
    | some .bool => some .bool
    | some .string => some .str
    | some (.slice e) => (tyOf n e).map .sl
    | some (.array k e) => (tyOf n e).map (.arr k)
    | some (.struct fs) => match fs.toList.map (·.type) with
      | [f] => (tyOf n f).map .one
      | l => tyFields (tyOf n) l
    | some (.pointer _) | some (.map _ _) | some (.func _ _ _) => some .opq
    | _ => none
def isAggT (t : TypeId) : Bool := match P.underlying t with | some (.struct _) | some (.array _ _) => true | _ => false
def isScal (t : TypeId) : Bool := match P.underlying t with | some (.struct _) | some (.array _ _) => false | some _ => true | none => false
/-- A type's form, where its layout is that of its cells. -/
def ty (t : TypeId) : Option Ty := (tyOf P typesFuel t).ob fun u =>
  bq (Nat.beq u.cells (P.cellsOf t) && !Nat.beq u.cells 0 && (bq u.isAgg (isAggT P t) (isScal P t))) (some u) none
def isB (e : TypeId) : Bool := match P.underlying e with | some (.int .u8) => true | _ => false
def zeroOf (t : TypeId) : Option (List AV) := (P.info? t).ob fun i => i.zero.ob fun z => bq (z.cells.toList.all Value.oneCell') (some (z.cells.toList.map AV.lit)) none
/-- The zero of the type is the zero of its cells. -/
def Ty.plain : Ty → Bool
  | .opq | .nat => false
  | .one t => t.plain
  | .pair a b => a.plain && b.plain
  | .arr _ t => t.plain
  | _ => true
def Ty.zeros : Ty → List Value
  | .int k => [.int k 0]
  | .byte => [.int .u8 0]
  | .bool => [.bool false]
  | .str => [.string ⟨#[]⟩]
  | .sl _ => [.slice none 0 0]
  | .one t => t.zeros
  | .pair a b => a.zeros ++ b.zeros
  | .arr n t => (List.replicate n t.zeros).flatten
  | _ => []
/-- One cell of a zero that is as it should be. -/
def zcellOk : Value → Value → Bool
  | .int k n, .int k' n' => k == k' && n == n'
  | .bool a, .bool b => a == b
  | .string a, .string b => a.data.size == b.data.size && a.data.size == 0
  | .slice none 0 0, .slice none 0 0 => true
  | _, _ => false
def zlistOk : List Value → List Value → Bool
  | [], [] => true
  | a :: l, b :: r => zcellOk a b && zlistOk l r
  | _, _ => false
/-- Does the type u have the zero that t's type says? -/
def zeroOk (e : TypeId) (u : Ty) : Bool :=
  u.plain && match P.info? e with
  | some i => match i.zero with
    | some z => zlistOk z.cells.toList u.zeros && (match z with | .agg _ => u.isAgg | _ => !u.isAgg)
    | none => false
  | none => false

/-- Are values of type t held against each other part by part, as u's are? -/
def eqFs (f : TypeId → Ty → Bool) : List Field → Nat → Ty → Bool
  | [x], o, u => x.name != "_" && Nat.beq x.offset o && Nat.beq (P.cellsOf x.type) u.cells && f x.type u
  | x :: r, o, .pair a b => x.name != "_" && Nat.beq x.offset o && Nat.beq (P.cellsOf x.type) a.cells && f x.type a && eqFs f r (o + a.cells) b
  | _, _, _ => false
def formOk (t : TypeId) (u : Ty) : Bool := !Nat.beq u.cells 0 && bq u.isAgg (isAggT P t) (isScal P t)
def eqT : Nat → TypeId → Ty → Bool
  | 0, _, _ => false
  | n + 1, t, u => match P.underlying t, u with
    | some (.int k), .int k' => decide (k = k')
    | some (.int k), .byte => decide (k = .u8)
    | some .bool, .bool => true
    | some .string, .str => true
    | some (.struct fs), .one v => !P.stoodInHeld t && eqFs P (fun t u => formOk P t u && eqT n t u) fs.toList 0 v
    | some (.struct fs), .pair a b => !P.stoodInHeld t && eqFs P (fun t u => formOk P t u && eqT n t u) fs.toList 0 (.pair a b)
    | some (.array m e), .arr m' v => Nat.beq m m' && Nat.beq (P.cellsOf e) v.cells && formOk P e v && eqT n e v
    | _, _ => false

def room : Nat := 140737488355328
/-! Frozen blocks, and what reads of them -/
def frz (H : Hp) (id : Nat) : Hp := match hget H id with | some e => hset H id (some ⟨true, e.b⟩) | none => H
def frzA (H : Hp) : AV → Hp
  | .own _ id _ _ => frz H id
  | .sl _ id _ _ => frz H id
  | .slf _ id => frz H id
  | _ => H
/-- The pure value of what is pure, or frozen. -/
def view (H : Hp) : AV → Option AV
  | .p t x => some (.p t x)
  | .pt t l i j => some (.pt t l i j)
  | .fn f [] [] => some (.fn f [] [])
  | .slf es id => match hget H id with
    | some ⟨true, .rows _ t l⟩ => bq (Nat.beq es t.cells) (some (.p (.sl t) l)) none
    | _ => none
  | .sl es id off n => match hget H id with
    | some ⟨true, .rows _ t l⟩ => bq (Nat.beq es t.cells && Nat.ble (off + n) l.length) (some (.p (.sl t) ((l.drop off).take n))) none
    | _ => none
  | .own es id i j => match hget H id with
    | some ⟨true, .rows _ t l⟩ => bq (Nat.beq es t.cells) (some (.pt t l i j)) none
    | _ => none
  | _ => none
/-- The same, frozen first. -/
def pure1 (H : Hp) (a : AV) : Option (AV × Hp) := (view (frzA H a) a).map fun x => (x, frzA H a)
def pureL (H : Hp) : List AV → Option (List AV × Hp)
  | [] => some ([], H)
  | a :: r => (pure1 H a).ob fun x => (pureL x.2 r).map fun y => (x.1 :: y.1, y.2)
/-- A struct's own slices are frozen; it stays a struct. -/
def pureA (H : Hp) : AV → Option (AV × Hp)
  | .agg l => (pureL H l).map fun x => (.agg x.1, x.2)
  | a => pure1 H a

/-! The same, handed on: so that what is asked of a slice stands ahead of what follows. -/
section
variable {β : Type}
def viewK (H : Hp) (a : AV) (K : AV → Option β) : Option β :=
  match a with
  | .p t x => K (.p t x)
  | .pt t l i j => K (.pt t l i j)
  | .fn f [] [] => K (.fn f [] [])
  | .slf es id => match hget H id with
    | some ⟨true, .rows _ t l⟩ => bq (Nat.beq es t.cells) (K (.p (.sl t) l)) none
    | _ => none
  | .sl es id off n => match hget H id with
    | some ⟨true, .rows _ t l⟩ => bq (Nat.beq es t.cells && Nat.ble (off + n) l.length) (K (.p (.sl t) ((l.drop off).take n))) none
    | _ => none
  | .own es id i j => match hget H id with
    | some ⟨true, .rows _ t l⟩ => bq (Nat.beq es t.cells) (K (.pt t l i j)) none
    | _ => none
  | _ => none
theorem bq_ob {α : Type} (c : Bool) (a : α) (K : α → Option β) : (bq c (some a) none).ob K = bq c (K a) none := by cases c <;> rfl
theorem viewK_eq (H : Hp) (a : AV) (K : AV → Option β) : viewK H a K = (view H a).ob K := by
  unfold viewK view
  split
  case h_4 es id =>
    rcases hget H id with _ | ⟨fz, b⟩
    · rfl
    · cases fz <;> cases b <;> first | rfl | exact (bq_ob _ _ _).symm
  case h_5 es id off n =>
    rcases hget H id with _ | ⟨fz, b⟩
    · rfl
    · cases fz <;> cases b <;> first | rfl | exact (bq_ob _ _ _).symm
  case h_6 es id i j =>
    rcases hget H id with _ | ⟨fz, b⟩
    · rfl
    · cases fz <;> cases b <;> first | rfl | exact (bq_ob _ _ _).symm
  all_goals rfl
def pure1K (H : Hp) (a : AV) (K : AV → Hp → Option β) : Option β := viewK (frzA H a) a fun x => K x (frzA H a)
theorem pure1K_eq (H : Hp) (a : AV) (K : AV → Hp → Option β) : pure1K H a K = (pure1 H a).ob fun x => K x.1 x.2 := by
  unfold pure1K pure1; rw [viewK_eq]; cases view (frzA H a) a <;> rfl
def pureLK : Hp → List AV → (List AV → Hp → Option β) → Option β
  | H, [], K => K [] H
  | H, a :: r, K => pure1K H a fun x H' => pureLK H' r fun l H'' => K (x :: l) H''
theorem pureLK_eq : ∀ (l : List AV) (H : Hp) (K : List AV → Hp → Option β), pureLK H l K = (pureL H l).ob fun x => K x.1 x.2
  | [], _, _ => rfl
  | a :: r, H, K => by
    unfold pureLK pureL
    rw [pure1K_eq]
    cases pure1 H a with
    | none => rfl
    | some x =>
      show pureLK x.2 r _ = _
      rw [pureLK_eq r]
      show _ = ((pureL x.2 r).map _).ob _
      cases pureL x.2 r <;> rfl
def pureAK (H : Hp) (a : AV) (K : AV → Hp → Option β) : Option β :=
  match a with
  | .agg l => pureLK H l fun l H' => K (.agg l) H'
  | a => pure1K H a K
theorem pureAK_eq (H : Hp) (a : AV) (K : AV → Hp → Option β) : pureAK H a K = (pureA H a).ob fun x => K x.1 x.2 := by
  cases a
  case agg l =>
    show pureLK H l _ = ((pureL H l).map _).ob _
    rw [pureLK_eq]
    cases pureL H l <;> rfl
  all_goals exact pure1K_eq _ _ _
end

section
variable {β : Type}

/-- Reads of a row, at a cell. -/
def rdRow (u : Ty) (t : TypeId) (x : u.den) (j : Nat) (K : AV → Option β) : Option β :=
  (ty P t).ob fun want => sub u x j want fun y => K (.ofTy want y)
def rdRows (t : TypeId) (u : Ty) (l : List u.den) (i j : Nat) (K : AV → Option β) : Option β :=
  match ty P t with
  | some (.arr n u') => bq (decide (u' = u) && Nat.beq i 0 && Nat.beq j 0) (need (Nat.beq l.length n) <| K (.p (.arr n u) l)) (l[i]?.bind fun x => rdRow P u t x j K)
  | _ => l[i]?.bind fun x => rdRow P u t x j K
def rdVars (t : TypeId) (c : List AV) (j : Nat) (K : AV → Option β) : Option β :=
  bq (isAggT P t) (need (Nat.ble (j + P.cellsOf t) c.length && !Nat.beq (P.cellsOf t) 0) <| K (.agg ((c.drop j).take (P.cellsOf t)))) (bq (isScal P t) (c[j]?.ob K) none)
def evLoad (t : TypeId) (a : AV) (H : Hp) (K : AV → Option β) : Option β :=
  match a with
  | .own es id i j => match hget H id with
    | some ⟨_, .vars c⟩ => rdVars P t c (i * es + j) K
    | some ⟨_, .rows _ u l⟩ => bq (Nat.beq es u.cells) (rdRows P t u l i j K) none
    | _ => none
  | .pt u l i j => rdRows P t u l i j K
  | _ => none

def setFrom {α : Type} : List α → Nat → List α → List α
  | c, _, [] => c
  | c, j, x :: r => setFrom (c.set j x) (j + 1) r
def isMut (H : Hp) (id : Nat) : Bool := match hget H id with | some e => !e.fz | none => false
def wrRows (t : TypeId) (e : TypeId) (u : Ty) (l : List u.den) (i j : Nat) (id : Nat) (v : AV) (H : Hp) (K : AV → Hp → Option β) : Option β :=
  match ty P t with
  | some (.arr n u') => bq (decide (u' = u) && Nat.beq i 0 && Nat.beq j 0) (need (Nat.beq l.length n) <| asA (.arr n u) v fun l' => need (Nat.beq l'.length n) <| K .junk (hset H id (some ⟨false, .rows e u l'⟩))) (asA (.arr n u') v fun y => l[i]?.bind fun x => upd u x j (.arr n u') y fun x' => K .junk (hset H id (some ⟨false, .rows e u (l.set i x')⟩)))
  | some want => asA want v fun y => l[i]?.bind fun x => upd u x j want y fun x' => K .junk (hset H id (some ⟨false, .rows e u (l.set i x')⟩))
  | none => none
def evStore (t : TypeId) (a v : AV) (H : Hp) (K : AV → Hp → Option β) : Option β :=
  match a with
  | .own es id i j => match hget H id with
    | some ⟨false, .vars c⟩ => (cellsA v).ob fun vs =>
        need (Nat.beq vs.length (P.cellsOf t) && !Nat.beq (P.cellsOf t) 0 && Nat.ble (i * es + j + vs.length) c.length) <| K .junk (hset H id (some ⟨false, .vars (setFrom c (i * es + j) vs)⟩))
    | some ⟨false, .rows e u l⟩ => bq (Nat.beq es u.cells) ((pureA H v).ob fun x => need (isMut x.2 id) <| wrRows P t e u l i j id x.1 x.2 K) none
    | _ => none
  | _ => none

/-- A new block under a number that is not used. -/
def newAt (H : Hp) (id : Nat) (b : Blk) (K : Hp → Option β) : Option β := bq (hkey H id) none (K (hset H id (some ⟨false, b⟩)))
def evAlloc (t : TypeId) (id : Nat) (H : Hp) (K : AV → Hp → Option β) : Option β :=
  match P.underlying t with
  | some (.array n e) => (ty P e).ob fun u => need (zeroOk P t (.arr n u)) <|
      newAt H id (.rows t u (List.replicate n u.zero)) fun H' => K (.own u.cells id 0 0) H'
  | _ => (zeroOf P t).ob fun z => newAt H id (.vars z) fun H' => K (.own 0 id 0 0) H'
def evBox (t : TypeId) (v : AV) (id : Nat) (H : Hp) (K : AV → Hp → Option β) : Option β :=
  match P.underlying t with
  | some (.array n e) => (ty P e).ob fun u => (pureA H v).ob fun x => asA (.arr n u) x.1 fun l => need (Nat.beq l.length n) <|
      newAt x.2 id (.rows t u l) fun H' => K (.own u.cells id 0 0) H'
  | _ => (cellsA v).ob fun c => newAt H id (.vars c) fun H' => K (.own 0 id 0 0) H'

def fieldOff (s : TypeId) (f : Nat) : Option (Nat × TypeId) :=
  match P.underlying s with
  | some (.struct fs) => fs[f]?.ob fun x => bq (Nat.beq (P.cellsOf x.type) 0) none (some (x.offset, x.type))
  | _ => none
def evFieldAddr (s : TypeId) (a : AV) (f : Nat) (K : AV → Option β) : Option β :=
  match fieldOff P s f, a with
  | some (o, _), .own es id i j => K (.own es id i (j + o))
  | some (o, _), .pt u l i j => K (.pt u l i (j + o))
  | _, _ => none
def evField (s : TypeId) (a : AV) (f : Nat) (K : AV → Option β) : Option β :=
  match fieldOff P s f, a with
  | some (o, t), .agg c => bq (isAggT P t) (need (Nat.ble (o + P.cellsOf t) c.length) <| K (.agg ((c.drop o).take (P.cellsOf t)))) (bq (isScal P t) (c[o]?.ob K) none)
  | some (o, t), .p u x => bq u.isAgg (rdRow P u t x o K) none
  | _, _ => none
/-- How many variables a slice of them has. -/
def varsLen (H : Hp) (es id : Nat) : Option Nat :=
  match hget H id with
  | some ⟨_, .vars c⟩ => bq (Nat.beq es 1) (some c.length) none
  | _ => none
/-- The list behind a slice of the call's own. -/
def ownRows (H : Hp) (es id : Nat) (K : (u : Ty) → List u.den → Option β) : Option β :=
  match hget H id with
  | some ⟨_, .rows _ u l⟩ => bq (Nat.beq es u.cells) (K u l) none
  | _ => none
def evIndexAddr (t : TypeId) (a ix : AV) (H : Hp) (K : AV → Option β) : Option β :=
  ix.any?.ob fun x =>
  match P.underlying t with
  | some (.array n e) => need (!Nat.beq (P.cellsOf e) 0) <| match a with
    | .own es id i j => bq (Nat.beq es (P.cellsOf e) && Nat.beq i 0 && Nat.beq j 0) ((idx? x n).bind fun q => K (.own es id q 0)) ((idx? x n).bind fun q => K (.own es id i (j + q * P.cellsOf e)))
    | .pt u l i j => bq (Nat.beq u.cells (P.cellsOf e) && Nat.beq i 0 && Nat.beq j 0) ((idx? x n).bind fun q => K (.pt u l q 0)) ((idx? x n).bind fun q => K (.pt u l i (j + q * P.cellsOf e)))
    | _ => none
  | some (.slice e) => need (!Nat.beq (P.cellsOf e) 0) <| match a with
    | .slf es id => bq (Nat.beq es (P.cellsOf e)) (match varsLen H es id with
      | some n => (idx? x n).bind fun q => K (.own es id q 0)
      | none => ownRows H es id fun _ l => (idx? x l.length).bind fun q => K (.own es id q 0)) none
    | .sl es id off n => bq (Nat.beq es (P.cellsOf e)) ((idx? x n).bind fun q => K (.own es id (off + q) 0)) none
    | .p (.sl u) l => bq (Nat.beq u.cells (P.cellsOf e)) ((idx? x (List.length (α := u.den) l)).bind fun q => K (.pt u l q 0)) none
    | _ => none
  | _ => none
def evIndex (t : TypeId) (a ix : AV) (K : AV → Option β) : Option β :=
  ix.any?.ob fun x =>
  match P.underlying t with
  | some .string => a.str?.ob fun l => (idx? x l.length).bind fun q => l[q]?.bind fun c => K (.i .u8 (c.toNat : Int))
  | some (.array n e) => (ty P e).ob fun u => asA (.arr n u) a fun (l : List u.den) => (idx? x n).bind fun q =>
      l[q]?.bind fun y => K (.ofTy u y)
  | _ => none

def optI (a : Option AV) (d : Nat) (m : Nat) (K : Nat → Option β) : Option β :=
  match a with
  | none => K d
  | some a => a.any?.ob fun x => (upto? x m).bind K
/-- l[lo:hi]: hi is at most the length, lo at most hi. -/
def cutL {α : Type} (l : List α) (lo hi : Option AV) (K : List α → Option β) : Option β :=
  match lo, hi with
  | none, none => K l
  | none, some h => h.any?.ob fun x => (upto? x l.length).bind fun h => K (l.take h)
  | some b, none => b.any?.ob fun x => (upto? x l.length).bind fun b => K (l.drop b)
  | some b, some h => h.any?.ob fun y => (upto? y l.length).bind fun h => b.any?.ob fun x => (upto? x h).bind fun b => K ((l.take h).drop b)
def evSlice (t : TypeId) (a : AV) (lo hi : Option AV) (H : Hp) (K : AV → Option β) : Option β :=
  match P.underlying t with
  | some .string => a.str?.ob fun l => cutL l lo hi fun l' => K (.s l')
  | some (.slice e) => match a with
    | .slf es id => bq (Nat.beq es (P.cellsOf e) && !Nat.beq es 0) (match lo, hi with
        | none, none => K (.slf es id)
        | lo, hi => ownRows H es id fun _ l => optI hi l.length l.length fun h => optI lo 0 h fun b => K (.sl es id b (h - b))) none
    | .sl es id off n => bq (Nat.beq es (P.cellsOf e) && !Nat.beq es 0) (optI hi n n fun h => optI lo 0 h fun b => K (.sl es id (off + b) (h - b))) none
    | .p (.sl u) l => bq (Nat.beq u.cells (P.cellsOf e) && !Nat.beq u.cells 0) (cutL (α := u.den) l lo hi fun l' => K (.p (.sl u) l')) none
    | .p .opq (.slice none 0 0) => need (!Nat.beq (P.cellsOf e) 0) <| optI hi 0 0 fun h => optI lo 0 h fun _ => K (.p .opq (.slice none 0 0))
    | _ => none
  | some (.array n e) => match a with
    | .own es id 0 0 => bq (Nat.beq es (P.cellsOf e) && !Nat.beq es 0) (ownRows H es id fun _ l => need (Nat.ble n room && Nat.beq n l.length) <| match lo, hi with
        | none, none => K (.slf es id)
        | lo, hi => optI hi n n fun h => optI lo 0 h fun b => K (.sl es id b (h - b))) none
    | .pt u l 0 0 => bq (Nat.beq u.cells (P.cellsOf e) && !Nat.beq u.cells 0 && Nat.ble n room && Nat.beq n l.length) (cutL l lo hi fun l' => K (.p (.sl u) l')) none
    | _ => none
  | _ => none

/-- The elements of a slice, or the bytes of a string. -/
def rowsOf (H : Hp) (u : Ty) (a : AV) (K : List u.den → Option β) : Option β :=
  match a with
  | .p t x => dq t (.sl u) (fun h => K (Ty.to h x))
      (dq t .str (fun h => dq (.sl .byte) (.sl u) (fun h2 => K (Ty.to h2 (Ty.to h x : List UInt8))) none) ((nilSl t x (.sl u)).ob fun l => K l))
  | .slf es id => match hget H id with
    | some ⟨_, .rows _ t l⟩ => dq t u (fun h => (bq (Nat.beq es t.cells) (K (Ty.toL h l)) none)) none
    | _ => none
  | .sl es id off n => match hget H id with
    | some ⟨_, .rows _ t l⟩ => dq t u (fun h => (bq (Nat.beq es t.cells && Nat.ble (off + n) l.length) (K (((Ty.toL h l).drop off).take n)) none)) none
    | _ => none
  | _ => none
def lenS (H : Hp) (a : AV) (K : Nat → Option β) : Option β :=
  match a with
  | .sl _ _ _ n => K n
  | .slf es id => match varsLen H es id with
    | some n => K n
    | none => ownRows H es id fun _ l => K l.length
  | .p (.sl u) l => K (List.length (α := u.den) l)
  | .p .opq (.slice none 0 0) => K 0
  | _ => none
def lenM (H : Hp) (a : AV) (K : Nat → Option β) : Option β :=
  match a with
  | .p .opq (.map none) => K 0
  | .mp id => match hget H id with
    | some ⟨_, .map _ _ m⟩ => K m.1.length
    | _ => none
  | _ => none
def lenT (t : TypeId) (H : Hp) (a : AV) (K : Nat → Option β) : Option β :=
  match P.underlying t with
  | some .string => a.str?.ob fun l => K l.length
  | some (.slice _) => lenS H a K
  | some (.map _ _) => lenM H a K
  | some (.array n _) => K n
  | _ => none

/-- Room for so many elements more? -/
def roomOk (e : TypeId) (n : Nat) : Bool := Nat.ble (n * P.bytesOf e) room && Nat.ble n room
/-- Does the type's zero have so many cells? -/
def zlen (e : TypeId) (n : Nat) : Bool := match P.info? e with | some i => (match i.zero with | some z => Nat.beq z.cells.size n | none => false) | none => false
def evAppend (t : TypeId) (s x : AV) (id : Nat) (H : Hp) (K : AV → Hp → Option β) : Option β :=
  match P.underlying t with
  | some (.slice e) => (ty P e).ob fun u =>
    rowsOf H u x fun m =>
      match s with
      | .p .opq (.slice none 0 0) => need (zlen P e u.cells && roomOk P e m.length) <| newAt H id (.rows e u m) fun H' => K (.slf u.cells id) H'
      | .slf es old => match hget H old with
        | some ⟨false, .rows e' t l⟩ => dq t u (fun h => need (zlen P e u.cells && Nat.beq e e' && Nat.beq es u.cells && roomOk P e (l.length + m.length)) <|
            newAt (hset H old none) id (.rows e u (Ty.toL h l ++ m)) fun H' => K (.slf es id) H') none
        | _ => none
      | .sl es old 0 n => match hget H old with
        | some ⟨false, .rows e' t l⟩ => dq t u (fun h => need (zlen P e u.cells && Nat.beq e e' && Nat.beq es u.cells && Nat.ble n l.length && roomOk P e (n + m.length)) <|
            newAt (hset H old none) id (.rows e u ((Ty.toL h l).take n ++ m)) fun H' => K (.slf es id) H') none
        | _ => none
      | _ => none
  | _ => none
/-- append(s, make([]T, n)...) -/
def evAppendZ (t : TypeId) (s x : AV) (id : Nat) (H : Hp) (K : AV → Hp → Option β) : Option β :=
  match P.underlying t with
  | some (.slice e) => (ty P e).ob fun u => need (zeroOk P e u) <|
    x.any?.ob fun n => (upto? n room).bind fun m =>
      match s with
      | .p .opq (.slice none 0 0) => need (roomOk P e m) <| newAt H id (.rows e u (List.replicate m u.zero)) fun H' => K (.slf u.cells id) H'
      | _ => none
  | _ => none
def splice {α : Type} (l : List α) (at_ : Nat) (m : List α) : List α := l.take at_ ++ m ++ l.drop (at_ + m.length)
def evCopy (t : TypeId) (d x : AV) (H : Hp) (K : AV → Hp → Option β) : Option β :=
  match P.underlying t with
  | some (.slice e) => (ty P e).ob fun u =>
    rowsOf H u x fun m =>
      match d with
      | .slf es id => match hget H id with
        | some ⟨false, .rows e' t l⟩ => dq t u (fun h => need (Nat.beq es u.cells) <|
            K (.i .i64 ((min m.length l.length : Nat) : Int)) (hset H id (some ⟨false, .rows e' u (splice (Ty.toL h l) 0 (m.take l.length))⟩))) none
        | _ => none
      | .sl es id off n => match hget H id with
        | some ⟨false, .rows e' t l⟩ => dq t u (fun h => need (Nat.beq es u.cells && Nat.ble (off + n) l.length) <|
            K (.i .i64 ((min m.length n : Nat) : Int)) (hset H id (some ⟨false, .rows e' u (splice (Ty.toL h l) off (m.take n))⟩))) none
        | _ => none
      | _ => none
  | _ => none
/-- clear of a slice -/
def evClear (t : TypeId) (d : AV) (H : Hp) (K : AV → Hp → Option β) : Option β :=
  match P.underlying t with
  | some (.slice e) => (ty P e).ob fun u => need (zeroOk P e u) <|
      match d with
      | .p .opq (.slice none 0 0) => K (.tup []) H
      | .slf es id => match hget H id with
        | some ⟨false, .rows e' t l⟩ => dq t u (fun h => need (Nat.beq es u.cells) <| K (.tup []) (hset H id (some ⟨false, .rows e' u (splice (Ty.toL h l) 0 (List.replicate l.length u.zero))⟩))) none
        | _ => none
      | .sl es id off n => match hget H id with
        | some ⟨false, .rows e' t l⟩ => dq t u (fun h => need (Nat.beq es u.cells && Nat.ble (off + n) l.length) <| K (.tup []) (hset H id (some ⟨false, .rows e' u (splice (Ty.toL h l) off (List.replicate n u.zero))⟩))) none
        | _ => none
      | _ => none
  | _ => none
def evConvert (src dst : TypeId) (a : AV) (H : Hp) (K : AV → Option β) : Option β :=
  match P.underlying src, P.underlying dst with
  | some (.int ks), some (.int k) => (a.int? ks).ob fun n => K (.i k (k.wrap n))
  | some .string, some .string => a.str?.ob fun l => K (.s l)
  | some (.slice e), some .string => bq (isB P e) (rowsOf H .byte a fun l => K (.s l)) none
  | some (.slice _), some (.slice e) => none
  | _, _ => none
/-- Bytes out of a string: memory of the call's own; bytes out of bytes that are the call's own. -/
def evConvertW (src dst : TypeId) (a : AV) (id : Nat) (H : Hp) (K : AV → Hp → Option β) : Option β :=
  match P.underlying src, P.underlying dst with
  | some .string, some (.slice e) => bq (isB P e) (a.str?.ob fun l => need (Nat.ble l.length room) <| newAt H id (.rows e .byte l) fun H' => K (.slf 1 id) H') none
  | some (.slice _), some (.slice e) => match a with
    | .slf es old => match hget H old with
      | some ⟨false, .rows _ .byte l⟩ => bq (Nat.beq src dst && isB P e && Nat.beq es 1) (need (Nat.blt 0 (List.length (α := UInt8) l)) <| K (.slf es old) H) none
      | _ => none
    | _ => none
  | _, _ => none
def evMake (t : TypeId) (l c : AV) (id : Nat) (H : Hp) (K : AV → Hp → Option β) : Option β :=
  match P.underlying t with
  | some (.slice e) => l.any?.ob fun n => c.any?.ob fun m => (upto? m room).bind fun m' => (upto? n m').bind fun n' =>
      (ty P e).ob fun u => need (zeroOk P e u && Nat.ble (m' * P.bytesOf e) room) <|
        newAt H id (.rows e u (List.replicate n' u.zero)) fun H' => K (.slf u.cells id) H'
  | _ => none

/-! Maps -/
def isFuncT (t : TypeId) : Bool := match P.underlying t with | some (.func _ _ _) => true | _ => false
def evMakeMap (t : TypeId) (r : Option AV) (id : Nat) (H : Hp) (K : AV → Hp → Option β) : Option β :=
  match P.underlying t with
  | some (.map kt et) => (ty P kt).ob fun k => need (match r with | none => true | some a => a.any?.isSome) <|
    bq (isFuncT P et) (newAt H id (.fmap k []) fun H' => K (.mp id) H') ((ty P et).ob fun v => newAt H id (.map k v ([], 0)) fun H' => K (.mp id) H')
  | _ => none
def tupIf (c : Bool) (v : AV) (ok : Bool) : AV := bq c (.tup [v, .b ok]) v
def keyOk (kt : TypeId) (k : Ty) : Bool := decide (ty P kt = some k) && eqT P typesFuel kt k && k.keyed
/-- Is it the type of maps from k to v, whose keys are held as here, and whose zero is v's? -/
def mapOk (t : TypeId) (k v : Ty) : Bool :=
  match P.underlying t with
  | some (.map kt et) => keyOk P kt k && decide (ty P et = some v) && zeroOk P et v
  | _ => false
def fmapOk (t : TypeId) (k : Ty) : Bool :=
  match P.underlying t with
  | some (.map kt et) => keyOk P kt k && isFuncT P et && (match P.info? et with | some i => (match i.zero with | some .nilFunc => true | _ => false) | none => false)
  | _ => false
def fchain {k : Ty} : List (k.den × AV) → k.den → (Option AV → Option β) → Option β
  | [], _, K => K none
  | (a, b) :: r, x, K => bq (k.eqb x a) (K (some b)) (fchain r x K)
def lookRes (c : Bool) (v : Ty) (r : Option v.den) (K : AV → Option β) : Option β := K (tupIf c (.ofTy v (r.getD v.zero)) r.isSome)
def evLookup (t : TypeId) (m ix : AV) (c : Bool) (H : Hp) (K : AV → Option β) : Option β :=
  match m with
  | .mp id => match hget H id with
    | some ⟨_, .map k v M⟩ => need (mapOk P t k v) <| asA k ix fun key => lookRes c v (mget M key) K
    | some ⟨_, .fmap k l⟩ => need (fmapOk P t k) <| asA k ix fun key => fchain l key fun r => match r with
        | some y => K (tupIf c y true)
        | none => K (tupIf c (.p .opq .nilFunc) false)
    | _ => none
  | .p .opq (.map none) => match P.underlying t with
    | some (.map kt et) => (ty P kt).ob fun k => (ty P et).ob fun v => need (mapOk P t k v) <| asA k ix fun _ => lookRes c v none K
    | _ => none
  | _ => none
def noKey {k : Ty} : List (k.den × AV) → k.den → Bool
  | [], _ => true
  | (a, _) :: r, x => !k.eqb x a && noKey r x
def evMapUpd (t : TypeId) (m key x : AV) (H : Hp) (K : AV → Hp → Option β) : Option β :=
  match m with
  | .mp id => match hget H id with
    | some ⟨false, .fmap k l⟩ => need (fmapOk P t k) <| asA k key fun a => need (noKey l a) <| (cellsA x).ob fun c => need (Nat.beq c.length 1) <|
        K .junk (hset H id (some ⟨false, .fmap k (l ++ [(a, x)])⟩))
    | _ => (pureA H x).ob fun y => match hget y.2 id with
      | some ⟨false, .map k v M⟩ => need (mapOk P t k v) <| asA k key fun a => asA v y.1 fun b => K .junk (hset y.2 id (some ⟨false, .map k v (mput M a b)⟩))
      | _ => none
  | _ => none
def evMapEntry (t : TypeId) (m key : AV) (H : Hp) (K : AV → Hp → Option β) : Option β :=
  match m with
  | .mp id => match hget H id with
    | some ⟨false, .map k v M⟩ => need (mapOk P t k v && v.plain) <| asA k key fun a => K (.tup [.ofTy v ((mget M a).getD v.zero), .i .i64 (mborn M a : Int)]) (hset H id (some ⟨false, .map k v (ment M a)⟩))
    | _ => none
  | _ => none
def evEntryStore (m stamp x : AV) (H : Hp) (K : AV → Hp → Option β) : Option β :=
  match m with
  | .mp id => (pureA H x).ob fun y => match hget y.2 id with
    | some ⟨false, .map k v M⟩ => stamp.any?.ob fun n => asA v y.1 fun b => (mstore M n b).bind fun M' => K .junk (hset y.2 id (some ⟨false, .map k v M'⟩))
    | _ => none
  | _ => none
def evDelete (t : TypeId) (m key : AV) (H : Hp) (K : AV → Hp → Option β) : Option β :=
  match m with
  | .mp id => match hget H id with
    | some ⟨false, .map k v M⟩ => need (mapOk P t k v) <| asA k key fun a => K (.tup []) (hset H id (some ⟨false, .map k v (mdel M a)⟩))
    | _ => none
  | .p .opq (.map none) => match P.underlying t with
    | some (.map kt et) => (ty P kt).ob fun k => (ty P et).ob fun v => need (mapOk P t k v) <| asA k key fun _ => K (.tup []) H
    | _ => none
  | _ => none

/-! Building -/
def fillA : (Nat → Option (Nat × Nat)) → List AV → List (Nat × AV) → Option (List AV)
  | _, cells, [] => some cells
  | pl, cells, (i, v) :: rest => (pl i).ob fun x => (cellsA v).ob fun c =>
      bq (Nat.beq c.length x.2 && Nat.ble (x.1 + c.length) cells.length) (fillA pl (setFrom cells x.1 c) rest) none
def evBuild (t : TypeId) (parts : List (Nat × AV)) (K : AV → Option β) : Option β :=
  (zeroOf P t).ob fun z =>
  match P.underlying t with
  | some (.struct fs) => (fs.toList.mapM fun f => (P.info? f.type).map fun i => (f.offset, i.size)).ob fun places => (fillA (places.toArray[·]?) z parts).ob fun c => K (.agg c)
  | some (.array _ e) => (P.info? e).ob fun ie => (fillA (fun i => some (i * ie.size, ie.size)) z parts).ob fun c => K (.agg c)
  | _ => none
def evBuildSlice (t : TypeId) (len : Nat) (parts : List (Nat × AV)) (vs : Bool) (id : Nat) (H : Hp) (K : AV → Hp → Option β) : Option β :=
  match P.underlying t with
  | some (.slice e) => (zeroOf P e).ob fun z => (ty P e).ob fun u =>
      need (Nat.beq z.length u.cells && Nat.ble (len * z.length) 16777216) <|
      (fillA (fun i => some (i * P.cellsOf e, P.cellsOf e)) (List.replicate len z).flatten parts).ob fun c =>
      bq vs (need (Nat.beq u.cells 1) <| newAt H id (.vars c) fun H' => K (.slf 1 id) H') <|
      pureLK H c fun cs H1 => asmN (asm u) u.cells len cs fun l => newAt H1 id (.rows e u l) fun H' => K (.slf u.cells id) H'
  | _ => none

/-! Arithmetic -/
def bitsI (op : BinOp) (k : IntKind) (a b : Int) : Int :=
  match op with
  | .and => k.wrap ((BitVec.ofInt k.bits a &&& BitVec.ofInt k.bits b).toNat : Int)
  | .or => k.wrap ((BitVec.ofInt k.bits a ||| BitVec.ofInt k.bits b).toNat : Int)
  | .xor => k.wrap ((BitVec.ofInt k.bits a ^^^ BitVec.ofInt k.bits b).toNat : Int)
  | _ => k.wrap ((BitVec.ofInt k.bits a &&& ~~~ BitVec.ofInt k.bits b).toNat : Int)
def sameK (op : BinOp) (k k' : IntKind) : Bool := match op with | .shl | .shr => true | _ => k == k'
def evInt (op : BinOp) (k : IntKind) (a b : Int) (K : AV → Option β) : Option β :=
  match op with
  | .add => K (.i k (k.wrap (a + b)))
  | .sub => K (.i k (k.wrap (a - b)))
  | .mul => K (.i k (k.wrap (a * b)))
  | .quo => need (!decide (b = 0)) <| K (.i k (k.wrap (a.tdiv b)))
  | .rem => need (!decide (b = 0)) <| K (.i k (a.tmod b))
  | .and | .or | .xor | .andNot => K (.i k (bitsI op k a b))
  | .shl => need (decide (0 ≤ b)) <| K (.i k (k.wrap (a * 2 ^ (min b.toNat k.bits))))
  | .shr => need (decide (0 ≤ b)) <| K (.i k (a.fdiv (2 ^ (min b.toNat k.bits))))
  | .eql => K (.b (a == b))
  | .neq => K (.b (!(a == b)))
  | .lss => K (.b (decide (a < b)))
  | .leq => K (.b (decide (a ≤ b)))
  | .gtr => K (.b (decide (a > b)))
  | .geq => K (.b (decide (a ≥ b)))
def evStr (op : BinOp) (a b : List UInt8) (K : AV → Option β) : Option β :=
  match op with
  | .add => need (Nat.ble (a.length + b.length) room) <| K (.s (a ++ b))
  | .eql => K (.b (a == b))
  | .neq => K (.b (!(a == b)))
  | .lss => K (.b (Op.bytesLess a b))
  | .leq => K (.b (Op.bytesLess a b || a == b))
  | .gtr => K (.b (!(Op.bytesLess a b || a == b)))
  | .geq => K (.b (!Op.bytesLess a b))
  | _ => none
/-- Whether an empty slice is nil is not known: all must go on alike. -/
def nilQ (n : Nat) (K : Bool → Option β) : Option β :=
  @ite _ (n = 0 → K true = K false) (Classical.propDecidable _) (K false) none
/-- How much room a slice has is not known. -/
def capQ (n : Nat) (K : Int → Option β) : Option β :=
  @dite _ (∃ r, ∀ c : Nat, n ≤ c → c ≤ 9223372036854775807 → K (c : Int) = some r) (Classical.propDecidable _) (fun h => some h.choose) (fun _ => none)
/-- Is one of them nil? -/
def eqNilP (a b : AV) : Option Bool :=
  match a, b with
  | .p .opq (.pointer none), .p .opq (.pointer none) => some true
  | .own _ _ _ _, .p .opq (.pointer none) => some false
  | .p .opq (.pointer none), .own _ _ _ _ => some false
  | .pt _ _ _ _, .p .opq (.pointer none) => some false
  | .p .opq (.pointer none), .pt _ _ _ _ => some false
  | _, _ => none
def eqNilM (a b : AV) : Option Bool :=
  match a, b with
  | .mp _, .p .opq (.map none) => some false
  | .p .opq (.map none), .mp _ => some false
  | .p .opq (.map none), .p .opq (.map none) => some true
  | _, _ => none
def eqNilF (a b : AV) : Option Bool :=
  match a, b with
  | .p .opq .nilFunc, .p .opq .nilFunc => some true
  | .fn _ _ _, .p .opq .nilFunc => some false
  | .p .opq .nilFunc, .fn _ _ _ => some false
  | _, _ => none
def evEq (t : TypeId) (a b : AV) (H : Hp) (K : Bool → Option β) : Option β :=
  match P.underlying t with
  | some (.pointer _) => (eqNilP a b).ob K
  | some (.map _ _) => (eqNilM a b).ob K
  | some (.func _ _ _) => (eqNilF a b).ob K
  | some (.slice _) => match a, b with
    | .p .opq (.slice none 0 0), .p .opq (.slice none 0 0) => K true
    | a, .p .opq (.slice none 0 0) => lenS H a fun n => nilQ n K
    | .p .opq (.slice none 0 0), b => lenS H b fun n => nilQ n K
    | _, _ => none
  | _ => (ty P t).ob fun u => need (eqT P typesFuel t u && !P.eqGuardType P.depth t) <| asA u a fun x => asA u b fun y => K (u.eqb x y)
def evBin (op : BinOp) (t u : TypeId) (a b : AV) (H : Hp) (K : AV → Option β) : Option β :=
  match P.underlying t with
  | some (.int k) => match P.underlying u with
    | some (.int k') => (a.int? k).ob fun x => (b.int? k').ob fun y =>
        need (sameK op k k') <| evInt op k x y K
    | _ => none
  | some .string => a.str?.ob fun x => b.str?.ob fun y => evStr op x y K
  | _ => match op with
    | .eql => evEq P t a b H fun r => K (.b r)
    | .neq => evEq P t a b H fun r => K (.b (!r))
    | _ => none
def evUn (op : UnOp) (t : TypeId) (a : AV) (K : AV → Option β) : Option β :=
  match op, P.underlying t with
  | .not, some .bool => a.bool?.ob fun x => K (.b (!x))
  | .neg, some (.int k) => (a.int? k).ob fun x => K (.i k (k.wrap (0 - x)))
  | .xor, some (.int k) => (a.int? k).ob fun x => K (.i k (bitsI .xor k (if k.signed then -1 else k.max) x))
  | _, _ => none
def minI : List Int → Int → Int
  | [], m => m
  | y :: r, m => minI r (if y < m then y else m)
def maxI : List Int → Int → Int
  | [], m => m
  | y :: r, m => maxI r (if y > m then y else m)
def ints? (k : IntKind) : List AV → Option (List Int)
  | [] => some []
  | a :: r => (a.int? k).ob fun n => (ints? k r).map (n :: ·)
def evPick (t : TypeId) (c a b : AV) (K : AV → Option β) : Option β :=
  c.bool?.ob fun q => match P.underlying t with
    | some .bool => match a.bool?, b.bool? with
      | some x, some y => K (.b (bq q x y))
      | some x, none => need q <| K (.b x)
      | none, some y => need (!q) <| K (.b y)
      | none, none => none
    | _ => bq q (K a) (K b)
end
end
end
end Go.Ab

/- The abstract evaluator: regions, code, functions. -/
namespace Go.Ab
noncomputable section

inductive Gh where
  | freeze (slot : Nat)
  /-- a nil slice becomes one of the call's own -/
  | ownNil (slot : Nat) (e : TypeId) (id : Nat)
  /-- a nil slice in a block's cell becomes one of the call's own -/
  | ownCell (blk off : Nat) (e : TypeId) (id : Nat)
  /-- a block goes on under another number -/
  | renum (old new : Nat)
  /-- a slot's own memory becomes pure -/
  | pure (slot : Nat)
  /-- a block is frozen -/
  | frzB (blk : Nat)
  /-- own memory in a block's cell becomes pure -/
  | pureCell (blk off : Nat)
/-- What tells two states apart. -/
inductive Cn where
  | slot (k : Nat) (kd : Kd)
  | cell (b j : Nat) (kd : Kd)
  | key (id : Nat)
/-- Annotated code. -/
inductive AC where
  | skip
  | ret
  | exit (id : Nat)
  | seq (a b : AC)
  | cond (c : Operand) (a b : AC)
  | block (id : Nat) (a : AC)
  | loop (sh : LShp) (ret : Bool) (outs : List (Nat × LShp)) (a : AC)
  | region (id : Nat) (ops : List (Oper × Ann)) (draw : Bool)
  | join (sh : LShp) (ret : Bool) (outs : List (Nat × LShp)) (a : AC)
  | pre (g : Gh) (a : AC)
  /-- two sets of notes for the same code: the first if the slot holds that kind -/
  | sel (q : Cn) (a b : AC)
  /-- behind it -/
  | post (g : Gh) (a : AC)
  /-- a round of a loop, then the others -/
  | round (a r : AC)
  | bad (c : Code)
def AC.erase : AC → Code
  | .skip => .skip
  | .ret => .ret
  | .exit i => .exit i
  | .seq a b => .seq a.erase b.erase
  | .cond c a b => .cond c a.erase b.erase
  | .block i a => .block i a.erase
  | .loop _ _ _ a => .loop a.erase
  | .region i ops d => .region i (ops.map (·.1)).toArray d
  | .join _ _ _ a => a.erase
  | .pre _ a => a.erase
  | .sel _ a _ => a.erase
  | .post _ a => a.erase
  | .round a _ => .loop a.erase
  | .bad c => c

/-- The notes on code, without the code. -/
inductive Ov where
  | leaf
  | one (a : Ov)
  | two (a b : Ov)
  | loop (sh : LShp) (ret : Bool) (outs : List (Nat × LShp)) (a : Ov)
  | reg (l : List (Nat × Ann))
  | join (sh : LShp) (ret : Bool) (outs : List (Nat × LShp)) (a : Ov)
  | pre (g : Gh) (a : Ov)
  | sel (q : Cn) (a b : Ov)
  | post (g : Gh) (a : Ov)
  | round (a r : Ov)
def annAt : List (Nat × Ann) → Nat → Ann
  | [], _ => {}
  | (i, a) :: r, k => bq (Nat.beq i k) a (annAt r k)
def annOps (l : List (Nat × Ann)) : Nat → List Oper → List (Oper × Ann)
  | _, [] => []
  | k, o :: r => (o, annAt l k) :: annOps l (k + 1) r
def plain : Code → AC
  | .ret => .ret
  | .exit i => .exit i
  | .seq a b => .seq (plain a) (plain b)
  | .cond c a b => .cond c (plain a) (plain b)
  | .block i a => .block i (plain a)
  | .region i ops d => .region i (annOps [] 0 ops.toList) d
  | .skip => .skip
  | c => .bad c
/-- Code with notes. -/
def build : Ov → Code → AC
  | .one x, .block i a => .block i (build x a)
  | .two x y, .seq a b => .seq (build x a) (build y b)
  | .two x y, .cond c a b => .cond c (build x a) (build y b)
  | .loop sh rt outs x, .loop a => .loop sh rt outs (build x a)
  | .reg l, .region i ops d => .region i (annOps l 0 ops.toList) d
  | .join sh rt outs x, c => .join sh rt outs (build x c)
  | .pre g x, c => .pre g (build x c)
  | .sel q x y, c => .sel q (build x c) (build y c)
  | .post g x, c => .post g (build x c)
  | .round x y, .loop a => .round (build x a) (build y (.loop a))
  | _, c => plain c

/-- The slots that code writes. -/
def AC.wr : AC → List Nat
  | .seq a b => a.wr ++ b.wr
  | .cond _ a b => a.wr ++ b.wr
  | .block _ a => a.wr
  | .loop _ _ _ a => a.wr
  | .region _ ops _ => ops.filterMap (·.1.dst)
  | .join _ _ _ a => a.wr
  | .pre (.ownNil k _ _) a => k :: a.wr
  | .pre (.pure k) a => k :: a.wr
  | .pre _ a => a.wr
  | .sel _ a b => a.wr ++ b.wr
  | .post (.ownNil k _ _) a => k :: a.wr
  | .post (.pure k) a => k :: a.wr
  | .post _ a => a.wr
  | .round a r => a.wr ++ r.wr
  | _ => []
/-- Rounds, or none more. -/
def AC.rd : AC → Bool
  | .round _ _ | .bad _ => true
  | _ => false

/-- A function that is told: what it makes of typed arguments and blocks. -/
structure FnT where
  f : FuncId
  i : Shp
  os : List Shp
  spec : i.D → Option (OutS os)
abbrev Tbl := List FnT

section
variable (P : Program) (T : Tbl)
section
variable {β : Type}

/-- An argument, handed over as its mode says: 0: as it is; 1: frozen; 2: as pure memory for the call's time; from 10 on: nil becomes a slice of the call's own, of that type less 10. -/
def argM (H : Hp) (m : Nat) (a : AV) : Option (AV × Hp) :=
  match m with
  | 0 => some (a, H)
  | 1 => pureA H a
  | 2 => (pureA H a).map fun x => (x.1, H)
  | m => match a with
    | .p .opq (.slice none 0 0) => (ty P (m - 10)).ob fun u => bq (hkey H (m + 100000)) none (some (.slf u.cells (m + 100000), hset H (m + 100000) (some ⟨false, .rows (m - 10) u []⟩)))
    | .sl es old 0 n => match hget H old with
      | some ⟨false, .rows e t l⟩ => bq (Nat.beq es t.cells && !hkey H (m + 100000) && Nat.ble n l.length) (some (.slf es (m + 100000), hset (hset H old none) (m + 100000) (some ⟨false, .rows e t (l.take n)⟩))) none
      | _ => some (.sl es old 0 n, H)
    | a => some (a, H)
def argsM : Hp → List Nat → List AV → Option (List AV × Hp)
  | H, _, [] => some ([], H)
  | H, ms, a :: r => (argM P H (ms.headD 0) a).ob fun x => (argsM x.2 ms.tail r).map fun y => (x.1 :: y.1, y.2)
def argMK (H : Hp) (m : Nat) (a : AV) (K : AV → Hp → Option β) : Option β :=
  match m with
  | 0 => K a H
  | 1 => pureAK H a K
  | 2 => pureAK H a fun x _ => K x H
  | m => match a with
    | .p .opq (.slice none 0 0) => (ty P (m - 10)).ob fun u => bq (hkey H (m + 100000)) none (K (.slf u.cells (m + 100000)) (hset H (m + 100000) (some ⟨false, .rows (m - 10) u []⟩)))
    | .sl es old 0 n => match hget H old with
      | some ⟨false, .rows e t l⟩ => bq (Nat.beq es t.cells && !hkey H (m + 100000) && Nat.ble n l.length) (K (.slf es (m + 100000)) (hset (hset H old none) (m + 100000) (some ⟨false, .rows e t (l.take n)⟩))) none
      | _ => K (.sl es old 0 n) H
    | a => K a H
theorem bq_ob2 {α γ : Type} (c : Bool) (a : α) (b : γ) (K : α → γ → Option β) : bq c (K a b) none = (bq c (some (a, b)) none).ob fun x => K x.1 x.2 := by cases c <;> rfl
theorem bq_ob3 {α γ : Type} (c : Bool) (a : α) (b : γ) (K : α → γ → Option β) : bq c none (K a b) = (bq c none (some (a, b))).ob fun x => K x.1 x.2 := by cases c <;> rfl
theorem argMK_eq (H : Hp) (m : Nat) (a : AV) (K : AV → Hp → Option β) : argMK P H m a K = (argM P H m a).ob fun x => K x.1 x.2 := by
  unfold argMK argM
  split
  · rfl
  · exact pureAK_eq _ _ _
  · rw [pureAK_eq]; cases pureA H a <;> rfl
  · split
    · generalize ty P _ = q
      cases q with
      | none => rfl
      | some u => exact bq_ob3 _ _ _ _
    · rename_i es old n
      rcases hget H old with _ | ⟨fz, b⟩
      · rfl
      · cases fz <;> cases b <;> first | rfl | exact bq_ob2 _ _ _ _
    · rfl
def argsMK : Hp → List Nat → List AV → (List AV → Hp → Option β) → Option β
  | H, _, [], K => K [] H
  | H, ms, a :: r, K => argMK P H (ms.headD 0) a fun x H' => argsMK H' ms.tail r fun l H'' => K (x :: l) H''
theorem argsMK_eq : ∀ (l : List AV) (ms : List Nat) (H : Hp) (K : List AV → Hp → Option β), argsMK P H ms l K = (argsM P H ms l).ob fun x => K x.1 x.2
  | [], _, _, _ => rfl
  | a :: r, ms, H, K => by
    unfold argsMK argsM
    rw [argMK_eq]
    cases argM P H (ms.headD 0) a with
    | none => rfl
    | some x =>
      show argsMK P x.2 ms.tail r _ = _
      rw [argsMK_eq r]
      show _ = ((argsM P x.2 ms.tail r).map _).ob _
      cases argsM P x.2 ms.tail r <;> rfl
def setAll (H : Hp) : Hp → Hp
  | [] => H
  | (i, e) :: r => hset (setAll H r) i e
def killAll : Hp → List Nat → Hp
  | H, [] => H
  | H, i :: r => killAll (hset H i none) r
def freshAll (H : Hp) : List Nat → Bool
  | [] => true
  | i :: r => !hkey H i && freshAll H r
def tupA : List AV → AV
  | [a] => a
  | l => .tup l
def okKeys (f : Nat → Option Nat) : Hp → Bool
  | [] => true
  | (k, _) :: r => (f k).isSome && okKeys f r
def hkeys : Hp → List Nat
  | [] => []
  | (k, _) :: r => k :: hkeys r
/-- Nothing of memory. -/
def Ty.scal : Ty → Bool
  | .int _ | .byte | .bool | .str | .nat => true
  | .one t => t.scal
  | .pair a b => a.scal && b.scal
  | .arr _ t => t.scal
  | _ => false
def allScal : List Ty → Bool
  | [] => true
  | t :: r => t.scal && allScal r
/-- A callee's blocks come back under the caller's numbers. -/
def evCall (e : FnT) (args : List AV) (an : Ann) (H : Hp) (K : AV → Hp → Option β) : Option β :=
  argsMK P H an.md args fun x1 xH =>
  need (freshAll xH an.ids && nodupN an.ids && eqN (hkKeys e.i.hs) (rangeN 0 an.sh.length) && (!memN 2 an.md || (e.os.all (fun o => allScal o.tys) && Nat.beq an.sh.length 0 && Nat.beq an.ids.length 0))) <|
  e.i.rco x1 xH (zipN an.sh (rangeN 0 an.sh.length)) fun t =>
  (e.spec t).bind fun r => OutS.on e.os r fun o x2 =>
    let all := an.sh ++ an.ids
    let back := zipN (rangeN 0 all.length) all
    o.embC x2 fun vs H2 =>
    need (nodupN all && nodupN (hkeys H2) && allIn (hkeys H2) (fstN back)) <|
    K (AV.ren (noOf back) (tupA vs)) (setAll (killAll xH an.sh) (renH H2 (noOf back) back))
def AV.fnv? : AV → Option (FuncId × List AV × List AV)
  | .fn f a c => some (f, a, c)
  | .p .opq (.func (.func f) a c) => bq (Nat.beq a.size 0 && Nat.beq c.size 0) (some (f, [], [])) none
  | _ => none

/-- Operations that only read. -/
def isR (o : Oper) : Bool :=
  match o.op with
  | .move _ | .assign _ | .pick _ _ _ | .build _ _ | .load _ _ | .nilCheck _ | .binOp _ _ _ _ _ | .unOp _ _ _ | .makeFunc _ _ _ | .slice _ _ _ _ _
  | .fieldAddr _ _ _ | .field _ _ _ | .indexAddr _ _ _ | .index _ _ _ | .extract _ _ | .lookup _ _ _ _ => true
  | .convert _ d _ => match P.underlying d with
    | some (.slice _) => false
    | _ => true
  | .call c => match c.callee with
    | .builtin .len | .builtin .min | .builtin .max | .builtin .cap => true
    | _ => false
  | _ => false
def evR (o : Oper) (r : Operand → AV) (H : Hp) (K : AV → Option β) : Option β :=
  match o.op with
  | .move x | .assign x => K (r x)
  | .pick c a b => evPick P o.type (r c) (r a) (r b) K
  | .build t ps => evBuild P t (ps.toList.map fun x => (x.1, r x.2)) K
  | .load t a => evLoad P t (r a) H K
  | .nilCheck x => match r x with
    | .own es id i j => K (.own es id i j)
    | .pt u l i j => K (.pt u l i j)
    | .fn f a c => K (.fn f a c)
    | _ => none
  | .binOp op t x y u => evBin P op t u (r x) (r y) H K
  | .lookup t x ix c => evLookup P t (r x) (r ix) c H K
  | .unOp op t x => evUn P op t (r x) K
  | .convert s d x => evConvert P s d (r x) H K
  | .makeFunc (.func f) a c => K (.fn f (a.toList.map r) (c.toList.map r))
  | .slice t x lo hi none => evSlice P t (r x) (lo.map r) (hi.map r) H K
  | .fieldAddr s x f => evFieldAddr P s (r x) f K
  | .field s x f => evField P s (r x) f K
  | .indexAddr t x ix => evIndexAddr P t (r x) (r ix) H K
  | .index t x ix => evIndex P t (r x) (r ix) K
  | .extract x i => (r x).tup?.ob fun l => l[i]?.ob K
  | .call c =>
    match c.callee with
    | .builtin .len => match c.args.toList, c.argTypes.toList with
      | [a], [t] => lenT P t H (r a) fun n => K (.i .i64 (n : Int))
      | _, _ => none
    | .builtin .cap => match c.args.toList, c.argTypes.toList with
      | [a], [t] => match P.underlying t with
        | some (.slice _) => match r a with
          | .p .opq (.slice none 0 0) => K (.i .i64 0)
          | a => lenS H a fun n => capQ n fun m => K (.i .i64 m)
        | _ => none
      | _, _ => none
    | .builtin .min => match P.underlying o.type with
      | some (.int k) => (ints? k (c.args.toList.map r)).ob fun l => match l with
        | x :: l => K (.i k (minI l x))
        | [] => none
      | _ => none
    | .builtin .max => match P.underlying o.type with
      | some (.int k) => (ints? k (c.args.toList.map r)).ob fun l => match l with
        | x :: l => K (.i k (maxI l x))
        | [] => none
      | _ => none
    | _ => none
  | _ => none
/-- Operations that write, or make memory. -/
def evW (o : Oper) (an : Ann) (r : Operand → AV) (H : Hp) (K : AV → Hp → Option β) : Option β :=
  match o.op with
  | .alloc t => evAlloc P t (an.ids.headD 0) H K
  | .box t x => evBox P t (r x) (an.ids.headD 0) H K
  | .buildSlice t n ps => evBuildSlice P t n (ps.toList.map fun x => (x.1, r x.2)) (Nat.beq (an.md.headD 0) 1) (an.ids.headD 0) H K
  | .store t a x => evStore P t (r a) (r x) H K
  | .convert s d x => match P.underlying d with
    | some .string => evConvert P s d (r x) H fun v => K v H
    | _ => evConvertW P s d (r x) (an.ids.headD 0) H K
  | .makeSlice t l c => evMake P t (r l) (r c) (an.ids.headD 0) H K
  | .makeMap t q => evMakeMap P t (q.map r) (an.ids.headD 0) H K
  | .mapUpdate t m k x | .insert t m k x => evMapUpd P t (r m) (r k) (r x) H K
  | .mapEntry t m k => evMapEntry P t (r m) (r k) H K
  | .entryStore _ m s x => evEntryStore (r m) (r s) (r x) H K
  | .call c =>
    match c.callee with
    | .builtin .append => match c.args.toList, c.argTypes.toList with
      | [s, x], [t, u] => match P.underlying u with
        | some (.int _) => evAppendZ P t (r s) (r x) (an.ids.headD 0) H K
        | some (.slice _) => evAppend P t (r s) (r x) (an.ids.headD 0) H K
        | some .string => evAppend P t (r s) (r x) (an.ids.headD 0) H K
        | _ => none
      | _, _ => none
    | .builtin .copy => match c.args.toList, c.argTypes.toList with
      | [d, x], t :: _ => evCopy P t (r d) (r x) H K
      | _, _ => none
    | .builtin .clear => match c.args.toList, c.argTypes.toList with
      | [d], [t] => evClear P t (r d) H K
      | _, _ => none
    | .builtin .delete => match c.args.toList, c.argTypes.toList with
      | [m, k], t :: _ => evDelete P t (r m) (r k) H K
      | _, _ => none
    | .value f => (r f).fnv?.ob fun x => match T[an.fn]? with
      | some e => bq (Nat.beq e.f x.1) (evCall P e (x.2.1 ++ c.args.toList.map r ++ x.2.2) an H K) none
      | none => none
    | _ => none
  | _ => none

/-- One operation that is carried out. -/
def ev1 (o : Oper) (an : Ann) (st : St) (K : St → Option β) : Option β :=
  bq (isR P o) (evR P o st.opnd st.hp fun v => K (st.putO o.dst v)) (evW P T o an st.opnd st.hp fun v H => K { st.putO o.dst v with hp := H })
/-- A guarded one: what its guard yielded is known behind it. -/
def St.skip (st : St) (o : Oper) : St := st.putO o.dst (.tup [])
def evG (all : List Oper) (o : Oper) (st : St) (go skip : St → Option β) : Option β :=
  bq (dstOk st.nt o.dst) (match o.guard with
    | none => go st
    | some (j, want) => ((all[j]?).ob (·.dst)).ob fun d =>
      match st.tm.get d with
      | .tup [] => skip (st.skip o)
      | a => a.bool?.ob fun t =>
        bq t ((bq want (go { st with tm := st.tm.put d (.b true) }) (skip (St.skip { st with tm := st.tm.put d (.b true) } o)))) ((bq want (skip (St.skip { st with tm := st.tm.put d (.b false) } o)) (go { st with tm := st.tm.put d (.b false) })))) none
def evOps : List (Oper × Ann) → List Oper → St → (St → Option β) → Option β
  | [], _, st, K => K st
  | (o, an) :: rest, all, st, K => evG all o st (fun st => ev1 P T o (an.at st.hp) st fun st' => evOps rest all st' K) (fun st => evOps rest all st K)

/-! Regions that draw their order -/
def nubN : List Nat → List Nat
  | [] => []
  | i :: r => bq (memN i r) (nubN r) (i :: nubN r)
/-- The numbers that an operation's operands name; none where it looks at no memory. -/
def footIds (o : Oper) (r : Operand → AV) : List Nat :=
  match o.op with
  | .move _ | .fieldAddr _ _ _ => []
  | _ => AV.idsL (o.op.operands.toList.map r)
def foot (o : Oper) (an : Ann) (r : Operand → AV) : List Nat := nubN (an.sh ++ an.ids ++ footIds o r)
def hsub (H : Hp) : List Nat → Hp
  | [] => []
  | i :: r => bq (hkey H i) ((i, hget H i) :: hsub H r) (hsub H r)
def ltAll (n : Nat) : List Nat → Bool
  | [] => true
  | i :: r => Nat.blt i n && ltAll n r
/-- Operations that make memory under a number. -/
def mkOp (o : Oper) : Bool :=
  match o.op with
  | .alloc _ | .box _ _ | .buildSlice _ _ _ | .makeSlice _ _ _ | .makeMap _ _ => true
  | .convert s _ _ => match P.underlying s with | some .string => true | _ => false
  | .call c => match c.callee with | .builtin .append => true | _ => false
  | _ => false
/-- Is it none of slices held against nil? -/
def natBin (t : TypeId) : Bool := match P.underlying t with | some (.slice _) => false | _ => true
/-- Operations that may stand in any order. -/
def natR (o : Oper) : Bool :=
  match o.op with
  | .binOp _ t _ _ _ => natBin P t
  | .call c => match c.callee with
    | .builtin .cap => false
    | _ => true
  | _ => true
def ev1D (o : Oper) (an : Ann) (st : St) (K : St → Option β) : Option β :=
  bq (isR P o) (need (natR P o) <| evR P o st.opnd (hsub st.hp (foot o an st.opnd)) fun v => K (st.putO o.dst v))
    (need ((!mkOp P o || !Nat.beq an.ids.length 0) && ltAll 3 an.md) <| evW P T o an st.opnd (hsub st.hp (foot o an st.opnd)) fun v H =>
      need (allIn (hkeys H) (foot o an st.opnd)) <| K { st.putO o.dst v with hp := setAll (killAll st.hp (foot o an st.opnd)) H })
structure Fp where
  i : Nat
  fp : List Nat
  w : Bool
def meetN : List Nat → List Nat → Bool
  | [], _ => false
  | i :: r, l => memN i l || meetN r l
def clash (a b : Fp) : Bool := (a.w || b.w) && meetN a.fp b.fp
/-- Those that must come ahead of each. -/
def closN (done : List (Nat × List Nat)) : List Edge → List Nat
  | [] => []
  | e :: r => bq (Region.binds .any e) (e.on :: ((done.lookup e.on).getD [] ++ closN done r)) (closN done r)
def clos : Nat → List Oper → List (Nat × List Nat) → List (Nat × List Nat)
  | _, [], done => done
  | i, o :: r, done => clos (i + 1) r ((i, nubN (closN done o.after.toList)) :: done)
def pairOk (cl : List (Nat × List Nat)) (a b : Fp) : Bool := memN a.i ((cl.lookup b.i).getD []) || !clash a b
def pairsOk (cl : List (Nat × List Nat)) : List Fp → Bool
  | [] => true
  | b :: r => (r.all fun a => pairOk cl a b) && pairsOk cl r
/-- What an operation names: itself, those ahead of it, the slots that it looks at, the one that it writes. -/
structure Nm where
  i : Nat
  cl : List Nat
  rd : List Nat
  wr : Option Nat
def tmpsOf : List Operand → List Nat
  | [] => []
  | .tmp t :: r => t :: tmpsOf r
  | _ :: r => tmpsOf r
def guardOf (all : List Oper) (o : Oper) : List Nat :=
  match o.guard with
  | some (g, _) => (match all[g]? with | some x => (match x.dst with | some d => [d] | none => []) | none => [])
  | none => []
def nms (cl : List (Nat × List Nat)) (all : List Oper) : Nat → List Oper → List Nm
  | _, [] => []
  | i, o :: r => ⟨i, (cl.lookup i).getD [], guardOf all o ++ tmpsOf o.op.operands.toList, o.dst⟩ :: nms cl all (i + 1) r
def hasN (l : List Nat) : Option Nat → Bool
  | none => false
  | some d => memN d l
def sameO : Option Nat → Option Nat → Bool
  | some a, some b => Nat.beq a b
  | _, _ => false
def apartN (a b : Nm) : Bool := !hasN b.rd a.wr && !hasN a.rd b.wr && !sameO a.wr b.wr
def nmAll (a : Nm) : List Nm → Bool
  | [] => true
  | b :: r => (memN a.i b.cl || apartN a b) && nmAll a r
def nmsOk : List Nm → Bool
  | [] => true
  | a :: r => nmAll a r && nmsOk r
def edgesLt (i : Nat) : List Edge → Bool
  | [] => true
  | e :: r => (!Region.binds .any e || Nat.blt e.on i) && edgesLt i r
def edgesOk : Nat → List Oper → Bool
  | _, [] => true
  | i, o :: r => edgesLt i o.after.toList && (match o.op with | .select _ _ => false | _ => true) && edgesOk (i + 1) r
/-- The last one's footprint stands first. -/
def evOpsD : List (Nat × Oper × Ann) → List Oper → St → List Fp → (St → List Fp → Option β) → Option β
  | [], _, st, fs, K => K st fs
  | (i, o, an) :: rest, all, st, fs, K =>
    evG all o st (fun st => ev1D P T o (an.at st.hp) st fun st' => evOpsD rest all st' (⟨i, foot o (an.at st.hp) st.opnd, !isR P o⟩ :: fs) K) (fun st => evOpsD rest all st fs K)
def numb {α : Type} : Nat → List α → List (Nat × α)
  | _, [] => []
  | k, a :: r => (k, a) :: numb (k + 1) r

def Cn.holds (st : St) : Cn → Bool
  | .slot k kd => kd.fits (st.tm.get k)
  | .cell b j kd => match hget st.hp b with
    | some ⟨_, .vars c⟩ => kd.fits (c.getD j .junk)
    | _ => false
  | .key id => match hget st.hp id with
    | some _ => true
    | none => false
def renF (old new : Nat) (id : Nat) : Option Nat := bq (Nat.beq id old) (some new) (some id)
def Tr.ren (f : Nat → Option Nat) : Tr → Tr
  | .lf => .lf
  | .nd l v r => .nd (l.ren f) (AV.ren f v) (r.ren f)
def mapHp (f : Nat → Option Nat) : Hp → Hp
  | [] => []
  | (i, some e) :: r => (i, some (e.ren f)) :: mapHp f r
  | (i, none) :: r => (i, none) :: mapHp f r
def ghost (g : Gh) (st : St) : Option St :=
  match g with
  | .renum old new => match hget st.hp old with
    | some e => bq (hkey st.hp new) none (some { st with tm := st.tm.ren (renF old new), hp := hset (hset (mapHp (renF old new) st.hp) old none) new (some (e.ren (renF old new))) })
    | none => none
  | .pure k => (pureA st.hp (st.tm.get k)).map fun x => { st with tm := st.tm.put k x.1, hp := x.2 }
  | .freeze k => some { st with hp := frzA st.hp (st.tm.get k) }
  | .frzB id => some { st with hp := frz st.hp id }
  | .pureCell b o => match hget st.hp b with
    | some ⟨false, .vars c⟩ => match c[o]? with
      | some a => match pureA st.hp a with
        | some (x, H') => match hget H' b with
          | some ⟨false, .vars _⟩ => some { st with hp := hset H' b (some ⟨false, .vars (c.set o x)⟩) }
          | _ => none
        | none => some st
      | none => some st
    | _ => some st
  | .ownNil k e id => match st.tm.get k with
    | .p .opq (.slice none 0 0) => (ty P e).ob fun u => bq (hkey st.hp id) none (some { st with tm := st.tm.put k (.slf u.cells id), hp := hset st.hp id (some ⟨false, .rows e u []⟩) })
    | _ => some st
  | .ownCell b o e id => match hget st.hp b with
    | some ⟨false, .vars c⟩ => match c[o]? with
      | some (.p .opq (.slice none 0 0)) => (ty P e).ob fun u => bq (hkey st.hp id) none (some { st with hp := hset (hset st.hp b (some ⟨false, .vars (c.set o (.slf u.cells id))⟩)) id (some ⟨false, .rows e u []⟩) })
      | _ => some st
    | _ => some st
end

def Sum.on_ {α β γ : Type} (x : α ⊕ β) (f : α → γ) (g : β → γ) : γ := match x with | .inl a => f a | .inr b => g b
/-- A return out of a loop or a join. -/
def Out.retO {β γ : Type} : (ret : Bool) → (l : List (Nat × LShp)) → β → (Out ret l β → Option γ) → Option γ
  | true, l, b, K => K (Out.ret l b)
  | false, _, _, _ => none
variable (fu : Nat)
/-- The number under which a join's own end goes. -/
def evS : {β : Type} → AC → St → (St → Option β) → (Nat → St → Option β) → (St → Option β) → Option β
  | _, .skip, st, K, _, _ => K st
  | _, .ret, st, _, _, R => R st
  | _, .exit i, st, _, X, _ => X i st
  | _, .seq a b, st, K, X, R => evS a st (fun st' => evS b st' K X R) X R
  | _, .cond c a b, st, K, X, R => (st.opnd c).bool?.ob fun t => bq t (evS a st K X R) (evS b st K X R)
  | _, .block i a, st, K, X, R => evS a st K (fun j st' => bq (Nat.beq j i) (K st') (X j st')) R
  | β, .loop sh rt outs a, st, K, X, R =>
      st.prj sh fun t0 =>
      (iter fu (fun t => evS (β := sh.D ⊕ Out rt outs β) a (sh.inj ((st.tm.keep).junk a.wr) st.nt st.n0 t) (fun st'' => st''.prj sh fun t' => some (.inl t'))
          (fun i st'' => Out.mk st'' rt outs i fun o => some (.inr o))
          (fun st'' => (R st'').ob fun b => Out.retO rt outs b fun o => some (.inr o))) t0).bind fun o =>
      Out.on ((st.tm.keep).junk a.wr) st.nt st.n0 rt outs o X some
  | _, .region _ ops draw, st, K, _, _ => bq draw (need (edgesOk 0 (ops.map (·.1)) && nmsOk (nms (clos 0 (ops.map (·.1)) []) (ops.map (·.1)) 0 (ops.map (·.1)))) <| evOpsD P T (numb 0 ops) (ops.map (·.1)) st [] fun st' fs => need (pairsOk (clos 0 (ops.map (·.1)) []) fs) <| K st') (evOps P T ops (ops.map (·.1)) st K)
  | β, .join sh rt outs a, st, K, X, R =>
      (evS (β := Out rt ((0, sh) :: outs) β) a st (fun st'' => Out.mk st'' rt ((0, sh) :: outs) 0 some)
        (fun i st'' => Out.mk st'' rt ((0, sh) :: outs) (i + 1) some)
        (fun st'' => (R st'').ob fun b => Out.retO rt ((0, sh) :: outs) b some)).bind fun o =>
      Out.on ((st.tm.keep).junk a.wr) st.nt st.n0 rt ((0, sh) :: outs) o (fun i st'' => match i with | 0 => K st'' | i + 1 => X i st'') some
  | _, .pre g a, st, K, X, R => (ghost P g st).ob fun st' => evS a st' K X R
  | _, .sel q a b, st, K, X, R => bq (Cn.holds st q) (evS a st K X R) (evS b st K X R)
  | _, .post g a, st, K, X, R => evS a st (fun st' => (ghost P g st').ob K) X R
  | _, .round a r, st, K, X, R => need r.rd <| evS a st (fun st' => evS r st' K X R) X R
  | _, .bad _, _, _, _, _ => none

/-! Functions -/
structure FnA where
  ov : Ov
  i : Shp
  os : List Shp
  /-- how the results come back: 1: as pure memory -/
  md : List Nat
def initTm : Tr → Nat → List AV → Tr
  | t, _, [] => t
  | t, k, a :: r => initTm (t.put k a) (k + 1) r
def loadRes {β : Type} : List ResultVar → St → (List AV → Option β) → Option β
  | [], _, K => K []
  | .tmp t :: r, st, K => loadRes r st fun l => K (st.tm.get t :: l)
  | .cell a t :: r, st, K => evLoad P t (st.tm.get a) st.hp fun v => loadRes r st fun l => K (v :: l)
def fin (fn : Func) (fa : FnA) (st : St) : Option (OutS fa.os) :=
  loadRes P fn.results.toList st fun l => argsMK P st.hp fa.md l fun x1 xH =>
    let n := fa.i.hs.length
    let ids := reach xH reachFuel (rangeN 0 n ++ AV.idsL x1) []
    let news := ids.filter fun i => !Nat.blt i n
    let olds := ids.filter fun i => Nat.blt i n
    OutS.rco x1 xH (zipN (olds ++ news) (olds ++ rangeN n news.length)) fa.os some
def depth (n : Nat) : Nat := Nat.log2 n + 1
def evF (fn : Func) (fa : FnA) (t : fa.i.D) : Option (OutS fa.os) :=
  fa.i.embC t fun vs H =>
  need (eqN (hkKeys fa.i.hs) (rangeN 0 fa.i.hs.length) && !memN 2 fa.md) <|
  fn.body.ob fun c => evS P T fu (build fa.ov c) ⟨initTm (Tr.full (depth fn.ntmps)) 0 vs, fn.ntmps, fa.i.hs.length, H⟩ (fin P fn fa) (fun _ _ => none) (fin P fn fa)
end
end
end Go.Ab

/- What the abstract values stand for: in a world, over numbers for its blocks. -/
namespace Go.Ab

inductive RB where
  | no
  | virt
  | real (g sz n : Nat)
abbrev Rho := Nat → RB
/-- A world; the blocks that somebody may write; those that this call may write; where its numbers are. -/
structure Z where
  w : World
  M : Nat → Prop
  C : Nat → Prop
  ρ : Rho
  /-- numbers that are others' -/
  D : Nat → Prop

def Cl (w : World) (M : Nat → Prop) : (t : Ty) → t.den → List Value → Prop
  | .int k, n, vs => vs = [.int k n]
  | .byte, c, vs => vs = [.int .u8 (c.toNat : Int)]
  | .bool, b, vs => vs = [.bool b]
  | .str, l, vs => vs = [.string ⟨⟨l⟩⟩]
  | .opq, v, vs => vs = [v] ∧ v.oneCell' = true
  | .nat, _, _ => False
  | .one t, x, vs => Cl w M t x vs
  | .pair a b, x, vs => ∃ u v, vs = u ++ v ∧ Cl w M a x.1 u ∧ Cl w M b x.2 v
  | .arr n t, l, vs => List.length (α := t.den) l = n ∧ ∃ css : List (List Value), css.length = n ∧ vs = css.flatten ∧ ∀ (i : Nat) (e : t.den) u, (show List t.den from l)[i]? = some e → css[i]? = some u → Cl w M t e u
  | .sl t, l, vs => ∃ A c, vs = [.slice A (List.length (α := t.den) l) c] ∧ List.length (α := t.den) l ≤ c ∧ c ≤ maxLen ∧ (A = none → c = 0) ∧
      (List.length (α := t.den) l ≠ 0 → ∃ b off, A = some ⟨b, off, none⟩ ∧ ¬ M b ∧ b < w.heap.size ∧
        ∀ (i : Nat) (e : t.den), (show List t.den from l)[i]? = some e → ∃ u, Cl w M t e u ∧ w.rangeAt b (off + i * t.cells) u)

/-- A value in its form. -/
def VRep (w : World) (M : Nat → Prop) (t : Ty) (x : t.den) (v : Value) : Prop :=
  ∃ vs, Cl w M t x vs ∧ v = (bif t.isAgg then .agg vs.toArray else vs.headD undef)
/-- Pure memory: a row's elements. -/
def RowAt (w : World) (M : Nat → Prop) (b off : Nat) (t : Ty) (l : List t.den) : Prop :=
  ∀ (i : Nat) e, l[i]? = some e → ∃ u, Cl w M t e u ∧ w.rangeAt b (off + i * t.cells) u

inductive ARep (z : Z) : AV → Value → Prop
  | p (t : Ty) (x : t.den) (v : Value) (h : VRep z.w z.M t x v) : ARep z (.p t x) v
  | pt (t : Ty) (l : List t.den) (i j b off : Nat) (hM : ¬ z.M b) (hlt : b < z.w.heap.size) (h : RowAt z.w z.M b off t l) : ARep z (.pt t l i j) (.pointer (some ⟨b, off + i * t.cells + j, none⟩))
  | own (es id i j g sz n : Nat) (h : z.ρ id = .real g sz n) : ARep z (.own es id i j) (.pointer (some ⟨g, i * es + j, none⟩))
  | slV (es id off : Nat) (A : Option Addr) (h : z.ρ id = .virt) : ARep z (.sl es id off 0) (.slice A 0 0)
  | slE (es id off g sz m o : Nat) (h : z.ρ id = .real g sz m) : ARep z (.sl es id off 0) (.slice (some ⟨g, o, none⟩) 0 0)
  | sl (es id off n g sz m c : Nat) (h : z.ρ id = .real g sz m) (hn : n ≤ c) (hs : (off + c) * es ≤ sz) (hm : c ≤ maxLen) : ARep z (.sl es id off n) (.slice (some ⟨g, off * es, none⟩) n c)
  | slfV (es id : Nat) (A : Option Addr) (h : z.ρ id = .virt) : ARep z (.slf es id) (.slice A 0 0)
  | slf (es id g sz n c : Nat) (h : z.ρ id = .real g sz n) (hn : n ≤ c) (hs : c * es ≤ sz) (hm : c ≤ maxLen) : ARep z (.slf es id) (.slice (some ⟨g, 0, none⟩) n c)
  | mp (id g sz n : Nat) (h : z.ρ id = .real g sz n) : ARep z (.mp id) (.map (some g))
  | fn (f : FuncId) (a c : List AV) (va vc : Array Value) (ha : va.size = a.length) (hc : vc.size = c.length)
      (h1 : ∀ (i : Nat) (x : AV) (v : Value), a[i]? = some x → va[i]? = some v → ARep z x v)
      (h2 : ∀ (i : Nat) (x : AV) (v : Value), c[i]? = some x → vc[i]? = some v → ARep z x v) : ARep z (.fn f a c) (.func (.func f) va vc)
  | agg (l : List AV) (cs : Array Value) (hs : cs.size = l.length) (h1 : ∀ v ∈ cs, v.oneCell' = true)
      (h : ∀ (i : Nat) (x : AV) (v : Value), l[i]? = some x → cs[i]? = some v → ARep z x v) : ARep z (.agg l) (.agg cs)
  | tup (l : List AV) (vs : Array Value) (hs : vs.size = l.length)
      (h : ∀ (i : Nat) (x : AV) (v : Value), l[i]? = some x → vs[i]? = some v → ARep z x v) : ARep z (.tup l) (.tuple vs)
  | junk (v : Value) : ARep z .junk v

/-- No cell of the block is frozen. -/
def okF (cs : Array Value) (fr : Nat × Nat) : Prop := fr.1 = fr.2 ∨ cs.size ≤ fr.1
/-- A block's content. -/
def BRep (z : Z) (g sz n : Nat) : Blk → Prop
  | .vars c => ∃ cs e fr, z.w.heap[g]? = some (.cells cs e fr) ∧ okF cs fr ∧ cs.size = sz ∧ (c.length = sz ∧ n = sz) ∧ (∀ (i : Nat) a v, c[i]? = some a → cs[i]? = some v → ARep z a v) ∧ ∀ v ∈ cs, v.oneCell' = true
  | .rows e t l => ∃ cs fr, z.w.heap[g]? = some (.cells cs e fr) ∧ okF cs fr ∧ cs.size = sz ∧ l.length = n ∧ l.length * t.cells ≤ sz ∧ 0 < t.cells ∧
      (∀ (i : Nat) x, l[i]? = some x → ∃ u, Cl z.w z.M t x u ∧ ∀ (j : Nat) v, u[j]? = some v → cs[i * t.cells + j]? = some v)
  | .map k v m => ∃ es, z.w.heap[g]? = some (.map es m.2) ∧ es.size = m.1.length ∧ (∀ (i : Nat) x e, m.1[i]? = some x → es[i]? = some e → VRep z.w z.M k x.1.1 e.key ∧ VRep z.w z.M v x.1.2 e.val ∧ e.born = x.2) ∧
      (∀ (i j : Nat) x y, m.1[i]? = some x → m.1[j]? = some y → x.2 = y.2 → i = j) ∧ (∀ (i : Nat) x, m.1[i]? = some x → x.2 < m.2)
  | .fmap k l => ∃ es clock, z.w.heap[g]? = some (.map es clock) ∧ es.size = l.length ∧ (∀ (i : Nat) x e, l[i]? = some x → es[i]? = some e → VRep z.w z.M k x.1 e.key ∧ ARep z x.2 e.val)
def BEmpty : Blk → Prop
  | .rows _ t l => l = [] ∧ 0 < t.cells
  | _ => False
def ERep (z : Z) (id : Nat) (e : Ent) : Prop :=
  match z.ρ id with
  | .no => False
  | .virt => BEmpty e.b
  | .real g sz n => g < z.w.heap.size ∧ (e.fz = false → z.C g) ∧ (e.fz = true → ¬ z.M g) ∧ BRep z g sz n e.b

structure HRep (z : Z) (H : Hp) : Prop where
  ent : ∀ id e, hget H id = some e → ERep z id e
  inj : ∀ id id' e e' g sz n g' sz' n', id ≠ id' → hget H id = some e → hget H id' = some e' → e.fz = false → e'.fz = false → z.ρ id = .real g sz n → z.ρ id' = .real g' sz' n' → g ≠ g'
  fresh : ∀ id, hkey H id = false → z.ρ id = .no ∨ z.D id
  sub : ∀ g, z.C g → z.M g

/-- What a step may change. -/
structure Nx (z z' : Z) : Prop where
  os : z'.w.os = z.w.os
  tape : z'.w.tape = z.w.tape
  output : z'.w.output = z.w.output
  size : z.w.heap.size ≤ z'.w.heap.size
  block : ∀ b, b < z.w.heap.size → ¬ z.C b → z'.w.heap[b]? = z.w.heap[b]?
  subM : ∀ g, z'.M g → z.M g ∨ z.w.heap.size ≤ g
  subC : ∀ g, z'.C g → z.C g ∨ z.w.heap.size ≤ g
  keepM : ∀ g, g < z.w.heap.size → z.M g → ¬ z.C g → z'.M g
  ext : ∀ id, z.ρ id ≠ .no → z'.ρ id = z.ρ id
  dom : z'.D = z.D

theorem Nx.refl (z : Z) : Nx z z := ⟨rfl, rfl, rfl, Nat.le_refl _, fun _ _ _ => rfl, fun _ h => .inl h, fun _ h => .inl h, fun _ _ h _ => h, fun _ _ => rfl, rfl⟩
theorem Nx.trans {z z' z'' : Z} (h : Nx z z') (k : Nx z' z'') : Nx z z'' := by
  have h1 := h.size
  refine ⟨k.os.trans h.os, k.tape.trans h.tape, k.output.trans h.output, Nat.le_trans h.size k.size, fun b hb hC => ?_, fun g hg => ?_, fun g hg => ?_, fun g hg hM hC => ?_, fun id hid => ?_, k.dom.trans h.dom⟩
  · have hC' : ¬ z'.C b := fun hm => by
      rcases h.subC b hm with h2 | h2
      · exact hC h2
      · omega
    rw [k.block b (by omega) hC', h.block b hb hC]
  · rcases k.subM g hg with h2 | h2
    · exact h.subM g h2
    · exact .inr (Nat.le_trans h.size h2)
  · rcases k.subC g hg with h2 | h2
    · exact h.subC g h2
    · exact .inr (Nat.le_trans h.size h2)
  · refine k.keepM g (by omega) (h.keepM g hg hM hC) fun hm => ?_
    rcases h.subC g hm with h2 | h2
    · exact hC h2
    · omega
  · have h1 := h.ext id hid
    rw [← h1]
    exact k.ext id (by rw [h1]; exact hid)

/-! Lengths and forms -/
theorem flatten_len {css : List (List Value)} {n : Nat} (h : ∀ u ∈ css, u.length = n) : css.flatten.length = css.length * n := by
  induction css with
  | nil => simp
  | cons u css ih =>
    simp only [List.flatten_cons, List.length_append, List.length_cons, Nat.succ_mul]
    rw [ih fun u hu => h u (by simp [hu]), h u (by simp)]
    omega
theorem get_of_len {α β : Type} {l : List α} {c : List β} (h : c.length = l.length) {i : Nat} {u : β} (hu : c[i]? = some u) : ∃ e, l[i]? = some e :=
  ⟨_, List.getElem?_eq_getElem (by have := (List.getElem?_eq_some_iff.1 hu).1; omega)⟩
theorem Cl.len {w : World} {M : Nat → Prop} : {t : Ty} → {x : t.den} → {vs : List Value} → Cl w M t x vs → vs.length = t.cells
  | .int _, _, _, h | .byte, _, _, h | .bool, _, _, h | .str, _, _, h => by simp only [Cl] at h; subst h; rfl
  | .opq, _, _, h => by obtain ⟨rfl, _⟩ := h; rfl
  | .nat, _, _, h => h.elim
  | .one t, _, _, h => Cl.len (t := t) h
  | .pair a b, _, _, h => by
    obtain ⟨u, v, rfl, h1, h2⟩ := h
    rw [List.length_append, Cl.len h1, Cl.len h2]; rfl
  | .arr n t, l, _, h => by
    obtain ⟨hn, css, h1, rfl, h2⟩ := h
    rw [flatten_len (n := t.cells), h1]
    · rfl
    · intro u hu
      obtain ⟨i, hi⟩ := List.getElem?_of_mem hu
      obtain ⟨e, he⟩ := get_of_len (l := (show List t.den from l)) (by rw [h1, ← hn]) hi
      exact Cl.len (h2 i e u he hi)
  | .sl t, _, _, h => by obtain ⟨A, c, rfl, _⟩ := h; rfl
theorem Cl.one {w : World} {M : Nat → Prop} : {t : Ty} → {x : t.den} → {vs : List Value} → Cl w M t x vs → ∀ v ∈ vs, v.oneCell' = true
  | .int _, _, _, h | .byte, _, _, h | .bool, _, _, h | .str, _, _, h => by simp only [Cl] at h; subst h; simp [Value.oneCell']
  | .opq, _, _, h => by obtain ⟨rfl, h⟩ := h; simpa using h
  | .nat, _, _, h => h.elim
  | .one t, _, _, h => Cl.one (t := t) h
  | .pair a b, _, _, h => by
    obtain ⟨u, v, rfl, h1, h2⟩ := h
    intro x hx
    rcases List.mem_append.1 hx with hx | hx
    · exact Cl.one h1 x hx
    · exact Cl.one h2 x hx
  | .arr n t, l, _, h => by
    obtain ⟨hn, css, h1, rfl, h2⟩ := h
    intro x hx
    obtain ⟨u, hu, hx⟩ := List.mem_flatten.1 hx
    obtain ⟨i, hi⟩ := List.getElem?_of_mem hu
    obtain ⟨e, he⟩ := get_of_len (l := (show List t.den from l)) (by rw [h1, ← hn]) hi
    exact Cl.one (h2 i e u he hi) x hx
  | .sl t, _, _, h => by obtain ⟨A, c, rfl, _⟩ := h; simp [Value.oneCell']

theorem World.rangeAt.same {w w' : World} {b o : Nat} {vs : List Value} (h : w.rangeAt b o vs) (he : w'.heap[b]? = w.heap[b]?) : w'.rangeAt b o vs := fun j v hj => by
  rw [World.cell?_of_block (w := w) he]; exact h j v hj
/-- Pure memory stays. -/
theorem Cl.keep {w w' : World} {M M' : Nat → Prop} (hs : w.heap.size ≤ w'.heap.size) (hb : ∀ b, b < w.heap.size → ¬ M b → w'.heap[b]? = w.heap[b]?) (hM : ∀ g, M' g → M g ∨ w.heap.size ≤ g) :
    {t : Ty} → {x : t.den} → {vs : List Value} → Cl w M t x vs → Cl w' M' t x vs
  | .int _, _, _, h | .byte, _, _, h | .bool, _, _, h | .str, _, _, h | .opq, _, _, h => h
  | .nat, _, _, h => h.elim
  | .one t, _, _, h => Cl.keep hs hb hM (t := t) h
  | .pair a b, _, _, h => by
    obtain ⟨u, v, rfl, h1, h2⟩ := h
    exact ⟨u, v, rfl, Cl.keep hs hb hM h1, Cl.keep hs hb hM h2⟩
  | .arr n t, l, _, h => by
    obtain ⟨hn, css, h1, rfl, h2⟩ := h
    exact ⟨hn, css, h1, rfl, fun i e u he hu => Cl.keep hs hb hM (h2 i e u he hu)⟩
  | .sl t, l, _, h => by
    obtain ⟨A, c, rfl, h1, h2, h3, h4⟩ := h
    refine ⟨A, c, rfl, h1, h2, h3, fun h0 => ?_⟩
    obtain ⟨b, off, h5, h6, h7, h8⟩ := h4 h0
    refine ⟨b, off, h5, fun hm => ?_, by omega, fun i e he => ?_⟩
    · rcases hM b hm with h | h
      · exact h6 h
      · omega
    · obtain ⟨u, h9, h10⟩ := h8 i e he
      exact ⟨u, Cl.keep hs hb hM h9, World.rangeAt.same h10 (hb b h7 h6)⟩
theorem RowAt.keep {w w' : World} {M M' : Nat → Prop} (hs : w.heap.size ≤ w'.heap.size) (hb : ∀ b, b < w.heap.size → ¬ M b → w'.heap[b]? = w.heap[b]?) (hM : ∀ g, M' g → M g ∨ w.heap.size ≤ g)
    {b off : Nat} {t : Ty} {l : List t.den} (h : RowAt w M b off t l) (hlt : b < w.heap.size) (hn : ¬ M b) : RowAt w' M' b off t l := fun i e he => by
  obtain ⟨u, h9, h10⟩ := h i e he
  exact ⟨u, Cl.keep hs hb hM h9, World.rangeAt.same h10 (hb b hlt hn)⟩
theorem VRep.keep {w w' : World} {M M' : Nat → Prop} (hs : w.heap.size ≤ w'.heap.size) (hb : ∀ b, b < w.heap.size → ¬ M b → w'.heap[b]? = w.heap[b]?) (hM : ∀ g, M' g → M g ∨ w.heap.size ≤ g)
    {t : Ty} {x : t.den} {v : Value} (h : VRep w M t x v) : VRep w' M' t x v := by
  obtain ⟨vs, h1, h2⟩ := h
  exact ⟨vs, Cl.keep hs hb hM h1, h2⟩

/-- Between two states: pure memory stays, numbers keep their places. -/
structure Kp (z z' : Z) : Prop where
  size : z.w.heap.size ≤ z'.w.heap.size
  block : ∀ b, b < z.w.heap.size → ¬ z.M b → z'.w.heap[b]? = z.w.heap[b]?
  subM : ∀ g, z'.M g → z.M g ∨ z.w.heap.size ≤ g
  ext : ∀ id, z.ρ id ≠ .no → z'.ρ id = z.ρ id
theorem Nx.kp {z z' : Z} (h : Nx z z') (hs : ∀ g, z.C g → z.M g) : Kp z z' := ⟨h.size, fun b hb hM => h.block b hb fun hC => hM (hs b hC), h.subM, h.ext⟩
theorem Kp.refl (z : Z) : Kp z z := ⟨Nat.le_refl _, fun _ _ _ => rfl, fun _ h => .inl h, fun _ _ => rfl⟩
theorem Kp.real {z z' : Z} (k : Kp z z') {id g sz n : Nat} (h : z.ρ id = .real g sz n) : z'.ρ id = .real g sz n := by rw [k.ext id (by rw [h]; intro h; cases h), h]
theorem Kp.virt {z z' : Z} (k : Kp z z') {id : Nat} (h : z.ρ id = .virt) : z'.ρ id = .virt := by rw [k.ext id (by rw [h]; intro h; cases h), h]
theorem Cl.kp {z z' : Z} (k : Kp z z') {t : Ty} {x : t.den} {vs : List Value} (h : Cl z.w z.M t x vs) : Cl z'.w z'.M t x vs := h.keep k.size k.block k.subM
theorem VRep.kp {z z' : Z} (k : Kp z z') {t : Ty} {x : t.den} {v : Value} (h : VRep z.w z.M t x v) : VRep z'.w z'.M t x v := h.keep k.size k.block k.subM
theorem ARep.kp {z z' : Z} {a : AV} {v : Value} (k : Kp z z') (h : ARep z a v) : ARep z' a v := by
  induction h with
  | p t x v h => exact .p t x v (h.kp k)
  | pt t l i j b off hM hlt h =>
    refine .pt t l i j b off (fun hm => ?_) (Nat.lt_of_lt_of_le hlt k.size) (h.keep k.size k.block k.subM hlt hM)
    rcases k.subM b hm with h | h
    · exact hM h
    · omega
  | own es id i j g sz n h => exact .own es id i j g sz n (k.real h)
  | slV es id off A h => exact .slV es id off A (k.virt h)
  | slE es id off g sz m o h => exact .slE es id off g sz m o (k.real h)
  | sl es id off n g sz m c h hn hs hm => exact .sl es id off n g sz m c (k.real h) hn hs hm
  | slfV es id A h => exact .slfV es id A (k.virt h)
  | slf es id g sz n c h hn hs hm => exact .slf es id g sz n c (k.real h) hn hs hm
  | mp id g sz n h => exact .mp id g sz n (k.real h)
  | fn f a c va vc ha hc h1 h2 ih1 ih2 => exact .fn f a c va vc ha hc ih1 ih2
  | agg l cs hs h1 h ih => exact .agg l cs hs h1 ih
  | tup l vs hs h ih => exact .tup l vs hs ih
  | junk v => exact .junk v
theorem BRep.kp {z z' : Z} (k : Kp z z') {g sz n : Nat} {b : Blk} (h : BRep z g sz n b) (hg : z'.w.heap[g]? = z.w.heap[g]?) : BRep z' g sz n b := by
  cases b with
  | vars c =>
    obtain ⟨cs, e, fr, a1, a2, a3, a4, a5, a6⟩ := h
    exact ⟨cs, e, fr, hg.trans a1, a2, a3, a4, fun i a v x y => (a5 i a v x y).kp k, a6⟩
  | rows e t l =>
    obtain ⟨cs, fr, a1, a2, a3, a4, a5, a6, a7⟩ := h
    refine ⟨cs, fr, hg.trans a1, a2, a3, a4, a5, a6, fun i x hx => ?_⟩
    obtain ⟨u, b1, b2⟩ := a7 i x hx
    exact ⟨u, b1.kp k, b2⟩
  | map kt vt m =>
    obtain ⟨es, a1, a2, a3, a4⟩ := h
    exact ⟨es, hg.trans a1, a2, fun i x e q1 q2 => ⟨(a3 i x e q1 q2).1.kp k, (a3 i x e q1 q2).2.1.kp k, (a3 i x e q1 q2).2.2⟩, a4⟩
  | fmap kt l =>
    obtain ⟨es, clock, a1, a2, a3⟩ := h
    exact ⟨es, clock, hg.trans a1, a2, fun i x e q1 q2 => ⟨(a3 i x e q1 q2).1.kp k, (a3 i x e q1 q2).2.kp k⟩⟩
theorem ERep.kp {z z' : Z} (k : Kp z z') {id : Nat} {e : Ent} (h : ERep z id e)
    (hb : ∀ g sz n, z.ρ id = .real g sz n → z'.w.heap[g]? = z.w.heap[g]? ∧ (z.C g → z'.C g)) : ERep z' id e := by
  unfold ERep at *
  cases hρ : z.ρ id with
  | no => rw [hρ] at h; exact h.elim
  | virt => rw [k.virt hρ]; rw [hρ] at h; exact h
  | real g sz n =>
    rw [k.real hρ]
    rw [hρ] at h
    obtain ⟨h1, h2, h3, h4⟩ := h
    obtain ⟨hg, hC⟩ := hb g sz n hρ
    refine ⟨Nat.lt_of_lt_of_le h1 k.size, fun hf => hC (h2 hf), fun hf hm => ?_, h4.kp k hg⟩
    rcases k.subM g hm with h | h
    · exact h3 hf h
    · omega

/-! Finding in heaps -/
theorem beq_nat (a b : Nat) : (Nat.beq a b = true) ↔ a = b := ⟨Nat.eq_of_beq_eq_true, fun h => by subst h; exact Nat.beq_refl a⟩
theorem beq_nat_ff {a b : Nat} (h : a ≠ b) : Nat.beq a b = false := by
  cases hb : Nat.beq a b
  · rfl
  · exact absurd ((beq_nat a b).1 hb) h
theorem hget_hset (H : Hp) (id : Nat) (e : Option Ent) (k : Nat) : hget (hset H id e) k = if k = id then e else hget H k := by
  induction H with
  | nil => by_cases h : k = id
           · subst h; simp [hset, hget, (beq_nat k k).2 rfl]
           · simp [hset, hget, beq_nat_ff (Ne.symm h), h]
  | cons x H ih =>
    obtain ⟨i, y⟩ := x
    by_cases hi : i = id
    · subst hi
      simp only [hset, (beq_nat i i).2 rfl, cond_true, hget]
      by_cases h : k = i
      · subst h; simp [(beq_nat k k).2 rfl]
      · simp [beq_nat_ff (Ne.symm h), h]
    · simp only [hset, beq_nat_ff hi, cond_false, hget, ih]
      by_cases h : i = k
      · subst h; simp [(beq_nat i i).2 rfl, hi]
      · simp [beq_nat_ff h]
theorem hkey_hset (H : Hp) (id : Nat) (e : Option Ent) (k : Nat) : hkey (hset H id e) k = (decide (k = id) || hkey H k) := by
  induction H with
  | nil => by_cases h : k = id
           · subst h; simp [hset, hkey, (beq_nat k k).2 rfl]
           · simp [hset, hkey, beq_nat_ff (Ne.symm h), h]
  | cons x H ih =>
    obtain ⟨i, y⟩ := x
    by_cases hi : i = id
    · subst hi
      simp only [hset, (beq_nat i i).2 rfl, cond_true, hkey]
      by_cases h : k = i
      · subst h; simp [(beq_nat k k).2 rfl]
      · simp [beq_nat_ff (Ne.symm h), h]
    · simp only [hset, beq_nat_ff hi, cond_false, hkey, ih]
      by_cases h : i = k
      · subst h; simp [(beq_nat i i).2 rfl]
      · simp [beq_nat_ff h]
theorem hkey_of_hget {H : Hp} {id : Nat} {e : Ent} (h : hget H id = some e) : hkey H id = true := by
  induction H with
  | nil => cases h
  | cons x H ih =>
    obtain ⟨i, y⟩ := x
    simp only [hget, hkey] at *
    cases hb : Nat.beq i id
    · rw [hb] at h; simp only [cond_false] at *; exact ih h
    · simp
@[simp] theorem bq_true {α : Type} (x y : α) : bq true x y = x := rfl
@[simp] theorem bq_false {α : Type} (x y : α) : bq false x y = y := rfl
theorem dq_iff {β : Type} {t u : Ty} {K : t = u → Option β} {E : Option β} {r : β} (h : dq t u K E = some r) : (∃ e, K e = some r) ∨ E = some r := by
  unfold dq at h
  simp only at h
  split at h
  · exact .inl ⟨_, h⟩
  · exact .inr h
theorem need_iff {β : Type} {b : Bool} {K : Option β} {r : β} : need b K = some r ↔ b = true ∧ K = some r := by cases b <;> simp [need]
theorem ob_iff {α β : Type} {x : Option α} {f : α → Option β} {r : β} : x.ob f = some r ↔ ∃ a, x = some a ∧ f a = some r := by cases x <;> simp [Option.ob]

/-! Changes of the heap -/
section
variable {z : Z} {H : Hp}
theorem HRep.real (hH : HRep z H) {id : Nat} {e : Ent} (h : hget H id = some e) {g sz n : Nat} (hρ : z.ρ id = .real g sz n) :
    g < z.w.heap.size ∧ (e.fz = false → z.C g) ∧ (e.fz = true → ¬ z.M g) ∧ BRep z g sz n e.b := by
  have := hH.ent _ _ h
  unfold ERep at this
  rw [hρ] at this
  exact this
theorem HRep.virt (hH : HRep z H) {id : Nat} {e : Ent} (h : hget H id = some e) (hρ : z.ρ id = .virt) : BEmpty e.b := by
  have := hH.ent _ _ h
  unfold ERep at this
  rw [hρ] at this
  exact this

theorem HRep.ne (hH : HRep z H) {id id' : Nat} {e e' : Ent} {g sz n g' sz' n' : Nat} (hi : id ≠ id') (h : hget H id = some e) (h' : hget H id' = some e') (hf : e'.fz = false) (hρ : z.ρ id = .real g sz n) (hρ' : z.ρ id' = .real g' sz' n') : g ≠ g' := by
  cases he : e.fz
  · exact hH.inj id id' e e' g sz n g' sz' n' hi h h' he hf hρ hρ'
  · rintro rfl
    exact (hH.real h hρ).2.2.1 he (hH.sub _ ((hH.real h' hρ').2.1 hf))
/-- A block's content is another one. -/
theorem HRep.write {id g sz n : Nat} {b0 b : Blk} {w' : World} (hH : HRep z H) (hg : hget H id = some ⟨false, b0⟩) (hρ : z.ρ id = .real g sz n)
    (hos : w'.os = z.w.os) (htape : w'.tape = z.w.tape) (hout : w'.output = z.w.output) (hsz : w'.heap.size = z.w.heap.size) (hne : ∀ b, b ≠ g → w'.heap[b]? = z.w.heap[b]?)
    (hb : Kp z { z with w := w' } → BRep { z with w := w' } g sz n b) : HRep { z with w := w' } (hset H id (some ⟨false, b⟩)) ∧ Nx z { z with w := w' } := by
  have hC := (hH.real hg hρ).2.1 rfl
  have hn : Nx z { z with w := w' } := ⟨hos, htape, hout, Nat.le_of_eq hsz.symm, fun b _ hb => hne b (fun h => hb (h ▸ hC)), fun _ h => .inl h, fun _ h => .inl h, fun _ _ h _ => h, fun _ _ => rfl, rfl⟩
  have hk := hn.kp hH.sub
  refine ⟨⟨fun i e hi => ?_, fun i i' e e' a sa na a' sa' na' hii h1 h2 m1 m2 h3 h4 => ?_, fun i hi => ?_, hH.sub⟩, hn⟩
  · rw [hget_hset] at hi
    by_cases h : i = id
    · subst h
      rw [if_pos rfl] at hi
      injection hi with hi
      subst hi
      unfold ERep
      show match z.ρ i with | .no => False | .virt => BEmpty b | .real g sz n => _
      rw [hρ]
      exact ⟨by show g < w'.heap.size; rw [hsz]; exact (hH.real hg hρ).1, fun _ => hC, (fun h => by cases h), hb hk⟩
    · rw [if_neg h] at hi
      refine (hH.ent _ _ hi).kp hk fun a sa na ha => ⟨hne a (fun hag => ?_), fun h => h⟩
      subst hag
      exact hH.ne h hi hg rfl ha hρ rfl
  · rw [hget_hset] at h1 h2
    have q : ∀ j ee, (if j = id then some (⟨false, b⟩ : Ent) else hget H j) = some ee → ee.fz = false → ∃ ee', hget H j = some ee' ∧ ee'.fz = false := fun j ee hj hf => by
      by_cases h : j = id
      · subst h; exact ⟨_, hg, rfl⟩
      · rw [if_neg h] at hj; exact ⟨_, hj, hf⟩
    obtain ⟨e1, q1, f1⟩ := q _ _ h1 m1
    obtain ⟨e2, q2, f2⟩ := q _ _ h2 m2
    exact hH.inj i i' _ _ _ _ _ _ _ _ hii q1 q2 f1 f2 h3 h4
  · rw [hkey_hset] at hi
    simp at hi
    exact hH.fresh i hi.2

/-- A new block. -/
theorem HRep.new {id g sz n : Nat} {b : Blk} {w' : World} (hH : HRep z H) (hk : hkey H id = false) (hd : ¬ z.D id) (hg : z.w.heap.size ≤ g) (hg' : g < w'.heap.size)
    (hos : w'.os = z.w.os) (htape : w'.tape = z.w.tape) (hout : w'.output = z.w.output) (hsz : z.w.heap.size ≤ w'.heap.size) (hold : ∀ k, k < z.w.heap.size → w'.heap[k]? = z.w.heap[k]?)
    (hb : ∀ z', z'.w = w' → Kp z z' → BRep z' g sz n b) :
    ∃ z', z'.w = w' ∧ HRep z' (hset H id (some ⟨false, b⟩)) ∧ Nx z z' ∧ z'.ρ id = .real g sz n := by
  have hno := (hH.fresh id hk).resolve_right hd
  let z' : Z := ⟨w', fun x => z.M x ∨ x = g, fun x => z.C x ∨ x = g, fun i => if i = id then .real g sz n else z.ρ i, z.D⟩
  have e1 : ∀ i, i ≠ id → z'.ρ i = z.ρ i := fun i hi => if_neg hi
  have e2 : z'.ρ id = .real g sz n := if_pos rfl
  have hn : Nx z z' := ⟨hos, htape, hout, hsz, fun b hb _ => hold b hb, fun x hx => hx.elim .inl fun h => .inr (by rw [h]; exact hg), fun x hx => hx.elim .inl fun h => .inr (by rw [h]; exact hg),
    fun _ _ h _ => .inl h, fun i hi => e1 i (by rintro rfl; exact hi hno), rfl⟩
  have hkp := hn.kp hH.sub
  have hreal : ∀ i e a sa na, hget H i = some e → z.ρ i = .real a sa na → a < z.w.heap.size := fun i e a sa na h1 h2 => (hH.real h1 h2).1
  refine ⟨z', rfl, ⟨fun i e hi => ?_, fun i i' e e' a sa na a' sa' na' hii h1 h2 m1 m2 h3 h4 => ?_, fun i hi => ?_, fun x hx => hx.elim (fun h => .inl (hH.sub x h)) .inr⟩, hn, e2⟩
  · rw [hget_hset] at hi
    by_cases h : i = id
    · subst h
      rw [if_pos rfl] at hi
      injection hi with hi
      subst hi
      unfold ERep
      rw [e2]
      exact ⟨hg', fun _ => .inr rfl, (fun h => by cases h), hb z' rfl hkp⟩
    · rw [if_neg h] at hi
      refine (hH.ent _ _ hi).kp hkp fun a sa na ha => ⟨hold a (hreal _ _ _ _ _ hi ha), .inl⟩
  · rw [hget_hset] at h1 h2
    by_cases hi : i = id
    · have hi' : i' ≠ id := fun h => hii (hi.trans h.symm)
      rw [if_neg hi'] at h2
      rw [hi, e2] at h3
      rw [e1 _ hi'] at h4
      injection h3 with h3
      have := hreal _ _ _ _ _ h2 h4
      omega
    · rw [if_neg hi] at h1
      rw [e1 _ hi] at h3
      by_cases hi' : i' = id
      · rw [hi', e2] at h4
        injection h4 with h4
        have := hreal _ _ _ _ _ h1 h3
        omega
      · rw [if_neg hi'] at h2
        rw [e1 _ hi'] at h4
        exact hH.inj i i' _ _ _ _ _ _ _ _ hii h1 h2 m1 m2 h3 h4
  · rw [hkey_hset] at hi
    simp at hi
    rw [e1 _ hi.1]
    exact hH.fresh i hi.2

/-- A number that nothing stands for: an empty slice. -/
theorem HRep.newV {id : Nat} {b : Blk} (hH : HRep z H) (hk : hkey H id = false) (hd : ¬ z.D id) (hb : BEmpty b) :
    ∃ z', z'.w = z.w ∧ HRep z' (hset H id (some ⟨false, b⟩)) ∧ Nx z z' ∧ z'.ρ id = .virt := by
  have hno := (hH.fresh id hk).resolve_right hd
  let z' : Z := { z with ρ := fun i => if i = id then .virt else z.ρ i }
  have e1 : ∀ i, i ≠ id → z'.ρ i = z.ρ i := fun i hi => if_neg hi
  have e2 : z'.ρ id = .virt := if_pos rfl
  have hn : Nx z z' := ⟨rfl, rfl, rfl, Nat.le_refl _, fun _ _ _ => rfl, fun _ h => .inl h, fun _ h => .inl h, fun _ _ h _ => h, fun i hi => e1 i (by rintro rfl; exact hi hno), rfl⟩
  have hkp := hn.kp hH.sub
  refine ⟨z', rfl, ⟨fun i e hi => ?_, fun i i' e e' a sa na a' sa' na' hii h1 h2 m1 m2 h3 h4 => ?_, fun i hi => ?_, hH.sub⟩, hn, e2⟩
  · rw [hget_hset] at hi
    by_cases h : i = id
    · subst h
      rw [if_pos rfl] at hi
      injection hi with hi
      subst hi
      unfold ERep
      rw [e2]
      exact hb
    · rw [if_neg h] at hi
      exact (hH.ent _ _ hi).kp hkp fun a sa na ha => ⟨rfl, fun h => h⟩
  · rw [hget_hset] at h1 h2
    by_cases hi : i = id
    · rw [hi, e2] at h3; cases h3
    · by_cases hi' : i' = id
      · rw [hi', e2] at h4; cases h4
      · rw [if_neg hi] at h1
        rw [if_neg hi'] at h2
        rw [e1 _ hi] at h3
        rw [e1 _ hi'] at h4
        exact hH.inj i i' _ _ _ _ _ _ _ _ hii h1 h2 m1 m2 h3 h4
  · rw [hkey_hset] at hi
    simp at hi
    rw [e1 _ hi.1]
    exact hH.fresh i hi.2

/-- A block is forgotten. -/
theorem HRep.kill (id : Nat) (hH : HRep z H) : HRep z (hset H id none) := by
  have q : ∀ j ee, hget (hset H id none) j = some ee → hget H j = some ee := fun j ee hj => by
    rw [hget_hset] at hj
    by_cases h : j = id
    · rw [if_pos h] at hj; cases hj
    · rwa [if_neg h] at hj
  refine ⟨fun i e hi => hH.ent _ _ (q _ _ hi), fun i i' e e' a sa na a' sa' na' hii h1 h2 m1 m2 h3 h4 => hH.inj i i' _ _ _ _ _ _ _ _ hii (q _ _ h1) (q _ _ h2) m1 m2 h3 h4, fun i hi => ?_, hH.sub⟩
  rw [hkey_hset] at hi
  simp at hi
  exact hH.fresh i hi.2

/-- A block that nobody writes any more. -/
theorem frz_ok (id : Nat) (hH : HRep z H) : ∃ z', z'.w = z.w ∧ HRep z' (frz H id) ∧ Nx z z' ∧ z'.ρ = z.ρ := by
  unfold frz
  split
  · rename_i e he
    have qm : ∀ j ee, (if j = id then some (⟨true, e.b⟩ : Ent) else hget H j) = some ee → ee.fz = false → hget H j = some ee ∧ j ≠ id := fun j ee hj hf => by
      by_cases h : j = id
      · rw [if_pos h] at hj
        injection hj with hj
        rw [← hj] at hf
        cases hf
      · rw [if_neg h] at hj; exact ⟨hj, h⟩
    have hinj : ∀ i i' (ee ee' : Ent) g sz n g' sz' n', i ≠ i' → hget (hset H id (some ⟨true, e.b⟩)) i = some ee → hget (hset H id (some ⟨true, e.b⟩)) i' = some ee' → ee.fz = false → ee'.fz = false → z.ρ i = .real g sz n → z.ρ i' = .real g' sz' n' → g ≠ g' := fun i i' ee ee' a sa na a' sa' na' hii h1 h2 m1 m2 h3 h4 => by
      rw [hget_hset] at h1 h2
      exact hH.inj i i' _ _ _ _ _ _ _ _ hii (qm _ _ h1 m1).1 (qm _ _ h2 m2).1 m1 m2 h3 h4
    have hfresh : ∀ i, hkey (hset H id (some ⟨true, e.b⟩)) i = false → z.ρ i = .no ∨ z.D i := fun i hi => by
      rw [hkey_hset] at hi
      simp at hi
      exact hH.fresh i hi.2
    by_cases hz : ∃ g sz n, z.ρ id = .real g sz n
    · obtain ⟨g, sz, n, hρ⟩ := hz
      by_cases hfz : e.fz = true
      · refine ⟨z, rfl, ⟨fun i ee hi => ?_, hinj, hfresh, hH.sub⟩, Nx.refl z, rfl⟩
        rw [hget_hset] at hi
        by_cases h : i = id
        · subst h
          rw [if_pos rfl] at hi
          injection hi with hi
          subst hi
          have := hH.ent _ _ he
          unfold ERep at *
          rw [hfz] at this
          exact this
        · rw [if_neg h] at hi; exact hH.ent _ _ hi
      · have hff : e.fz = false := by simpa using hfz
        have hC : z.C g := (hH.real he hρ).2.1 hff
        let z' : Z := { z with M := fun x => z.M x ∧ x ≠ g, C := fun x => z.C x ∧ x ≠ g }
        have hn : Nx z z' := ⟨rfl, rfl, rfl, Nat.le_refl _, fun _ _ _ => rfl, fun x hx => .inl hx.1, fun x hx => .inl hx.1, fun x _ hM hx => ⟨hM, fun h => hx (h ▸ hC)⟩, fun _ _ => rfl, rfl⟩
        have hkp := hn.kp hH.sub
        refine ⟨z', rfl, ⟨fun i ee hi => ?_, hinj, hfresh, fun x hx => ⟨hH.sub x hx.1, hx.2⟩⟩, hn, rfl⟩
        rw [hget_hset] at hi
        by_cases h : i = id
        · subst h
          rw [if_pos rfl] at hi
          injection hi with hi
          subst hi
          obtain ⟨h1, h2, h3, h4⟩ := hH.real he hρ
          unfold ERep
          rw [show z'.ρ i = .real g sz n from hρ]
          exact ⟨h1, (fun h => by cases h), fun _ h => h.2 rfl, h4.kp hkp rfl⟩
        · rw [if_neg h] at hi
          have h0 := hH.ent _ _ hi
          unfold ERep at h0 ⊢
          cases hρi : z.ρ i with
          | no => rw [hρi] at h0; exact h0.elim
          | virt => rw [hρi] at h0; exact h0
          | real a sa na =>
            rw [hρi] at h0
            obtain ⟨b1, b2, b3, b4⟩ := h0
            exact ⟨b1, fun hf => ⟨b2 hf, hH.ne h hi he hff hρi hρ⟩, fun hf hm => b3 hf hm.1, b4.kp hkp rfl⟩
    · refine ⟨z, rfl, ⟨fun i ee hi => ?_, hinj, hfresh, hH.sub⟩, Nx.refl z, rfl⟩
      rw [hget_hset] at hi
      by_cases h : i = id
      · subst h
        rw [if_pos rfl] at hi
        injection hi with hi
        subst hi
        have h0 := hH.ent _ _ he
        unfold ERep at *
        cases hρ : z.ρ i with
        | no => rw [hρ] at h0; exact h0
        | virt => rw [hρ] at h0; exact h0
        | real g sz n => exact absurd ⟨g, sz, n, hρ⟩ hz
      · rw [if_neg h] at hi
        exact hH.ent _ _ hi
  · exact ⟨z, rfl, hH, Nx.refl z, rfl⟩
theorem frzA_ok (a : AV) (hH : HRep z H) : ∃ z', z'.w = z.w ∧ HRep z' (frzA H a) ∧ Nx z z' ∧ z'.ρ = z.ρ := by
  unfold frzA
  split
  · exact frz_ok _ hH
  · exact frz_ok _ hH
  · exact frz_ok _ hH
  · exact ⟨z, rfl, hH, Nx.refl z, rfl⟩
end
end Go.Ab

/- Typed values and cells. -/
namespace Go.Ab

section
variable {z : Z}
theorem VRep.scal {w : World} {M : Nat → Prop} {t : Ty} {x : t.den} {v : Value} (h : VRep w M t x v) (ht : t.isAgg = false) (hc : t.cells = 1) : Cl w M t x [v] := by
  obtain ⟨vs, h1, h2⟩ := h
  have hl := h1.len
  rw [ht] at h2
  simp only [cond_false] at h2
  match vs, hl with
  | [u], _ => simp at h2; subst h2; exact h1
  | [], hl => simp at hl; omega
  | _ :: _ :: _, hl => simp at hl; omega
theorem VRep.int {w : World} {M : Nat → Prop} {k : IntKind} {n : Int} {v : Value} (h : VRep w M (.int k) n v) : v = .int k n := by
  have := h.scal rfl rfl
  simp only [Cl, List.cons.injEq, and_true] at this
  exact this
theorem VRep.bool {w : World} {M : Nat → Prop} {b : Bool} {v : Value} (h : VRep w M .bool b v) : v = .bool b := by
  have := h.scal rfl rfl
  simp only [Cl, List.cons.injEq, and_true] at this
  exact this
theorem VRep.str {w : World} {M : Nat → Prop} {l : List UInt8} {v : Value} (h : VRep w M .str l v) : v = .string ⟨⟨l⟩⟩ := by
  have := h.scal rfl rfl
  simp only [Cl, List.cons.injEq, and_true] at this
  exact this
theorem VRep.opq {w : World} {M : Nat → Prop} {x v : Value} (h : VRep w M .opq x v) : v = x ∧ x.oneCell' = true := by
  have := h.scal rfl rfl
  simp only [Cl, List.cons.injEq, and_true] at this
  exact this
theorem VRep.sl {w : World} {M : Nat → Prop} {t : Ty} {l : List t.den} {v : Value} (h : VRep w M (.sl t) l v) :
    ∃ A c, v = .slice A l.length c ∧ l.length ≤ c ∧ c ≤ maxLen ∧ (A = none → c = 0) ∧ (l.length ≠ 0 → ∃ b off, A = some ⟨b, off, none⟩ ∧ ¬ M b ∧ b < w.heap.size ∧ RowAt w M b off t l) := by
  have := h.scal rfl rfl
  obtain ⟨A, c, h1, h2⟩ := this
  simp only [List.cons.injEq, and_true] at h1
  exact ⟨A, c, h1, h2⟩
theorem VRep.mkSc {w : World} {M : Nat → Prop} {t : Ty} {x : t.den} {v : Value} (h : Cl w M t x [v]) (ht : t.isAgg = false) : VRep w M t x v := ⟨[v], h, by rw [ht]; rfl⟩
theorem VRep.mkI {w : World} {M : Nat → Prop} (k : IntKind) (n : Int) : VRep w M (.int k) n (.int k n) := .mkSc rfl rfl
theorem VRep.mkB {w : World} {M : Nat → Prop} (b : Bool) : VRep w M .bool b (.bool b) := .mkSc rfl rfl
theorem VRep.mkS {w : World} {M : Nat → Prop} (l : List UInt8) : VRep w M .str l (.string ⟨⟨l⟩⟩) := .mkSc rfl rfl
theorem ARep.mkI (k : IntKind) (n : Int) : ARep z (.i k n) (.int k n) := .p _ _ _ (.mkI k n)
theorem ARep.mkB (b : Bool) : ARep z (.b b) (.bool b) := .p _ _ _ (.mkB b)
theorem ARep.mkS (l : List UInt8) : ARep z (.s l) (.string ⟨⟨l⟩⟩) := .p _ _ _ (.mkS l)
theorem ARep.v {t : Ty} {x : t.den} {v : Value} (h : ARep z (.p t x) v) : VRep z.w z.M t x v := by cases h with | p _ _ _ h => exact h

/-! Eliminators -/
theorem nilSl_ok {t u : Ty} {x : t.den} {y : u.den} {v : Value} (h : nilSl t x u = some y) (hv : VRep z.w z.M t x v) : VRep z.w z.M u y v := by
  unfold nilSl at h
  split at h
  · simp at h
    subst h
    obtain ⟨rfl, _⟩ := hv.opq
    exact .mkSc ⟨none, 0, rfl, Nat.le_refl _, by unfold maxLen; omega, fun _ => rfl, fun h => absurd rfl h⟩ rfl
  · cases h
theorem get?_ok {u : Ty} {a : AV} {x : u.den} {v : Value} (h : a.get? u = some x) (ha : ARep z a v) : VRep z.w z.M u x v := by
  unfold AV.get? at h
  split at h
  · rename_i t y
    have hv := ha.v
    split at h
    · rename_i ht
      subst ht
      simp at h
      subst h
      exact hv
    · unfold nilSl at h
      split at h
      · simp at h
        subst h
        obtain ⟨rfl, _⟩ := hv.opq
        exact .mkSc ⟨none, 0, rfl, Nat.le_refl _, by unfold maxLen; omega, fun _ => rfl, fun h => absurd rfl h⟩ rfl
      · cases h
  · rename_i f
    unfold fnOpq at h
    split at h
    · simp at h
      subst h
      cases ha with | fn _ _ _ va vc h1 h2 =>
      obtain rfl : va = #[] := Array.eq_empty_of_size_eq_zero (by simpa using h1)
      obtain rfl : vc = #[] := Array.eq_empty_of_size_eq_zero (by simpa using h2)
      exact .mkSc ⟨rfl, rfl⟩ rfl
    · cases h
  · cases h
theorem int?_ok {k : IntKind} {a : AV} {n : Int} {v : Value} (h : a.int? k = some n) (ha : ARep z a v) : v = .int k n := (get?_ok (u := .int k) h ha).int
theorem bool?_ok {a : AV} {b : Bool} {v : Value} (h : a.bool? = some b) (ha : ARep z a v) : v = .bool b := (get?_ok (u := .bool) h ha).bool
theorem str?_ok {a : AV} {l : List UInt8} {v : Value} (h : a.str? = some l) (ha : ARep z a v) : v = .string ⟨⟨l⟩⟩ := (get?_ok (u := .str) h ha).str
theorem any?_ok {a : AV} {n : Int} {v : Value} (h : a.any? = some n) (ha : ARep z a v) : ∃ k, v = .int k n := by
  unfold AV.any? at h
  split at h
  · rename_i t x
    unfold anyI at h
    split at h
    · rename_i k m
      simp at h
      subst h
      exact ⟨k, ha.v.int⟩
    · cases h
  · cases h
theorem byte?_ok {n : Int} {c : UInt8} (h : byte? n = some c) : n = (c.toNat : Int) := by
  unfold byte? at h
  split at h
  · injection h with h
    subst h
    rename_i hb
    simp only [UInt8.toNat_ofNat']
    omega
  · cases h
theorem tup?_ok {a : AV} {l : List AV} {v : Value} (h : a.tup? = some l) (ha : ARep z a v) : ∃ vs, v = .tuple vs ∧ vs.size = l.length ∧ ∀ (i : Nat) x u, l[i]? = some x → vs[i]? = some u → ARep z x u := by
  unfold AV.tup? at h
  split at h
  · simp at h; subst h
    cases ha with | tup _ vs h1 h2 => exact ⟨vs, rfl, h1, h2⟩
  · cases h

/-! Cells -/
/-- Values for a list of abstract ones. -/
def AReps (z : Z) (l : List AV) (vs : List Value) : Prop := l.length = vs.length ∧ ∀ (i : Nat) a v, l[i]? = some a → vs[i]? = some v → ARep z a v
theorem AReps.nil : AReps z [] [] := ⟨rfl, fun i a v h => by simp at h⟩
theorem AReps.cons {a : AV} {v : Value} {l : List AV} {vs : List Value} (h : ARep z a v) (hs : AReps z l vs) : AReps z (a :: l) (v :: vs) := by
  refine ⟨by simp [hs.1], fun i x u h1 h2 => ?_⟩
  match i with
  | 0 => simp at h1 h2; subst h1; subst h2; exact h
  | i + 1 => exact hs.2 i x u (by simpa using h1) (by simpa using h2)
theorem AReps.head {a : AV} {v : Value} {l : List AV} {vs : List Value} (h : AReps z (a :: l) (v :: vs)) : ARep z a v := h.2 0 a v rfl rfl
theorem AReps.tail {a : AV} {v : Value} {l : List AV} {vs : List Value} (h : AReps z (a :: l) (v :: vs)) : AReps z l vs :=
  ⟨by simpa using h.1, fun i x u h1 h2 => h.2 (i + 1) x u (by simpa using h1) (by simpa using h2)⟩
theorem AReps.append {l l' : List AV} {vs vs' : List Value} (h : AReps z l vs) (h' : AReps z l' vs') : AReps z (l ++ l') (vs ++ vs') := by
  refine ⟨by simp [h.1, h'.1], fun i a v h1 h2 => ?_⟩
  by_cases hi : i < l.length
  · rw [List.getElem?_append_left hi] at h1
    rw [List.getElem?_append_left (by rw [← h.1]; exact hi)] at h2
    exact h.2 i a v h1 h2
  · rw [List.getElem?_append_right (by omega)] at h1
    rw [List.getElem?_append_right (by rw [← h.1]; omega), ← h.1] at h2
    exact h'.2 _ a v h1 h2
theorem AReps.take {l : List AV} {vs : List Value} (h : AReps z l vs) (n : Nat) : AReps z (l.take n) (vs.take n) := by
  refine ⟨by simp [h.1], fun i a v h1 h2 => ?_⟩
  have hi : i < n := by
    have := (List.getElem?_eq_some_iff.1 h1).1
    simp at this; omega
  rw [List.getElem?_take_of_lt hi] at h1 h2
  exact h.2 i a v h1 h2
theorem AReps.drop {l : List AV} {vs : List Value} (h : AReps z l vs) (n : Nat) : AReps z (l.drop n) (vs.drop n) := by
  refine ⟨by simp [h.1], fun i a v h1 h2 => ?_⟩
  rw [List.getElem?_drop] at h1 h2
  exact h.2 _ a v h1 h2
theorem AReps.kp {z' : Z} {l : List AV} {vs : List Value} (k : Kp z z') (h : AReps z l vs) : AReps z' l vs := ⟨h.1, fun i a v h1 h2 => (h.2 i a v h1 h2).kp k⟩
theorem AReps.get {l : List AV} {vs : List Value} (h : AReps z l vs) {i : Nat} {a : AV} (ha : l[i]? = some a) : ∃ v, vs[i]? = some v ∧ ARep z a v := by
  have hlt : i < vs.length := by
    have := (List.getElem?_eq_some_iff.1 ha).1
    rw [← h.1]; exact this
  exact ⟨_, List.getElem?_eq_getElem hlt, h.2 i a _ ha (List.getElem?_eq_getElem hlt)⟩
theorem AReps.headD {l : List AV} {vs : List Value} (h : AReps z l vs) : ARep z (l.headD .junk) (vs.headD undef) := by
  match l, vs, h with
  | [], [], _ => exact .junk _
  | a :: l, v :: vs, h => exact h.head
  | [], _ :: _, h => have := h.1; simp at this
  | _ :: _, [], h => have := h.1; simp at this
theorem ARep.reps {l : List AV} {cs : Array Value} (h : ARep z (.agg l) (.agg cs)) : AReps z l cs.toList := by
  cases h with | agg _ _ hs h1 h => exact ⟨by simp [hs], fun i a v h2 h3 => h i a v h2 (by simpa using h3)⟩

theorem ofTy_ok {t : Ty} {x : t.den} {v : Value} (h : VRep z.w z.M t x v) : ARep z (.ofTy t x) v := by
  unfold AV.ofTy
  split
  · have := h.scal rfl rfl
    simp only [Cl, List.cons.injEq, and_true] at this
    subst this
    exact .mkI _ _
  · exact .p _ _ _ h
theorem split_le : (t : Ty) → (x : t.den) → (split t x).length ≤ t.cells
  | .one t, x => split_le t x
  | .pair a b, x => by
    have h1 := split_le a x.1
    have h2 := split_le b x.2
    simp only [split, List.length_append, Ty.cells]; omega
  | .arr _ _, _ => Nat.zero_le _
  | .int _, _ | .byte, _ | .bool, _ | .str, _ | .opq, _ | .nat, _ | .sl _, _ => Nat.le_refl _
theorem split_ok : {t : Ty} → {x : t.den} → {vs : List Value} → Cl z.w z.M t x vs → (split t x).length = t.cells → AReps z (split t x) vs
  | .one t, x, vs, h, hl => split_ok (t := t) h hl
  | .pair a b, x, vs, h, hl => by
    obtain ⟨u, v, rfl, h1, h2⟩ := h
    have q1 := split_le a x.1
    have q2 := split_le b x.2
    simp only [split, List.length_append, Ty.cells] at hl
    exact (split_ok h1 (by omega)).append (split_ok h2 (by omega))
  | .arr n t, x, vs, h, hl => by
    have := h.len
    rw [← hl] at this
    match vs, this with
    | [], _ => exact .nil
  | .int _, _, vs, h, _ | .bool, _, vs, h, _ | .str, _, vs, h, _ => by
    have hl := h.len
    match vs, hl with
    | [v], _ => exact .cons (.p _ _ _ (.mkSc h rfl)) .nil
  | .opq, _, vs, h, _ => by
    have hl := h.len
    match vs, hl with
    | [v], _ => exact .cons (.p _ _ _ (.mkSc h rfl)) .nil
  | .sl _, _, vs, h, _ => by
    have hl := h.len
    match vs, hl with
    | [v], _ => exact .cons (.p _ _ _ (.mkSc h rfl)) .nil
  | .byte, _, vs, h, _ => by
    simp only [Cl] at h
    subst h
    exact .cons (.mkI _ _) .nil
  | .nat, _, _, h, _ => h.elim
/-- A value's cells. -/
theorem cellsA_ok {a : AV} {l : List AV} {v : Value} (h : cellsA a = some l) (ha : ARep z a v) : AReps z l v.cells.toList ∧ (∀ u ∈ v.cells, u.oneCell' = true) ∧
    v = (bif aggA a then .agg v.cells else v.cells.toList.headD undef) := by
  have one : ∀ (b : AV) (v : Value), ARep z b v → v.oneCell' = true → AReps z [b] v.cells.toList ∧ (∀ u ∈ v.cells, u.oneCell' = true) ∧ v = v.cells.toList.headD undef := fun b v hb h1 => by
    have hc : v.cells = #[v] := by cases v <;> first | rfl | (simp [Value.oneCell'] at h1; done)
    rw [hc]
    exact ⟨.cons hb .nil, fun u hu => by simp at hu; subst hu; exact h1, rfl⟩
  cases ha with
  | p t x v h1 =>
    simp only [cellsA] at h
    cases hl : Nat.beq (split t x).length t.cells <;> rw [hl] at h <;> simp at h
    subst h
    rw [beq_nat] at hl
    obtain ⟨vs, h2, h3⟩ := h1
    cases hagg : t.isAgg <;> rw [hagg] at h3 <;> simp only [cond_false, cond_true] at h3
    · have hn := h2.len
      have hc : t.cells = 1 := by cases t <;> first | rfl | (simp [Ty.isAgg] at hagg; done)
      match vs, hn with
      | [u], _ =>
        simp at h3
        subst h3
        obtain ⟨q1, q2, q3⟩ := one (.p t x) v (.p _ _ _ (.mkSc h2 hagg)) (h2.one v (by simp))
        have e : v.cells = #[v] := by
          have := h2.one v (by simp)
          cases v <;> first | rfl | (simp [Value.oneCell'] at this; done)
        refine ⟨by rw [e]; exact split_ok h2 hl, q2, by simp only [aggA, hagg, cond_false]; exact q3⟩
      | [], hn => simp at hn; omega
      | _ :: _ :: _, hn => simp at hn; omega
    · subst h3
      exact ⟨split_ok h2 hl, fun u hu => h2.one u (by simpa [Value.cells] using hu), by simp only [aggA, hagg, cond_true]; rfl⟩
  | pt t l i j b off hM hlt h1 => simp [cellsA] at h; subst h; exact one _ _ (.pt _ _ _ _ _ _ hM hlt h1) rfl
  | own es id i j g sz n h1 => simp [cellsA] at h; subst h; exact one _ _ (.own _ _ _ _ _ _ _ h1) rfl
  | slV es id off A h1 => simp [cellsA] at h; subst h; exact one _ _ (.slV _ _ _ _ h1) rfl
  | slE es id off g sz m o h1 => simp [cellsA] at h; subst h; exact one _ _ (.slE _ _ _ _ _ _ _ h1) rfl
  | sl es id off n g sz m c h1 hn hs hm => simp [cellsA] at h; subst h; exact one _ _ (.sl _ _ _ _ _ _ _ _ h1 hn hs hm) rfl
  | slfV es id A h1 => simp [cellsA] at h; subst h; exact one _ _ (.slfV _ _ _ h1) rfl
  | slf es id g sz n c h1 hn hs hm => simp [cellsA] at h; subst h; exact one _ _ (.slf _ _ _ _ _ _ h1 hn hs hm) rfl
  | mp id g sz n h1 => simp [cellsA] at h; subst h; exact one _ _ (.mp _ _ _ _ h1) rfl
  | fn f a c va vc ha hc h1 h2 => simp [cellsA] at h; subst h; exact one _ _ (.fn _ _ _ _ _ ha hc h1 h2) rfl
  | agg l' cs hs h1 h2 =>
    simp [cellsA] at h
    subst h
    exact ⟨⟨by simp [Value.cells, hs], fun i a v q1 q2 => h2 i a v q1 (by simpa [Value.cells] using q2)⟩, h1, rfl⟩
  | tup l' vs hs h2 => simp [cellsA] at h
  | junk v => simp [cellsA] at h

section
variable {β : Type}
theorem asmN_ok {t : Ty} {c : Nat} (f : List AV → (t.den → Option β) → Option β)
    (hf : ∀ {cs : List AV} {vs : List Value} {K : t.den → Option β} {r : β}, f cs K = some r → AReps z cs vs → cs.length = c → (∀ v ∈ vs, v.oneCell' = true) → ∃ y, Cl z.w z.M t y vs ∧ K y = some r) :
    ∀ (n : Nat) {cs : List AV} {vs : List Value} {K : List t.den → Option β} {r : β}, asmN f c n cs K = some r → AReps z cs vs → cs.length = n * c → (∀ v ∈ vs, v.oneCell' = true) →
      ∃ (l : List t.den) (css : List (List Value)), l.length = n ∧ css.length = n ∧ vs = css.flatten ∧ (∀ (i : Nat) e u, l[i]? = some e → css[i]? = some u → Cl z.w z.M t e u) ∧ K l = some r
  | 0, cs, vs, K, r, h, hr, hl, _ => by
    have : vs = [] := List.eq_nil_of_length_eq_zero (by rw [← hr.1, hl, Nat.zero_mul])
    exact ⟨[], [], rfl, rfl, by simp [this], fun i e u h1 => by simp at h1, h⟩
  | n + 1, cs, vs, K, r, h, hr, hl, h1 => by
    simp only [asmN] at h
    have hlen : (n + 1) * c = n * c + c := Nat.succ_mul n c
    obtain ⟨y, q1, q2⟩ := hf h (hr.take c) (by rw [List.length_take]; omega) (fun v hv => h1 v (List.mem_of_mem_take hv))
    obtain ⟨l, css, p1, p2, p3, p4, p5⟩ := asmN_ok f hf n q2 (hr.drop c) (by rw [List.length_drop]; omega) (fun v hv => h1 v (List.mem_of_mem_drop hv))
    refine ⟨y :: l, vs.take c :: css, by simp [p1], by simp [p2], by rw [List.flatten_cons, ← p3, List.take_append_drop], fun i e u q3 q4 => ?_, p5⟩
    match i with
    | 0 => simp at q3 q4; subst q3; subst q4; exact q1
    | i + 1 => exact p4 i e u (by simpa using q3) (by simpa using q4)
theorem asm_ok : {u : Ty} → {cs : List AV} → {vs : List Value} → {K : u.den → Option β} → {r : β} → asm u cs K = some r → AReps z cs vs → cs.length = u.cells → (∀ v ∈ vs, v.oneCell' = true) →
    ∃ y, Cl z.w z.M u y vs ∧ K y = some r
  | .byte, cs, vs, K, r, h, hr, hl, h1 => by
    simp only [asm] at h
    obtain ⟨n, h2, h3⟩ := ob_iff.1 h
    obtain ⟨c, h4, h5⟩ := Option.bind_eq_some_iff.1 h3
    have hv := int?_ok h2 hr.headD
    have hlv : vs.length = 1 := by rw [← hr.1, hl]; rfl
    match vs, hlv with
    | [v], _ =>
      simp at hv
      subst hv
      rw [byte?_ok h4]
      exact ⟨c, rfl, h5⟩
  | .one t, cs, vs, K, r, h, hr, hl, h1 => asm_ok (u := t) h hr hl h1
  | .pair a b, cs, vs, K, r, h, hr, hl, h1 => by
    simp only [asm] at h
    simp only [Ty.cells] at hl
    obtain ⟨x, q1, q2⟩ := asm_ok h (hr.take a.cells) (by rw [List.length_take]; omega) (fun v hv => h1 v (List.mem_of_mem_take hv))
    obtain ⟨y, q3, q4⟩ := asm_ok q2 (hr.drop a.cells) (by rw [List.length_drop]; omega) (fun v hv => h1 v (List.mem_of_mem_drop hv))
    exact ⟨(x, y), ⟨_, _, (List.take_append_drop _ _).symm, q1, q3⟩, q4⟩
  | .arr n t, cs, vs, K, r, h, hr, hl, h1 => by
    simp only [asm] at h
    obtain ⟨l, css, p1, p2, p3, p4, p5⟩ := asmN_ok (asm t) (fun h hr hl h1 => asm_ok h hr hl h1) n h hr hl h1
    exact ⟨l, ⟨p1, css, p2, p3, p4⟩, p5⟩
  | .int k, cs, vs, K, r, h, hr, hl, h1 | .bool, cs, vs, K, r, h, hr, hl, h1 | .str, cs, vs, K, r, h, hr, hl, h1 | .opq, cs, vs, K, r, h, hr, hl, h1 | .nat, cs, vs, K, r, h, hr, hl, h1 | .sl _, cs, vs, K, r, h, hr, hl, h1 => by
    simp only [asm] at h
    obtain ⟨n, h2, h3⟩ := ob_iff.1 h
    have hv := (get?_ok h2 hr.headD).scal rfl rfl
    have hlv : vs.length = 1 := by rw [← hr.1, hl]; rfl
    match vs, hlv with
    | [v], _ => exact ⟨n, hv, h3⟩
theorem asC_ok {u : Ty} {a : AV} {K : u.den → Option β} {r : β} {v : Value} (h : asC u a K = some r) (ha : ARep z a v) : ∃ y, VRep z.w z.M u y v ∧ K y = some r := by
  unfold asC at h
  obtain ⟨cs, h1, h2⟩ := ob_iff.1 h
  obtain ⟨h3, h4⟩ := need_iff.1 h2
  simp only [Bool.and_eq_true, beq_nat, beq_iff_eq] at h3
  obtain ⟨q1, q2, q3⟩ := cellsA_ok h1 ha
  obtain ⟨y, q4, q5⟩ := asm_ok h4 q1 h3.1 (fun v hv => q2 v (by simpa using hv))
  refine ⟨y, ⟨_, q4, ?_⟩, q5⟩
  rw [← h3.2]
  rw [Array.toArray_toList]
  exact q3
theorem asA_ok {u : Ty} {a : AV} {K : u.den → Option β} {r : β} {v : Value} (h : asA u a K = some r) (ha : ARep z a v) : ∃ y, VRep z.w z.M u y v ∧ K y = some r := by
  unfold asA at h
  split at h
  · rename_i t x
    rcases dq_iff h with ⟨ht, h⟩ | h
    · subst ht
      exact ⟨x, ha.v, h⟩
    · exact asC_ok h ha
  · exact asC_ok h ha

/-! Parts of typed values -/
theorem sub_self {t : Ty} {x : t.den} {vs : List Value} {o : Nat} {u : Ty} {K : u.den → Option β} {r : β} {w : World} {M : Nat → Prop} (h : t = u) (hc : Cl w M t x vs)
    (hk : bq (Nat.beq o 0) (K (Ty.to h x)) none = some r) : ∃ y, Cl w M u y ((vs.drop o).take u.cells) ∧ o + u.cells ≤ t.cells ∧ K y = some r := by
  subst h
  cases ho : Nat.beq o 0 <;> rw [ho] at hk <;> simp only [bq_true, bq_false] at hk
  · cases hk
  · rw [beq_nat] at ho
    subst ho
    refine ⟨x, ?_, by omega, hk⟩
    rw [List.drop_zero, List.take_of_length_le (by rw [hc.len]; exact Nat.le_refl _)]
    exact hc
theorem sub_ok {w : World} {M : Nat → Prop} : {t : Ty} → {x : t.den} → {o : Nat} → {u : Ty} → {K : u.den → Option β} → {r : β} → {vs : List Value} → sub t x o u K = some r → Cl w M t x vs →
    ∃ y, Cl w M u y ((vs.drop o).take u.cells) ∧ o + u.cells ≤ t.cells ∧ K y = some r
  | .one t, x, o, u, K, r, vs, h, hc => by
    simp only [sub] at h
    rcases dq_iff h with ⟨ht, h⟩ | h
    · exact sub_self ht hc h
    · exact sub_ok (t := t) h hc
  | .pair a b, x, o, u, K, r, vs, h, hc => by
    simp only [sub] at h
    rcases dq_iff h with ⟨ht, h⟩ | h
    · exact sub_self ht hc h
    · obtain ⟨v1, v2, rfl, h1, h2⟩ := hc
      cases ho : Nat.blt o a.cells <;> rw [ho] at h <;> simp only [bq_true, bq_false] at h
      · have ho' : a.cells ≤ o := by
          rcases Nat.lt_or_ge o a.cells with h' | h'
          · rw [show Nat.blt o a.cells = true from Nat.ble_eq_true_of_le h'] at ho; cases ho
          · exact h'
        obtain ⟨y, q1, q2, q3⟩ := sub_ok h h2
        refine ⟨y, ?_, by simp only [Ty.cells]; omega, q3⟩
        rw [List.drop_append, List.drop_of_length_le (by rw [h1.len]; exact ho'), List.nil_append, h1.len]
        exact q1
      · have ho' : o < a.cells := Nat.le_of_ble_eq_true ho
        obtain ⟨y, q1, q2, q3⟩ := sub_ok h h1
        refine ⟨y, ?_, by simp only [Ty.cells]; omega, q3⟩
        rw [List.drop_append_of_le_length (by rw [h1.len]; omega), List.take_append_of_le_length (by rw [List.length_drop, h1.len]; omega)]
        exact q1
  | .int _, x, o, u, K, r, vs, h, hc | .byte, x, o, u, K, r, vs, h, hc | .bool, x, o, u, K, r, vs, h, hc | .str, x, o, u, K, r, vs, h, hc | .opq, x, o, u, K, r, vs, h, hc | .nat, x, o, u, K, r, vs, h, hc
  | .sl _, x, o, u, K, r, vs, h, hc | .arr _ _, x, o, u, K, r, vs, h, hc => by
    simp only [sub] at h
    rcases dq_iff h with ⟨ht, h⟩ | h
    · exact sub_self ht hc h
    · cases h
theorem upd_self {t : Ty} {vs us : List Value} {o : Nat} {u : Ty} {y : u.den} {K : t.den → Option β} {r : β} {w : World} {M : Nat → Prop} (h : u = t) (hv : vs.length = t.cells) (hc : Cl w M u y us)
    (hk : bq (Nat.beq o 0) (K (Ty.to h y)) none = some r) : ∃ x', Cl w M t x' (vs.take o ++ us ++ vs.drop (o + u.cells)) ∧ o + u.cells ≤ t.cells ∧ K x' = some r := by
  subst h
  cases ho : Nat.beq o 0 <;> rw [ho] at hk <;> simp only [bq_true, bq_false] at hk
  · cases hk
  · rw [beq_nat] at ho
    subst ho
    refine ⟨y, ?_, by omega, hk⟩
    rw [List.take_zero, List.nil_append, List.drop_of_length_le (by omega), List.append_nil]
    exact hc
theorem upd_ok {w : World} {M : Nat → Prop} : {t : Ty} → {x : t.den} → {o : Nat} → {u : Ty} → {y : u.den} → {K : t.den → Option β} → {r : β} → {vs us : List Value} → upd t x o u y K = some r → Cl w M t x vs → Cl w M u y us →
    ∃ x', Cl w M t x' (vs.take o ++ us ++ vs.drop (o + u.cells)) ∧ o + u.cells ≤ t.cells ∧ K x' = some r
  | .one t, x, o, u, y, K, r, vs, us, h, hc, hu => by
    simp only [upd] at h
    rcases dq_iff h with ⟨ht, h⟩ | h
    · exact upd_self ht hc.len hu h
    · exact upd_ok (t := t) h hc hu
  | .pair a b, x, o, u, y, K, r, vs, us, h, hc, hu => by
    simp only [upd] at h
    rcases dq_iff h with ⟨ht, h⟩ | h
    · exact upd_self ht hc.len hu h
    · obtain ⟨v1, v2, rfl, h1, h2⟩ := hc
      have l1 := h1.len
      have l2 := h2.len
      have lu := hu.len
      cases ho : Nat.blt o a.cells <;> rw [ho] at h <;> simp only [bq_true, bq_false] at h
      · have ho' : a.cells ≤ o := by
          rcases Nat.lt_or_ge o a.cells with h' | h'
          · rw [show Nat.blt o a.cells = true from Nat.ble_eq_true_of_le h'] at ho; cases ho
          · exact h'
        obtain ⟨z, q1, q2, q3⟩ := upd_ok h h2 hu
        refine ⟨(x.1, z), ⟨v1, _, ?_, h1, q1⟩, by simp only [Ty.cells]; omega, q3⟩
        rw [List.take_append, List.take_of_length_le (by omega), List.drop_append, List.drop_of_length_le (by omega), List.nil_append, l1]
        simp only [List.append_assoc]
        congr 4
        omega
      · have ho' : o < a.cells := Nat.le_of_ble_eq_true ho
        obtain ⟨z, q1, q2, q3⟩ := upd_ok h h1 hu
        refine ⟨(z, x.2), ⟨_, v2, ?_, q1, h2⟩, by simp only [Ty.cells]; omega, q3⟩
        rw [List.take_append_of_le_length (by omega), List.drop_append_of_le_length (by omega)]
        simp only [List.append_assoc]
  | .int _, x, o, u, y, K, r, vs, us, h, hc, hu | .byte, x, o, u, y, K, r, vs, us, h, hc, hu | .bool, x, o, u, y, K, r, vs, us, h, hc, hu | .str, x, o, u, y, K, r, vs, us, h, hc, hu | .opq, x, o, u, y, K, r, vs, us, h, hc, hu | .nat, x, o, u, y, K, r, vs, us, h, hc, hu
  | .sl _, x, o, u, y, K, r, vs, us, h, hc, hu | .arr _ _, x, o, u, y, K, r, vs, us, h, hc, hu => by
    simp only [upd] at h
    rcases dq_iff h with ⟨ht, h⟩ | h
    · exact upd_self ht hc.len hu h
    · cases h
end
end
end Go.Ab

/- The evaluator's operations are the model's: views, loads, stores. -/
namespace Go.Ab

section
variable {P : Program}
theorem cells_info {t n : Nat} (h : P.cellsOf t = n) (h0 : n ≠ 0) : (P.info? t).map (·.size) = some n := by
  unfold Program.cellsOf at h
  cases hi : (P.info? t).map (·.size) with
  | none => rw [hi] at h; simp at h; omega
  | some x => rw [hi] at h; simp at h; rw [h]
theorem ty_ok {t : TypeId} {u : Ty} (h : ty P t = some u) : u.cells = P.cellsOf t ∧ 0 < u.cells ∧ (u.isAgg = true → isAggT P t = true) ∧ (u.isAgg = false → isScal P t = true) := by
  unfold ty at h
  obtain ⟨v, h1, h2⟩ := ob_iff.1 h
  cases hb : (Nat.beq v.cells (P.cellsOf t) && !Nat.beq v.cells 0 && bq v.isAgg (isAggT P t) (isScal P t)) <;> rw [hb] at h2
  · cases h2
  · simp only [bq_true, Option.some.injEq] at h2
    subst h2
    simp only [Bool.and_eq_true, Bool.not_eq_true', beq_nat] at hb
    obtain ⟨⟨q1, q2⟩, q3⟩ := hb
    refine ⟨q1, ?_, fun h => by rw [h] at q3; exact q3, fun h => by rw [h] at q3; exact q3⟩
    rcases Nat.eq_zero_or_pos v.cells with h | h
    · rw [h] at q2; simp at q2
    · exact h
theorem isAggT_row {t : TypeId} (h : isAggT P t = true) : ∃ d, P.underlying t = some d ∧ d.isRow = true := by
  unfold isAggT at h
  split at h <;> first | (cases h; done) | exact ⟨_, by assumption, rfl⟩
theorem isScal_row {t : TypeId} (h : isScal P t = true) : ∃ d, P.underlying t = some d ∧ d.isRow = false := by
  unfold isScal at h
  split at h <;> first | (cases h; done) | skip
  rename_i d h1 h2 h3
  refine ⟨d, h3, ?_⟩
  cases d <;> first | rfl | exact absurd rfl (h1 _) | exact absurd rfl (h2 _ _)
theorem isAgg_run {t : TypeId} (w : World) (h : isScal P t = true) : (isAgg t).run P w = .ok false w := by
  obtain ⟨d, hd, hr⟩ := isScal_row h
  unfold isAgg
  rw [Sem.run_bind, run_underlying hd w]
  cases d <;> simp_all
theorem run_load_one {w : World} {b o : Nat} {t : TypeId} {v : Value} (hs : isScal P t = true) (hc : w.cell? ⟨b, o, none⟩ = some v) :
    (Instr.loadAt t (.pointer (some ⟨b, o, none⟩))).run P w = .ok v w := by
  simp [Instr.loadAt, Instr.sureAddr, loadVar, Sem.run_bind, isAgg_run w hs, load, Sem.run, hc]
theorem run_load_agg {w : World} {b o n : Nat} {t : TypeId} (cs : List Value) (hs : isAggT P t = true) (hn : P.cellsOf t = n) (h0 : n ≠ 0) (hl : cs.length = n)
    (hc : w.rangeAt b o cs) : (Instr.loadAt t (.pointer (some ⟨b, o, none⟩))).run P w = .ok (.agg cs.toArray) w := by
  obtain ⟨d, hd, hr⟩ := isAggT_row hs
  exact run_loadAt_mid w b o t cs d hc hd hr (by rw [hl]; exact cells_info hn h0)

theorem rangeAt_sub {w : World} {b o : Nat} {vs : List Value} (h : w.rangeAt b o vs) (k n : Nat) : w.rangeAt b (o + k) ((vs.drop k).take n) := fun j v hj => by
  have hjn : j < n := by
    have := (List.getElem?_eq_some_iff.1 hj).1
    simp at this; omega
  rw [List.getElem?_take_of_lt hjn, List.getElem?_drop] at hj
  rw [Nat.add_assoc]
  exact h _ _ hj
theorem rangeAt_append {w : World} {b o : Nat} {u v : List Value} (h1 : w.rangeAt b o u) (h2 : w.rangeAt b (o + u.length) v) : w.rangeAt b o (u ++ v) := fun j x hj => by
  by_cases h : j < u.length
  · rw [List.getElem?_append_left h] at hj; exact h1 j x hj
  · rw [List.getElem?_append_right (by omega)] at hj
    have := h2 _ _ hj
    rwa [show o + u.length + (j - u.length) = o + j from by omega] at this
theorem RowAt.nil {w : World} {M : Nat → Prop} {b off : Nat} {t : Ty} : RowAt w M b off t [] := fun i e h => by simp at h
theorem RowAt.tail {w : World} {M : Nat → Prop} {b off : Nat} {t : Ty} {x : t.den} {l : List t.den} (h : RowAt w M b off t (x :: l)) : RowAt w M b (off + t.cells) t l := fun i e he => by
  obtain ⟨u, h1, h2⟩ := h (i + 1) e (by simpa using he)
  refine ⟨u, h1, ?_⟩
  rw [Nat.succ_mul] at h2
  rwa [show off + t.cells + i * t.cells = off + (i * t.cells + t.cells) from by omega]
/-- A row's cells. -/
theorem RowAt.cells {w : World} {M : Nat → Prop} {t : Ty} : ∀ {l : List t.den} {b off : Nat}, RowAt w M b off t l →
    ∃ css : List (List Value), css.length = l.length ∧ (∀ (i : Nat) e u, l[i]? = some e → css[i]? = some u → Cl w M t e u) ∧ w.rangeAt b off css.flatten
  | [], b, off, _ => ⟨[], rfl, fun i e u h => by simp at h, fun j v h => by simp at h⟩
  | x :: l, b, off, h => by
    obtain ⟨u, h1, h2⟩ := h 0 x rfl
    obtain ⟨css, q1, q2, q3⟩ := RowAt.cells h.tail
    refine ⟨u :: css, by simp [q1], fun i e v p1 p2 => ?_, ?_⟩
    · match i with
      | 0 => simp at p1 p2; subst p1; subst p2; exact h1
      | i + 1 => exact q2 i e v (by simpa using p1) (by simpa using p2)
    · rw [List.flatten_cons]
      exact rangeAt_append (by simpa using h2) (by rw [h1.len]; exact q3)
theorem RowAt.sub {w : World} {M : Nat → Prop} {b off : Nat} {t : Ty} {l : List t.den} (h : RowAt w M b off t l) (k n : Nat) : RowAt w M b (off + k * t.cells) t ((l.drop k).take n) := fun i e he => by
  have hi : i < n := by
    have := (List.getElem?_eq_some_iff.1 he).1
    simp at this; omega
  rw [List.getElem?_take_of_lt hi, List.getElem?_drop] at he
  obtain ⟨u, h1, h2⟩ := h _ _ he
  refine ⟨u, h1, ?_⟩
  rw [Nat.add_mul] at h2
  rwa [Nat.add_assoc]

section
variable {β : Type} {z : Z} {H : Hp}

theorem cell_heap {w : World} {g o : Nat} {cs : Array Value} {e : TypeId} {fr : Nat × Nat} (h : w.heap[g]? = some (.cells cs e fr)) : w.cell? ⟨g, o, none⟩ = cs[o]? := by
  unfold World.cell?; rw [h]; rfl
/-- An own block's rows. -/
theorem BRep.rowAt {g sz n : Nat} {e : TypeId} {t : Ty} {l : List t.den} (h : BRep z g sz n (.rows e t l)) : RowAt z.w z.M g 0 t l := fun i x hx => by
  obtain ⟨cs, fr, a1, a2, a3, a4, a5, a6, a7⟩ := h
  obtain ⟨u, h1, h2⟩ := a7 i x hx
  refine ⟨u, h1, fun j v hj => ?_⟩
  rw [cell_heap a1, Nat.zero_add]
  exact h2 j v hj

/-! Views -/
theorem view_ok {a a' : AV} {v : Value} (hH : HRep z H) (h : view H a = some a') (ha : ARep z a v) : ARep z a' v := by
  unfold view at h
  split at h
  · simp at h; subst h; exact ha
  · simp at h; subst h; exact ha
  · simp at h; subst h; exact ha
  · rename_i es id
    split at h
    · rename_i e t l hg
      cases hb : Nat.beq es t.cells <;> rw [hb] at h
      · cases h
      · simp only [bq_true, Option.some.injEq] at h
        subst h
        rw [beq_nat] at hb
        subst hb
        cases ha with
        | slfV _ _ A hρ =>
          obtain ⟨rfl, _⟩ := hH.virt hg hρ
          refine .p _ _ _ (.mkSc ⟨A, 0, rfl, Nat.le_refl _, by unfold maxLen; omega, fun _ => rfl, fun h => absurd rfl h⟩ rfl)
        | slf _ _ g sz n c hρ hn hs hm =>
          obtain ⟨h1, _, h3, h4⟩ := hH.real hg hρ
          have hrow := h4.rowAt
          obtain ⟨cs, fr, a1, a2, a3, a4, a5, a6, a7⟩ := h4
          have a4' : l.length = n := a4
          rw [← a4'] at hn ⊢
          exact .p _ _ _ (.mkSc ⟨_, c, rfl, hn, hm, (fun h => by cases h), fun _ => ⟨g, 0, rfl, h3 rfl, h1, hrow⟩⟩ rfl)
    · cases h
  · rename_i es id off n
    split at h
    · rename_i e t l hg
      cases hb : (Nat.beq es t.cells && Nat.ble (off + n) l.length) <;> rw [hb] at h
      · cases h
      · simp only [bq_true, Option.some.injEq] at h
        subst h
        simp only [Bool.and_eq_true, beq_nat, Nat.ble_eq] at hb
        obtain ⟨rfl, hb⟩ := hb
        have hlen : ((l.drop off).take n).length = n := by rw [List.length_take, List.length_drop]; omega
        have mk : ∀ A c, n ≤ c → c ≤ maxLen → (A = none → c = 0) → (n ≠ 0 → ∃ b o, A = some ⟨b, o, none⟩ ∧ ¬ z.M b ∧ b < z.w.heap.size ∧ RowAt z.w z.M b o t ((l.drop off).take n)) →
            ARep z (.p (.sl t) ((l.drop off).take n)) (.slice A n c) := fun A c q1 q2 q3 q4 => by
          have : VRep z.w z.M (.sl t) ((l.drop off).take n) (.slice A ((l.drop off).take n).length c) :=
            .mkSc ⟨A, c, rfl, by rw [hlen]; exact q1, q2, q3, fun h0 => q4 (by rwa [hlen] at h0)⟩ rfl
          rw [hlen] at this
          exact .p _ _ _ this
        cases ha with
        | slV _ _ _ A hρ => exact mk A 0 (Nat.le_refl _) (by unfold maxLen; omega) (fun _ => rfl) (fun h => absurd rfl h)
        | slE _ _ _ g sz m o hρ => exact mk _ 0 (Nat.le_refl _) (by unfold maxLen; omega) (fun _ => rfl) (fun h => absurd rfl h)
        | sl _ _ _ _ g sz m c hρ hn hs hm =>
          obtain ⟨h1, _, h3, h4⟩ := hH.real hg hρ
          refine mk _ c hn hm (fun h => by cases h) fun _ => ⟨g, off * t.cells, rfl, h3 rfl, h1, ?_⟩
          have := h4.rowAt.sub off n
          rwa [Nat.zero_add] at this
    · cases h
  · rename_i es id i j
    split at h
    · rename_i e t l hg
      cases hb : Nat.beq es t.cells <;> rw [hb] at h
      · cases h
      · simp only [bq_true, Option.some.injEq] at h
        subst h
        rw [beq_nat] at hb
        subst hb
        cases ha with
        | own _ _ _ _ g sz n hρ =>
          obtain ⟨h1, _, h3, h4⟩ := hH.real hg hρ
          have := ARep.pt (z := z) t l i j g 0 (h3 rfl) h1 h4.rowAt
          rwa [Nat.zero_add] at this
    · cases h
  · cases h
theorem pure1_ok {a a' : AV} {H' : Hp} {v : Value} (hH : HRep z H) (h : pure1 H a = some (a', H')) (ha : ARep z a v) :
    ∃ z', z'.w = z.w ∧ HRep z' H' ∧ Nx z z' ∧ z'.ρ = z.ρ ∧ ARep z' a' v := by
  unfold pure1 at h
  obtain ⟨x, h1, h2⟩ := Option.map_eq_some_iff.1 h
  simp only [Prod.mk.injEq] at h2
  obtain ⟨rfl, rfl⟩ := h2
  obtain ⟨z', q1, q2, q3, q4⟩ := frzA_ok a hH
  exact ⟨z', q1, q2, q3, q4, view_ok q2 h1 (ha.kp (q3.kp hH.sub))⟩
theorem pureL_ok : ∀ {l l' : List AV} {z : Z} {H H' : Hp} {vs : List Value}, HRep z H → pureL H l = some (l', H') → AReps z l vs →
    ∃ z', z'.w = z.w ∧ HRep z' H' ∧ Nx z z' ∧ z'.ρ = z.ρ ∧ AReps z' l' vs
  | [], l', z, H, H', vs, hH, h, hr => by
    simp [pureL] at h
    obtain ⟨rfl, rfl⟩ := h
    exact ⟨z, rfl, hH, Nx.refl z, rfl, hr⟩
  | a :: l, l', z, H, H', vs, hH, h, hr => by
    simp only [pureL] at h
    obtain ⟨⟨x, H1⟩, h1, h2⟩ := ob_iff.1 h
    obtain ⟨⟨y, H2⟩, h3, h4⟩ := Option.map_eq_some_iff.1 h2
    simp only [Prod.mk.injEq] at h4
    obtain ⟨rfl, rfl⟩ := h4
    match vs, hr with
    | [], hr => have := hr.1; simp at this
    | v :: vs, hr =>
      obtain ⟨z1, q1, q2, q3, q4, q5⟩ := pure1_ok hH h1 hr.head
      obtain ⟨z2, p1, p2, p3, p4, p5⟩ := pureL_ok q2 h3 (hr.tail.kp (q3.kp hH.sub))
      exact ⟨z2, p1.trans q1, p2, q3.trans p3, p4.trans q4, .cons (q5.kp (p3.kp q2.sub)) p5⟩
theorem pureA_ok {a a' : AV} {H' : Hp} {v : Value} (hH : HRep z H) (h : pureA H a = some (a', H')) (ha : ARep z a v) :
    ∃ z', z'.w = z.w ∧ HRep z' H' ∧ Nx z z' ∧ z'.ρ = z.ρ ∧ ARep z' a' v := by
  unfold pureA at h
  split at h
  · rename_i l
    obtain ⟨⟨l', H1⟩, h1, h2⟩ := Option.map_eq_some_iff.1 h
    simp only [Prod.mk.injEq] at h2
    obtain ⟨rfl, rfl⟩ := h2
    cases ha with | agg _ cs hs h3 h4 =>
    obtain ⟨z', q1, q2, q3, q4, q5⟩ := pureL_ok (vs := cs.toList) hH h1 ⟨by simp [hs], fun i a v p1 p2 => h4 i a v p1 (by simpa using p2)⟩
    refine ⟨z', q1, q2, q3, q4, .agg _ _ ?_ h3 fun i x v p1 p2 => q5.2 i x v p1 (by simpa using p2)⟩
    have := q5.1
    simpa using this.symm
  · exact pure1_ok hH h ha

/-! Loads -/
theorem rdRow_ok {u : Ty} {t : TypeId} {x : u.den} {j : Nat} {K : AV → Option β} {r : β} {b o : Nat} {us : List Value} (h : rdRow P u t x j K = some r) (hc : Cl z.w z.M u x us) (ho : z.w.rangeAt b o us) :
    ∃ a v, (Instr.loadAt t (.pointer (some ⟨b, o + j, none⟩))).run P z.w = .ok v z.w ∧ ARep z a v ∧ K a = some r := by
  unfold rdRow at h
  obtain ⟨want, h1, h2⟩ := ob_iff.1 h
  obtain ⟨t1, t2, t3, t4⟩ := ty_ok h1
  obtain ⟨y, q1, q2, q3⟩ := sub_ok h2 hc
  have hr := rangeAt_sub ho j want.cells
  have hl := q1.len
  cases hagg : want.isAgg
  · have hcells : want.cells = 1 := by cases want <;> first | rfl | (simp [Ty.isAgg] at hagg; done)
    match hvs : (us.drop j).take want.cells, hl with
    | [], hl => rw [hcells] at hl; simp at hl
    | _ :: _ :: _, hl => rw [hcells] at hl; simp at hl
    | [v], _ =>
      rw [hvs] at hr q1
      refine ⟨_, v, run_load_one (t4 hagg) (by have := hr 0 v rfl; simpa using this), ofTy_ok (.mkSc q1 hagg), q3⟩
  · refine ⟨_, _, run_load_agg _ (t3 hagg) t1.symm (by omega) hl hr, ofTy_ok ⟨_, q1, by rw [hagg]; rfl⟩, q3⟩
theorem rdRows_ok {t : TypeId} {u : Ty} {l : List u.den} {i j : Nat} {K : AV → Option β} {r : β} {b off : Nat} (h : rdRows P t u l i j K = some r) (hr : RowAt z.w z.M b off u l) :
    ∃ a v, (Instr.loadAt t (.pointer (some ⟨b, off + i * u.cells + j, none⟩))).run P z.w = .ok v z.w ∧ ARep z a v ∧ K a = some r := by
  have key : (l[i]?.bind fun x => rdRow P u t x j K) = some r → ∃ a v, (Instr.loadAt t (.pointer (some ⟨b, off + i * u.cells + j, none⟩))).run P z.w = .ok v z.w ∧ ARep z a v ∧ K a = some r := by
    intro h
    obtain ⟨x, h1, h2⟩ := Option.bind_eq_some_iff.1 h
    obtain ⟨us, h3, h4⟩ := hr i x h1
    exact rdRow_ok h2 h3 h4
  unfold rdRows at h
  split at h
  · rename_i n u' hty
    obtain ⟨t1, t2, t3, t4⟩ := ty_ok hty
    cases hb : (decide (u' = u) && Nat.beq i 0 && Nat.beq j 0) <;> rw [hb] at h
    · exact key h
    · simp only [bq_true] at h
      obtain ⟨h1, h2⟩ := need_iff.1 h
      simp only [Bool.and_eq_true, decide_eq_true_eq, beq_nat] at hb h1
      obtain ⟨⟨rfl, rfl⟩, rfl⟩ := hb
      obtain ⟨css, q1, q2, q3⟩ := hr.cells
      have hl : css.flatten.length = n * u'.cells := by
        rw [flatten_len (n := u'.cells), q1, h1]
        intro w hw
        obtain ⟨k, hk⟩ := List.getElem?_of_mem hw
        obtain ⟨e, he⟩ := get_of_len (l := l) q1 hk
        exact (q2 k e w he hk).len
      refine ⟨.p (.arr n u') l, .agg css.flatten.toArray, ?_, .p _ _ _ ⟨css.flatten, ⟨h1, css, by rw [q1, h1], rfl, q2⟩, rfl⟩, h2⟩
      have := run_load_agg (P := P) (w := z.w) (b := b) (o := off) css.flatten (t3 rfl) t1.symm (by omega) hl q3
      simpa using this
  · exact key h
theorem rdVars_ok {t : TypeId} {c : List AV} {j : Nat} {K : AV → Option β} {r : β} {g : Nat} {vs : List Value} (h : rdVars P t c j K = some r) (hc : AReps z c vs) (h1 : ∀ v ∈ vs, v.oneCell' = true)
    (ho : z.w.rangeAt g 0 vs) : ∃ a v, (Instr.loadAt t (.pointer (some ⟨g, j, none⟩))).run P z.w = .ok v z.w ∧ ARep z a v ∧ K a = some r := by
  unfold rdVars at h
  cases ha : isAggT P t <;> rw [ha] at h <;> simp only [bq_true, bq_false] at h
  · cases hs : isScal P t <;> rw [hs] at h <;> simp only [bq_true, bq_false] at h
    · cases h
    · obtain ⟨x, h2, h3⟩ := ob_iff.1 h
      obtain ⟨v, h4, h5⟩ := hc.get h2
      exact ⟨x, v, run_load_one hs (by have := ho j v h4; simpa using this), h5, h3⟩
  · obtain ⟨h2, h3⟩ := need_iff.1 h
    simp only [Bool.and_eq_true, Bool.not_eq_true', Nat.ble_eq] at h2
    obtain ⟨h2, h4⟩ := h2
    have h0 : P.cellsOf t ≠ 0 := fun h0 => by rw [h0] at h4; simp at h4
    have hl := hc.1
    have hlen : ((vs.drop j).take (P.cellsOf t)).length = P.cellsOf t := by rw [List.length_take, List.length_drop]; omega
    refine ⟨_, _, run_load_agg _ ha rfl h0 hlen (by have := rangeAt_sub ho j (P.cellsOf t); simpa using this), .agg _ _ ?_ (fun v hv => ?_) (fun i x v p1 p2 => ?_), h3⟩
    · have := ((hc.drop j).take (P.cellsOf t)).1
      simpa using this.symm
    · exact h1 v (List.mem_of_mem_drop (List.mem_of_mem_take (by simpa using hv)))
    · exact ((hc.drop j).take (P.cellsOf t)).2 i x v p1 (by simpa using p2)
theorem BRep.vars_at {g sz n : Nat} {c : List AV} (h : BRep z g sz n (.vars c)) : ∃ vs : List Value, AReps z c vs ∧ (∀ v ∈ vs, v.oneCell' = true) ∧ z.w.rangeAt g 0 vs := by
  obtain ⟨cs, e, fr, a1, a2, a3, ⟨a4, _⟩, a5, a6⟩ := h
  refine ⟨cs.toList, ⟨by simp; omega, fun i a v p1 p2 => a5 i a v p1 (by simpa using p2)⟩, fun v hv => a6 v (by simpa using hv), fun j v hj => ?_⟩
  rw [cell_heap a1, Nat.zero_add]
  simpa using hj
theorem evLoad_ok {t : TypeId} {a : AV} {K : AV → Option β} {r : β} {pv : Value} (h : evLoad P t a H K = some r) (hH : HRep z H) (ha : ARep z a pv) :
    ∃ x v, (Instr.loadAt t pv).run P z.w = .ok v z.w ∧ ARep z x v ∧ K x = some r := by
  unfold evLoad at h
  split at h
  · rename_i es id i j
    split at h
    · rename_i c hg
      cases ha with
      | own _ _ _ _ g sz n hρ =>
        obtain ⟨vs, q1, q2, q3⟩ := (hH.real hg hρ).2.2.2.vars_at
        exact rdVars_ok h q1 q2 q3
    · rename_i e u l hg
      cases hi : Nat.beq es u.cells <;> rw [hi] at h <;> simp only [bq_true, bq_false] at h
      · cases h
      · rw [beq_nat] at hi
        subst hi
        cases ha with
        | own _ _ _ _ g sz n hρ =>
          have := rdRows_ok h (hH.real hg hρ).2.2.2.rowAt
          simpa using this
    · cases h
  · rename_i u l i j
    cases ha with | pt _ _ _ _ b off hM hlt hr => exact rdRows_ok h hr
  · cases h

/-! Stores -/
def setArr : Array Value → Nat → List Value → Array Value
  | c, _, [] => c
  | c, o, v :: r => setArr (c.setIfInBounds o v) (o + 1) r
theorem setArr_size (vs : List Value) : ∀ (c : Array Value) (o : Nat), (setArr c o vs).size = c.size := by
  induction vs with
  | nil => intro c o; rfl
  | cons v vs ih => intro c o; simp [setArr, ih]
theorem setArr_get (vs : List Value) : ∀ (c : Array Value) (o k : Nat), o + vs.length ≤ c.size → (setArr c o vs)[k]? = if o ≤ k ∧ k < o + vs.length then vs[k - o]? else c[k]? := by
  induction vs with
  | nil => intro c o k _; simp only [setArr, List.length_nil]; rw [if_neg (by omega)]
  | cons v vs ih =>
    intro c o k hk
    simp only [List.length_cons] at hk ⊢
    rw [setArr, ih _ _ _ (by simp; omega)]
    by_cases h1 : o + 1 ≤ k ∧ k < o + 1 + vs.length
    · rw [if_pos h1, if_pos (by omega), show k - o = (k - (o + 1)) + 1 from by omega, List.getElem?_cons_succ]
    · rw [if_neg h1]
      by_cases h2 : k = o
      · subst h2
        rw [if_pos (by omega)]
        simp [show k < c.size from by omega]
      · rw [if_neg (by omega), Array.getElem?_setIfInBounds_ne (by omega)]
theorem heap_setCell_at (w : World) (g o : Nat) (v : Value) (cs : Array Value) (e : TypeId) (fr : Nat × Nat) (h : w.heap[g]? = some (.cells cs e fr)) : (w.setCell ⟨g, o, none⟩ v).heap[g]? = some (.cells (cs.setIfInBounds o v) e fr) := by
  unfold World.setCell
  simp [Array.getElem?_modify, h]
theorem heap_setCells_at (vs : List Value) : ∀ (w : World) (g o : Nat) (cs : Array Value) (e : TypeId) (fr : Nat × Nat), w.heap[g]? = some (.cells cs e fr) → (w.setCells g o vs).heap[g]? = some (.cells (setArr cs o vs) e fr) := by
  induction vs with
  | nil => intro w g o cs e fr h; exact h
  | cons v vs ih => intro w g o cs e fr h; exact ih _ _ _ _ _ _ (heap_setCell_at w g o v cs e fr h)
theorem heap_setCells_ne (vs : List Value) : ∀ (w : World) (g o b : Nat), b ≠ g → (w.setCells g o vs).heap[b]? = w.heap[b]? := by
  induction vs with
  | nil => intro w g o b _; rfl
  | cons v vs ih => intro w g o b h; exact (ih _ g (o + 1) b h).trans (RowKit.Below.heap_setCell w ⟨g, o, none⟩ v b h)
theorem setCells_same (vs : List Value) : ∀ (w : World) (g o : Nat), (w.setCells g o vs).heap.size = w.heap.size ∧ (w.setCells g o vs).os = w.os ∧ (w.setCells g o vs).tape = w.tape ∧ (w.setCells g o vs).output = w.output := by
  induction vs with
  | nil => intro w g o; exact ⟨rfl, rfl, rfl, rfl⟩
  | cons v vs ih =>
    intro w g o
    obtain ⟨h1, h2, h3, h4⟩ := ih (w.setCell ⟨g, o, none⟩ v) g (o + 1)
    exact ⟨h1.trans (by simp [World.setCell]), h2, h3, h4⟩
theorem setFrom_len {α : Type} (vs : List α) : ∀ (c : List α) (j : Nat), (setFrom c j vs).length = c.length := by
  induction vs with
  | nil => intro c j; rfl
  | cons v vs ih => intro c j; simp [setFrom, ih]
theorem setFrom_get {α : Type} (vs : List α) : ∀ (c : List α) (j k : Nat), j + vs.length ≤ c.length → (setFrom c j vs)[k]? = if j ≤ k ∧ k < j + vs.length then vs[k - j]? else c[k]? := by
  induction vs with
  | nil => intro c j k _; simp only [setFrom, List.length_nil]; rw [if_neg (by omega)]
  | cons v vs ih =>
    intro c j k hk
    simp only [List.length_cons] at hk ⊢
    rw [setFrom, ih _ _ _ (by simp; omega)]
    by_cases h1 : j + 1 ≤ k ∧ k < j + 1 + vs.length
    · rw [if_pos h1, if_pos (by omega), show k - j = (k - (j + 1)) + 1 from by omega, List.getElem?_cons_succ]
    · rw [if_neg h1]
      by_cases h2 : k = j
      · subst h2
        rw [if_pos (by omega), List.getElem?_set_self (by omega)]
        simp
      · rw [if_neg (by omega), List.getElem?_set_ne (by omega)]

theorem run_store_any {w : World} {g o : Nat} {t : TypeId} {v : Value} {n : Nat} (ht : w.there g o v.cells.size) (hn : P.cellsOf t = n) (h0 : n ≠ 0) (hs : v.cells.size = n) (h1 : ∀ u ∈ v.cells, u.oneCell' = true) :
    (Instr.storeAt t (.pointer (some ⟨g, o, none⟩)) v).run P w = .ok () (w.setCells g o v.cells.toList) := by
  have hi := cells_info hn h0
  have := run_storeCells_cells (P := P) g o v.cells.toList 0 w (fun j hj => by simpa using (ht j (by simpa using hj)).1) (fun j hj => by simpa using (ht j (by simpa using hj)).2)
    (fun u hu => h1 u (by simpa using hu))
  cases hq : P.info? t with
  | none => simp [hq] at hi
  | some i =>
    have hs' : v.cells.size = i.size := by simp [hq] at hi; omega
    simp only [Nat.add_zero] at this
    simp [Instr.storeAt, Instr.sureAddr, storeVar, Sem.run_bind, sizeOf, typeInfo, hq, hs', this]
theorem there_of {w : World} {g o n : Nat} {cs : Array Value} {e : TypeId} {fr : Nat × Nat} (h : w.heap[g]? = some (.cells cs e fr)) (hf : okF cs fr) (hn : o + n ≤ cs.size) : w.there g o n := fun j hj => by
  constructor
  · rw [cell_heap h]; simp [show o + j < cs.size from by omega]
  · unfold World.frozen?; rw [h]
    simp only [Bool.and_eq_false_iff, decide_eq_false_iff_not]
    rcases hf with hf | hf
    · omega
    · omega
theorem mul_lt {i j n es : Nat} (hi : i < n) (hj : j < es) : i * es + j < n * es := by
  have : (i + 1) * es ≤ n * es := Nat.mul_le_mul_right _ hi
  rw [Nat.succ_mul] at this
  omega

/-- What a step yields. -/
def Ok (P : Program) (s : Sem Value) (z : Z) (K : AV → Hp → Option β) (r : β) : Prop :=
  ∃ x v H' z', s.run P z.w = .ok v z'.w ∧ HRep z' H' ∧ ARep z' x v ∧ Nx z z' ∧ K x H' = some r
/-- A step that leaves the world alone. -/
def OkP (P : Program) (s : Sem Value) (z : Z) (K : AV → Option β) (r : β) : Prop :=
  ∃ x v, s.run P z.w = .ok v z.w ∧ ARep z x v ∧ K x = some r

/-- A store into an own block. -/
theorem store_ok {id g sz n o : Nat} {t : TypeId} {v : Value} {b0 b : Blk} {cs : Array Value} {e : TypeId} {fr : Nat × Nat} (hH : HRep z H) (hg : hget H id = some ⟨false, b0⟩) (hρ : z.ρ id = .real g sz n)
    (hcs : z.w.heap[g]? = some (.cells cs e fr)) (hf : okF cs fr) (hc0 : P.cellsOf t ≠ 0) (hsz : v.cells.size = P.cellsOf t) (hfit : o + v.cells.size ≤ cs.size) (h1 : ∀ u ∈ v.cells, u.oneCell' = true)
    (hb : ∀ z', Kp z z' → z'.w.heap[g]? = some (.cells (setArr cs o v.cells.toList) e fr) → BRep z' g sz n b) :
    ∃ z', (Instr.storeAt t (.pointer (some ⟨g, o, none⟩)) v).run P z.w = .ok () z'.w ∧ HRep z' (hset H id (some ⟨false, b⟩)) ∧ Nx z z' := by
  obtain ⟨q1, q2, q3, q4⟩ := setCells_same v.cells.toList z.w g o
  obtain ⟨p1, p2⟩ := hH.write (w' := z.w.setCells g o v.cells.toList) (b := b) hg hρ q2 q3 q4 q1 (fun b hb => heap_setCells_ne _ _ _ _ _ hb) (fun k => hb _ k (heap_setCells_at _ _ _ _ _ _ _ hcs))
  exact ⟨_, run_store_any (there_of hcs hf hfit) rfl hc0 hsz h1, p1, p2⟩
theorem okF_set {cs cs' : Array Value} {fr : Nat × Nat} (h : okF cs fr) (hs : cs'.size = cs.size) : okF cs' fr := by unfold okF at *; rw [hs]; exact h
theorem VRep.cells {w : World} {M : Nat → Prop} {t : Ty} {x : t.den} {v : Value} (h : VRep w M t x v) : Cl w M t x v.cells.toList ∧ ∀ u ∈ v.cells, u.oneCell' = true := by
  obtain ⟨vs, h1, h2⟩ := h
  cases hagg : t.isAgg <;> rw [hagg] at h2 <;> simp only [cond_true, cond_false] at h2
  · have hl := h1.len
    have hc : t.cells = 1 := by cases t <;> first | rfl | (simp [Ty.isAgg] at hagg; done)
    match vs, hl with
    | [u], _ =>
      simp at h2
      subst h2
      have h3 := h1.one v (by simp)
      have e : v.cells = #[v] := by cases v <;> first | rfl | (simp [Value.oneCell'] at h3; done)
      rw [e]
      exact ⟨h1, fun u hu => by simp at hu; subst hu; exact h3⟩
    | [], hl => simp at hl; omega
    | _ :: _ :: _, hl => simp at hl; omega
  · subst h2
    exact ⟨h1, fun u hu => h1.one u (by simpa [Value.cells] using hu)⟩

theorem rows_set_ok {id g sz n i j : Nat} {t : TypeId} {e : TypeId} {u want : Ty} {l : List u.den} {x : u.den} {y : want.den} {v : Value} {b0 : Blk} {K : AV → Hp → Option β} {r : β}
    (hH : HRep z H) (hg : hget H id = some ⟨false, b0⟩) (hρ : z.ρ id = .real g sz n) (hb : BRep z g sz n (.rows e u l)) (hty : ty P t = some want) (hx : l[i]? = some x) (hy : VRep z.w z.M want y v)
    (h : upd u x j want y (fun x' => K .junk (hset H id (some ⟨false, .rows e u (l.set i x')⟩))) = some r) :
    ∃ H' z', (Instr.storeAt t (.pointer (some ⟨g, i * u.cells + j, none⟩)) v).run P z.w = .ok () z'.w ∧ HRep z' H' ∧ Nx z z' ∧ K .junk H' = some r := by
  obtain ⟨t1, t2, t3, t4⟩ := ty_ok hty
  obtain ⟨cs, fr, a1, a2, a3, a4, a5, a6, a7⟩ := hb
  obtain ⟨us, c1, c2⟩ := a7 i x hx
  obtain ⟨c3, c4⟩ := hy.cells
  obtain ⟨x', q1, q2, q3⟩ := upd_ok h c1 c3
  have hi : i < l.length := (List.getElem?_eq_some_iff.1 hx).1
  have hup : (i + 1) * u.cells ≤ l.length * u.cells := Nat.mul_le_mul_right _ hi
  rw [Nat.succ_mul] at hup
  have hvl := c3.len
  have hvs : v.cells.size = want.cells := by simpa using hvl
  have hul := c1.len
  obtain ⟨z', s1, s2, s3⟩ := store_ok (P := P) (t := t) (o := i * u.cells + j) (v := v) (b := .rows e u (l.set i x')) hH hg hρ a1 a2 (by omega) (by omega) (by omega) c4 (fun z' k hw => by
    refine ⟨_, fr, hw, okF_set a2 (setArr_size _ _ _), by rw [setArr_size]; exact a3, by rw [List.length_set]; exact a4, by rw [List.length_set]; exact a5, a6, fun i' y' hi' => ?_⟩
    by_cases hii : i = i'
    · subst hii
      rw [List.getElem?_set_self hi] at hi'
      obtain rfl : x' = y' := Option.some.inj hi'
      refine ⟨_, q1.kp k, fun m w hm => ?_⟩
      rw [setArr_get _ _ _ _ (by simp; omega)]
      have hlen : (us.take j ++ v.cells.toList ++ us.drop (j + want.cells)).length = u.cells := by
        simp [List.length_take, List.length_drop]; omega
      have hmlt : m < u.cells := by
        have := (List.getElem?_eq_some_iff.1 hm).1
        omega
      simp only [Array.length_toList]
      by_cases h1 : j ≤ m ∧ m < j + v.cells.size
      · rw [if_pos (by omega), show i * u.cells + m - (i * u.cells + j) = m - j from by omega]
        rw [List.append_assoc, List.getElem?_append_right (by simp; omega), List.getElem?_append_left (by simp; omega)] at hm
        rw [← hm]
        congr 1
        simp; omega
      · rw [if_neg (by omega)]
        by_cases h2 : m < j
        · rw [List.append_assoc, List.getElem?_append_left (by simp; omega), List.getElem?_take_of_lt h2] at hm
          exact c2 m w hm
        · rw [List.getElem?_append_right (by simp; omega), List.getElem?_drop] at hm
          refine c2 m w ?_
          rw [← hm]
          congr 1
          simp; omega
    · rw [List.getElem?_set_ne hii] at hi'
      obtain ⟨us', d1, d2⟩ := a7 i' y' hi'
      refine ⟨us', d1.kp k, fun m w hm => ?_⟩
      have hmlt : m < u.cells := by
        have := (List.getElem?_eq_some_iff.1 hm).1
        rw [d1.len] at this; exact this
      rw [setArr_get _ _ _ _ (by simp; omega), if_neg, d2 m w hm]
      simp only [Array.length_toList]
      rcases Nat.lt_or_ge i i' with hlt | hge
      · have : (i + 1) * u.cells ≤ i' * u.cells := Nat.mul_le_mul_right _ hlt
        rw [Nat.succ_mul] at this
        omega
      · have : (i' + 1) * u.cells ≤ i * u.cells := Nat.mul_le_mul_right _ (by omega)
        rw [Nat.succ_mul] at this
        omega)
  exact ⟨_, z', s1, s2, s3, q3⟩

theorem wrRows_ok {id g sz n i j : Nat} {t : TypeId} {e : TypeId} {u : Ty} {l : List u.den} {a : AV} {v : Value} {b0 : Blk} {K : AV → Hp → Option β} {r : β}
    (h : wrRows P t e u l i j id a H K = some r) (hH : HRep z H) (hg : hget H id = some ⟨false, b0⟩) (hρ : z.ρ id = .real g sz n) (hb : BRep z g sz n (.rows e u l)) (ha : ARep z a v) :
    ∃ H' z', (Instr.storeAt t (.pointer (some ⟨g, i * u.cells + j, none⟩)) v).run P z.w = .ok () z'.w ∧ HRep z' H' ∧ Nx z z' ∧ K .junk H' = some r := by
  have key : ∀ want, ty P t = some want → (asA want a fun y => l[i]?.bind fun x => upd u x j want y fun x' => K .junk (hset H id (some ⟨false, .rows e u (l.set i x')⟩))) = some r →
      ∃ H' z', (Instr.storeAt t (.pointer (some ⟨g, i * u.cells + j, none⟩)) v).run P z.w = .ok () z'.w ∧ HRep z' H' ∧ Nx z z' ∧ K .junk H' = some r := by
    intro want hty h
    obtain ⟨y, h1, h2⟩ := asA_ok h ha
    obtain ⟨x, h3, h4⟩ := Option.bind_eq_some_iff.1 h2
    exact rows_set_ok hH hg hρ hb hty h3 h1 h4
  unfold wrRows at h
  split at h
  · rename_i m u' hty
    cases hc : (decide (u' = u) && Nat.beq i 0 && Nat.beq j 0) <;> rw [hc] at h <;> simp only [bq_true, bq_false] at h
    · exact key _ hty h
    · simp only [Bool.and_eq_true, decide_eq_true_eq, beq_nat] at hc
      obtain ⟨⟨rfl, rfl⟩, rfl⟩ := hc
      obtain ⟨h1, h2⟩ := need_iff.1 h
      obtain ⟨l', h3, h4⟩ := asA_ok h2 ha
      obtain ⟨h5, h6⟩ := need_iff.1 h4
      rw [beq_nat] at h1 h5
      obtain ⟨t1, t2, t3, t4⟩ := ty_ok hty
      obtain ⟨cs, fr, a1, a2, a3, a4, a5, a6, a7⟩ := hb
      obtain ⟨c3, c4⟩ := h3.cells
      have hvl := c3.len
      have hvs : v.cells.size = m * u'.cells := by simpa [Ty.cells] using hvl
      obtain ⟨_, css, d1, d2, d3⟩ := c3
      obtain ⟨z', s1, s2, s3⟩ := store_ok (P := P) (t := t) (o := 0 * u'.cells + 0) (v := v) (b := .rows e u' l') hH hg hρ a1 a2 (by omega) (by rw [hvs]; exact t1) (by rw [hvs, ← h1]; omega) c4 (fun z' k hw => by
        refine ⟨_, fr, hw, okF_set a2 (setArr_size _ _ _), by rw [setArr_size]; exact a3, by rw [h5, ← h1]; exact a4, by rw [h5, ← h1]; exact a5, a6, fun i' y' hi' => ?_⟩
        have hil : i' < css.length := by
          have := (List.getElem?_eq_some_iff.1 hi').1
          omega
        refine ⟨css[i'], (d3 i' y' _ hi' (List.getElem?_eq_getElem hil)).kp k, fun q w hq => ?_⟩
        have hlens : ∀ u ∈ css, u.length = u'.cells := fun u hu => by
          obtain ⟨k, hk⟩ := List.getElem?_of_mem hu
          obtain ⟨e, he⟩ := get_of_len (l := l') (by rw [d1, h5]) hk
          exact (d3 k e u he hk).len
        have hqlt : q < u'.cells := by
          have := (List.getElem?_eq_some_iff.1 hq).1
          rwa [hlens _ (List.getElem_mem hil)] at this
        have hlt := mul_lt (es := u'.cells) hil hqlt
        have hfl : ∀ (css : List (List Value)) (k : Nat) (hk : k < css.length), (∀ u ∈ css, u.length = u'.cells) → ∀ q w, css[k][q]? = some w → css.flatten[k * u'.cells + q]? = some w := by
          intro css
          induction css with
          | nil => intro k hk; simp at hk
          | cons c css ih =>
            intro k hk hl q w hq
            match k with
            | 0 =>
              simp at hq
              rw [List.flatten_cons, Nat.zero_mul, Nat.zero_add, List.getElem?_append_left (List.getElem?_eq_some_iff.1 hq).1]
              exact hq
            | k + 1 =>
              have hc := hl c (by simp)
              rw [List.flatten_cons, List.getElem?_append_right (by rw [Nat.succ_mul]; omega)]
              have := ih k (by simpa using hk) (fun u hu => hl u (by simp [hu])) q w (by simpa using hq)
              rw [← this]
              congr 1
              rw [Nat.succ_mul]; omega
        have h7 := hfl css i' hil hlens q w hq
        rw [setArr_get _ _ _ _ (by simp; rw [hvs, ← h1]; omega), if_pos (by simp; rw [hvs]; rw [d1] at hlt; omega)]
        rw [← h7, ← d2]
        congr 1
        omega)
      exact ⟨_, z', s1, s2, s3, h6⟩
  · rename_i want hne hty
    exact key _ hty h
  · cases h
theorem evStore_ok {t : TypeId} {a x : AV} {K : AV → Hp → Option β} {r : β} {pv v : Value} (h : evStore P t a x H K = some r) (hH : HRep z H) (ha : ARep z a pv) (hx : ARep z x v) :
    ∃ H' z', (Instr.storeAt t pv v).run P z.w = .ok () z'.w ∧ HRep z' H' ∧ Nx z z' ∧ K .junk H' = some r := by
  unfold evStore at h
  split at h
  · rename_i es id i j
    cases ha with
    | own _ _ _ _ g sz n hρ =>
      split at h
      · rename_i c hg
        obtain ⟨vs, h1, h2⟩ := ob_iff.1 h
        obtain ⟨h3, h4⟩ := need_iff.1 h2
        simp only [Bool.and_eq_true, Bool.not_eq_true', Nat.ble_eq, beq_nat] at h3
        obtain ⟨⟨h5, h6⟩, h7⟩ := h3
        obtain ⟨o, ho⟩ : ∃ o, i * es + j = o := ⟨_, rfl⟩
        rw [ho] at h4 h7 ⊢
        obtain ⟨p1, p2, _⟩ := cellsA_ok h1 hx
        obtain ⟨_, _, _, cs, e, fr, q1, q2, q3, ⟨q4, qn⟩, q5, q6⟩ := hH.real hg hρ
        have hc0 : P.cellsOf t ≠ 0 := fun h0 => by rw [h0] at h6; simp at h6
        have hvs : v.cells.size = vs.length := by have := p1.1; simpa using this.symm
        obtain ⟨z', s1, s2, s3⟩ := store_ok (P := P) (t := t) (o := o) (v := v) (b := .vars (setFrom c o vs)) hH hg hρ q1 q2 hc0 (by omega) (by omega) p2 (fun z' k hw => by
          refine ⟨_, e, fr, hw, okF_set q2 (setArr_size _ _ _), by rw [setArr_size]; exact q3, ⟨by rw [setFrom_len]; exact q4, qn⟩, fun m a u hk hu => ?_, fun u hu => ?_⟩
          · rw [setFrom_get _ _ _ _ h7] at hk
            rw [setArr_get _ _ _ _ (by simp; omega)] at hu
            simp only [Array.length_toList, hvs] at hu
            by_cases hin : o ≤ m ∧ m < o + vs.length
            · rw [if_pos hin] at hk hu
              exact (p1.2 _ _ _ hk hu).kp k
            · rw [if_neg hin] at hk hu
              exact (q5 _ _ _ hk hu).kp k
          · obtain ⟨m, hm, rfl⟩ := Array.mem_iff_getElem.1 hu
            have hk' : (setArr cs o v.cells.toList)[m]? = some ((setArr cs o v.cells.toList)[m]) := Array.getElem?_eq_getElem hm
            generalize (setArr cs o v.cells.toList)[m] = u at hk'
            rw [setArr_get _ _ _ _ (by simp; omega)] at hk'
            split at hk'
            · exact p2 u (by have := List.mem_of_getElem? hk'; simpa using this)
            · exact q6 u (Array.mem_of_getElem? hk'))
        exact ⟨_, z', s1, s2, s3, h4⟩
      · rename_i e u l hg
        cases hes : Nat.beq es u.cells <;> rw [hes] at h <;> simp only [bq_true, bq_false] at h
        · cases h
        rw [beq_nat] at hes
        subst hes
        obtain ⟨⟨a', H1⟩, h1, h2⟩ := ob_iff.1 h
        obtain ⟨h3, h4⟩ := need_iff.1 h2
        obtain ⟨z1, p1, p2, p3, p4, p5⟩ := pureA_ok hH h1 hx
        have hg1 : ∃ b1, hget H1 id = some ⟨false, b1⟩ := by
          simp only [isMut] at h3
          split at h3
          · rename_i e' he'
            obtain ⟨fz, b1⟩ := e'
            simp only [Bool.not_eq_true'] at h3
            subst h3
            exact ⟨b1, he'⟩
          · cases h3
        obtain ⟨b1, hg1⟩ := hg1
        have hb := (hH.real hg hρ).2.2.2.kp (p3.kp hH.sub) (by rw [p1])
        obtain ⟨H', z', s1, s2, s3, s4⟩ := wrRows_ok h4 p2 hg1 (by rw [p4]; exact hρ) hb p5
        exact ⟨H', z', by rw [← p1]; exact s1, s2, p3.trans s3, s4⟩
      · cases h
  · cases h
end
end
end Go.Ab

/- The evaluator's operations are the model's: those that only read. -/
namespace Go.Ab

section
variable {P : Program} {β : Type} {z : Z} {H : Hp}
theorem OkP.mk' {s : Sem Value} {K : AV → Option β} {r : β} {x : AV} {v : Value} (h1 : s.run P z.w = .ok v z.w) (h2 : ARep z x v) (h3 : K x = some r) : OkP P s z K r := ⟨x, v, h1, h2, h3⟩

theorem run_sizeOf_cells {t n : Nat} (w : World) (h : P.cellsOf t = n) (h0 : n ≠ 0) : (sizeOf t).run P w = .ok n w := by
  have hi := cells_info h h0
  cases hq : P.info? t with
  | none => simp [hq] at hi
  | some i => simp [hq] at hi; simp [sizeOf, typeInfo, Sem.run_bind, hq, hi]
theorem fieldOff_ok {s : TypeId} {f o : Nat} {t : TypeId} (h : fieldOff P s f = some (o, t)) : ∃ fs x, P.underlying s = some (.struct fs) ∧ fs[f]? = some x ∧ P.cellsOf x.type ≠ 0 ∧ x.offset = o ∧ x.type = t := by
  unfold fieldOff at h
  split at h
  · rename_i fs hu
    obtain ⟨x, h1, h2⟩ := ob_iff.1 h
    cases hb : Nat.beq (P.cellsOf x.type) 0 <;> rw [hb] at h2 <;> simp only [bq_true, bq_false] at h2
    · simp only [Option.some.injEq, Prod.mk.injEq] at h2
      exact ⟨fs, x, hu, h1, fun h => (by rw [h] at hb; cases hb), h2.1, h2.2⟩
    · cases h2
  · cases h
theorem run_fieldAt {s : TypeId} {f o b p : Nat} {t : TypeId} (h : fieldOff P s f = some (o, t)) (w : World) : (Instr.fieldAt s (.pointer (some ⟨b, p, none⟩)) f).run P w = .ok (.pointer (some ⟨b, p + o, none⟩)) w := by
  obtain ⟨fs, x, h1, h2, h3, h4, h5⟩ := fieldOff_ok h
  have hs := run_sizeOf_cells (P := P) (t := x.type) w rfl h3
  simp [Instr.fieldAt, Sem.run_bind, run_underlying h1, h2, Instr.sureAddr, fieldPlace, hs, h3, h4, Addr.add_mid]
theorem evFieldAddr_ok {s : TypeId} {a : AV} {f : Nat} {K : AV → Option β} {r : β} {v : Value} (h : evFieldAddr P s a f K = some r) (ha : ARep z a v) : OkP P (Instr.fieldAt s v f) z K r := by
  unfold evFieldAddr at h
  split at h
  · rename_i o t es id i j ho
    cases ha with
    | own _ _ _ _ g sz n hρ => exact .mk' (by rw [run_fieldAt ho]; rw [Nat.add_assoc]) (.own _ _ _ _ _ _ _ hρ) h
  · rename_i o t u l i j ho
    cases ha with
    | pt _ _ _ _ b off hM hlt hr => exact .mk' (by rw [run_fieldAt ho, Nat.add_assoc (off + i * u.cells)]) (.pt _ _ _ _ _ _ hM hlt hr) h
  · cases h
theorem run_part_agg {t : TypeId} {cs : Array Value} {o n : Nat} (w : World) (h : isAggT P t = true) (hn : P.cellsOf t = n) (h0 : n ≠ 0) : (part t cs o).run P w = .ok (.agg (cs.extract o (o + n))) w := by
  obtain ⟨d, hd, hr⟩ := isAggT_row h
  have hs := run_sizeOf_cells (P := P) w hn h0
  have ha : (isAgg t).run P w = .ok true w := by
    unfold isAgg
    rw [Sem.run_bind, run_underlying hd w]
    cases d <;> simp_all
  simp [part, Sem.run_bind, ha, hs]
theorem run_part_scal {t : TypeId} {cs : Array Value} {o : Nat} {v : Value} (w : World) (h : isScal P t = true) (hv : cs[o]? = some v) : (part t cs o).run P w = .ok v w := by
  simp [part, Sem.run_bind, isAgg_run w h, hv]
/-- A part of a value of several cells. -/
theorem part_ok {u : Ty} {t : TypeId} {x : u.den} {cs : Array Value} {o : Nat} {K : AV → Option β} {r : β} (h : rdRow P u t x o K = some r) (hc : Cl z.w z.M u x cs.toList) : OkP P (part t cs o) z K r := by
  unfold rdRow at h
  obtain ⟨want, h1, h2⟩ := ob_iff.1 h
  obtain ⟨t1, t2, t3, t4⟩ := ty_ok h1
  obtain ⟨y, q1, q2, q3⟩ := sub_ok h2 hc
  have hl := q1.len
  cases hagg : want.isAgg
  · have hcells : want.cells = 1 := by cases want <;> first | rfl | (simp [Ty.isAgg] at hagg; done)
    match hvs : (cs.toList.drop o).take want.cells, hl with
    | [], hl => rw [hcells] at hl; simp at hl
    | _ :: _ :: _, hl => rw [hcells] at hl; simp at hl
    | [v], _ =>
      rw [hvs] at q1
      have hv : cs[o]? = some v := by
        have : ((cs.toList.drop o).take want.cells)[0]? = some v := by rw [hvs]; rfl
        rw [hcells] at this
        simpa using this
      exact .mk' (run_part_scal z.w (t4 hagg) hv) (ofTy_ok (.mkSc q1 hagg)) q3
  · refine .mk' (run_part_agg z.w (t3 hagg) t1.symm (by omega)) (ofTy_ok ⟨_, q1, ?_⟩) q3
    rw [hagg]
    simp only [cond_true]
    congr 1
    apply Array.ext'
    rw [Array.toList_extract]
    simp [List.extract]
theorem evField_ok {s : TypeId} {a : AV} {f : Nat} {K : AV → Option β} {r : β} {v : Value} (h : evField P s a f K = some r) (ha : ARep z a v) : OkP P (Instr.field s v f) z K r := by
  have run : ∀ {o t} {cs : Array Value}, fieldOff P s f = some (o, t) → (Instr.field s (.agg cs) f).run P z.w = (part t cs o).run P z.w := fun {o t cs} ho => by
    obtain ⟨fs, x, h1, h2, h3, h4, h5⟩ := fieldOff_ok ho
    simp [Instr.field, Sem.run_bind, run_underlying h1, h2, asAgg, h4, h5]
  unfold evField at h
  split at h
  · rename_i o t c ho
    obtain ⟨fs, x, h1, h2, h3, h4, h5⟩ := fieldOff_ok ho
    cases ha with | agg _ cs hs q1 q2 =>
    have hc : AReps z c cs.toList := ⟨by simp [hs], fun i a v p1 p2 => q2 i a v p1 (by simpa using p2)⟩
    cases hagg : isAggT P t <;> rw [hagg] at h <;> simp only [bq_true, bq_false] at h
    · cases hsc : isScal P t <;> rw [hsc] at h <;> simp only [bq_true, bq_false] at h
      · cases h
      · obtain ⟨a', p1, p2⟩ := ob_iff.1 h
        obtain ⟨v, p3, p4⟩ := hc.get p1
        exact .mk' (by rw [run ho]; exact run_part_scal z.w hsc (by simpa using p3)) p4 p2
    · obtain ⟨p1, p2⟩ := need_iff.1 h
      rw [Nat.ble_eq] at p1
      have h0 : P.cellsOf t ≠ 0 := by rw [← h5]; exact h3
      have hd := (hc.drop o).take (P.cellsOf t)
      refine .mk' (by rw [run ho]; exact run_part_agg z.w hagg rfl h0) (.agg _ _ ?_ (fun v hv => ?_) (fun i x v e1 e2 => hd.2 i x v e1 ?_)) p2
      · have := hd.1
        rw [this]
        rw [← Array.length_toList, Array.toList_extract]
        simp [List.extract]
      · have hv' := Array.mem_toList_iff.2 hv
        rw [Array.toList_extract] at hv'
        exact q1 v (Array.mem_toList_iff.1 (List.mem_of_mem_drop (List.mem_of_mem_take (by simpa [List.extract] using hv'))))
      · have : (cs.extract o (o + P.cellsOf t)).toList[i]? = some v := by rw [Array.getElem?_toList]; exact e2
        rw [Array.toList_extract, List.extract_eq_take_drop, Nat.add_sub_cancel_left] at this
        exact this
  · rename_i o t u x ho
    cases hagg : u.isAgg <;> rw [hagg] at h <;> simp only [bq_true, bq_false] at h
    · cases h
    · obtain ⟨vs, p1, p2⟩ := ha.v
      rw [hagg] at p2
      simp only [cond_true] at p2
      subst p2
      obtain ⟨y, v, e1, e2, e3⟩ := part_ok (cs := vs.toArray) h (by simpa using p1)
      exact .mk' (by rw [run ho]; exact e1) e2 e3
  · cases h

theorem idx?_ok {i : Int} {n q : Nat} (h : idx? i n = some q) : 0 ≤ i ∧ i < n ∧ i.toNat = q := by
  unfold idx? at h
  split at h
  · rename_i hc
    simp at h
    exact ⟨hc.1, hc.2, h⟩
  · cases h
theorem upto?_ok {i : Int} {n q : Nat} (h : upto? i n = some q) : 0 ≤ i ∧ i ≤ n ∧ i.toNat = q := by
  unfold upto? at h
  split at h
  · rename_i hc
    simp at h
    exact ⟨hc.1, hc.2, h⟩
  · cases h
theorem ownRows_ok {es id : Nat} {K : (u : Ty) → List u.den → Option β} {r : β} (h : ownRows H es id K = some r) : ∃ fz e u l, hget H id = some ⟨fz, .rows e u l⟩ ∧ es = u.cells ∧ K u l = some r := by
  unfold ownRows at h
  split at h
  · rename_i fz e u l hg
    cases hb : Nat.beq es u.cells <;> rw [hb] at h <;> simp only [bq_true, bq_false] at h
    · cases h
    · exact ⟨fz, e, u, l, hg, (beq_nat _ _).1 hb, h⟩
  · cases h
theorem varsLen_ok {es id n : Nat} {v : Value} (h : varsLen H es id = some n) (hH : HRep z H) (ha : ARep z (.slf es id) v) :
    es = 1 ∧ ∃ g sz c, z.ρ id = .real g sz n ∧ v = .slice (some ⟨g, 0, none⟩) n c ∧ n ≤ c ∧ c ≤ maxLen := by
  unfold varsLen at h
  split at h
  · rename_i fz c hg
    cases hb : Nat.beq es 1 <;> rw [hb] at h <;> simp only [bq_true, bq_false] at h
    · cases h
    · rw [beq_nat] at hb
      simp only [Option.some.injEq] at h
      subst h
      cases ha with
      | slfV _ _ A hρ => exact absurd (hH.virt hg hρ) (fun h => h)
      | slf _ _ g sz n k hρ hn hs hm =>
        obtain ⟨_, _, _, cs, e, fr, a1, a2, a3, ⟨a4, a5⟩, _⟩ := hH.real hg hρ
        have e1 : n = c.length := by omega
        subst e1
        exact ⟨hb, g, sz, k, hρ, rfl, hn, hm⟩
  · cases h
/-- How long the whole slice of a block is. -/
theorem slf_len {es id : Nat} {v : Value} {fz : Bool} {e : TypeId} {u : Ty} {l : List u.den} (hH : HRep z H) (hg : hget H id = some ⟨fz, .rows e u l⟩) (ha : ARep z (.slf es id) v) :
    ∃ A c, v = .slice A l.length c ∧ l.length ≤ c ∧ (l.length ≠ 0 → ∃ g sz n, z.ρ id = .real g sz n ∧ A = some ⟨g, 0, none⟩ ∧ c * es ≤ sz ∧ c ≤ maxLen) ∧
      (z.ρ id = .virt ∨ ∃ g sz n, z.ρ id = .real g sz n ∧ A = some ⟨g, 0, none⟩ ∧ c * es ≤ sz ∧ c ≤ maxLen) ∧ c ≤ maxLen := by
  cases ha with
  | slfV _ _ A hρ =>
    obtain ⟨rfl, _⟩ := hH.virt hg hρ
    exact ⟨A, 0, rfl, Nat.le_refl _, fun h => absurd rfl h, .inl hρ, by unfold maxLen; omega⟩
  | slf _ _ g sz n c hρ hn hs hm =>
    obtain ⟨_, _, _, cs, fr, a1, a2, a3, a4, a5, a6, a7⟩ := hH.real hg hρ
    rw [← a4] at hn ⊢
    exact ⟨_, c, rfl, hn, fun _ => ⟨g, sz, _, hρ, rfl, hs, hm⟩, .inr ⟨g, sz, _, hρ, rfl, hs, hm⟩, hm⟩

theorem run_indexAt_slice {t e : TypeId} {b o n c q m : Nat} {k : IntKind} {x : Int} (w : World) (h : P.underlying t = some (.slice e)) (h0 : 0 ≤ x) (h1 : x < n) (h2 : x.toNat = q) (hm : P.cellsOf e = m) (hm0 : m ≠ 0) :
    (Instr.indexAt t (.slice (some ⟨b, o, none⟩) n c) (.int k x)).run P w = .ok (.pointer (some ⟨b, o + q * m, none⟩)) w := by
  have hs := run_sizeOf_cells (P := P) w hm hm0
  simp [Instr.indexAt, Sem.run_bind, asIntOf, run_underlying h, h0, h1, hs, h2, Addr.add_mid]
theorem run_indexAt_arr {t e : TypeId} {b o n q m : Nat} {k : IntKind} {x : Int} (w : World) (h : P.underlying t = some (.array n e)) (h0 : 0 ≤ x) (h1 : x < n) (h2 : x.toNat = q) (hm : P.cellsOf e = m) (hm0 : m ≠ 0) :
    (Instr.indexAt t (.pointer (some ⟨b, o, none⟩)) (.int k x)).run P w = .ok (.pointer (some ⟨b, o + q * m, none⟩)) w := by
  have hs := run_sizeOf_cells (P := P) w hm hm0
  simp [Instr.indexAt, Sem.run_bind, asIntOf, run_underlying h, h0, h1, hs, h2, Addr.add_mid, Instr.sureAddr]
end
end Go.Ab

/- The evaluator's operations are the model's: indices, slices, conversions. -/
namespace Go.Ab

section
variable {P : Program} {β : Type} {z : Z} {H : Hp}
theorem evIndexAddr_ok {t : TypeId} {a ix : AV} {K : AV → Option β} {r : β} {v vi : Value} (h : evIndexAddr P t a ix H K = some r) (hH : HRep z H) (ha : ARep z a v) (hi : ARep z ix vi) :
    OkP P (Instr.indexAt t v vi) z K r := by
  unfold evIndexAddr at h
  obtain ⟨x, h1, h2⟩ := ob_iff.1 h
  obtain ⟨k, rfl⟩ := any?_ok h1 hi
  split at h2
  · rename_i n e hu
    have hh := need_iff.1 h2
    clear h2 h
    obtain ⟨h0, h2⟩ := hh
    simp only [Bool.not_eq_true'] at h0
    have hm0 : P.cellsOf e ≠ 0 := fun h => by rw [h] at h0; cases h0
    split at h2
    · rename_i es id i j
      cases ha with | own _ _ _ _ g sz m hρ =>
      cases hb : (Nat.beq es (P.cellsOf e) && Nat.beq i 0 && Nat.beq j 0) <;> rw [hb] at h2 <;> simp only [bq_true, bq_false] at h2
      · obtain ⟨q, h3, h4⟩ := Option.bind_eq_some_iff.1 h2
        obtain ⟨q1, q2, q3⟩ := idx?_ok h3
        exact .mk' (by rw [run_indexAt_arr z.w hu q1 q2 q3 rfl hm0, Nat.add_assoc]) (.own _ _ _ _ _ _ _ hρ) h4
      · obtain ⟨q, h3, h4⟩ := Option.bind_eq_some_iff.1 h2
        obtain ⟨q1, q2, q3⟩ := idx?_ok h3
        simp only [Bool.and_eq_true, beq_nat] at hb
        obtain ⟨⟨rfl, rfl⟩, rfl⟩ := hb
        exact .mk' (by rw [run_indexAt_arr z.w hu q1 q2 q3 rfl hm0]; simp) (.own _ _ _ _ _ _ _ hρ) h4
    · rename_i u l i j
      cases ha with | pt _ _ _ _ b off hM hlt hr =>
      cases hb : (Nat.beq u.cells (P.cellsOf e) && Nat.beq i 0 && Nat.beq j 0) <;> rw [hb] at h2 <;> simp only [bq_true, bq_false] at h2
      · obtain ⟨q, h3, h4⟩ := Option.bind_eq_some_iff.1 h2
        obtain ⟨q1, q2, q3⟩ := idx?_ok h3
        exact .mk' (by rw [run_indexAt_arr z.w hu q1 q2 q3 rfl hm0, Nat.add_assoc (off + i * u.cells)]) (.pt _ _ _ _ _ _ hM hlt hr) h4
      · obtain ⟨q, h3, h4⟩ := Option.bind_eq_some_iff.1 h2
        obtain ⟨q1, q2, q3⟩ := idx?_ok h3
        simp only [Bool.and_eq_true, beq_nat] at hb
        obtain ⟨⟨hb1, rfl⟩, rfl⟩ := hb
        exact .mk' (by rw [run_indexAt_arr z.w hu q1 q2 q3 rfl hm0, ← hb1]; simp) (.pt _ _ q 0 _ _ hM hlt hr) h4
    · cases h2
  · rename_i e hu
    have hh := need_iff.1 h2
    clear h2 h
    obtain ⟨h0, h2⟩ := hh
    simp only [Bool.not_eq_true'] at h0
    have hm0 : P.cellsOf e ≠ 0 := fun h => by rw [h] at h0; cases h0
    split at h2
    · rename_i es id
      cases hb : Nat.beq es (P.cellsOf e) <;> rw [hb] at h2 <;> simp only [bq_true, bq_false] at h2
      · cases h2
      · rw [beq_nat] at hb
        split at h2
        · rename_i n hvl
          obtain ⟨q, h4, h5⟩ := Option.bind_eq_some_iff.1 h2
          obtain ⟨q1, q2, q3⟩ := idx?_ok h4
          obtain ⟨_, g, sz, c, hρ, rfl, _⟩ := varsLen_ok hvl hH ha
          refine .mk' (run_indexAt_slice z.w hu q1 q2 q3 hb.symm (by rw [hb]; exact hm0)) ?_ h5
          rw [Nat.zero_add]
          exact .own _ _ q 0 _ _ _ hρ
        obtain ⟨fz, e', u, l, hg, he, h3⟩ := ownRows_ok h2
        obtain ⟨q, h4, h5⟩ := Option.bind_eq_some_iff.1 h3
        obtain ⟨q1, q2, q3⟩ := idx?_ok h4
        obtain ⟨A, c, rfl, hc, hA, _⟩ := slf_len hH hg ha
        obtain ⟨g, sz, m, hρ, rfl, _⟩ := hA (by omega)
        refine .mk' (run_indexAt_slice z.w hu q1 q2 q3 hb.symm (by rw [hb]; exact hm0)) ?_ h5
        rw [Nat.zero_add]
        exact .own _ _ q 0 _ _ _ hρ
    · rename_i es id off n
      cases hb : Nat.beq es (P.cellsOf e) <;> rw [hb] at h2 <;> simp only [bq_true, bq_false] at h2
      · cases h2
      · rw [beq_nat] at hb
        obtain ⟨q, h4, h5⟩ := Option.bind_eq_some_iff.1 h2
        obtain ⟨q1, q2, q3⟩ := idx?_ok h4
        cases ha with
        | slV => omega
        | slE => omega
        | sl _ _ _ _ g sz m c hρ hn hs hm =>
          refine .mk' (run_indexAt_slice z.w hu q1 q2 q3 hb.symm (by rw [hb]; exact hm0)) ?_ h5
          have := ARep.own (z := z) es id (off + q) 0 g sz m hρ
          rw [Nat.add_mul, Nat.add_zero] at this
          exact this
    · rename_i u l
      cases hb : Nat.beq u.cells (P.cellsOf e) <;> rw [hb] at h2 <;> simp only [bq_true, bq_false] at h2
      · cases h2
      · rw [beq_nat] at hb
        obtain ⟨q, h4, h5⟩ := Option.bind_eq_some_iff.1 h2
        obtain ⟨q1, q2, q3⟩ := idx?_ok h4
        obtain ⟨A, c, rfl, hc, hm, _, hA⟩ := VRep.sl (t := u) ha.v
        obtain ⟨b, off, rfl, hM, hlt, hr⟩ := hA (by omega)
        refine .mk' (run_indexAt_slice z.w hu q1 q2 q3 hb.symm (by rw [hb]; exact hm0)) ?_ h5
        exact .pt (z := z) u l q 0 b off hM hlt hr
    · cases h2
  · cases h2

theorem flatten_drop_take {css : List (List Value)} {c : Nat} (hl : ∀ u ∈ css, u.length = c) : ∀ (q : Nat) u, css[q]? = some u → (css.flatten.drop (q * c)).take c = u := by
  induction css with
  | nil => intro q u h; simp at h
  | cons w css ih =>
    intro q u h
    have hw := hl w (by simp)
    match q with
    | 0 =>
      simp at h
      subst h
      rw [Nat.zero_mul, List.drop_zero, List.flatten_cons, List.take_append_of_le_length (by omega), List.take_of_length_le (by omega)]
    | q + 1 =>
      rw [List.flatten_cons, Nat.succ_mul, Nat.add_comm, List.drop_append, hw, List.drop_of_length_le (by omega), List.nil_append, Nat.add_sub_cancel_left]
      exact ih (fun u hu => hl u (by simp [hu])) q u (by simpa using h)
theorem Cl.nth {w : World} {M : Nat → Prop} {n : Nat} {u : Ty} {l : List u.den} {cs : List Value} (h : Cl w M (.arr n u) l cs) {q : Nat} {y : u.den} (hy : l[q]? = some y) : Cl w M u y ((cs.drop (q * u.cells)).take u.cells) := by
  obtain ⟨hn, css, h1, rfl, h2⟩ := h
  have hq : q < css.length := by
    have := (List.getElem?_eq_some_iff.1 hy).1
    have hn' : l.length = n := hn
    omega
  have hl : ∀ u' ∈ css, u'.length = u.cells := fun u' hu => by
    obtain ⟨k, hk⟩ := List.getElem?_of_mem hu
    obtain ⟨e, he⟩ := get_of_len (l := l) (h1.trans hn.symm) hk
    exact (h2 k e u' he hk).len
  rw [flatten_drop_take hl q _ (List.getElem?_eq_getElem hq)]
  exact h2 q y _ hy (List.getElem?_eq_getElem hq)
theorem evIndex_ok {t : TypeId} {a ix : AV} {K : AV → Option β} {r : β} {v vi : Value} (h : evIndex P t a ix K = some r) (ha : ARep z a v) (hi : ARep z ix vi) :
    OkP P (Instr.index t v vi) z K r := by
  unfold evIndex at h
  obtain ⟨x, h1, h2⟩ := ob_iff.1 h
  obtain ⟨k, rfl⟩ := any?_ok h1 hi
  split at h2
  · rename_i hu
    obtain ⟨l, h3, h4⟩ := ob_iff.1 h2
    obtain ⟨q, h5, h6⟩ := Option.bind_eq_some_iff.1 h4
    obtain ⟨c, h7, h8⟩ := Option.bind_eq_some_iff.1 h6
    obtain rfl := str?_ok h3 ha
    obtain ⟨q1, q2, q3⟩ := idx?_ok h5
    have hget : (⟨⟨l⟩⟩ : ByteArray)[x.toNat]? = some c := by
      rw [q3]
      have : q < (⟨⟨l⟩⟩ : ByteArray).size := (List.getElem?_eq_some_iff.1 h7).1
      rw [getElem?_pos (⟨⟨l⟩⟩ : ByteArray) q this]
      congr 1
      exact Option.some.inj ((List.getElem?_eq_getElem (l := l) (i := q) this).symm.trans h7)
    exact .mk' (by simp [Instr.index, Sem.run_bind, asIntOf, run_underlying hu, q1, hget]) (.mkI _ _) h8
  · rename_i n e hu
    obtain ⟨u, h3, h4⟩ := ob_iff.1 h2
    obtain ⟨t1, t2, t3, t4⟩ := ty_ok h3
    obtain ⟨l, h5, h6⟩ := asA_ok h4 ha
    obtain ⟨q, h7, h8⟩ := Option.bind_eq_some_iff.1 h6
    obtain ⟨y, h9, h10⟩ := Option.bind_eq_some_iff.1 h8
    obtain ⟨q1, q2, q3⟩ := idx?_ok h7
    obtain ⟨cs, c1, c2⟩ := h5
    simp only [Ty.isAgg, cond_true] at c2
    subst c2
    have hc := Cl.nth (l := l) c1 h9
    have hs := run_sizeOf_cells (P := P) (t := e) z.w t1.symm (by omega)
    have hrun : (Instr.index t (.agg cs.toArray) (.int k x)).run P z.w = (part e cs.toArray (q * u.cells)).run P z.w := by
      simp [Instr.index, Sem.run_bind, asIntOf, run_underlying hu, q1, q2, hs, q3]
    have hl := hc.len
    cases hagg : u.isAgg
    · have hcells : u.cells = 1 := by cases u <;> first | rfl | (simp [Ty.isAgg] at hagg; done)
      match hvs : (cs.drop (q * u.cells)).take u.cells, hl with
      | [], hl => rw [hcells] at hl; simp at hl
      | _ :: _ :: _, hl => rw [hcells] at hl; simp at hl
      | [v], _ =>
        rw [hvs] at hc
        have hv : cs.toArray[q * u.cells]? = some v := by
          have : ((cs.drop (q * u.cells)).take u.cells)[0]? = some v := by rw [hvs]; rfl
          rw [List.getElem?_take_of_lt (by omega), List.getElem?_drop] at this
          simpa using this
        exact .mk' (by rw [hrun]; exact run_part_scal z.w (t4 hagg) hv) (ofTy_ok (.mkSc hc hagg)) h10
    · refine .mk' (by rw [hrun]; exact run_part_agg z.w (t3 hagg) t1.symm (by omega)) (ofTy_ok ⟨_, hc, ?_⟩) h10
      rw [hagg]
      simp only [cond_true]
      congr 1
      apply Array.ext'
      rw [Array.toList_extract, List.extract_eq_take_drop, Nat.add_sub_cancel_left]
  · cases h2

/-! Slices -/
/-- A bound, if there is one. -/
def Bnd (a : Option AV) (v : Option Value) (d m k : Nat) : Prop := (a = none ∧ v = none ∧ k = d) ∨ ∃ kk n, v = some (.int kk n) ∧ 0 ≤ n ∧ n ≤ m ∧ n.toNat = k
def ORep (z : Z) (a : Option AV) (v : Option Value) : Prop := (a = none ∧ v = none) ∨ ∃ x u, a = some x ∧ v = some u ∧ ARep z x u
theorem optI_ok {a : Option AV} {v : Option Value} {d m : Nat} {K : Nat → Option β} {r : β} (h : optI a d m K = some r) (ha : ORep z a v) : ∃ k, Bnd a v d m k ∧ K k = some r := by
  unfold optI at h
  rcases ha with ⟨rfl, rfl⟩ | ⟨x, u, rfl, rfl, hx⟩
  · exact ⟨d, .inl ⟨rfl, rfl, rfl⟩, h⟩
  · obtain ⟨n, h1, h2⟩ := ob_iff.1 h
    obtain ⟨k, h3, h4⟩ := Option.bind_eq_some_iff.1 h2
    obtain ⟨kk, rfl⟩ := any?_ok h1 hx
    obtain ⟨q1, q2, q3⟩ := upto?_ok h3
    exact ⟨k, .inr ⟨kk, n, rfl, q1, q2, q3⟩, h4⟩
theorem Bnd.le {a : Option AV} {v : Option Value} {d m k : Nat} (h : Bnd a v d m k) (hd : d ≤ m) : k ≤ m := by
  rcases h with ⟨_, _, rfl⟩ | ⟨kk, n, _, h1, h2, h3⟩
  · exact hd
  · omega
theorem run_sliceBounds_any {isSlice : Bool} {len cap h b : Nat} {lo hi : Option AV} {vlo vhi : Option Value} (w : World) (hc : len ≤ cap) (hh : Bnd hi vhi len len h) (hb : Bnd lo vlo 0 h b) :
    (Instr.sliceBounds isSlice len cap vlo vhi none).run P w = .ok (b, h, cap) w := by
  have sb : ∀ (kk : IntKind) (n : Int) (y : Nat) (code : BoundsCode), 0 ≤ n → n ≤ y → (Instr.sliceBound (.int kk n) y code).run P w = .ok n.toNat w := fun kk n y code h0 h1 => by
    simp [Instr.sliceBound, Sem.run_bind, asIntOf, h0, h1]
  rcases hh with ⟨_, rfl, rfl⟩ | ⟨kk, n, rfl, h1, h2, h3⟩
  · rcases hb with ⟨_, rfl, rfl⟩ | ⟨kk', n', rfl, p1, p2, p3⟩
    · simp [Instr.sliceBounds, Sem.run_bind]
    · simp [Instr.sliceBounds, Sem.run_bind, sb kk' n' _ _ p1 p2, p3]
  · rcases hb with ⟨_, rfl, rfl⟩ | ⟨kk', n', rfl, p1, p2, p3⟩
    · simp [Instr.sliceBounds, Sem.run_bind, sb kk n cap _ h1 (by omega), h3]
    · simp [Instr.sliceBounds, Sem.run_bind, sb kk n cap _ h1 (by omega), h3, sb kk' n' _ _ p1 p2, p3]
/-- What a slice of a slice is. -/
theorem run_sliceAt_any {t e : TypeId} {A : Option Addr} {len cap h b m : Nat} {lo hi : Option AV} {vlo vhi : Option Value} (w : World) (hu : P.underlying t = some (.slice e)) (hm : P.cellsOf e = m) (hm0 : m ≠ 0)
    (hc : len ≤ cap) (hh : Bnd hi vhi len len h) (hb : Bnd lo vlo 0 h b) :
    (Instr.sliceAt t (.slice A len cap) vlo vhi none).run P w = .ok (.slice (if cap = b then A else A.map (·.add (b * m))) (h - b) (cap - b)) w := by
  have hs := run_sizeOf_cells (P := P) w hm hm0
  simp [Instr.sliceAt, Instr.slice, Sem.run_bind, run_underlying hu, run_sliceBounds_any w hc hh hb, hs]
theorem run_sliceAt_arr {t e : TypeId} {g o n h b m : Nat} {lo hi : Option AV} {vlo vhi : Option Value} (w : World) (hu : P.underlying t = some (.array n e)) (hm : P.cellsOf e = m) (hm0 : m ≠ 0)
    (hh : Bnd hi vhi n n h) (hb : Bnd lo vlo 0 h b) :
    (Instr.sliceAt t (.pointer (some ⟨g, o, none⟩)) vlo vhi none).run P w = .ok (.slice (some (if n = b then ⟨g, o, none⟩ else ⟨g, o + b * m, none⟩)) (h - b) (n - b)) w := by
  have hs := run_sizeOf_cells (P := P) w hm hm0
  simp [Instr.sliceAt, Sem.run_bind, run_underlying hu, run_sliceBounds_any w (Nat.le_refl n) hh hb, hs, Instr.sureAddr, Addr.add_mid]
/-- Slices of the call's own. -/
theorem slF_cut {es id off c g sz m h b : Nat} (hρ : z.ρ id = .real g sz m) (hbh : b ≤ h) (hc : h ≤ c) (hs : (off + c) * es ≤ sz) (hm : c ≤ maxLen) :
    ARep z (.sl es id (off + b) (h - b)) (.slice (if c = b then some ⟨g, off * es, none⟩ else (some ⟨g, off * es, none⟩ : Option Addr).map (·.add (b * es))) (h - b) (c - b)) := by
  by_cases hcb : c = b
  · rw [if_pos hcb]
    rw [show h - b = 0 from by omega, show c - b = 0 from by omega]
    exact .slE _ _ _ _ _ _ _ hρ
  · rw [if_neg hcb]
    simp only [Option.map_some, Addr.add_mid]
    rw [← Nat.add_mul]
    exact .sl _ _ _ _ _ _ _ _ hρ (by omega) (by rw [show off + b + (c - b) = off + c from by omega]; exact hs) (by omega)
theorem cutL_ok {α : Type} {l : List α} {lo hi : Option AV} {vlo vhi : Option Value} {K : List α → Option β} {r : β} (h : cutL l lo hi K = some r) (hlo : ORep z lo vlo) (hhi : ORep z hi vhi) :
    ∃ b h' l', Bnd hi vhi l.length l.length h' ∧ Bnd lo vlo 0 h' b ∧ l' = (l.take h').drop b ∧ h' ≤ l.length ∧ b ≤ h' ∧ K l' = some r := by
  unfold cutL at h
  rcases hlo with ⟨rfl, rfl⟩ | ⟨x, u, rfl, rfl, hx⟩
  · rcases hhi with ⟨rfl, rfl⟩ | ⟨y, w, rfl, rfl, hy⟩
    · exact ⟨0, l.length, l, .inl ⟨rfl, rfl, rfl⟩, .inl ⟨rfl, rfl, rfl⟩, by simp, Nat.le_refl _, Nat.zero_le _, h⟩
    · obtain ⟨n, h1, h2⟩ := ob_iff.1 h
      obtain ⟨k, h3, h4⟩ := Option.bind_eq_some_iff.1 h2
      obtain ⟨kk, rfl⟩ := any?_ok h1 hy
      obtain ⟨q1, q2, q3⟩ := upto?_ok h3
      exact ⟨0, k, _, .inr ⟨kk, n, rfl, q1, q2, q3⟩, .inl ⟨rfl, rfl, rfl⟩, by simp, by omega, Nat.zero_le _, h4⟩
  · rcases hhi with ⟨rfl, rfl⟩ | ⟨y, w, rfl, rfl, hy⟩
    · obtain ⟨n, h1, h2⟩ := ob_iff.1 h
      obtain ⟨k, h3, h4⟩ := Option.bind_eq_some_iff.1 h2
      obtain ⟨kk, rfl⟩ := any?_ok h1 hx
      obtain ⟨q1, q2, q3⟩ := upto?_ok h3
      exact ⟨k, l.length, _, .inl ⟨rfl, rfl, rfl⟩, .inr ⟨kk, n, rfl, q1, q2, q3⟩, by simp, Nat.le_refl _, by omega, h4⟩
    · obtain ⟨n, h1, h2⟩ := ob_iff.1 h
      obtain ⟨k, h3, h4⟩ := Option.bind_eq_some_iff.1 h2
      obtain ⟨n', h5, h6⟩ := ob_iff.1 h4
      obtain ⟨k', h7, h8⟩ := Option.bind_eq_some_iff.1 h6
      obtain ⟨kk, rfl⟩ := any?_ok h1 hy
      obtain ⟨q1, q2, q3⟩ := upto?_ok h3
      obtain ⟨kk', rfl⟩ := any?_ok h5 hx
      obtain ⟨p1, p2, p3⟩ := upto?_ok h7
      exact ⟨k', k, _, .inr ⟨kk, n, rfl, q1, q2, q3⟩, .inr ⟨kk', n', rfl, p1, p2, p3⟩, rfl, by omega, by omega, h8⟩
/-- A part of pure memory. -/
theorem sl_cut {u : Ty} {l : List u.den} {A : Option Addr} {c b h : Nat} (hc : l.length ≤ c) (hm : c ≤ maxLen) (hn : A = none → c = 0)
    (hA : l.length ≠ 0 → ∃ b off, A = some ⟨b, off, none⟩ ∧ ¬ z.M b ∧ b < z.w.heap.size ∧ RowAt z.w z.M b off u l) (hh : h ≤ l.length) (hb : b ≤ h) :
    ARep z (.p (.sl u) ((l.take h).drop b)) (.slice (if c = b then A else A.map (·.add (b * u.cells))) (h - b) (c - b)) := by
  have hlen : ((l.take h).drop b).length = h - b := by rw [List.length_drop, List.length_take]; omega
  have : VRep z.w z.M (.sl u) ((l.take h).drop b) (.slice (if c = b then A else A.map (·.add (b * u.cells))) ((l.take h).drop b).length (c - b)) := by
    refine .mkSc ⟨_, _, rfl, by rw [hlen]; omega, by omega, fun h0 => ?_, fun h0 => ?_⟩ rfl
    · split at h0
      · omega
      · cases A with
        | none => rw [hn rfl]; simp
        | some a => simp at h0
    · have h0' : h - b ≠ 0 := by rwa [hlen] at h0
      obtain ⟨b0, off, rfl, h1, h2, h3⟩ := hA (by omega)
      refine ⟨b0, off + b * u.cells, ?_, h1, h2, ?_⟩
      · rw [if_neg (by omega)]
        simp [Addr.add_mid]
      · have := h3.sub b (h - b)
        rwa [← List.drop_take] at this
  rw [hlen] at this
  exact .p _ _ _ this
theorem evSlice_ok {t : TypeId} {a : AV} {lo hi : Option AV} {K : AV → Option β} {r : β} {v : Value} {vlo vhi : Option Value} (h : evSlice P t a lo hi H K = some r) (hH : HRep z H) (ha : ARep z a v)
    (hlo : ORep z lo vlo) (hhi : ORep z hi vhi) : OkP P (Instr.sliceAt t v vlo vhi none) z K r := by
  unfold evSlice at h
  split at h
  · rename_i hu
    obtain ⟨l, h1, h2⟩ := ob_iff.1 h
    obtain rfl := str?_ok h1 ha
    obtain ⟨b, h', l', q1, q2, rfl, q3, q4, q5⟩ := cutL_ok h2 hlo hhi
    refine .mk' ?_ (.mkS _) q5
    have hsz : (⟨⟨l⟩⟩ : ByteArray).size = l.length := rfl
    simp only [Instr.sliceAt, Instr.slice, Sem.run_bind, run_underlying hu, Result.andThen_ok]
    simp only [Option.isSome_none, Bool.false_eq_true, if_false, hsz]
    have := run_sliceBounds_any (P := P) (isSlice := false) z.w (Nat.le_refl l.length) q1 q2
    simp only [Sem.run_bind, Sem.run_pure, Result.andThen_ok, this]
    congr 2
    apply ByteArray.ext
    rw [ByteArray.data_extract]
    apply Array.ext'
    rw [Array.toList_extract, List.extract_eq_take_drop, List.drop_take]
  · rename_i e hu
    split at h
    · rename_i es id
      cases hb : (Nat.beq es (P.cellsOf e) && !Nat.beq es 0) <;> rw [hb] at h <;> simp only [bq_true, bq_false] at h
      · cases h
      simp only [Bool.and_eq_true, Bool.not_eq_true', beq_nat] at hb
      obtain ⟨he, he0⟩ := hb
      have hm0 : es ≠ 0 := fun h => by rw [h] at he0; cases he0
      split at h
      · obtain ⟨_, rfl⟩ : (none : Option AV) = none ∧ vlo = none := by rcases hlo with h | ⟨_, _, h, _⟩ <;> first | exact h | cases h
        obtain ⟨_, rfl⟩ : (none : Option AV) = none ∧ vhi = none := by rcases hhi with h | ⟨_, _, h, _⟩ <;> first | exact h | cases h
        have form : ∃ A n c, v = .slice A n c ∧ n ≤ c := by
          cases ha with
          | slfV _ _ A hρ => exact ⟨A, 0, 0, rfl, Nat.le_refl _⟩
          | slf _ _ g sz n c hρ hn hs hm => exact ⟨_, n, c, rfl, hn⟩
        obtain ⟨A, n, c, rfl, hnc⟩ := form
        have hrun := run_sliceAt_any (P := P) (A := A) (lo := none) (hi := none) z.w hu he.symm hm0 hnc (.inl ⟨rfl, rfl, rfl⟩) (.inl ⟨rfl, rfl, rfl⟩)
        have e1 : (if c = 0 then A else A.map (·.add (0 * es))) = A := by
          split
          · rfl
          · cases A <;> simp [Addr.add]
        rw [e1] at hrun
        exact .mk' hrun (by simpa using ha) h
      · rename_i lo hi _
        obtain ⟨fz, e', u, l, hg, heu, h3⟩ := ownRows_ok h
        obtain ⟨h', q1, h4⟩ := optI_ok h3 hhi
        obtain ⟨b, q2, h5⟩ := optI_ok h4 hlo
        have l1 := q1.le (Nat.le_refl _)
        have l2 := q2.le (Nat.zero_le _)
        obtain ⟨A, c, rfl, hc, _, hA, _⟩ := slf_len hH hg ha
        refine .mk' (run_sliceAt_any z.w hu he.symm hm0 hc q1 q2) ?_ h5
        rcases hA with hρ | ⟨g, sz, n, hρ, rfl, hs, hm⟩
        · obtain ⟨rfl, _⟩ := hH.virt hg hρ
          have e0 : h' = 0 := Nat.le_zero.1 l1
          have e1 : b = 0 := by omega
          subst e0; subst e1
          cases ha with
          | slfV _ _ _ _ => exact .slV _ _ _ _ hρ
          | slf _ _ _ _ _ _ h' => rw [hρ] at h'; cases h'
        · have := slF_cut (z := z) (off := 0) hρ l2 (by omega : h' ≤ c) (by rw [Nat.zero_add]; exact hs) hm
          simpa using this
    · rename_i es id off n
      cases hb : (Nat.beq es (P.cellsOf e) && !Nat.beq es 0) <;> rw [hb] at h <;> simp only [bq_true, bq_false] at h
      · cases h
      simp only [Bool.and_eq_true, Bool.not_eq_true', beq_nat] at hb
      obtain ⟨he, he0⟩ := hb
      have hm0 : es ≠ 0 := fun h => by rw [h] at he0; cases he0
      obtain ⟨h', q1, h4⟩ := optI_ok h hhi
      obtain ⟨b, q2, h5⟩ := optI_ok h4 hlo
      have l1 := q1.le (Nat.le_refl _)
      have l2 := q2.le (Nat.zero_le _)
      cases ha with
      | slV _ _ _ A hρ =>
        refine .mk' (run_sliceAt_any z.w hu he.symm hm0 (Nat.le_refl 0) q1 q2) ?_ h5
        have e0 : h' = 0 := by omega
        have e1 : b = 0 := by omega
        subst e0; subst e1
        exact .slV _ _ _ _ hρ
      | slE _ _ _ g sz m o hρ =>
        refine .mk' (run_sliceAt_any z.w hu he.symm hm0 (Nat.le_refl 0) q1 q2) ?_ h5
        have e0 : h' = 0 := by omega
        have e1 : b = 0 := by omega
        subst e0; subst e1
        exact .slE _ _ _ _ _ _ _ hρ
      | sl _ _ _ _ g sz m c hρ hn hs hm =>
        exact .mk' (run_sliceAt_any z.w hu he.symm hm0 hn q1 q2) (slF_cut hρ l2 (by omega) hs hm) h5
    · rename_i u l
      cases hb : (Nat.beq u.cells (P.cellsOf e) && !Nat.beq u.cells 0) <;> rw [hb] at h <;> simp only [bq_true, bq_false] at h
      · cases h
      simp only [Bool.and_eq_true, Bool.not_eq_true', beq_nat] at hb
      obtain ⟨he, he0⟩ := hb
      have hm0 : u.cells ≠ 0 := fun h => by rw [h] at he0; cases he0
      obtain ⟨b, h', l', q1, q2, rfl, q3, q4, q5⟩ := cutL_ok h hlo hhi
      obtain ⟨A, c, rfl, hc, hm, hn, hA⟩ := VRep.sl (t := u) ha.v
      exact .mk' (run_sliceAt_any z.w hu he.symm hm0 hc q1 q2) (sl_cut hc hm hn hA q3 q4) q5
    · obtain ⟨hm, h3⟩ := need_iff.1 h
      simp only [Bool.not_eq_true'] at hm
      have hm0 : P.cellsOf e ≠ 0 := fun h => by rw [h] at hm; cases hm
      obtain ⟨h', q1, h4⟩ := optI_ok h3 hhi
      obtain ⟨b, q2, h5⟩ := optI_ok h4 hlo
      have l1 := q1.le (Nat.le_refl _)
      have l2 := q2.le (Nat.zero_le _)
      have e0 : h' = 0 := by omega
      have e1 : b = 0 := by omega
      subst e0; subst e1
      obtain ⟨rfl, _⟩ := ha.v.opq
      have hrun := run_sliceAt_any (P := P) (A := none) z.w hu rfl hm0 (Nat.le_refl 0) q1 q2
      exact .mk' (x := .p .opq (.slice none 0 0)) (v := .slice none 0 0) (by simpa using hrun) ha h5
    · cases h
  · rename_i n e hu
    split at h
    · rename_i es id
      cases hb : (Nat.beq es (P.cellsOf e) && !Nat.beq es 0) <;> rw [hb] at h <;> simp only [bq_true, bq_false] at h
      · cases h
      simp only [Bool.and_eq_true, Bool.not_eq_true', beq_nat] at hb
      obtain ⟨he, he0⟩ := hb
      have hm0 : es ≠ 0 := fun h => by rw [h] at he0; cases he0
      obtain ⟨fz, e', u, l, hg, heu, h3⟩ := ownRows_ok h
      obtain ⟨h4, h5⟩ := need_iff.1 h3
      simp only [Bool.and_eq_true, beq_nat, Nat.ble_eq] at h4
      obtain ⟨hroom, h4⟩ := h4
      cases ha with | own _ _ _ _ g sz m hρ =>
      obtain ⟨_, _, _, cs, fr, a1, a2, a3, a4, a5, a6, a7⟩ := hH.real hg hρ
      have hml : n ≤ maxLen := by unfold room at hroom; unfold maxLen; omega
      split at h5
      · obtain ⟨_, rfl⟩ : (none : Option AV) = none ∧ vlo = none := by rcases hlo with h | ⟨_, _, h, _⟩ <;> first | exact h | cases h
        obtain ⟨_, rfl⟩ : (none : Option AV) = none ∧ vhi = none := by rcases hhi with h | ⟨_, _, h, _⟩ <;> first | exact h | cases h
        have hrun := run_sliceAt_arr (P := P) (g := g) (o := 0 * es + 0) (lo := none) (hi := none) z.w hu he.symm hm0 (.inl ⟨rfl, rfl, rfl⟩) (.inl ⟨rfl, rfl, rfl⟩)
        refine .mk' hrun ?_ h5
        have : (if n = 0 then (⟨g, 0 * es + 0, none⟩ : Addr) else ⟨g, 0 * es + 0 + 0 * es, none⟩) = ⟨g, 0, none⟩ := by split <;> simp
        rw [this]
        have a4' : n = m := h4.trans a4
        subst a4'
        exact .slf _ _ _ _ _ _ hρ (by omega) (by rw [heu, Nat.sub_zero, h4]; exact a5) (by omega)
      · obtain ⟨h', q1, h6⟩ := optI_ok h5 hhi
        obtain ⟨b, q2, h7⟩ := optI_ok h6 hlo
        have l1 := q1.le (Nat.le_refl _)
        have l2 := q2.le (Nat.zero_le _)
        refine .mk' (run_sliceAt_arr z.w hu he.symm hm0 q1 q2) ?_ h7
        have := slF_cut (z := z) (es := es) (off := 0) (c := n) hρ l2 l1 (by rw [Nat.zero_add, heu, h4]; exact a5) hml
        simp only [Nat.zero_mul, Nat.zero_add, Nat.add_zero] at this ⊢
        split at this
        · rename_i hnb; rw [if_pos hnb]; exact this
        · rename_i hnb; rw [if_neg hnb]; simpa [Addr.add_mid] using this
    · rename_i u l
      cases hb : (Nat.beq u.cells (P.cellsOf e) && !Nat.beq u.cells 0 && Nat.ble n room && Nat.beq n l.length) <;> rw [hb] at h <;> simp only [bq_true, bq_false] at h
      · cases h
      simp only [Bool.and_eq_true, Bool.not_eq_true', beq_nat, Nat.ble_eq] at hb
      obtain ⟨⟨⟨he, he0⟩, hroom⟩, hn⟩ := hb
      have hm0 : u.cells ≠ 0 := fun h => by rw [h] at he0; cases he0
      cases ha with | pt _ _ _ _ b0 off hM hlt hr =>
      obtain ⟨b, h', l', q1, q2, rfl, q3, q4, q5⟩ := cutL_ok h hlo hhi
      rw [← hn] at q1
      refine .mk' (run_sliceAt_arr z.w hu he.symm hm0 q1 q2) ?_ q5
      have := sl_cut (z := z) (u := u) (l := l) (A := some ⟨b0, off, none⟩) (c := n) (by omega) (by unfold room at hroom; unfold maxLen; omega) (fun h => by cases h) (fun _ => ⟨b0, off, rfl, hM, hlt, hr⟩) q3 q4
      simp only [Nat.zero_mul, Nat.add_zero] at this ⊢
      split at this
      · rename_i hnb; rw [if_pos hnb]; exact this
      · rename_i hnb; rw [if_neg hnb]; simpa [Addr.add_mid] using this
    · cases h
  · cases h
end
end Go.Ab

/- The evaluator's operations are the model's: conversions, arithmetic, comparisons. -/
namespace Go.Ab

section
variable {P : Program} {β : Type} {z : Z} {H : Hp}

/-- Elements that are read: a string's bytes, or a slice's elements. -/
def RowsRep (z : Z) (u : Ty) (m : List u.den) (v : Value) : Prop :=
  (∃ h : u = .byte, v = .string ⟨⟨Ty.toL h m⟩⟩) ∨
  ∃ A c, v = .slice A m.length c ∧ m.length ≤ c ∧ c ≤ maxLen ∧ (m.length ≠ 0 → ∃ b off, A = some ⟨b, off, none⟩ ∧ b < z.w.heap.size ∧ RowAt z.w z.M b off u m)
theorem rowsOf_ok {u : Ty} {a : AV} {K : List u.den → Option β} {r : β} {v : Value} (h : rowsOf H u a K = some r) (hH : HRep z H) (ha : ARep z a v) : ∃ m, RowsRep z u m v ∧ K m = some r := by
  have e0 : ∀ (A : Option Addr), RowsRep z u [] (.slice A 0 0) := fun A => .inr ⟨A, 0, rfl, Nat.le_refl _, by unfold maxLen; omega, fun h => absurd rfl h⟩
  unfold rowsOf at h
  split at h
  · rename_i t x
    rcases dq_iff h with ⟨ht, h⟩ | h
    · subst ht
      obtain ⟨A, c, rfl, hc, hm, hn, hA⟩ := VRep.sl (t := u) ha.v
      exact ⟨x, .inr ⟨A, c, rfl, hc, hm, fun h0 => by obtain ⟨b, off, e, _, h2, h3⟩ := hA h0; exact ⟨b, off, e, h2, h3⟩⟩, h⟩
    · rcases dq_iff h with ⟨ht, h⟩ | h
      · rcases dq_iff h with ⟨hu, h⟩ | h
        · subst ht
          obtain rfl : u = .byte := by injection hu with hu; exact hu.symm
          obtain rfl := ha.v.str
          exact ⟨x, .inl ⟨rfl, rfl⟩, h⟩
        · cases h
      · obtain ⟨l, h1, h2⟩ := ob_iff.1 h
        obtain ⟨A, c, rfl, hc, hm, hn, hA⟩ := VRep.sl (t := u) (nilSl_ok h1 ha.v)
        exact ⟨l, .inr ⟨A, c, rfl, hc, hm, fun h0 => by obtain ⟨b, off, e, _, h2, h3⟩ := hA h0; exact ⟨b, off, e, h2, h3⟩⟩, h2⟩
  · rename_i es id
    split at h
    · rename_i fz e t l hg
      rcases dq_iff h with ⟨ht, h⟩ | h
      · subst ht
        cases hb : Nat.beq es t.cells <;> rw [hb] at h <;> simp only [bq_true, bq_false] at h
        · cases h
        · obtain ⟨A, c, rfl, hc, _, hA, hml⟩ := slf_len hH hg ha
          refine ⟨l, .inr ⟨A, c, rfl, hc, hml, fun h0 => ?_⟩, h⟩
          · rcases hA with hρ | ⟨g, sz, n, hρ, rfl, hs, hm⟩
            · obtain ⟨rfl, _⟩ := hH.virt hg hρ
              exact absurd rfl h0
            · exact ⟨g, 0, rfl, (hH.real hg hρ).1, (hH.real hg hρ).2.2.2.rowAt⟩
      · cases h
    · cases h
  · rename_i es id off n
    split at h
    · rename_i fz e t l hg
      rcases dq_iff h with ⟨ht, h5⟩ | h
      · subst ht
        clear h
        cases hb : (Nat.beq es t.cells && Nat.ble (off + n) l.length) <;> rw [hb] at h5 <;> simp only [bq_true, bq_false] at h5
        · cases h5
        · simp only [Bool.and_eq_true, beq_nat, Nat.ble_eq] at hb
          obtain ⟨rfl, hb⟩ := hb
          have hlen : ((l.drop off).take n).length = n := by rw [List.length_take, List.length_drop]; omega
          have key : RowsRep z t ((l.drop off).take n) v := by
            refine .inr ?_
            rw [hlen]
            cases ha with
            | slV _ _ _ A hρ => exact ⟨A, 0, rfl, Nat.le_refl _, by unfold maxLen; omega, fun h => absurd rfl h⟩
            | slE _ _ _ g sz m o hρ => exact ⟨_, 0, rfl, Nat.le_refl _, by unfold maxLen; omega, fun h => absurd rfl h⟩
            | sl _ _ _ _ g sz m c hρ hn hs hm =>
              refine ⟨_, c, rfl, hn, hm, fun _ => ⟨g, off * t.cells, rfl, (hH.real hg hρ).1, ?_⟩⟩
              have := (hH.real hg hρ).2.2.2.rowAt.sub off n
              rwa [Nat.zero_add] at this
          exact ⟨_, key, h5⟩
      · cases h
    · cases h
  · cases h

theorem foldl_push (l : List UInt8) : ∀ (s : ByteArray), ((l.map fun c => (c.toNat : Int)).foldl (fun r n => r.push (UInt8.ofNat n.toNat)) s).data.toList = s.data.toList ++ l := by
  induction l with
  | nil => intro s; simp
  | cons c l ih =>
    intro s
    simp only [List.map_cons, List.foldl_cons]
    rw [ih]
    simp
theorem RowAt.bytes {w : World} {M : Nat → Prop} {b off : Nat} {l : List UInt8} (h : RowAt w M b off .byte l) : w.rangeAt b off (l.map fun c => Value.int .u8 (c.toNat : Int)) := fun j v hj => by
  rw [List.getElem?_map] at hj
  obtain ⟨c, h1, rfl⟩ := Option.map_eq_some_iff.1 hj
  obtain ⟨u, h2, h3⟩ := h j c h1
  simp only [Cl] at h2
  subst h2
  have := h3 0 _ rfl
  simpa [Ty.cells] using this
theorem run_toString {A : Option Addr} {l : List UInt8} {c : Nat} (hA : l.length ≠ 0 → ∃ b off, A = some ⟨b, off, none⟩ ∧ b < z.w.heap.size ∧ RowAt z.w z.M b off .byte l) :
    (Conv.bytesToString (.slice A l.length c)).run P z.w = .ok (.string ⟨⟨l⟩⟩) z.w := by
  cases A with
  | none =>
    have : l = [] := by
      rcases Nat.eq_zero_or_pos l.length with h | h
      · exact List.eq_nil_of_length_eq_zero h
      · obtain ⟨_, _, h1, _⟩ := hA (by omega); cases h1
    subst this
    simp [Conv.bytesToString]
    rfl
  | some a =>
    have hl : (loadCells a l.length).run P z.w = .ok ((l.map fun c => (c.toNat : Int)).map (Value.int .u8)).toArray z.w := by
      have := run_loadCells_list (P := P) z.w a (l.map fun c => Value.int .u8 (c.toNat : Int)) (fun j v hj => by
        have hj' : j < l.length := by
          have := (List.getElem?_eq_some_iff.1 hj).1
          simpa using this
        obtain ⟨b, off, h1, _, h3⟩ := hA (by omega)
        injection h1 with h1
        subst h1
        rw [Addr.add_mid]
        exact h3.bytes j v hj)
      simpa [Function.comp_def] using this
    rw [run_bytesToString z.w a l.length c _ hl]
    congr 2
    apply ByteArray.ext
    apply Array.ext'
    rw [foldl_push]
    rfl
theorem isB_u {e : TypeId} (h : isB P e = true) : P.underlying e = some (.int .u8) := by
  unfold isB at h
  split at h
  · assumption
  · cases h
theorem evConvert_ok {src dst : TypeId} {a : AV} {K : AV → Option β} {r : β} {v : Value} (h : evConvert P src dst a H K = some r) (hH : HRep z H) (ha : ARep z a v) : OkP P (convert src dst v) z K r := by
  unfold evConvert at h
  split at h
  · rename_i ks k hs hd
    obtain ⟨n, h1, h2⟩ := ob_iff.1 h
    obtain rfl := int?_ok h1 ha
    exact .mk' (by simp [convert, Sem.run_bind, run_underlying hs, run_underlying hd, Conv.intToInt]) (.mkI _ _) h2
  · rename_i hs hd
    obtain ⟨l, h1, h2⟩ := ob_iff.1 h
    obtain rfl := str?_ok h1 ha
    exact .mk' (by simp [convert, Sem.run_bind, run_underlying hs, run_underlying hd]) (.mkS _) h2
  · rename_i e hs hd
    cases hb : isB P e <;> rw [hb] at h <;> simp only [bq_true, bq_false] at h
    · cases h
    · obtain ⟨m, h1, h2⟩ := rowsOf_ok h hH ha
      rcases h1 with ⟨hh, rfl⟩ | ⟨A, c, rfl, q1, q2, q3⟩
      · have : Ty.toL hh m = m := rfl
        rw [this]
        exact .mk' (by simp [convert, Sem.run_bind, run_underlying hs, run_underlying hd]) (.mkS _) h2
      · refine .mk' ?_ (.mkS _) h2
        have := run_toString (P := P) (z := z) (c := c) q3
        cases A <;> simp [convert, Sem.run_bind, run_underlying hs, run_underlying hd, run_underlying (isB_u hb), this]
  · cases h
  · cases h

/-! Arithmetic -/
theorem evInt_ok {op : BinOp} {k k' : IntKind} {x y : Int} {t : TypeId} {K : AV → Option β} {r : β} (h : evInt op k x y K = some r) (hk : sameK op k k' = true) :
    OkP P (binOp op t (.int k x) (.int k' y)) z K r := by
  cases op <;> simp only [evInt] at h <;> simp only [sameK, beq_iff_eq] at hk
  case quo =>
    obtain ⟨h1, h2⟩ := need_iff.1 h
    simp only [Bool.not_eq_true', decide_eq_false_iff_not] at h1
    subst hk
    exact .mk' (by simp [binOp, Op.intDiv, h1]) (.mkI _ _) h2
  case rem =>
    obtain ⟨h1, h2⟩ := need_iff.1 h
    simp only [Bool.not_eq_true', decide_eq_false_iff_not] at h1
    subst hk
    exact .mk' (by simp [binOp, Op.intDiv, h1]) (.mkI _ _) h2
  case shl =>
    obtain ⟨h1, h2⟩ := need_iff.1 h
    simp only [decide_eq_true_eq] at h1
    exact .mk' (by simp [binOp, Op.shift, show ¬ y < 0 from by omega]) (.mkI _ _) h2
  case shr =>
    obtain ⟨h1, h2⟩ := need_iff.1 h
    simp only [decide_eq_true_eq] at h1
    exact .mk' (by simp [binOp, Op.shift, show ¬ y < 0 from by omega]) (.mkI _ _) h2
  case add => subst hk; exact .mk' (by simp [binOp, Op.intArith]) (.mkI _ _) h
  case sub => subst hk; exact .mk' (by simp [binOp, Op.intArith]) (.mkI _ _) h
  case mul => subst hk; exact .mk' (by simp [binOp, Op.intArith]) (.mkI _ _) h
  case and => subst hk; exact .mk' (by simp [binOp, Op.intBits, bitsI]) (.mkI _ _) h
  case or => subst hk; exact .mk' (by simp [binOp, Op.intBits, bitsI]) (.mkI _ _) h
  case xor => subst hk; exact .mk' (by simp [binOp, Op.intBits, bitsI]) (.mkI _ _) h
  case andNot => subst hk; exact .mk' (by simp [binOp, Op.intBits, bitsI]) (.mkI _ _) h
  case eql => subst hk; exact .mk' (by simp [binOp, Op.intCmp]) (.mkB _) h
  case neq => subst hk; exact .mk' (by simp [binOp, Op.intCmp, bne]) (.mkB _) h
  case lss => subst hk; exact .mk' (by simp [binOp, Op.intCmp]) (.mkB _) h
  case leq => subst hk; exact .mk' (by simp [binOp, Op.intCmp]) (.mkB _) h
  case gtr => subst hk; exact .mk' (by simp [binOp, Op.intCmp]) (.mkB _) h
  case geq => subst hk; exact .mk' (by simp [binOp, Op.intCmp]) (.mkB _) h
theorem bytes_toList (l : List UInt8) : (⟨⟨l⟩⟩ : ByteArray).toList = l := by rw [ByteArray.toList_eq]
theorem bytes_append (l m : List UInt8) : (⟨⟨l⟩⟩ : ByteArray) ++ (⟨⟨m⟩⟩ : ByteArray) = ⟨⟨l ++ m⟩⟩ := by
  apply ByteArray.ext
  rw [ByteArray.data_append]
  simp
theorem evStr_ok {op : BinOp} {x y : List UInt8} {t : TypeId} {K : AV → Option β} {r : β} (h : evStr op x y K = some r) : OkP P (binOp op t (.string ⟨⟨x⟩⟩) (.string ⟨⟨y⟩⟩)) z K r := by
  cases op <;> simp only [evStr] at h <;> first | (cases h; done) | skip
  case add =>
    obtain ⟨h1, h2⟩ := need_iff.1 h
    rw [Nat.ble_eq] at h1
    refine .mk' ?_ (.mkS _) h2
    have : ¬ (((⟨⟨x⟩⟩ : ByteArray).size + (⟨⟨y⟩⟩ : ByteArray).size : Nat) : Int) > IntKind.i64.max := by
      show ¬ ((x.length + y.length : Nat) : Int) > _
      have : IntKind.i64.max = 9223372036854775807 := by decide
      unfold room at h1
      omega
    simp only [binOp, Op.stringOp]
    rw [if_neg this, bytes_append]
    rfl
  all_goals exact .mk' (by simp only [binOp, Op.stringOp, bytes_toList]; rfl) (.mkB _) h

/-! Comparisons -/
theorem eqFs_ok {f : TypeId → Ty → Bool} {d : Nat} (w : World) {M : Nat → Prop}
    (hf : ∀ t u, f t u = true → ∀ (x y : u.den) (vx vy : Value), VRep w M u x vx → VRep w M u y vy → (Op.equalIn d t vx vy).run P w = .ok (u.eqb x y) w)
    (hagg : ∀ t u, f t u = true → 0 < u.cells ∧ (u.isAgg = true → isAggT P t = true) ∧ (u.isAgg = false → isScal P t = true)) :
    ∀ (fs : List Field) (o : Nat) (u : Ty), eqFs P f fs o u = true → ∀ (x y : u.den) (xs ys : Array Value), Cl w M u x ((xs.toList.drop o).take u.cells) → Cl w M u y ((ys.toList.drop o).take u.cells) →
      (Op.eqFields d xs ys fs).run P w = .ok (u.eqb x y) w := by
  have part1 : ∀ (x : Field) (o : Nat) (u : Ty), (x.name != "_" && Nat.beq x.offset o && Nat.beq (P.cellsOf x.type) u.cells && f x.type u) = true → ∀ (a : u.den) (xs : Array Value), Cl w M u a ((xs.toList.drop o).take u.cells) →
      x.name ≠ "_" ∧ ∃ v, (part x.type xs x.offset).run P w = .ok v w ∧ VRep w M u a v := by
    intro x o u h a xs hc
    simp only [Bool.and_eq_true, bne_iff_ne, ne_eq, beq_nat] at h
    obtain ⟨⟨⟨h1, rfl⟩, h3⟩, h4⟩ := h
    obtain ⟨g1, g2, g3⟩ := hagg _ _ h4
    refine ⟨h1, ?_⟩
    have hl := hc.len
    cases hg : u.isAgg
    · have hcells : u.cells = 1 := by cases u <;> first | rfl | (simp [Ty.isAgg] at hg; done)
      match hvs : (xs.toList.drop x.offset).take u.cells, hl with
      | [], hl => rw [hcells] at hl; simp at hl
      | _ :: _ :: _, hl => rw [hcells] at hl; simp at hl
      | [v], _ =>
        rw [hvs] at hc
        have hv : xs[x.offset]? = some v := by
          have : ((xs.toList.drop x.offset).take u.cells)[0]? = some v := by rw [hvs]; rfl
          rw [hcells] at this
          simpa using this
        exact ⟨v, run_part_scal w (g3 hg) hv, .mkSc hc hg⟩
    · refine ⟨_, run_part_agg w (g2 hg) h3 (by omega), ⟨_, hc, ?_⟩⟩
      rw [hg]
      simp only [cond_true]
      congr 1
      apply Array.ext'
      rw [Array.toList_extract, List.extract_eq_take_drop, Nat.add_sub_cancel_left]
  intro fs
  induction fs with
  | nil => intro o u h; simp [eqFs] at h
  | cons x fs ih =>
    intro o u h a b xs ys ha hb
    match fs, u, h with
    | [], u, h =>
      have h' : (x.name != "_" && Nat.beq x.offset o && Nat.beq (P.cellsOf x.type) u.cells && f x.type u) = true := by
        cases u <;> simpa only [eqFs] using h
      obtain ⟨h1, v1, q1, q2⟩ := part1 x o u h' a xs ha
      obtain ⟨_, v2, p1, p2⟩ := part1 x o u h' b ys hb
      have hfx : f x.type u = true := by
        simp only [Bool.and_eq_true] at h'; exact h'.2
      have := hf _ _ hfx a b v1 v2 q2 p2
      simp only [Op.eqFields, h1, ne_eq, not_false_eq_true, if_true, Sem.run_bind, q1, p1, this, Result.andThen_ok]
      cases u.eqb a b <;> simp
    | y :: fs, .pair s t, h =>
      simp only [eqFs] at h
      have h' : (x.name != "_" && Nat.beq x.offset o && Nat.beq (P.cellsOf x.type) s.cells && f x.type s) = true ∧ eqFs P f (y :: fs) (o + s.cells) t = true := by
        simp only [Bool.and_eq_true] at h ⊢; exact h
      obtain ⟨h', h''⟩ := h'
      obtain ⟨u1, u2, e1, c1, c2⟩ := ha
      obtain ⟨w1, w2, e2, d1, d2⟩ := hb
      have cut : ∀ (l v1 v2 : List Value), (l.drop o).take (Ty.pair s t).cells = v1 ++ v2 → v1.length = s.cells → v2.length = t.cells → (l.drop o).take s.cells = v1 ∧ (l.drop (o + s.cells)).take t.cells = v2 := by
        intro l v1 v2 e l1 l2
        simp only [Ty.cells] at e
        constructor
        · rw [show (l.drop o).take s.cells = ((l.drop o).take (s.cells + t.cells)).take s.cells from by rw [List.take_take, Nat.min_eq_left (by omega)], e, List.take_append_of_le_length (by omega), List.take_of_length_le (by omega)]
        · rw [show (l.drop (o + s.cells)).take t.cells = ((l.drop o).take (s.cells + t.cells)).drop s.cells from by rw [List.drop_take, List.drop_drop, Nat.add_sub_cancel_left], e, List.drop_append_of_le_length (by omega), List.drop_of_length_le (by omega), List.nil_append]
      obtain ⟨ea1, ea2⟩ := cut _ _ _ e1 c1.len c2.len
      obtain ⟨eb1, eb2⟩ := cut _ _ _ e2 d1.len d2.len
      obtain ⟨h1, v1, q1, q2⟩ := part1 x o s h' a.1 xs (by rw [ea1]; exact c1)
      obtain ⟨_, v2, p1, p2⟩ := part1 x o s h' b.1 ys (by rw [eb1]; exact d1)
      have hfx : f x.type s = true := by
        simp only [Bool.and_eq_true] at h'; exact h'.2
      have := hf _ _ hfx a.1 b.1 v1 v2 q2 p2
      have hr := ih (o + s.cells) t h'' a.2 b.2 xs ys (by rw [ea2]; exact c2) (by rw [eb2]; exact d2)
      rw [Op.eqFields]
      simp only [h1, ne_eq, not_false_eq_true, if_true, Sem.run_bind, q1, p1, this, Result.andThen_ok]
      simp only [Ty.eqb]
      cases s.eqb a.1 b.1
      · simp
      · simp only [Bool.not_true, Bool.false_eq_true, if_false, Bool.true_and]
        exact hr
    | _ :: _, .one _, h | _ :: _, .int _, h | _ :: _, .byte, h | _ :: _, .bool, h | _ :: _, .str, h | _ :: _, .opq, h | _ :: _, .nat, h | _ :: _, .sl _, h | _ :: _, .arr _ _, h => simp [eqFs] at h
end
end Go.Ab

/- The evaluator's operations are the model's: equality, lengths, building. -/
namespace Go.Ab

section
variable {P : Program} {β : Type} {z : Z} {H : Hp}

theorem formOk_ok {t : TypeId} {u : Ty} (h : formOk P t u = true) : 0 < u.cells ∧ (u.isAgg = true → isAggT P t = true) ∧ (u.isAgg = false → isScal P t = true) := by
  unfold formOk at h
  simp only [Bool.and_eq_true, Bool.not_eq_true'] at h
  obtain ⟨h1, h2⟩ := h
  refine ⟨?_, fun h => by rw [h] at h2; exact h2, fun h => by rw [h] at h2; exact h2⟩
  rcases Nat.eq_zero_or_pos u.cells with h | h
  · rw [h] at h1; cases h1
  · exact h
theorem take_cells {w : World} {M : Nat → Prop} {u : Ty} {x : u.den} {cs : List Value} (h : Cl w M u x cs) : Cl w M u x ((cs.drop 0).take u.cells) := by
  rw [List.drop_zero, List.take_of_length_le (by rw [h.len]; exact Nat.le_refl _)]; exact h
theorem drop_cons_nth {α : Type} {l : List α} {i : Nat} {x : α} (h : l[i]? = some x) : l.drop i = x :: l.drop (i + 1) := by
  have hi := (List.getElem?_eq_some_iff.1 h).1
  rw [List.drop_eq_getElem_cons hi]
  congr 1
  exact (List.getElem?_eq_some_iff.1 h).2
theorem eqT_ok (w : World) {M : Nat → Prop} : ∀ (n : Nat) (t : TypeId) (u : Ty), eqT P n t u = true → ∀ (d : Nat), n ≤ d → ∀ (x y : u.den) (vx vy : Value), VRep w M u x vx → VRep w M u y vy →
    (Op.equalIn d t vx vy).run P w = .ok (u.eqb x y) w
  | 0, _, _, h, _, _, _, _, _, _, _, _ => by simp [eqT] at h
  | n + 1, t, u, h, d, hd, x, y, vx, vy, hx, hy => by
    obtain ⟨d, rfl⟩ : ∃ d', d = d' + 1 := ⟨d - 1, by omega⟩
    have hd' : n ≤ d := by omega
    have struct : ∀ (fs : Array Field) (v : Ty) (x y : v.den) (cx cy : List Value), P.underlying t = some (.struct fs) → (!P.stoodInHeld t && eqFs P (fun t u => formOk P t u && eqT P n t u) fs.toList 0 v) = true → Cl w M v x cx → Cl w M v y cy →
        (Op.equalIn (d + 1) t (.agg cx.toArray) (.agg cy.toArray)).run P w = .ok (v.eqb x y) w := by
      intro fs v x y cx cy hu hc h1 h2
      simp only [Bool.and_eq_true, Bool.not_eq_true'] at hc
      have hfs : P.fieldsOf t = fs := by simp [Program.fieldsOf, hu]
      rw [run_equalIn_struct w d t _ _ (by rw [hfs]; exact hu) hc.1, hfs]
      refine eqFs_ok w (M := M) (fun t u hf x y vx vy hx hy => ?_) (fun t u hf => ?_) _ 0 v hc.2 x y _ _ ?_ ?_
      · simp only [Bool.and_eq_true] at hf
        exact eqT_ok w n t u hf.2 d hd' x y vx vy hx hy
      · simp only [Bool.and_eq_true] at hf
        exact formOk_ok hf.1
      · exact take_cells h1
      · exact take_cells h2
    simp only [eqT] at h
    split at h
    · rename_i k k' hu
      simp only [decide_eq_true_eq] at h
      obtain rfl := hx.int
      obtain rfl := hy.int
      exact run_equalIn_int w d t k' k x y hu
    · rename_i k hu
      simp only [decide_eq_true_eq] at h
      have e1 := hx.scal rfl rfl
      have e2 := hy.scal rfl rfl
      simp only [Cl, List.cons.injEq, and_true] at e1 e2
      subst e1; subst e2
      rw [run_equalIn_int w d t .u8 k _ _ hu]
      congr 1
      show (((x : UInt8).toNat : Int) == ((y : UInt8).toNat : Int)) = ((x : UInt8) == y)
      rw [Bool.eq_iff_iff]
      simp only [beq_iff_eq]
      constructor
      · intro h; exact UInt8.toNat_inj.1 (by omega)
      · intro h; rw [h]
    · rename_i hu
      obtain rfl := hx.bool
      obtain rfl := hy.bool
      exact run_equalIn_bool w d t x y hu
    · rename_i hu
      obtain rfl := hx.str
      obtain rfl := hy.str
      rw [run_equalIn_string w d t _ _ hu, bytes_toList, bytes_toList]
      rfl
    · rename_i fs v hu
      obtain ⟨cx, h1, rfl⟩ := hx
      obtain ⟨cy, h2, rfl⟩ := hy
      exact struct fs v x y cx cy hu h h1 h2
    · rename_i fs a b hu
      obtain ⟨cx, h1, rfl⟩ := hx
      obtain ⟨cy, h2, rfl⟩ := hy
      exact struct fs (.pair a b) x y cx cy hu h h1 h2
    · rename_i m e m' v hu
      simp only [Bool.and_eq_true, beq_nat] at h
      obtain ⟨⟨⟨rfl, hc⟩, hf⟩, he⟩ := h
      obtain ⟨cx, h1, rfl⟩ := hx
      obtain ⟨cy, h2, rfl⟩ := hy
      obtain ⟨f1, f2, f3⟩ := formOk_ok hf
      have hi := cells_info hc (by omega)
      cases hq : P.info? e with
      | none => simp [hq] at hi
      | some i =>
        rw [show (bif (Ty.arr m v).isAgg then Value.agg cx.toArray else cx.headD undef) = .agg cx.toArray from rfl, show (bif (Ty.arr m v).isAgg then Value.agg cy.toArray else cy.headD undef) = .agg cy.toArray from rfl,
          run_equalIn_array w d _ _ hu hq, hc]
        have hlx : List.length (α := v.den) x = m := h1.1
        have hly : List.length (α := v.den) y = m := h2.1
        have pt : ∀ (cs : List Value) (l : List v.den) (q : Nat) (a : v.den), Cl w M (.arr m v) l cs → l[q]? = some a → ∃ va, (part e cs.toArray (q * v.cells)).run P w = .ok va w ∧ VRep w M v a va := by
          intro cs l q a hcs ha
          have hc' := Cl.nth (l := l) hcs ha
          have hl := hc'.len
          cases hagg : v.isAgg
          · have hcells : v.cells = 1 := by cases v <;> first | rfl | (simp [Ty.isAgg] at hagg; done)
            match hvs : (cs.drop (q * v.cells)).take v.cells, hl with
            | [], hl => rw [hcells] at hl; simp at hl
            | _ :: _ :: _, hl => rw [hcells] at hl; simp at hl
            | [u], _ =>
              rw [hvs] at hc'
              have hv : cs.toArray[q * v.cells]? = some u := by
                have : ((cs.drop (q * v.cells)).take v.cells)[0]? = some u := by rw [hvs]; rfl
                rw [List.getElem?_take_of_lt (by omega), List.getElem?_drop] at this
                simpa using this
              exact ⟨u, run_part_scal w (f3 hagg) hv, .mkSc hc' hagg⟩
          · refine ⟨_, run_part_agg w (f2 hagg) hc (by omega), ⟨_, hc', ?_⟩⟩
            rw [hagg]
            simp only [cond_true]
            congr 1
            apply Array.ext'
            rw [Array.toList_extract, List.extract_eq_take_drop, Nat.add_sub_cancel_left]
        have key : ∀ (k i : Nat), i + k = m → (Op.eqItems d e v.cells cx.toArray cy.toArray (List.range' i k)).run P w = .ok (listEqb v.eqb (List.drop (α := v.den) i x) (List.drop (α := v.den) i y)) w := by
          intro k
          induction k with
          | zero =>
            intro i hi
            rw [List.drop_of_length_le (by omega), List.drop_of_length_le (by omega)]
            simp [Op.eqItems, listEqb]
          | succ k ih =>
            intro i hi
            have hxi : (show List v.den from x)[i]? = some ((show List v.den from x)[i]'(by rw [hlx]; omega)) := List.getElem?_eq_getElem _
            have hyi : (show List v.den from y)[i]? = some ((show List v.den from y)[i]'(by rw [hly]; omega)) := List.getElem?_eq_getElem _
            generalize (show List v.den from x)[i]'(by rw [hlx]; omega) = xi at hxi
            generalize (show List v.den from y)[i]'(by rw [hly]; omega) = yi at hyi
            obtain ⟨va, q1, q2⟩ := pt cx x i xi h1 hxi
            obtain ⟨vb, p1, p2⟩ := pt cy y i yi h2 hyi
            have heq := eqT_ok w n e v he d hd' xi yi va vb q2 p2
            rw [drop_cons_nth hxi, drop_cons_nth hyi, List.range'_succ]
            simp only [Op.eqItems, Sem.run_bind, q1, p1, heq, Result.andThen_ok, listEqb]
            cases v.eqb xi yi
            · simp
            · simp only [Bool.not_true, Bool.false_eq_true, if_false, Bool.true_and]
              exact ih (i + 1) (by omega)
        have := key m 0 (by omega)
        rw [← List.range_eq_range'] at this
        exact this
    · cases h

theorem eqGuard_triv {op : BinOp} {t : TypeId} {x y : Operand} {a b : Value} (w : World) (h1 : a ≠ .nilIface) (h2 : (∃ xs, a = .agg xs) → P.eqGuardType P.depth t = false) :
    (eqGuard op t x y a b).run P w = .ok () w := by
  cases a with
  | nilIface => exact absurd rfl h1
  | agg xs =>
    cases b with
    | agg ys => exact run_eqGuard_agg w op t x y xs ys (h2 ⟨xs, rfl⟩)
    | _ => cases op <;> rfl
  | _ => cases op <;> rfl
theorem lenS_ok {a : AV} {K : Nat → Option β} {r : β} {v : Value} (h : lenS H a K = some r) (hH : HRep z H) (ha : ARep z a v) : ∃ A n c, v = .slice A n c ∧ n ≤ c ∧ c ≤ maxLen ∧ (A = none → n = 0) ∧ K n = some r := by
  unfold lenS at h
  split at h
  · cases ha with
    | slV _ _ _ A hρ => exact ⟨A, 0, 0, rfl, Nat.le_refl _, by unfold maxLen; omega, fun _ => rfl, h⟩
    | slE => exact ⟨_, 0, 0, rfl, Nat.le_refl _, by unfold maxLen; omega, fun _ => rfl, h⟩
    | sl _ _ _ _ g sz m c hρ hn hs hm => exact ⟨_, _, c, rfl, hn, hm, (fun h => by cases h), h⟩
  · split at h
    · rename_i n hvl
      obtain ⟨_, g, sz, c, hρ, rfl, h1, h2⟩ := varsLen_ok hvl hH ha
      exact ⟨_, _, c, rfl, h1, h2, (fun h => by cases h), h⟩
    obtain ⟨fz, e, u, l, hg, he, h3⟩ := ownRows_ok h
    obtain ⟨A, c, rfl, hc, hA, _, hm⟩ := slf_len hH hg ha
    refine ⟨A, _, c, rfl, hc, hm, fun h0 => ?_, h3⟩
    rcases Nat.eq_zero_or_pos l.length with h | h
    · exact h
    · obtain ⟨g, sz, n, _, h1, _⟩ := hA (by omega)
      rw [h0] at h1; cases h1
  · rename_i u l
    obtain ⟨A, c, rfl, hc, hm, hn, hA⟩ := VRep.sl (t := u) ha.v
    exact ⟨A, _, c, rfl, hc, hm, fun h0 => by have := hn h0; omega, h⟩
  · obtain ⟨rfl, _⟩ := ha.v.opq
    exact ⟨none, 0, 0, rfl, Nat.le_refl _, by unfold maxLen; omega, fun _ => rfl, h⟩
  · cases h
theorem eqNilP_ok {a b : AV} {q : Bool} {va vb : Value} (h : eqNilP a b = some q) (ha : ARep z a va) (hb : ARep z b vb) :
    ∃ p p', va = .pointer p ∧ vb = .pointer p' ∧ (p = none ∨ p' = none) ∧ q = (p.isNone && p'.isNone) := by
  unfold eqNilP at h
  split at h <;> first | (cases h; done) | skip
  all_goals simp only [Option.some.injEq] at h
  all_goals subst h
  · obtain ⟨rfl, _⟩ := ha.v.opq; obtain ⟨rfl, _⟩ := hb.v.opq; exact ⟨none, none, rfl, rfl, .inl rfl, rfl⟩
  · obtain ⟨rfl, _⟩ := hb.v.opq; cases ha; exact ⟨_, none, rfl, rfl, .inr rfl, rfl⟩
  · obtain ⟨rfl, _⟩ := ha.v.opq; cases hb; exact ⟨none, _, rfl, rfl, .inl rfl, rfl⟩
  · obtain ⟨rfl, _⟩ := hb.v.opq; cases ha; exact ⟨_, none, rfl, rfl, .inr rfl, rfl⟩
  · obtain ⟨rfl, _⟩ := ha.v.opq; cases hb; exact ⟨none, _, rfl, rfl, .inl rfl, rfl⟩
theorem eqNilM_ok {a b : AV} {q : Bool} {va vb : Value} (h : eqNilM a b = some q) (ha : ARep z a va) (hb : ARep z b vb) :
    ∃ p p', va = .map p ∧ vb = .map p' ∧ (p = none ∨ p' = none) ∧ q = (p.isNone && p'.isNone) := by
  unfold eqNilM at h
  split at h <;> first | (cases h; done) | skip
  all_goals simp only [Option.some.injEq] at h
  all_goals subst h
  · obtain ⟨rfl, _⟩ := hb.v.opq; cases ha; exact ⟨_, none, rfl, rfl, .inr rfl, rfl⟩
  · obtain ⟨rfl, _⟩ := ha.v.opq; cases hb; exact ⟨none, _, rfl, rfl, .inl rfl, rfl⟩
  · obtain ⟨rfl, _⟩ := ha.v.opq; obtain ⟨rfl, _⟩ := hb.v.opq; exact ⟨none, none, rfl, rfl, .inl rfl, rfl⟩
theorem eqNilF_ok {a b : AV} {q : Bool} {va vb : Value} (h : eqNilF a b = some q) (ha : ARep z a va) (hb : ARep z b vb) :
    (va = .nilFunc ∧ vb = .nilFunc ∧ q = true) ∨ (∃ f x y, va = .func f x y ∧ vb = .nilFunc ∧ q = false) ∨ (∃ f x y, va = .nilFunc ∧ vb = .func f x y ∧ q = false) := by
  unfold eqNilF at h
  split at h <;> first | (cases h; done) | skip
  all_goals simp only [Option.some.injEq] at h
  all_goals subst h
  · obtain ⟨rfl, _⟩ := ha.v.opq; obtain ⟨rfl, _⟩ := hb.v.opq; exact .inl ⟨rfl, rfl, rfl⟩
  · obtain ⟨rfl, _⟩ := hb.v.opq; cases ha; exact .inr (.inl ⟨_, _, _, rfl, rfl, rfl⟩)
  · obtain ⟨rfl, _⟩ := ha.v.opq; cases hb; exact .inr (.inr ⟨_, _, _, rfl, rfl, rfl⟩)
theorem nilQ_ok {n : Nat} {K : Bool → Option β} {r : β} {A : Option Addr} (h : nilQ n K = some r) (hA : A = none → n = 0) : K A.isNone = some r := by
  unfold nilQ at h
  split at h
  · rename_i hq
    cases A with
    | none => rw [← hq (hA rfl)] at h; exact h
    | some a => exact h
  · cases h
/-- Held against each other by 'equal'. -/
def ByEqual (P : Program) (t : TypeId) (va vb : Value) : Prop :=
  va ≠ .nilIface ∧ ((∃ xs, va = .agg xs) → P.eqGuardType P.depth t = false) ∧ binOp .eql t va vb = (do pure (.bool (← Op.equal t va vb))) ∧ binOp .neq t va vb = (do pure (.bool (!(← Op.equal t va vb))))
theorem equal_of {t : TypeId} {x y : Value} {w : World} {q : Bool} (h : ∀ d, (Op.equalIn (d + 1) t x y).run P w = .ok q w) : (Op.equal t x y).run P w = .ok q w := h 9999
theorem evEq_ok {t : TypeId} {a b : AV} {K : Bool → Option β} {r : β} {va vb : Value} (h : evEq P t a b H K = some r) (hH : HRep z H) (ha : ARep z a va) (hb : ARep z b vb)
    (hni : ∀ k, P.underlying t ≠ some (.int k)) (hns : P.underlying t ≠ some .string) :
    ∃ q, (Op.equal t va vb).run P z.w = .ok q z.w ∧ K q = some r ∧ ByEqual P t va vb := by
  unfold evEq at h
  split at h
  · rename_i e hu
    obtain ⟨q, h1, h2⟩ := ob_iff.1 h
    obtain ⟨p, p', rfl, rfl, hn, rfl⟩ := eqNilP_ok h1 ha hb
    refine ⟨_, equal_of fun d => ?_, h2, by simp, by simp, rfl, rfl⟩
    rcases hn with rfl | rfl
    · cases p' <;> simp [Op.equalIn, Sem.run_bind, run_underlying hu]
    · cases p <;> simp [Op.equalIn, Sem.run_bind, run_underlying hu]
  · rename_i k e hu
    obtain ⟨q, h1, h2⟩ := ob_iff.1 h
    obtain ⟨p, p', rfl, rfl, hn, rfl⟩ := eqNilM_ok h1 ha hb
    refine ⟨_, equal_of fun d => ?_, h2, by simp, by simp, rfl, rfl⟩
    rcases hn with rfl | rfl
    · cases p' <;> simp [Op.equalIn, Sem.run_bind, run_underlying hu]
    · cases p <;> simp [Op.equalIn, Sem.run_bind, run_underlying hu]
  · rename_i p1 p2 p3 hu
    obtain ⟨q, h1, h2⟩ := ob_iff.1 h
    rcases eqNilF_ok h1 ha hb with ⟨rfl, rfl, rfl⟩ | ⟨f, x, y, rfl, rfl, rfl⟩ | ⟨f, x, y, rfl, rfl, rfl⟩
    all_goals exact ⟨_, equal_of fun d => by simp [Op.equalIn, Sem.run_bind, run_underlying hu], h2, by simp, by simp, rfl, rfl⟩
  · rename_i e hu
    split at h
    · obtain ⟨rfl, _⟩ := ha.v.opq
      obtain ⟨rfl, _⟩ := hb.v.opq
      exact ⟨_, equal_of fun d => by simp [Op.equalIn, Sem.run_bind, run_underlying hu], h, by simp, by simp, rfl, rfl⟩
    · obtain ⟨rfl, _⟩ := hb.v.opq
      obtain ⟨A, n, c, rfl, _, _, hA, h2⟩ := lenS_ok h hH ha
      exact ⟨_, equal_of fun d => run_equalIn_slice_nil z.w d t e A n c hu, nilQ_ok h2 hA, by simp, by simp, rfl, rfl⟩
    · obtain ⟨rfl, _⟩ := ha.v.opq
      obtain ⟨A, n, c, rfl, _, _, hA, h2⟩ := lenS_ok h hH hb
      exact ⟨_, equal_of fun d => by simp [Op.equalIn, Sem.run_bind, run_underlying hu], nilQ_ok h2 hA, by simp, by simp, rfl, rfl⟩
    · cases h
  · obtain ⟨u, h1, h2⟩ := ob_iff.1 h
    obtain ⟨h3, h4⟩ := need_iff.1 h2
    simp only [Bool.and_eq_true, Bool.not_eq_true'] at h3
    obtain ⟨x, h5, h6⟩ := asA_ok h4 ha
    obtain ⟨y, h7, h8⟩ := asA_ok h6 hb
    have hq : (Op.equal t va vb).run P z.w = .ok (u.eqb x y) z.w := eqT_ok z.w typesFuel t u h3.1 10000 (by unfold typesFuel; omega) x y va vb h5 h7
    have form : (∃ xs ys, va = .agg xs ∧ vb = .agg ys) ∨ (∃ p q, va = .bool p ∧ vb = .bool q) := by
      have he := h3.1
      unfold typesFuel at he
      simp only [eqT] at he
      split at he
      · rename_i hu; exact absurd hu (hni _)
      · rename_i hu; exact absurd hu (hni _)
      · exact .inr ⟨x, y, h5.bool, h7.bool⟩
      · rename_i hu; exact absurd hu hns
      · obtain ⟨c1, _, rfl⟩ := h5; obtain ⟨c2, _, rfl⟩ := h7; exact .inl ⟨_, _, rfl, rfl⟩
      · obtain ⟨c1, _, rfl⟩ := h5; obtain ⟨c2, _, rfl⟩ := h7; exact .inl ⟨_, _, rfl, rfl⟩
      · obtain ⟨c1, _, rfl⟩ := h5; obtain ⟨c2, _, rfl⟩ := h7; exact .inl ⟨_, _, rfl, rfl⟩
      · cases he
    refine ⟨_, hq, h8, ?_⟩
    rcases form with ⟨xs, ys, rfl, rfl⟩ | ⟨p, q, rfl, rfl⟩
    · exact ⟨by simp, fun _ => h3.2, rfl, rfl⟩
    · exact ⟨by simp, by simp, rfl, rfl⟩
/-- The model's binary operation, its guard ahead. -/
theorem evBin_ok {op : BinOp} {t u : TypeId} {a b : AV} {K : AV → Option β} {r : β} {va vb : Value} (x y : Operand) (h : evBin P op t u a b H K = some r) (hH : HRep z H) (ha : ARep z a va) (hb : ARep z b vb) :
    OkP P (do eqGuard op t x y va vb; binOp op t va vb) z K r := by
  have triv : ∀ {s : Sem Value}, va ≠ .nilIface → ((∃ xs, va = .agg xs) → P.eqGuardType P.depth t = false) → OkP P s z K r → OkP P (do eqGuard op t x y va vb; s) z K r := fun {s} h1 h2 ⟨q, v, e1, e2, e3⟩ =>
    ⟨q, v, by rw [Sem.run_bind, eqGuard_triv z.w h1 h2]; exact e1, e2, e3⟩
  unfold evBin at h
  split at h
  · rename_i k hu
    split at h
    · rename_i k' hu'
      obtain ⟨m, h1, h2⟩ := ob_iff.1 h
      obtain ⟨n, h3, h4⟩ := ob_iff.1 h2
      obtain ⟨h5, h6⟩ := need_iff.1 h4
      obtain rfl := int?_ok h1 ha
      obtain rfl := int?_ok h3 hb
      exact triv (by simp) (by simp) (evInt_ok h6 h5)
    · cases h
  · obtain ⟨m, h1, h2⟩ := ob_iff.1 h
    obtain ⟨n, h3, h4⟩ := ob_iff.1 h2
    obtain rfl := str?_ok h1 ha
    obtain rfl := str?_ok h3 hb
    exact triv (by simp) (by simp) (evStr_ok h4)
  · rename_i hni hns
    split at h
    · obtain ⟨q, h1, h2, h3, h4, h5, h6⟩ := evEq_ok h hH ha hb (fun k e => hni k e) (fun e => hns e)
      refine triv h3 h4 ⟨_, _, ?_, .mkB q, h2⟩
      rw [h5]
      simp [Sem.run_bind, h1]
    · obtain ⟨q, h1, h2, h3, h4, h5, h6⟩ := evEq_ok h hH ha hb (fun k e => hni k e) (fun e => hns e)
      refine triv h3 h4 ⟨_, _, ?_, .mkB (!q), h2⟩
      rw [h6]
      simp [Sem.run_bind, h1]
    · cases h
theorem evUn_ok {op : UnOp} {t : TypeId} {a : AV} {K : AV → Option β} {r : β} {va : Value} (h : evUn P op t a K = some r) (ha : ARep z a va) : OkP P (Op.unary op va) z K r := by
  unfold evUn at h
  split at h
  · obtain ⟨x, h1, h2⟩ := ob_iff.1 h
    obtain rfl := bool?_ok h1 ha
    exact .mk' (by simp [Op.unary]) (.mkB _) h2
  · obtain ⟨x, h1, h2⟩ := ob_iff.1 h
    obtain rfl := int?_ok h1 ha
    exact .mk' (by simp [Op.unary, Op.intArith]) (.mkI _ _) h2
  · obtain ⟨x, h1, h2⟩ := ob_iff.1 h
    obtain rfl := int?_ok h1 ha
    exact .mk' (by simp [Op.unary, Op.intBits, bitsI]) (.mkI _ _) h2
  · cases h
theorem evPick_ok {t : TypeId} {c a b : AV} {K : AV → Option β} {r : β} {vc va vb : Value} (h : evPick P t c a b K = some r) (hc : ARep z c vc) (ha : ARep z a va) (hb : ARep z b vb) :
    OkP P (do pure (if ← asBool vc then va else vb)) z K r := by
  unfold evPick at h
  obtain ⟨q, h1, h2⟩ := ob_iff.1 h
  obtain rfl := bool?_ok h1 hc
  have run : (do pure (if ← asBool (.bool q) then va else vb) : Sem Value).run P z.w = .ok (if q then va else vb) z.w := by simp [asBool, Sem.run_bind]
  split at h2
  · split at h2
    · rename_i x y hx hy
      obtain rfl := bool?_ok hx ha
      obtain rfl := bool?_ok hy hb
      refine .mk' run ?_ h2
      cases q
      · exact .mkB _
      · exact .mkB _
    · rename_i x hx hx2
      obtain rfl := bool?_ok hx ha
      obtain ⟨h3, h4⟩ := need_iff.1 h2
      subst h3
      exact .mk' run (.mkB _) h4
    · rename_i y hx hy
      obtain rfl := bool?_ok hy hb
      obtain ⟨h3, h4⟩ := need_iff.1 h2
      simp only [Bool.not_eq_true'] at h3
      subst h3
      exact .mk' run (.mkB _) h4
    · cases h2
  · cases q
    · exact .mk' run hb h2
    · exact .mk' run ha h2
end
end Go.Ab

/- The evaluator's operations are the model's: building, lengths, maps that are read. -/
namespace Go.Ab

section
variable {P : Program} {β : Type} {z : Z} {H : Hp}

theorem lit_ok (v : Value) (h : v.oneCell' = true ∨ ∃ cs, v = .tuple cs) : ARep z (AV.lit v) v := by
  unfold AV.lit
  split
  · exact .mkI _ _
  · exact .mkB _
  · rename_i s
    obtain ⟨⟨l⟩⟩ := s
    exact .mkS _
  · exact .junk _
  · exact .junk _
  · rename_i h1 h2 h3 h4 h5
    refine .p _ _ _ (.mkSc ⟨rfl, ?_⟩ rfl)
    rcases h with h | ⟨cs, rfl⟩
    · exact h
    · exact absurd rfl (h5 cs)
theorem lits_ok (l : List Value) (h : ∀ v ∈ l, v.oneCell' = true) : AReps z (l.map AV.lit) l := by
  refine ⟨by simp, fun i a v h1 h2 => ?_⟩
  rw [List.getElem?_map, h2] at h1
  simp at h1
  subst h1
  exact lit_ok v (.inl (h v (List.mem_of_getElem? h2)))
theorem zeroOf_ok {t : TypeId} {l : List AV} (h : zeroOf P t = some l) : ∃ i v, P.info? t = some i ∧ i.zero = some v ∧ AReps z l v.cells.toList ∧ ∀ u ∈ v.cells, u.oneCell' = true := by
  unfold zeroOf at h
  obtain ⟨i, h1, h2⟩ := ob_iff.1 h
  obtain ⟨v, h3, h4⟩ := ob_iff.1 h2
  cases hb : v.cells.toList.all Value.oneCell' <;> rw [hb] at h4 <;> simp only [bq_true, bq_false] at h4
  · cases h4
  · simp only [Option.some.injEq] at h4
    subst h4
    rw [List.all_eq_true] at hb
    exact ⟨i, v, h1, h3, lits_ok _ hb, fun u hu => hb u (by simpa using hu)⟩
theorem run_zero {t : TypeId} {i : TypeInfo} {v : Value} (h1 : P.info? t = some i) (h3 : i.zero = some v) (w : World) : (zeroValue t).run P w = .ok v w := by
  simp [zeroValue, typeInfo, Sem.run_bind, h1, h3]

/-- Cells written over from a place on. -/
theorem AReps.setFrom {c l : List AV} {vs us : List Value} (h : AReps z c vs) (h' : AReps z l us) (j : Nat) (hj : j + l.length ≤ c.length) : AReps z (setFrom c j l) (setFrom vs j us) := by
  refine ⟨by rw [setFrom_len, setFrom_len]; exact h.1, fun i a v h1 h2 => ?_⟩
  rw [setFrom_get _ _ _ _ hj] at h1
  rw [setFrom_get _ _ _ _ (by rw [← h'.1, ← h.1]; exact hj), ← h'.1] at h2
  split at h1
  · rename_i hc; rw [if_pos hc] at h2; exact h'.2 _ a v h1 h2
  · rename_i hc; rw [if_neg hc] at h2; exact h.2 _ a v h1 h2
theorem foldl_set (cs : List Value) : ∀ (a : Array Value) (off k : Nat), ((cs.zipIdx k).foldl (fun (cs : Array Value) (x : Value × Nat) => cs.setIfInBounds (off + x.2) x.1) a).toList = Go.Ab.setFrom a.toList (off + k) cs := by
  induction cs with
  | nil => intro a off k; rfl
  | cons c cs ih =>
    intro a off k
    simp only [List.zipIdx_cons, List.foldl_cons, Go.Ab.setFrom]
    rw [ih]
    simp [Nat.add_assoc]
/-- Parts laid into cells. -/
theorem fillA_ok {pl : Nat → Option (Nat × Nat)} : ∀ {parts : List (Nat × AV)} {vparts : List (Nat × Value)} {c c' : List AV} {cs : Array Value}, fillA pl c parts = some c' → AReps z c cs.toList → (∀ u ∈ cs, u.oneCell' = true) →
    parts.length = vparts.length → (∀ (i : Nat) x y, parts[i]? = some x → vparts[i]? = some y → x.1 = y.1 ∧ ARep z x.2 y.2) →
    ∃ cs', Instr.fill pl cs vparts = some cs' ∧ AReps z c' cs'.toList ∧ ∀ u ∈ cs', u.oneCell' = true
  | [], [], c, c', cs, h, hc, h1, _, _ => by
    simp [fillA] at h
    subst h
    exact ⟨cs, rfl, hc, h1⟩
  | (i, a) :: parts, (i', v) :: vparts, c, c', cs, h, hc, h1, hl, hp => by
    obtain ⟨rfl, ha⟩ := hp 0 _ _ rfl rfl
    simp only [fillA] at h
    obtain ⟨⟨off, size⟩, h2, h3⟩ := ob_iff.1 h
    obtain ⟨l, h4, h5⟩ := ob_iff.1 h3
    cases hb : (Nat.beq l.length size && Nat.ble (off + l.length) c.length) <;> rw [hb] at h5 <;> simp only [bq_true, bq_false] at h5
    · cases h5
    · simp only [Bool.and_eq_true, beq_nat, Nat.ble_eq] at hb
      obtain ⟨hs, hfit⟩ := hb
      obtain ⟨q1, q2, q3⟩ := cellsA_ok h4 ha
      have hvs : v.cells.size = l.length := by have := q1.1; simpa using this.symm
      have hcs : cs.size = c.length := by have := hc.1; simpa using this.symm
      have hset := hc.setFrom q1 off hfit
      have hfold : (v.cells.zipIdx.foldl (fun (cs : Array Value) (x : Value × Nat) => cs.setIfInBounds (off + x.2) x.1) cs).toList = setFrom cs.toList off v.cells.toList := by
        rw [← Array.foldl_toList, Array.toList_zipIdx]
        exact foldl_set _ _ _ _
      obtain ⟨cs', p1, p2, p3⟩ := fillA_ok (cs := v.cells.zipIdx.foldl (fun (cs : Array Value) (x : Value × Nat) => cs.setIfInBounds (off + x.2) x.1) cs) (vparts := vparts) h5 (by rw [hfold]; exact hset) (fun u hu => by
        have hu' : u ∈ setFrom cs.toList off v.cells.toList := by rw [← hfold]; simpa using hu
        obtain ⟨k, hk⟩ := List.getElem?_of_mem hu'
        rw [setFrom_get _ _ _ _ (by simp; omega)] at hk
        split at hk
        · exact q2 u (by have := List.mem_of_getElem? hk; simpa using this)
        · exact h1 u (by have := List.mem_of_getElem? hk; simpa using this)) (by simpa using hl) (fun i x y e1 e2 => hp (i + 1) x y (by simpa using e1) (by simpa using e2))
      refine ⟨cs', ?_, p2, p3⟩
      simp only [Instr.fill, h2]
      rw [if_neg (by simp only [Bool.or_eq_true, decide_eq_true_eq, bne_iff_ne, ne_eq, not_or]; omega)]
      exact p1
  | [], _ :: _, _, _, _, _, _, _, hl, _ => by simp at hl
  | _ :: _, [], _, _, _, _, _, _, hl, _ => by simp at hl
/-- Parts, and their values. -/
def PReps (z : Z) (parts : List (Nat × AV)) (vparts : List (Nat × Value)) : Prop :=
  parts.length = vparts.length ∧ ∀ (i : Nat) x y, parts[i]? = some x → vparts[i]? = some y → x.1 = y.1 ∧ ARep z x.2 y.2
theorem evBuild_ok {t : TypeId} {parts : List (Nat × AV)} {vparts : Array (Nat × Value)} {K : AV → Option β} {r : β} (h : evBuild P t parts K = some r) (hp : PReps z parts vparts.toList) :
    OkP P (Instr.build t vparts) z K r := by
  unfold evBuild at h
  obtain ⟨l, h1, h2⟩ := ob_iff.1 h
  obtain ⟨i, v0, q1, q2, q3, q4⟩ := zeroOf_ok (z := z) h1
  split at h2
  · rename_i fs hu
    obtain ⟨places, h3, h4⟩ := ob_iff.1 h2
    obtain ⟨c, h5, h6⟩ := ob_iff.1 h4
    obtain ⟨cs', p1, p2, p3⟩ := fillA_ok h5 q3 q4 hp.1 hp.2
    refine .mk' (run_build z.w t vparts cs' ?_) (.agg _ _ ?_ p3 fun i x v e1 e2 => p2.2 i x v e1 (by simpa using e2)) h6
    · unfold Program.built
      simp only [q1, hu, q2, h3]
      exact p1
    · have := p2.1; simpa using this.symm
  · rename_i m e hu
    obtain ⟨ie, h3, h4⟩ := ob_iff.1 h2
    obtain ⟨c, h5, h6⟩ := ob_iff.1 h4
    obtain ⟨cs', p1, p2, p3⟩ := fillA_ok h5 q3 q4 hp.1 hp.2
    refine .mk' (run_build z.w t vparts cs' ?_) (.agg _ _ ?_ p3 fun i x v e1 e2 => p2.2 i x v e1 (by simpa using e2)) h6
    · unfold Program.built
      simp only [q1, hu, q2, h3]
      exact p1
    · have := p2.1; simpa using this.symm
  · cases h2

/-! Lengths -/
theorem lenT_ok {t : TypeId} {a : AV} {K : Nat → Option β} {r : β} {v : Value} (ty : TypeId) (h : lenT P t H a K = some r) (hH : HRep z H) (ha : ARep z a v) :
    ∃ n : Nat, (Builtin.len_ #[t] ty #[v]).run P z.w = .ok (.int .i64 (n : Int)) z.w ∧ K n = some r := by
  unfold lenT at h
  split at h
  · rename_i hu
    obtain ⟨l, h1, h2⟩ := ob_iff.1 h
    obtain rfl := str?_ok h1 ha
    exact ⟨l.length, by simp [Builtin.len_, Sem.run_bind, run_underlying hu, goInt]; rfl, h2⟩
  · rename_i e hu
    obtain ⟨A, n, c, rfl, _, _, _, h2⟩ := lenS_ok h hH ha
    exact ⟨n, by simp [Builtin.len_, Sem.run_bind, run_underlying hu, goInt], h2⟩
  · rename_i k e hu
    unfold lenM at h
    split at h
    · obtain ⟨rfl, _⟩ := ha.v.opq
      exact ⟨0, by simp [Builtin.len_, Sem.run_bind, run_underlying hu, goInt], h⟩
    · rename_i id
      split at h
      · rename_i fz kt vt m hg
        cases ha with | mp _ g sz n hρ =>
        obtain ⟨_, _, _, es, a1, a2, _⟩ := hH.real hg hρ
        refine ⟨m.1.length, ?_, h⟩
        simp [Builtin.len_, Sem.run_bind, run_underlying hu, goInt, getObj, Sem.run, a1, a2]
      · cases h
    · cases h
  · rename_i n e hu
    exact ⟨n, by simp [Builtin.len_, Sem.run_bind, run_underlying hu, goInt], h⟩
  · cases h
theorem ints?_ok {k : IntKind} : ∀ {l : List AV} {ns : List Int} {vs : List Value}, ints? k l = some ns → AReps z l vs → vs = ns.map (Value.int k)
  | [], ns, vs, h, hr => by
    simp [ints?] at h
    subst h
    exact List.eq_nil_of_length_eq_zero hr.1.symm
  | a :: l, ns, vs, h, hr => by
    simp only [ints?] at h
    obtain ⟨n, h1, h2⟩ := ob_iff.1 h
    obtain ⟨r, h3, rfl⟩ := Option.map_eq_some_iff.1 h2
    match vs, hr with
    | [], hr => have := hr.1; simp at this
    | v :: vs, hr =>
      rw [int?_ok h1 hr.head, ints?_ok h3 hr.tail]
      rfl
theorem run_minFold {k : IntKind} (w : World) : ∀ (l : List Int) (x : Int), ((l.map (Value.int k)).foldlM Builtin.min2 (.int k x)).run P w = .ok (.int k (minI l x)) w
  | [], x => by simp [minI]
  | y :: l, x => by
    simp only [List.map_cons, List.foldlM_cons, Sem.run_bind]
    rw [show (Builtin.min2 (.int k x) (.int k y)).run P w = .ok (.int k (if y < x then y else x)) w from rfl]
    exact run_minFold w l _
theorem run_maxFold {k : IntKind} (w : World) : ∀ (l : List Int) (x : Int), ((l.map (Value.int k)).foldlM Builtin.max2 (.int k x)).run P w = .ok (.int k (maxI l x)) w
  | [], x => by simp [maxI]
  | y :: l, x => by
    simp only [List.map_cons, List.foldlM_cons, Sem.run_bind]
    rw [show (Builtin.max2 (.int k x) (.int k y)).run P w = .ok (.int k (if y > x then y else x)) w from rfl]
    exact run_maxFold w l _
theorem capQ_ok {n : Nat} {K : Int → Option β} {r : β} (h : capQ n K = some r) (c : Nat) (h1 : n ≤ c) (h2 : c ≤ maxLen) : K (c : Int) = some r := by
  unfold capQ at h
  split at h
  · rename_i hc
    simp only [Option.some.injEq] at h
    rw [← h]
    exact hc.choose_spec c h1 (by unfold maxLen at h2; omega)
  · cases h
end
end Go.Ab
