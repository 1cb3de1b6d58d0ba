/- Functions of the program as plain Lean functions: each equation is checked by the kernel; what is told of a function follows from it. -/
import Derived.Test.YtplahfhggnkahaaE3
import Derived.Test.YtplahfhggnkahaaProg
import Derived.KernelRfl
set_option linter.all false
set_option maxRecDepth 100000
set_option maxHeartbeats 4000000
namespace Go.Ab.D
open Go Go.Ab
noncomputable section
theorem mixed : Go.Proofs.Try.prog.follows .mixedOrders = true := by kernel_rfl
def bytes_halved (fu : Nat) (s : Int) : Option (Int) :=
  some (bitsI .xor .u32 (Int.fdiv s 2) (IntKind.wrap .u32 (2197175160 * (bitsI .and .u32 s 1))))
def bytes_halved_fa : FnA := ⟨.two (.leaf) (.leaf), ⟨(.cons (.p (.int .u32)) .nil), []⟩, [⟨(.cons (.p (.int .u32)) .nil), []⟩], [0]⟩
def bytes_halved_ft (fu : Nat) : FnT := ⟨35, ⟨(.cons (.p (.int .u32)) .nil), []⟩, [⟨(.cons (.p (.int .u32)) .nil), []⟩], fun t => bytes_halved fu t⟩
theorem bytes_halved_eq (fu : Nat) : ∀ t, evF Go.Proofs.Try.prog [] fu Go.Proofs.Try.f35 bytes_halved_fa t = (bytes_halved_ft fu).spec t := fun t => by kernel_rfl
theorem bytes_halved_told (fu : Nat) : Told Go.Proofs.Try.prog (bytes_halved_ft fu) := told_of allT_nil mixed Go.Proofs.Try.func35 (by kernel_rfl) (by kernel_rfl) (bytes_halved_eq fu)

def bytes_Table_l0 (fu : Nat) (s : Int) (x : Int) (h : List (Int)) (h1 : List (Int)) : Option ((Int × (Int × (List (Int) × List (Int)))) ⊕ ((List (Int) × List (Int)))) :=
  bif (decide (x < 8)) then
    need (decide (0 ≤ x)) <|
    (idx? (Int.fdiv 128 (2 ^ (min (x).toNat 64))) 256).bind fun q =>
    (h1)[q]?.bind fun r =>
    (bytes_halved fu s).bind fun r1 =>
    some (.inl (r1, ((IntKind.wrap .i64 (x + 1)), (h, (List.set h1 q s)))))
  else
    some (.inr (h, h1))
def bytes_Table_l0_it (fu : Nat)  (tt : (Int × (Int × (List (Int) × List (Int))))) : Option ((List (Int) × List (Int))) :=
  iter fu (fun tt => bytes_Table_l0 fu tt.1 tt.2.1 tt.2.2.1 tt.2.2.2) tt
def bytes_Table_l1 (fu : Nat) (x1 : Int) (x2 : Int) (h4 : List (Int)) (h5 : List (Int)) : Option ((Int × (List (Int) × List (Int))) ⊕ ((List (Int) × List (Int)))) :=
  bif (decide (x2 < (IntKind.wrap .i64 (1 * (2 ^ (min (x1).toNat 64)))))) then
    need (decide (0 ≤ x1)) <|
    need (decide (0 ≤ x1)) <|
    (idx? (IntKind.wrap .i64 (1 * (2 ^ (min (x1).toNat 64)))) 256).bind fun q1 =>
    (h5)[q1]?.bind fun r2 =>
    (idx? x2 256).bind fun q2 =>
    (h5)[q2]?.bind fun r3 =>
    (idx? (bitsI .or .i64 (IntKind.wrap .i64 (1 * (2 ^ (min (x1).toNat 64)))) x2) 256).bind fun q3 =>
    (h5)[q3]?.bind fun r4 =>
    some (.inl ((IntKind.wrap .i64 (x2 + 1)), (h4, (List.set h5 q3 (bitsI .xor .u32 r2 r3)))))
  else
    some (.inr (h4, h5))
def bytes_Table_l1_it (fu : Nat) (x1 : Int) (tt : (Int × (List (Int) × List (Int)))) : Option ((List (Int) × List (Int))) :=
  iter fu (fun tt => bytes_Table_l1 fu x1 tt.1 tt.2.1 tt.2.2) tt
def bytes_Table_l2 (fu : Nat) (x1 : Int) (h2 : List (Int)) (h3 : List (Int)) : Option ((Int × (List (Int) × List (Int))) ⊕ ((List (Int) × List (Int)))) :=
  bif (decide (x1 < 8)) then
    need (decide (0 ≤ x1)) <|
    (bytes_Table_l1_it fu x1 (0, (h2, h3))).bind fun o1 =>
    some (.inl ((IntKind.wrap .i64 (x1 + 1)), (o1.1, o1.2)))
  else
    some (.inr (h2, h3))
def bytes_Table_l2_it (fu : Nat)  (tt : (Int × (List (Int) × List (Int)))) : Option ((List (Int) × List (Int))) :=
  iter fu (fun tt => bytes_Table_l2 fu tt.1 tt.2.1 tt.2.2) tt
def bytes_Table (fu : Nat)  : Option (List (Int)) :=
  (bytes_Table_l0_it fu  (2197175160, (0, ((List.replicate (α := Int) 256 0), (List.replicate (α := Int) 256 0))))).bind fun o =>
  (bytes_Table_l2_it fu  (0, (o.1, o.2))).bind fun o2 =>
  need (Nat.beq o2.2.length 256) <|
  need (Nat.beq o2.1.length 256) <|
  need (Nat.beq o2.2.length 256) <|
  need (Nat.beq o2.2.length 256) <|
  some o2.2
def bytes_Table_fa : FnA := ⟨.two (.reg [(0, { ids := [100] })]) (.two (.reg [(0, { ids := [101] })]) (.two (.leaf) (.two (.two (.leaf) (.one (.loop ⟨[0, 1, 2, 6], ⟨(.cons (.own 1 100 0 0) (.cons (.own 1 101 0 0) (.cons (.p (.int .u32)) (.cons (.p (.int .i64)) .nil)))), [(100, false, (.rows 27 (.int .u32))), (101, false, (.rows 27 (.int .u32)))]⟩⟩ false [(0, ⟨[0, 1], ⟨(.cons (.own 1 100 0 0) (.cons (.own 1 101 0 0) .nil)), [(100, false, (.rows 27 (.int .u32))), (101, false, (.rows 27 (.int .u32)))]⟩⟩)] (.two (.leaf) (.two (.leaf) (.two (.one (.two (.leaf) (.two (.leaf) (.reg [(1, {  })])))) (.leaf))))))) (.two (.two (.leaf) (.one (.loop ⟨[0, 1, 16], ⟨(.cons (.own 1 100 0 0) (.cons (.own 1 101 0 0) (.cons (.p (.int .i64)) .nil))), [(100, false, (.rows 27 (.int .u32))), (101, false, (.rows 27 (.int .u32)))]⟩⟩ false [(2, ⟨[0, 1], ⟨(.cons (.own 1 100 0 0) (.cons (.own 1 101 0 0) .nil)), [(100, false, (.rows 27 (.int .u32))), (101, false, (.rows 27 (.int .u32)))]⟩⟩)] (.two (.leaf) (.two (.leaf) (.two (.one (.two (.leaf) (.two (.leaf) (.one (.loop ⟨[0, 1, 21], ⟨(.cons (.own 1 100 0 0) (.cons (.own 1 101 0 0) (.cons (.p (.int .i64)) .nil))), [(100, false, (.rows 27 (.int .u32))), (101, false, (.rows 27 (.int .u32)))]⟩⟩ false [(4, ⟨[0, 1], ⟨(.cons (.own 1 100 0 0) (.cons (.own 1 101 0 0) .nil)), [(100, false, (.rows 27 (.int .u32))), (101, false, (.rows 27 (.int .u32)))]⟩⟩)] (.two (.leaf) (.two (.leaf) (.two (.one (.leaf)) (.leaf))))))))) (.leaf))))))) (.leaf))))), ⟨.nil, []⟩, [⟨(.cons (.p (.arr 256 (.int .u32))) .nil), []⟩], [0]⟩
def bytes_Table_ft (fu : Nat) : FnT := ⟨11, ⟨.nil, []⟩, [⟨(.cons (.p (.arr 256 (.int .u32))) .nil), []⟩], fun t => bytes_Table fu ⟩
theorem bytes_Table_eq (fu : Nat) : ∀ t, evF Go.Proofs.Try.prog [bytes_halved_ft fu] fu Go.Proofs.Try.f11 bytes_Table_fa t = (bytes_Table_ft fu).spec t := fun t => by kernel_rfl
theorem bytes_Table_told (fu : Nat) : Told Go.Proofs.Try.prog (bytes_Table_ft fu) := told_of (allT_cons (bytes_halved_told fu) allT_nil) mixed Go.Proofs.Try.func11 (by kernel_rfl) (by kernel_rfl) (bytes_Table_eq fu)

def bytes_GetUint_l0 (fu : Nat) (b : List (UInt8)) (at_ : Int) (n : Int) (to_ : Int) : Option ((Int × Int) ⊕ (Unit ⊕ (Int × (Int × Int)))) :=
  bif (decide (to_ < ((b.length : Nat) : Int))) then
    (idx? to_ b.length).bind fun q =>
    (b)[q]?.bind fun r =>
    Option.bind (α := (Bool)) (
      bif (decide ((IntKind.wrap .i64 (to_ - at_)) > 0)) then
        bif (((r.toNat : Nat) : Int) == 0) then
          some true
        else
          bif (decide ((IntKind.wrap .i64 (to_ - at_)) > 8)) then
            some (decide (((r.toNat : Nat) : Int) > 1))
          else
            some false
      else
        bif (decide ((IntKind.wrap .i64 (to_ - at_)) > 8)) then
          some (decide (((r.toNat : Nat) : Int) > 1))
        else
          some false) fun o1 =>
    bif o1 then
      some (.inr (.inr (0, (0, 10))))
    else
      need (decide (0 ≤ (IntKind.wrap .i64 (7 * (IntKind.wrap .i64 (to_ - at_)))))) <|
      bif (decide (((r.toNat : Nat) : Int) < 128)) then
        some (.inr (.inr ((IntKind.wrap .u64 (n + (IntKind.wrap .u64 ((IntKind.wrap .u64 (Int.tmod ((r.toNat : Nat) : Int) 128)) * (2 ^ (min ((IntKind.wrap .i64 (7 * (IntKind.wrap .i64 (to_ - at_))))).toNat 64)))))), ((IntKind.wrap .i64 (to_ + 1)), 0))))
      else
        some (.inl ((IntKind.wrap .u64 (n + (IntKind.wrap .u64 ((IntKind.wrap .u64 (Int.tmod ((r.toNat : Nat) : Int) 128)) * (2 ^ (min ((IntKind.wrap .i64 (7 * (IntKind.wrap .i64 (to_ - at_))))).toNat 64)))))), (IntKind.wrap .i64 (to_ + 1))))
  else
    some (.inr (.inl ()))
def bytes_GetUint_l0_it (fu : Nat) (b : List (UInt8)) (at_ : Int) (tt : (Int × Int)) : Option (Unit ⊕ (Int × (Int × Int))) :=
  iter fu (fun tt => bytes_GetUint_l0 fu b at_ tt.1 tt.2) tt
def bytes_GetUint (fu : Nat) (b : List (UInt8)) (at_ : Int) : Option ((Int × (Int × Int))) :=
  Option.bind (α := (Bool)) (
    bif (decide (at_ < 0)) then
      some true
    else
      some (decide (at_ > ((b.length : Nat) : Int)))) fun o =>
  bif o then
    some (0, (0, 2))
  else
    (bytes_GetUint_l0_it fu b at_ (0, at_)).bind fun o2 =>
    match o2 with
    | .inl s =>
      some (0, (0, 11))
    | .inr o3 =>
      some o3
def bytes_GetUint_fa : FnA := ⟨.two (.leaf) (.two (.two (.join ⟨[18], ⟨(.cons (.p .bool) .nil), []⟩⟩ false [] (.leaf)) (.two (.leaf) (.leaf))) (.two (.leaf) (.two (.two (.leaf) (.one (.loop ⟨[7, 8], ⟨(.cons (.p (.int .u64)) (.cons (.p (.int .i64)) .nil)), []⟩⟩ true [(0, ⟨[], ⟨.nil, []⟩⟩)] (.two (.two (.leaf) (.leaf)) (.two (.one (.two (.leaf) (.two (.two (.join ⟨[46], ⟨(.cons (.p .bool) .nil), []⟩⟩ false [] (.leaf)) (.two (.leaf) (.leaf))) (.two (.leaf) (.two (.leaf) (.two (.leaf) (.leaf))))))) (.leaf)))))) (.leaf)))), ⟨(.cons (.p (.sl .byte)) (.cons (.p (.int .i64)) .nil)), []⟩, [⟨(.cons (.p (.int .u64)) (.cons (.p (.int .i64)) (.cons (.p (.int .i64)) .nil))), []⟩], [0, 0, 0]⟩
def bytes_GetUint_ft (fu : Nat) : FnT := ⟨14, ⟨(.cons (.p (.sl .byte)) (.cons (.p (.int .i64)) .nil)), []⟩, [⟨(.cons (.p (.int .u64)) (.cons (.p (.int .i64)) (.cons (.p (.int .i64)) .nil))), []⟩], fun t => bytes_GetUint fu t.1 t.2⟩
theorem bytes_GetUint_eq (fu : Nat) : ∀ t, evF Go.Proofs.Try.prog [] fu Go.Proofs.Try.f14 bytes_GetUint_fa t = (bytes_GetUint_ft fu).spec t := fun t => by kernel_rfl
theorem bytes_GetUint_told (fu : Nat) : Told Go.Proofs.Try.prog (bytes_GetUint_ft fu) := told_of allT_nil mixed Go.Proofs.Try.func14 (by kernel_rfl) (by kernel_rfl) (bytes_GetUint_eq fu)

def ref01_Halved (fu : Nat) (n : Int) : Option (Int) :=
  bif ((Int.tmod n 2) == 0) then
    some (IntKind.wrap .u32 (Int.tdiv n 2))
  else
    some (bitsI .xor .u32 (IntKind.wrap .u32 (Int.tdiv (IntKind.wrap .u32 (n - 1)) 2)) 2197175160)
def ref01_Halved_fa : FnA := ⟨.two (.leaf) (.two (.two (.leaf) (.two (.leaf) (.leaf))) (.leaf)), ⟨(.cons (.p (.int .u32)) .nil), []⟩, [⟨(.cons (.p (.int .u32)) .nil), []⟩], [0]⟩
def ref01_Halved_ft (fu : Nat) : FnT := ⟨37, ⟨(.cons (.p (.int .u32)) .nil), []⟩, [⟨(.cons (.p (.int .u32)) .nil), []⟩], fun t => ref01_Halved fu t⟩
theorem ref01_Halved_eq (fu : Nat) : ∀ t, evF Go.Proofs.Try.prog [] fu Go.Proofs.Try.f37 ref01_Halved_fa t = (ref01_Halved_ft fu).spec t := fun t => by kernel_rfl
theorem ref01_Halved_told (fu : Nat) : Told Go.Proofs.Try.prog (ref01_Halved_ft fu) := told_of allT_nil mixed Go.Proofs.Try.func37 (by kernel_rfl) (by kernel_rfl) (ref01_Halved_eq fu)

def ref01_Entry_l0 (fu : Nat) (n : Int) (k : Int) : Option ((Int × Int) ⊕ (Int)) :=
  bif (decide (k < 8)) then
    (ref01_Halved fu n).bind fun r =>
    some (.inl (r, (IntKind.wrap .i64 (k + 1))))
  else
    some (.inr n)
def ref01_Entry_l0_it (fu : Nat)  (tt : (Int × Int)) : Option (Int) :=
  iter fu (fun tt => ref01_Entry_l0 fu tt.1 tt.2) tt
def ref01_Entry (fu : Nat) (i : Int) : Option (Int) :=
  (ref01_Entry_l0_it fu  ((IntKind.wrap .u32 i), 0)).bind fun o =>
  some o
def ref01_Entry_fa : FnA := ⟨.two (.leaf) (.two (.leaf) (.two (.two (.leaf) (.one (.loop ⟨[3, 4], ⟨(.cons (.p (.int .u32)) (.cons (.p (.int .i64)) .nil)), []⟩⟩ false [(0, ⟨[3], ⟨(.cons (.p (.int .u32)) .nil), []⟩⟩)] (.two (.two (.leaf) (.leaf)) (.two (.one (.reg [(1, {  })])) (.leaf)))))) (.leaf))), ⟨(.cons (.p (.int .i64)) .nil), []⟩, [⟨(.cons (.p (.int .u32)) .nil), []⟩], [0]⟩
def ref01_Entry_ft (fu : Nat) : FnT := ⟨20, ⟨(.cons (.p (.int .i64)) .nil), []⟩, [⟨(.cons (.p (.int .u32)) .nil), []⟩], fun t => ref01_Entry fu t⟩
theorem ref01_Entry_eq (fu : Nat) : ∀ t, evF Go.Proofs.Try.prog [ref01_Halved_ft fu] fu Go.Proofs.Try.f20 ref01_Entry_fa t = (ref01_Entry_ft fu).spec t := fun t => by kernel_rfl
theorem ref01_Entry_told (fu : Nat) : Told Go.Proofs.Try.prog (ref01_Entry_ft fu) := told_of (allT_cons (ref01_Halved_told fu) allT_nil) mixed Go.Proofs.Try.func20 (by kernel_rfl) (by kernel_rfl) (ref01_Entry_eq fu)

def bytes_Uint_n0_l0 (fu : Nat) (n1 : Int) (h : List (UInt8)) : Option ((Int × List (UInt8)) ⊕ ((Int × List (UInt8)))) :=
  bif (decide (n1 > 127)) then
    (byte? (IntKind.wrap .u8 (IntKind.wrap .u64 ((Int.tmod n1 128) + 128)))).bind fun c =>
    need ((Nat.ble ((h.length + 1) * 1) room) && (Nat.ble (h.length + 1) room)) <|
    some (.inl ((IntKind.wrap .u64 (Int.tdiv n1 128)), (h ++ [c])))
  else
    some (.inr (n1, h))
def bytes_Uint_n0_l0_it (fu : Nat)  (tt : (Int × List (UInt8))) : Option ((Int × List (UInt8))) :=
  iter fu (fun tt => bytes_Uint_n0_l0 fu tt.1 tt.2) tt
def bytes_Uint_n0 (fu : Nat) (n : Int) : Option (List (UInt8)) :=
  (bytes_Uint_n0_l0_it fu  (n, [])).bind fun o =>
  (byte? (IntKind.wrap .u8 o.1)).bind fun c1 =>
  need ((Nat.ble ((o.2.length + 1) * 1) room) && (Nat.ble (o.2.length + 1) room)) <|
  some (o.2 ++ [c1])
def bytes_Uint_n0_fa : FnA := ⟨.two (.leaf) (.two (.one (.pre (.ownNil 0 5 100) (.loop ⟨[0, 1], ⟨(.cons (.slf 1 100) (.cons (.p (.int .u64)) .nil)), [(100, false, (.rows 5 .byte))]⟩⟩ false [(0, ⟨[0, 1], ⟨(.cons (.slf 1 100) (.cons (.p (.int .u64)) .nil)), [(100, false, (.rows 5 .byte))]⟩⟩)] (.two (.two (.leaf) (.leaf)) (.one (.reg [(5, { ids := [101] }), (6, { ids := [102] })])))))) (.two (.reg [(3, { ids := [103] }), (4, { ids := [104] })]) (.leaf))), ⟨(.cons (.nilp (.slice none 0 0)) (.cons (.p (.int .u64)) .nil)), []⟩, [⟨(.cons (.slf 1 0) .nil), [(0, false, (.rows 5 .byte))]⟩], [0]⟩
def bytes_Uint_n0_ft (fu : Nat) : FnT := ⟨15, ⟨(.cons (.nilp (.slice none 0 0)) (.cons (.p (.int .u64)) .nil)), []⟩, [⟨(.cons (.slf 1 0) .nil), [(0, false, (.rows 5 .byte))]⟩], fun t => bytes_Uint_n0 fu t⟩
theorem bytes_Uint_n0_eq (fu : Nat) : ∀ t, evF Go.Proofs.Try.prog [] fu Go.Proofs.Try.f15 bytes_Uint_n0_fa t = (bytes_Uint_n0_ft fu).spec t := fun t => by kernel_rfl
theorem bytes_Uint_n0_told (fu : Nat) : Told Go.Proofs.Try.prog (bytes_Uint_n0_ft fu) := told_of allT_nil mixed Go.Proofs.Try.func15 (by kernel_rfl) (by kernel_rfl) (bytes_Uint_n0_eq fu)

def law01_comes (fu : Nat) (b : List UInt8) (at_ : Int) : Option (List UInt8) :=
  need (Nat.ble b.length room) <|
  (bytes_GetUint fu b at_).bind fun r =>
  bif (!(r.2.2 == 0)) then
    Option.bind (α := (Bool)) (
      bif (!(r.1 == 0)) then
        some true
      else
        some (!(r.2.1 == 0))) fun o =>
    bif o then
      some [115, 111, 109, 101, 116, 104, 105, 110, 103, 32, 98, 101, 115, 105, 100, 101, 32, 97, 110, 32, 101, 114, 114, 111, 114]
    else
      (bytes_Uint_n0 fu (IntKind.wrap .u64 r.2.2)).bind fun r1 =>
      need (Nat.ble (6 + r1.length) room) <|
      some ([101, 114, 114, 111, 114, 32] ++ r1)
  else
    (bytes_Uint_n0 fu r.1).bind fun r2 =>
    need (Nat.ble (r2.length + 1) room) <|
    (bytes_Uint_n0 fu (IntKind.wrap .u64 r.2.1)).bind fun r3 =>
    need (Nat.ble ((r2 ++ [32]).length + r3.length) room) <|
    some ((r2 ++ [32]) ++ r3)
def law01_comes_fa : FnA := ⟨.two (.leaf) (.two (.reg [(1, { ids := [100] }), (3, { md := [2, 0] })]) (.two (.two (.leaf) (.two (.two (.two (.join ⟨[23], ⟨(.cons (.p .bool) .nil), []⟩⟩ false [] (.leaf)) (.two (.leaf) (.leaf))) (.two (.reg [(2, { ids := [101], fn := 1 })]) (.leaf))) (.leaf))) (.two (.reg [(1, { ids := [102], fn := 1 }), (6, { ids := [103], fn := 1 })]) (.leaf)))), ⟨(.cons (.p .str) (.cons (.p (.int .i64)) .nil)), []⟩, [⟨(.cons (.p .str) .nil), []⟩], [0]⟩
def law01_comes_ft (fu : Nat) : FnT := ⟨21, ⟨(.cons (.p .str) (.cons (.p (.int .i64)) .nil)), []⟩, [⟨(.cons (.p .str) .nil), []⟩], fun t => law01_comes fu t.1 t.2⟩
theorem law01_comes_eq (fu : Nat) : ∀ t, evF Go.Proofs.Try.prog [bytes_GetUint_ft fu, bytes_Uint_n0_ft fu] fu Go.Proofs.Try.f21 law01_comes_fa t = (law01_comes_ft fu).spec t := fun t => by kernel_rfl
theorem law01_comes_told (fu : Nat) : Told Go.Proofs.Try.prog (law01_comes_ft fu) := told_of (allT_cons (bytes_GetUint_told fu) (allT_cons (bytes_Uint_n0_told fu) allT_nil)) mixed Go.Proofs.Try.func21 (by kernel_rfl) (by kernel_rfl) (law01_comes_eq fu)

def slices_Clone__byte_byte (fu : Nat) (s : List (UInt8)) : Option (List (UInt8)) :=
  nilQ s.length fun isNil =>
  bif isNil then
    some []
  else
    need ((Nat.ble ((0 + s.length) * 1) room) && (Nat.ble (0 + s.length) room)) <|
    some s
def slices_Clone__byte_byte_fa : FnA := ⟨.two (.leaf) (.two (.two (.leaf) (.two (.leaf) (.leaf))) (.two (.reg [(0, { ids := [100] }), (2, { ids := [101] })]) (.leaf))), ⟨(.cons (.p (.sl .byte)) .nil), []⟩, [⟨(.cons (.slf 1 0) .nil), [(0, false, (.rows 5 .byte))]⟩], [15]⟩
def slices_Clone__byte_byte_ft (fu : Nat) : FnT := ⟨36, ⟨(.cons (.p (.sl .byte)) .nil), []⟩, [⟨(.cons (.slf 1 0) .nil), [(0, false, (.rows 5 .byte))]⟩], fun t => slices_Clone__byte_byte fu t⟩
theorem slices_Clone__byte_byte_eq (fu : Nat) : ∀ t, evF Go.Proofs.Try.prog [] fu Go.Proofs.Try.f36 slices_Clone__byte_byte_fa t = (slices_Clone__byte_byte_ft fu).spec t := fun t => by kernel_rfl
theorem slices_Clone__byte_byte_told (fu : Nat) : Told Go.Proofs.Try.prog (slices_Clone__byte_byte_ft fu) := told_of allT_nil mixed Go.Proofs.Try.func36 (by kernel_rfl) (by kernel_rfl) (slices_Clone__byte_byte_eq fu)

def bytes_GetBlob (fu : Nat) (b : List (UInt8)) (at_ : Int) (most : Int) : Option ((Int × (Int × List (UInt8)))) :=
  (bytes_GetUint fu b at_).bind fun r =>
  bif (!(r.2.2 == 0)) then
    some (0, (r.2.2, []))
  else
    Option.bind (α := (Bool)) (
      bif (decide (most < 0)) then
        some (decide (most < 0))
      else
        some (decide (r.1 > (IntKind.wrap .u64 most)))) fun o =>
    bif o then
      some (0, (3, []))
    else
      bif (decide (r.1 > (IntKind.wrap .u64 (IntKind.wrap .i64 (((b.length : Nat) : Int) - r.2.1))))) then
        some (0, (11, []))
      else
        (upto? r.2.1 b.length).bind fun q =>
        (upto? r.1 (List.drop q b).length).bind fun q1 =>
        (slices_Clone__byte_byte fu (List.take q1 (List.drop q b))).bind fun r1 =>
        some ((IntKind.wrap .i64 (r.2.1 + (((List.take q1 (List.drop q b)).length : Nat) : Int))), (0, r1))
def bytes_GetBlob_fa : FnA := ⟨.two (.leaf) (.two (.reg [(2, {  })]) (.two (.leaf) (.two (.one (.two (.leaf) (.two (.leaf) (.two (.two (.leaf) (.join ⟨[30], ⟨(.cons (.p .bool) .nil), []⟩⟩ false [] (.leaf))) (.two (.leaf) (.two (.leaf) (.two (.leaf) (.leaf)))))))) (.two (.leaf) (.two (.reg [(1, { ids := [100], fn := 1 })]) (.leaf)))))), ⟨(.cons (.p (.sl .byte)) (.cons (.p (.int .i64)) (.cons (.p (.int .i64)) .nil))), []⟩, [⟨(.cons (.slf 1 0) (.cons (.p (.int .i64)) (.cons (.p (.int .i64)) .nil))), [(0, false, (.rows 5 .byte))]⟩], [15, 0, 0]⟩
def bytes_GetBlob_ft (fu : Nat) : FnT := ⟨22, ⟨(.cons (.p (.sl .byte)) (.cons (.p (.int .i64)) (.cons (.p (.int .i64)) .nil))), []⟩, [⟨(.cons (.slf 1 0) (.cons (.p (.int .i64)) (.cons (.p (.int .i64)) .nil))), [(0, false, (.rows 5 .byte))]⟩], fun t => bytes_GetBlob fu t.1 t.2.1 t.2.2⟩
theorem bytes_GetBlob_eq (fu : Nat) : ∀ t, evF Go.Proofs.Try.prog [bytes_GetUint_ft fu, slices_Clone__byte_byte_ft fu] fu Go.Proofs.Try.f22 bytes_GetBlob_fa t = (bytes_GetBlob_ft fu).spec t := fun t => by kernel_rfl
theorem bytes_GetBlob_told (fu : Nat) : Told Go.Proofs.Try.prog (bytes_GetBlob_ft fu) := told_of (allT_cons (bytes_GetUint_told fu) (allT_cons (slices_Clone__byte_byte_told fu) allT_nil)) mixed Go.Proofs.Try.func22 (by kernel_rfl) (by kernel_rfl) (bytes_GetBlob_eq fu)

def bytes_Sum_l0 (fu : Nat) (b : List (UInt8)) (t : List (Int)) (s : Int) (x : Int) : Option ((Int × Int) ⊕ (Int)) :=
  bif (decide (x < ((b.length : Nat) : Int))) then
    (idx? x b.length).bind fun q =>
    (b)[q]?.bind fun r =>
    (idx? (bitsI .xor .u8 (IntKind.wrap .u8 s) ((r.toNat : Nat) : Int)) 256).bind fun q1 =>
    (t)[q1]?.bind fun r1 =>
    some (.inl ((bitsI .xor .u32 r1 (Int.fdiv s 256)), (IntKind.wrap .i64 (x + 1))))
  else
    some (.inr s)
def bytes_Sum_l0_it (fu : Nat) (b : List (UInt8)) (t : List (Int)) (tt : (Int × Int)) : Option (Int) :=
  iter fu (fun tt => bytes_Sum_l0 fu b t tt.1 tt.2) tt
def bytes_Sum (fu : Nat) (t : List (Int)) (b : List (UInt8)) : Option (Int) :=
  (bytes_Sum_l0_it fu b t (4294967295, 0)).bind fun o =>
  some (IntKind.wrap .u32 (4294967295 - o))
def bytes_Sum_fa : FnA := ⟨.two (.leaf) (.two (.two (.leaf) (.leaf)) (.two (.leaf) (.two (.two (.leaf) (.one (.loop ⟨[5, 11], ⟨(.cons (.p (.int .u32)) (.cons (.p (.int .i64)) .nil)), []⟩⟩ false [(0, ⟨[5], ⟨(.cons (.p (.int .u32)) .nil), []⟩⟩)] (.two (.leaf) (.two (.leaf) (.two (.one (.leaf)) (.leaf))))))) (.leaf)))), ⟨(.cons (.pt (.int .u32)) (.cons (.p (.sl .byte)) .nil)), []⟩, [⟨(.cons (.p (.int .u32)) .nil), []⟩], [0]⟩
def bytes_Sum_ft (fu : Nat) : FnT := ⟨12, ⟨(.cons (.pt (.int .u32)) (.cons (.p (.sl .byte)) .nil)), []⟩, [⟨(.cons (.p (.int .u32)) .nil), []⟩], fun t => bytes_Sum fu t.1 t.2⟩
theorem bytes_Sum_eq (fu : Nat) : ∀ t, evF Go.Proofs.Try.prog [] fu Go.Proofs.Try.f12 bytes_Sum_fa t = (bytes_Sum_ft fu).spec t := fun t => by kernel_rfl
theorem bytes_Sum_told (fu : Nat) : Told Go.Proofs.Try.prog (bytes_Sum_ft fu) := told_of allT_nil mixed Go.Proofs.Try.func12 (by kernel_rfl) (by kernel_rfl) (bytes_Sum_eq fu)

def bytes_Seal_l0 (fu : Nat) (b : List (UInt8)) (r : Int) (x : Int) (h : List (UInt8)) : Option ((Int × List (UInt8)) ⊕ (List (UInt8))) :=
  bif (decide (x < 4)) then
    need (decide (0 ≤ (IntKind.wrap .i64 (8 * x)))) <|
    (idx? (IntKind.wrap .i64 ((IntKind.wrap .i64 ((IntKind.wrap .i64 (((b.length : Nat) : Int) + 4)) - 1)) - x)) h.length).bind fun q1 =>
    (byte? (IntKind.wrap .u8 (Int.fdiv r (2 ^ (min ((IntKind.wrap .i64 (8 * x))).toNat 32))))).bind fun c =>
    (h)[q1]?.bind fun r1 =>
    some (.inl ((IntKind.wrap .i64 (x + 1)), (List.set h q1 c)))
  else
    some (.inr h)
def bytes_Seal_l0_it (fu : Nat) (b : List (UInt8)) (r : Int) (tt : (Int × List (UInt8))) : Option (List (UInt8)) :=
  iter fu (fun tt => bytes_Seal_l0 fu b r tt.1 tt.2) tt
def bytes_Seal (fu : Nat) (t : List (Int)) (b : List (UInt8)) : Option (List (UInt8)) :=
  (upto? (IntKind.wrap .i64 (((b.length : Nat) : Int) + 4)) room).bind fun m =>
  (upto? (IntKind.wrap .i64 (((b.length : Nat) : Int) + 4)) m).bind fun q =>
  need (Nat.ble (m * 1) room) <|
  (bytes_Sum fu t b).bind fun r =>
  (bytes_Seal_l0_it fu b r (0, (List.replicate (α := UInt8) q 0))).bind fun o =>
  some (splice o 0 (List.take o.length b))
def bytes_Seal_fa : FnA := ⟨.two (.leaf) (.two (.reg [(3, { ids := [100] })]) (.two (.reg [(2, {  })]) (.two (.two (.leaf) (.one (.loop ⟨[5, 15], ⟨(.cons (.slf 1 100) (.cons (.p (.int .i64)) .nil)), [(100, false, (.rows 5 .byte))]⟩⟩ false [(0, ⟨[5], ⟨(.cons (.slf 1 100) .nil), [(100, false, (.rows 5 .byte))]⟩⟩)] (.two (.leaf) (.two (.leaf) (.two (.one (.leaf)) (.leaf))))))) (.two (.leaf) (.leaf))))), ⟨(.cons (.pt (.int .u32)) (.cons (.p (.sl .byte)) .nil)), []⟩, [⟨(.cons (.slf 1 0) .nil), [(0, false, (.rows 5 .byte))]⟩], [0]⟩
def bytes_Seal_ft (fu : Nat) : FnT := ⟨16, ⟨(.cons (.pt (.int .u32)) (.cons (.p (.sl .byte)) .nil)), []⟩, [⟨(.cons (.slf 1 0) .nil), [(0, false, (.rows 5 .byte))]⟩], fun t => bytes_Seal fu t.1 t.2⟩
theorem bytes_Seal_eq (fu : Nat) : ∀ t, evF Go.Proofs.Try.prog [bytes_Sum_ft fu] fu Go.Proofs.Try.f16 bytes_Seal_fa t = (bytes_Seal_ft fu).spec t := fun t => by kernel_rfl
theorem bytes_Seal_told (fu : Nat) : Told Go.Proofs.Try.prog (bytes_Seal_ft fu) := told_of (allT_cons (bytes_Sum_told fu) allT_nil) mixed Go.Proofs.Try.func16 (by kernel_rfl) (by kernel_rfl) (bytes_Seal_eq fu)

def bytes_Unseal (fu : Nat) (t : List (Int)) (b : List (UInt8)) : Option ((List (UInt8) × Int)) :=
  bif (decide (((b.length : Nat) : Int) < 4)) then
    some ([], 11)
  else
    (upto? (IntKind.wrap .i64 (((b.length : Nat) : Int) - 4)) b.length).bind fun q =>
    (slices_Clone__byte_byte fu (List.take q b)).bind fun r =>
    (bytes_Seal fu t r).bind fun r1 =>
    bif (!(r1 == b)) then
      some ([], 12)
    else
      some (r, 0)
def bytes_Unseal_fa : FnA := ⟨.two (.leaf) (.two (.two (.leaf) (.two (.leaf) (.leaf))) (.two (.reg [(5, { ids := [100] })]) (.two (.two (.reg [(2, { ids := [101], md := [0, 1], fn := 1 })]) (.two (.leaf) (.leaf))) (.leaf)))), ⟨(.cons (.pt (.int .u32)) (.cons (.p (.sl .byte)) .nil)), []⟩, [⟨(.cons (.p (.sl .byte)) (.cons (.p (.int .i64)) .nil)), []⟩], [1, 0]⟩
def bytes_Unseal_ft (fu : Nat) : FnT := ⟨19, ⟨(.cons (.pt (.int .u32)) (.cons (.p (.sl .byte)) .nil)), []⟩, [⟨(.cons (.p (.sl .byte)) (.cons (.p (.int .i64)) .nil)), []⟩], fun t => bytes_Unseal fu t.1 t.2⟩
theorem bytes_Unseal_eq (fu : Nat) : ∀ t, evF Go.Proofs.Try.prog [slices_Clone__byte_byte_ft fu, bytes_Seal_ft fu] fu Go.Proofs.Try.f19 bytes_Unseal_fa t = (bytes_Unseal_ft fu).spec t := fun t => by kernel_rfl
theorem bytes_Unseal_told (fu : Nat) : Told Go.Proofs.Try.prog (bytes_Unseal_ft fu) := told_of (allT_cons (slices_Clone__byte_byte_told fu) (allT_cons (bytes_Seal_told fu) allT_nil)) mixed Go.Proofs.Try.func19 (by kernel_rfl) (by kernel_rfl) (bytes_Unseal_eq fu)

def bytes_Sum_n0 (fu : Nat) (b : List (UInt8)) : Option (Int) :=
  some 0
def bytes_Sum_n0_fa : FnA := ⟨.two (.leaf) (.two (.two (.leaf) (.two (.leaf) (.leaf))) (.leaf)), ⟨(.cons (.nilp (.pointer none)) (.cons (.p (.sl .byte)) .nil)), []⟩, [⟨(.cons (.p (.int .u32)) .nil), []⟩], [0]⟩
def bytes_Sum_n0_ft (fu : Nat) : FnT := ⟨12, ⟨(.cons (.nilp (.pointer none)) (.cons (.p (.sl .byte)) .nil)), []⟩, [⟨(.cons (.p (.int .u32)) .nil), []⟩], fun t => bytes_Sum_n0 fu t⟩
theorem bytes_Sum_n0_eq (fu : Nat) : ∀ t, evF Go.Proofs.Try.prog [] fu Go.Proofs.Try.f12 bytes_Sum_n0_fa t = (bytes_Sum_n0_ft fu).spec t := fun t => by kernel_rfl
theorem bytes_Sum_n0_told (fu : Nat) : Told Go.Proofs.Try.prog (bytes_Sum_n0_ft fu) := told_of allT_nil mixed Go.Proofs.Try.func12 (by kernel_rfl) (by kernel_rfl) (bytes_Sum_n0_eq fu)

def bytes_Seal_n0_l0 (fu : Nat) (b : List (UInt8)) (r : Int) (x : Int) (h : List (UInt8)) : Option ((Int × List (UInt8)) ⊕ (List (UInt8))) :=
  bif (decide (x < 4)) then
    need (decide (0 ≤ (IntKind.wrap .i64 (8 * x)))) <|
    (idx? (IntKind.wrap .i64 ((IntKind.wrap .i64 ((IntKind.wrap .i64 (((b.length : Nat) : Int) + 4)) - 1)) - x)) h.length).bind fun q1 =>
    (byte? (IntKind.wrap .u8 (Int.fdiv r (2 ^ (min ((IntKind.wrap .i64 (8 * x))).toNat 32))))).bind fun c =>
    (h)[q1]?.bind fun r1 =>
    some (.inl ((IntKind.wrap .i64 (x + 1)), (List.set h q1 c)))
  else
    some (.inr h)
def bytes_Seal_n0_l0_it (fu : Nat) (b : List (UInt8)) (r : Int) (tt : (Int × List (UInt8))) : Option (List (UInt8)) :=
  iter fu (fun tt => bytes_Seal_n0_l0 fu b r tt.1 tt.2) tt
def bytes_Seal_n0 (fu : Nat) (b : List (UInt8)) : Option (List (UInt8)) :=
  (upto? (IntKind.wrap .i64 (((b.length : Nat) : Int) + 4)) room).bind fun m =>
  (upto? (IntKind.wrap .i64 (((b.length : Nat) : Int) + 4)) m).bind fun q =>
  need (Nat.ble (m * 1) room) <|
  (bytes_Sum_n0 fu b).bind fun r =>
  (bytes_Seal_n0_l0_it fu b r (0, (List.replicate (α := UInt8) q 0))).bind fun o =>
  some (splice o 0 (List.take o.length b))
def bytes_Seal_n0_fa : FnA := ⟨.two (.leaf) (.two (.reg [(3, { ids := [100] })]) (.two (.reg [(2, {  })]) (.two (.two (.leaf) (.one (.loop ⟨[5, 15], ⟨(.cons (.slf 1 100) (.cons (.p (.int .i64)) .nil)), [(100, false, (.rows 5 .byte))]⟩⟩ false [(0, ⟨[5], ⟨(.cons (.slf 1 100) .nil), [(100, false, (.rows 5 .byte))]⟩⟩)] (.two (.leaf) (.two (.leaf) (.two (.one (.leaf)) (.leaf))))))) (.two (.leaf) (.leaf))))), ⟨(.cons (.nilp (.pointer none)) (.cons (.p (.sl .byte)) .nil)), []⟩, [⟨(.cons (.slf 1 0) .nil), [(0, false, (.rows 5 .byte))]⟩], [0]⟩
def bytes_Seal_n0_ft (fu : Nat) : FnT := ⟨16, ⟨(.cons (.nilp (.pointer none)) (.cons (.p (.sl .byte)) .nil)), []⟩, [⟨(.cons (.slf 1 0) .nil), [(0, false, (.rows 5 .byte))]⟩], fun t => bytes_Seal_n0 fu t⟩
theorem bytes_Seal_n0_eq (fu : Nat) : ∀ t, evF Go.Proofs.Try.prog [bytes_Sum_n0_ft fu] fu Go.Proofs.Try.f16 bytes_Seal_n0_fa t = (bytes_Seal_n0_ft fu).spec t := fun t => by kernel_rfl
theorem bytes_Seal_n0_told (fu : Nat) : Told Go.Proofs.Try.prog (bytes_Seal_n0_ft fu) := told_of (allT_cons (bytes_Sum_n0_told fu) allT_nil) mixed Go.Proofs.Try.func16 (by kernel_rfl) (by kernel_rfl) (bytes_Seal_n0_eq fu)

def bytes_Unseal_n0 (fu : Nat) (b : List (UInt8)) : Option ((List (UInt8) × Int)) :=
  bif (decide (((b.length : Nat) : Int) < 4)) then
    some ([], 11)
  else
    (upto? (IntKind.wrap .i64 (((b.length : Nat) : Int) - 4)) b.length).bind fun q =>
    (slices_Clone__byte_byte fu (List.take q b)).bind fun r =>
    (bytes_Seal_n0 fu r).bind fun r1 =>
    bif (!(r1 == b)) then
      some ([], 12)
    else
      some (r, 0)
def bytes_Unseal_n0_fa : FnA := ⟨.two (.leaf) (.two (.two (.leaf) (.two (.leaf) (.leaf))) (.two (.reg [(5, { ids := [100] })]) (.two (.two (.reg [(2, { ids := [101], md := [0, 1], fn := 1 })]) (.two (.leaf) (.leaf))) (.leaf)))), ⟨(.cons (.nilp (.pointer none)) (.cons (.p (.sl .byte)) .nil)), []⟩, [⟨(.cons (.p (.sl .byte)) (.cons (.p (.int .i64)) .nil)), []⟩], [1, 0]⟩
def bytes_Unseal_n0_ft (fu : Nat) : FnT := ⟨19, ⟨(.cons (.nilp (.pointer none)) (.cons (.p (.sl .byte)) .nil)), []⟩, [⟨(.cons (.p (.sl .byte)) (.cons (.p (.int .i64)) .nil)), []⟩], fun t => bytes_Unseal_n0 fu t⟩
theorem bytes_Unseal_n0_eq (fu : Nat) : ∀ t, evF Go.Proofs.Try.prog [slices_Clone__byte_byte_ft fu, bytes_Seal_n0_ft fu] fu Go.Proofs.Try.f19 bytes_Unseal_n0_fa t = (bytes_Unseal_n0_ft fu).spec t := fun t => by kernel_rfl
theorem bytes_Unseal_n0_told (fu : Nat) : Told Go.Proofs.Try.prog (bytes_Unseal_n0_ft fu) := told_of (allT_cons (slices_Clone__byte_byte_told fu) (allT_cons (bytes_Seal_n0_told fu) allT_nil)) mixed Go.Proofs.Try.func19 (by kernel_rfl) (by kernel_rfl) (bytes_Unseal_n0_eq fu)

def slices_Grow__byte_byte_n0 (fu : Nat) (n : Int) : Option (List (UInt8)) :=
  bif (decide (n < 0)) then
    none
  else
    bif (decide ((IntKind.wrap .i64 (n - 0)) > 0)) then
      (upto? (IntKind.wrap .i64 (n - 0)) room).bind fun q =>
      need ((Nat.ble (q * 1) room) && (Nat.ble q room)) <|
      (upto? 0 (List.replicate (α := UInt8) q 0).length).bind fun q1 =>
      need (Nat.ble q1 (List.replicate (α := UInt8) q 0).length) <|
      some (List.take q1 (List.replicate (α := UInt8) q 0))
    else
      some []
def slices_Grow__byte_byte_n0_fa : FnA := ⟨.two (.leaf) (.two (.two (.leaf) (.leaf)) (.two (.two (.leaf) (.two (.leaf) (.two (.reg [(5, { ids := [100] })]) (.leaf)))) (.leaf))), ⟨(.cons (.nilp (.slice none 0 0)) (.cons (.p (.int .i64)) .nil)), []⟩, [⟨(.cons (.slf 1 0) .nil), [(0, false, (.rows 5 .byte))]⟩], [15]⟩
def slices_Grow__byte_byte_n0_ft (fu : Nat) : FnT := ⟨41, ⟨(.cons (.nilp (.slice none 0 0)) (.cons (.p (.int .i64)) .nil)), []⟩, [⟨(.cons (.slf 1 0) .nil), [(0, false, (.rows 5 .byte))]⟩], fun t => slices_Grow__byte_byte_n0 fu t⟩
theorem slices_Grow__byte_byte_n0_eq (fu : Nat) : ∀ t, evF Go.Proofs.Try.prog [] fu Go.Proofs.Try.f41 slices_Grow__byte_byte_n0_fa t = (slices_Grow__byte_byte_n0_ft fu).spec t := fun t => by kernel_rfl
theorem slices_Grow__byte_byte_n0_told (fu : Nat) : Told Go.Proofs.Try.prog (slices_Grow__byte_byte_n0_ft fu) := told_of allT_nil mixed Go.Proofs.Try.func41 (by kernel_rfl) (by kernel_rfl) (slices_Grow__byte_byte_n0_eq fu)

def slices_Concat__byte_byte_l0 (fu : Nat) (slices : List (List (UInt8))) (size : Int) (x : Int) : Option ((Int × Int) ⊕ (Int)) :=
  bif (decide (x < ((slices.length : Nat) : Int))) then
    (idx? x slices.length).bind fun q =>
    (slices)[q]?.bind fun r =>
    bif (decide ((IntKind.wrap .i64 (size + ((r.length : Nat) : Int))) < 0)) then
      none
    else
      some (.inl ((IntKind.wrap .i64 (size + ((r.length : Nat) : Int))), (IntKind.wrap .i64 (x + 1))))
  else
    some (.inr size)
def slices_Concat__byte_byte_l0_it (fu : Nat) (slices : List (List (UInt8))) (tt : (Int × Int)) : Option (Int) :=
  iter fu (fun tt => slices_Concat__byte_byte_l0 fu slices tt.1 tt.2) tt
def slices_Concat__byte_byte_l1 (fu : Nat) (slices : List (List (UInt8))) (x1 : Int) (h : List (UInt8)) : Option ((Int × List (UInt8)) ⊕ (List (UInt8))) :=
  bif (decide (x1 < ((slices.length : Nat) : Int))) then
    (idx? x1 slices.length).bind fun q1 =>
    (slices)[q1]?.bind fun r2 =>
    need ((Nat.ble ((h.length + r2.length) * 1) room) && (Nat.ble (h.length + r2.length) room)) <|
    some (.inl ((IntKind.wrap .i64 (x1 + 1)), (h ++ r2)))
  else
    some (.inr h)
def slices_Concat__byte_byte_l1_it (fu : Nat) (slices : List (List (UInt8))) (tt : (Int × List (UInt8))) : Option (List (UInt8)) :=
  iter fu (fun tt => slices_Concat__byte_byte_l1 fu slices tt.1 tt.2) tt
def slices_Concat__byte_byte (fu : Nat) (slices : List (List (UInt8))) : Option (List (UInt8)) :=
  (slices_Concat__byte_byte_l0_it fu slices (0, 0)).bind fun o =>
  (slices_Grow__byte_byte_n0 fu o).bind fun r1 =>
  (slices_Concat__byte_byte_l1_it fu slices (0, r1)).bind fun o1 =>
  some o1
def slices_Concat__byte_byte_fa : FnA := ⟨.two (.leaf) (.two (.leaf) (.two (.two (.leaf) (.one (.loop ⟨[3, 11], ⟨(.cons (.p (.int .i64)) (.cons (.p (.int .i64)) .nil)), []⟩⟩ false [(0, ⟨[3], ⟨(.cons (.p (.int .i64)) .nil), []⟩⟩)] (.two (.leaf) (.two (.leaf) (.two (.one (.two (.leaf) (.two (.leaf) (.two (.leaf) (.leaf))))) (.leaf))))))) (.two (.reg [(1, { ids := [100] })]) (.two (.two (.leaf) (.one (.loop ⟨[6, 27], ⟨(.cons (.slf 1 100) (.cons (.p (.int .i64)) .nil)), [(100, false, (.rows 5 .byte))]⟩⟩ false [(2, ⟨[6], ⟨(.cons (.slf 1 100) .nil), [(100, false, (.rows 5 .byte))]⟩⟩)] (.two (.leaf) (.two (.leaf) (.two (.one (.two (.leaf) (.reg [(2, { ids := [101] })]))) (.leaf))))))) (.leaf))))), ⟨(.cons (.p (.sl (.sl .byte))) .nil), []⟩, [⟨(.cons (.slf 1 0) .nil), [(0, false, (.rows 5 .byte))]⟩], [0]⟩
def slices_Concat__byte_byte_ft (fu : Nat) : FnT := ⟨40, ⟨(.cons (.p (.sl (.sl .byte))) .nil), []⟩, [⟨(.cons (.slf 1 0) .nil), [(0, false, (.rows 5 .byte))]⟩], fun t => slices_Concat__byte_byte fu t⟩
theorem slices_Concat__byte_byte_eq (fu : Nat) : ∀ t, evF Go.Proofs.Try.prog [slices_Grow__byte_byte_n0_ft fu] fu Go.Proofs.Try.f40 slices_Concat__byte_byte_fa t = (slices_Concat__byte_byte_ft fu).spec t := fun t => by kernel_rfl
theorem slices_Concat__byte_byte_told (fu : Nat) : Told Go.Proofs.Try.prog (slices_Concat__byte_byte_ft fu) := told_of (allT_cons (slices_Grow__byte_byte_n0_told fu) allT_nil) mixed Go.Proofs.Try.func40 (by kernel_rfl) (by kernel_rfl) (slices_Concat__byte_byte_eq fu)

def bytes_Blob_n0 (fu : Nat) (b : List (UInt8)) : Option (List (UInt8)) :=
  (bytes_Uint_n0 fu (IntKind.wrap .u64 ((b.length : Nat) : Int))).bind fun r =>
  (slices_Concat__byte_byte fu [r, b]).bind fun r1 =>
  some r1
def bytes_Blob_n0_fa : FnA := ⟨.two (.leaf) (.two (.reg [(4, { ids := [100] }), (6, { ids := [101] }), (7, { ids := [102], md := [1], fn := 1 })]) (.leaf)), ⟨(.cons (.nilp (.slice none 0 0)) (.cons (.p (.sl .byte)) .nil)), []⟩, [⟨(.cons (.slf 1 0) .nil), [(0, false, (.rows 5 .byte))]⟩], [0]⟩
def bytes_Blob_n0_ft (fu : Nat) : FnT := ⟨26, ⟨(.cons (.nilp (.slice none 0 0)) (.cons (.p (.sl .byte)) .nil)), []⟩, [⟨(.cons (.slf 1 0) .nil), [(0, false, (.rows 5 .byte))]⟩], fun t => bytes_Blob_n0 fu t⟩
theorem bytes_Blob_n0_eq (fu : Nat) : ∀ t, evF Go.Proofs.Try.prog [bytes_Uint_n0_ft fu, slices_Concat__byte_byte_ft fu] fu Go.Proofs.Try.f26 bytes_Blob_n0_fa t = (bytes_Blob_n0_ft fu).spec t := fun t => by kernel_rfl
theorem bytes_Blob_n0_told (fu : Nat) : Told Go.Proofs.Try.prog (bytes_Blob_n0_ft fu) := told_of (allT_cons (bytes_Uint_n0_told fu) (allT_cons (slices_Concat__byte_byte_told fu) allT_nil)) mixed Go.Proofs.Try.func26 (by kernel_rfl) (by kernel_rfl) (bytes_Blob_n0_eq fu)

def law01_awake (fu : Nat)  : Option (Bool) :=
  (bytes_Table fu).bind fun r =>
  need (Nat.beq (List.replicate (α := Int) 256 0).length 256) <|
  need (Nat.beq r.length 256) <|
  (bytes_Sum fu r [(UInt8.ofNat 49), (UInt8.ofNat 50), (UInt8.ofNat 51), (UInt8.ofNat 52), (UInt8.ofNat 53), (UInt8.ofNat 54), (UInt8.ofNat 55), (UInt8.ofNat 56), (UInt8.ofNat 57)]).bind fun r1 =>
  (bytes_Uint_n0 fu 300).bind fun r2 =>
  bif (r2 == [172, 2]) then
    (law01_comes fu [172, 2] 0).bind fun r3 =>
    bif (r3 == [172, 2, 32, 2]) then
      (law01_comes fu [128, 0] 0).bind fun r4 =>
      bif (r4 == [101, 114, 114, 111, 114, 32, 10]) then
        (law01_comes fu [128] 0).bind fun r5 =>
        bif (r5 == [101, 114, 114, 111, 114, 32, 11]) then
          (bytes_Blob_n0 fu [(UInt8.ofNat 97), (UInt8.ofNat 98)]).bind fun r6 =>
          bif (r6 == [2, 97, 98]) then
            bif (r1 == 3808858755) then
              (bytes_Seal fu r []).bind fun r7 =>
              bif (r7 == [0, 0, 0, 0]) then
                (r)[0]?.bind fun r8 =>
                bif (r8 == 0) then
                  (r)[128]?.bind fun r9 =>
                  some (r9 == 2197175160)
                else
                  some false
              else
                some false
            else
              some false
          else
            some false
        else
          some false
      else
        some false
    else
      some false
  else
    some false
def law01_awake_fa : FnA := ⟨.two (.leaf) (.two (.reg [(0, {  }), (1, { ids := [100] })]) (.two (.reg [(0, { ids := [101] }), (2, { md := [2, 2], fn := 1 })]) (.two (.reg [(0, { ids := [102], fn := 2 }), (4, { fn := 3 }), (8, { fn := 3 }), (12, { fn := 3 }), (16, { ids := [103] }), (18, { ids := [104], md := [0, 1], fn := 4 }), (27, { ids := [105], md := [1, 0], fn := 5 })]) (.leaf)))), ⟨.nil, []⟩, [⟨(.cons (.p .bool) .nil), []⟩], [0]⟩
def law01_awake_ft (fu : Nat) : FnT := ⟨10, ⟨.nil, []⟩, [⟨(.cons (.p .bool) .nil), []⟩], fun t => law01_awake fu ⟩
theorem law01_awake_eq (fu : Nat) : ∀ t, evF Go.Proofs.Try.prog [bytes_Table_ft fu, bytes_Sum_ft fu, bytes_Uint_n0_ft fu, law01_comes_ft fu, bytes_Blob_n0_ft fu, bytes_Seal_ft fu] fu Go.Proofs.Try.f10 law01_awake_fa t = (law01_awake_ft fu).spec t := fun t => by kernel_rfl
theorem law01_awake_told (fu : Nat) : Told Go.Proofs.Try.prog (law01_awake_ft fu) := told_of (allT_cons (bytes_Table_told fu) (allT_cons (bytes_Sum_told fu) (allT_cons (bytes_Uint_n0_told fu) (allT_cons (law01_comes_told fu) (allT_cons (bytes_Blob_n0_told fu) (allT_cons (bytes_Seal_told fu) allT_nil)))))) mixed Go.Proofs.Try.func10 (by kernel_rfl) (by kernel_rfl) (law01_awake_eq fu)

def law01_BytesNumbers_l0 (fu : Nat) (i : Int) (h : List (Int)) (h1 : List (Int)) : Option ((Int × (List (Int) × List (Int))) ⊕ ((List (Int) × List (Int)) ⊕ Bool)) :=
  bif (decide (i < 65536)) then
    (byte? (IntKind.wrap .u8 (Int.fdiv i 256))).bind fun c =>
    (byte? (IntKind.wrap .u8 i)).bind fun c1 =>
    (bytes_GetUint fu [c, c1] 0).bind fun r1 =>
    Option.bind (α := ((Bool × (List (Int) × List (Int))))) (
      bif (decide ((IntKind.wrap .i64 (r1.2.1 + r1.2.2)) ≥ 0)) then
        some ((decide ((IntKind.wrap .i64 (r1.2.1 + r1.2.2)) < 12)), (h, h1))
      else
        some (false, (h, h1))) fun o =>
    Option.bind (α := ((List (Int) × List (Int)))) (
      bif o.1 then
        (idx? (IntKind.wrap .i64 (r1.2.1 + r1.2.2)) 12).bind fun q =>
        (o.2.2)[q]?.bind fun r2 =>
        (idx? (IntKind.wrap .i64 (r1.2.1 + r1.2.2)) 12).bind fun q1 =>
        (o.2.2)[q1]?.bind fun r3 =>
        some (o.2.1, (List.set o.2.2 q1 (IntKind.wrap .i64 (r2 + 1))))
      else
        some (o.2.1, o.2.2)) fun o1 =>
    Option.bind (α := ((Bool × (List (Int) × List (Int))))) (
      bif (decide (i < 256)) then
        (idx? i 256).bind fun q2 =>
        (o1.1)[q2]?.bind fun r4 =>
        (ref01_Entry fu i).bind fun r5 =>
        some ((!(r4 == r5)), (o1.1, o1.2))
      else
        some (false, (o1.1, o1.2))) fun o2 =>
    bif o2.1 then
      some (.inr (.inr false))
    else
      some (.inl ((IntKind.wrap .i64 (i + 1)), (o2.2.1, o2.2.2)))
  else
    some (.inr (.inl (h, h1)))
def law01_BytesNumbers_l0_it (fu : Nat)  (tt : (Int × (List (Int) × List (Int)))) : Option ((List (Int) × List (Int)) ⊕ Bool) :=
  iter fu (fun tt => law01_BytesNumbers_l0 fu tt.1 tt.2.1 tt.2.2) tt
def law01_BytesNumbers (fu : Nat)  : Option (Bool) :=
  (bytes_Table fu).bind fun r =>
  need (Nat.beq (List.replicate (α := Int) 256 0).length 256) <|
  need (Nat.beq r.length 256) <|
  need (Nat.beq (List.replicate (α := Int) 12 0).length 12) <|
  (law01_BytesNumbers_l0_it fu  (0, (r, [0, 0, 0, 0, 0, 0, 0, 0, 0, 0, 0, 0]))).bind fun o3 =>
  match o3 with
  | .inl s =>
    need (Nat.beq s.2.length 12) <|
    bif (!(listEqb (Ty.eqb (.int .i64)) s.2 [0, 32768, 16256, 0, 0, 0, 0, 0, 0, 0, 128, 16384])) then
      some false
    else
      Option.bind (α := ((Bool × List (Int)))) (
        (bytes_Uint_n0 fu 18446744073709551615).bind fun r6 =>
        bif (!(r6 == [255, 255, 255, 255, 255, 255, 255, 255, 255, 1])) then
          some (true, s.1)
        else
          (law01_comes fu [255, 255, 255, 255, 255, 255, 255, 255, 255, 1] 0).bind fun r7 =>
          bif (!(r7 == [255, 255, 255, 255, 255, 255, 255, 255, 255, 1, 32, 10])) then
            some (true, s.1)
          else
            (law01_comes fu [255, 255, 255, 255, 255, 255, 255, 255, 255, 2] 0).bind fun r8 =>
            bif (!(r8 == [101, 114, 114, 111, 114, 32, 10])) then
              some (true, s.1)
            else
              (law01_comes fu [255, 255, 255, 255, 255, 255, 255, 255, 255, 129, 1] 0).bind fun r9 =>
              bif (!(r9 == [101, 114, 114, 111, 114, 32, 10])) then
                some (true, s.1)
              else
                (law01_comes fu [255, 255, 255, 255, 255, 255, 255, 255, 255] 0).bind fun r10 =>
                bif (!(r10 == [101, 114, 114, 111, 114, 32, 11])) then
                  some (true, s.1)
                else
                  (law01_comes fu [] 0).bind fun r11 =>
                  bif (!(r11 == [101, 114, 114, 111, 114, 32, 11])) then
                    some (true, s.1)
                  else
                    (law01_comes fu [97] 1).bind fun r12 =>
                    bif (!(r12 == [101, 114, 114, 111, 114, 32, 11])) then
                      some (true, s.1)
                    else
                      (law01_comes fu [97] 2).bind fun r13 =>
                      bif (!(r13 == [101, 114, 114, 111, 114, 32, 2])) then
                        some (true, s.1)
                      else
                        (law01_comes fu [97] (-1)).bind fun r14 =>
                        some ((!(r14 == [101, 114, 114, 111, 114, 32, 2])), s.1)) fun o5 =>
      bif o5.1 then
        some false
      else
        (bytes_GetBlob fu [(UInt8.ofNat 3), (UInt8.ofNat 97), (UInt8.ofNat 98)] 0 9).bind fun r15 =>
        (bytes_GetBlob fu [(UInt8.ofNat 3), (UInt8.ofNat 97), (UInt8.ofNat 98), (UInt8.ofNat 99)] 0 2).bind fun r16 =>
        (bytes_GetBlob fu [(UInt8.ofNat 0)] 0 (-1)).bind fun r17 =>
        (bytes_GetBlob fu [(UInt8.ofNat 9), (UInt8.ofNat 0), (UInt8.ofNat 9)] 1 0).bind fun r18 =>
        (bytes_Unseal fu o5.2 [(UInt8.ofNat 0), (UInt8.ofNat 0), (UInt8.ofNat 0)]).bind fun r19 =>
        (bytes_Unseal fu o5.2 [(UInt8.ofNat 0), (UInt8.ofNat 0), (UInt8.ofNat 0), (UInt8.ofNat 1)]).bind fun r20 =>
        (bytes_Unseal_n0 fu [(UInt8.ofNat 97), (UInt8.ofNat 98), (UInt8.ofNat 0), (UInt8.ofNat 0), (UInt8.ofNat 0), (UInt8.ofNat 0)]).bind fun r21 =>
        bif (r15.2.1 == 11) then
          bif (r16.2.1 == 3) then
            bif (r17.2.1 == 3) then
              bif (((r18.2.2.length : Nat) : Int) == 0) then
                bif (r18.1 == 2) then
                  bif (r18.2.1 == 0) then
                    bif (r19.2 == 11) then
                      bif (r20.2 == 12) then
                        bif (r21.1 == [97, 98]) then
                          bif (r21.2 == 0) then
                            (bytes_Sum_n0 fu [(UInt8.ofNat 120)]).bind fun r22 =>
                            bif (r22 == 0) then
                              (law01_awake fu).bind fun r23 =>
                              some r23
                            else
                              some false
                          else
                            some false
                        else
                          some false
                      else
                        some false
                    else
                      some false
                  else
                    some false
                else
                  some false
              else
                some false
            else
              some false
          else
            some false
        else
          some false
  | .inr o4 =>
    some o4
def law01_BytesNumbers_fa : FnA := ⟨.two (.leaf) (.two (.reg [(0, {  }), (1, { ids := [100] })]) (.two (.reg [(1, { ids := [101] })]) (.two (.two (.leaf) (.one (.loop ⟨[1, 2, 3], ⟨(.cons (.own 1 100 0 0) (.cons (.own 1 101 0 0) (.cons (.p (.int .i64)) .nil))), [(100, false, (.rows 27 (.int .u32))), (101, false, (.rows 48 (.int .i64)))]⟩⟩ true [(0, ⟨[1, 2], ⟨(.cons (.own 1 100 0 0) (.cons (.own 1 101 0 0) .nil)), [(100, false, (.rows 27 (.int .u32))), (101, false, (.rows 48 (.int .i64)))]⟩⟩)] (.two (.two (.leaf) (.leaf)) (.two (.one (.two (.reg [(5, { ids := [102] }), (6, { md := [2, 0], fn := 1 })]) (.two (.two (.leaf) (.two (.join ⟨[1, 2, 51], ⟨(.cons (.own 1 100 0 0) (.cons (.own 1 101 0 0) (.cons (.p .bool) .nil))), [(100, false, (.rows 27 (.int .u32))), (101, false, (.rows 48 (.int .i64)))]⟩⟩ false [] (.leaf)) (.join ⟨[1, 2], ⟨(.cons (.own 1 100 0 0) (.cons (.own 1 101 0 0) .nil)), [(100, false, (.rows 27 (.int .u32))), (101, false, (.rows 48 (.int .i64)))]⟩⟩ false [] (.leaf)))) (.two (.join ⟨[1, 2, 66], ⟨(.cons (.own 1 100 0 0) (.cons (.own 1 101 0 0) (.cons (.p .bool) .nil))), [(100, false, (.rows 27 (.int .u32))), (101, false, (.rows 48 (.int .i64)))]⟩⟩ false [] (.reg [(7, { fn := 2 })])) (.two (.leaf) (.leaf)))))) (.leaf)))))) (.two (.two (.leaf) (.two (.leaf) (.leaf))) (.two (.two (.join ⟨[1, 104], ⟨(.cons (.own 1 100 0 0) (.cons (.p .bool) .nil)), [(100, false, (.rows 27 (.int .u32)))]⟩⟩ false [] (.reg [(0, { ids := [103], fn := 3 }), (4, { fn := 4 }), (8, { fn := 4 }), (12, { fn := 4 }), (16, { fn := 4 }), (20, { fn := 4 }), (24, { fn := 4 }), (28, { fn := 4 }), (32, { fn := 4 })])) (.two (.leaf) (.leaf))) (.two (.reg [(0, { ids := [104] }), (2, { ids := [105], md := [1, 0, 0], fn := 5 })]) (.two (.reg [(0, { ids := [106] }), (2, { ids := [107], md := [1, 0, 0], fn := 5 })]) (.two (.reg [(0, { ids := [108] }), (1, { ids := [109], md := [1, 0, 0], fn := 5 })]) (.two (.reg [(0, { ids := [110] }), (1, { ids := [111], md := [1, 0, 0], fn := 5 })]) (.two (.reg [(0, { ids := [112] }), (1, { md := [1, 1], fn := 6 })]) (.two (.reg [(0, { ids := [113] }), (1, { md := [1, 1], fn := 6 })]) (.two (.reg [(0, { ids := [114] }), (2, { md := [0, 1], fn := 7 })]) (.two (.reg [(41, { ids := [115] }), (43, { md := [0, 2], fn := 8 }), (47, { fn := 9 })]) (.leaf)))))))))))))), ⟨.nil, []⟩, [⟨(.cons (.p .bool) .nil), []⟩], [0]⟩
def law01_BytesNumbers_ft (fu : Nat) : FnT := ⟨7, ⟨.nil, []⟩, [⟨(.cons (.p .bool) .nil), []⟩], fun t => law01_BytesNumbers fu ⟩
theorem law01_BytesNumbers_eq (fu : Nat) : ∀ t, evF Go.Proofs.Try.prog [bytes_Table_ft fu, bytes_GetUint_ft fu, ref01_Entry_ft fu, bytes_Uint_n0_ft fu, law01_comes_ft fu, bytes_GetBlob_ft fu, bytes_Unseal_ft fu, bytes_Unseal_n0_ft fu, bytes_Sum_n0_ft fu, law01_awake_ft fu] fu Go.Proofs.Try.f7 law01_BytesNumbers_fa t = (law01_BytesNumbers_ft fu).spec t := fun t => by kernel_rfl
theorem law01_BytesNumbers_told (fu : Nat) : Told Go.Proofs.Try.prog (law01_BytesNumbers_ft fu) := told_of (allT_cons (bytes_Table_told fu) (allT_cons (bytes_GetUint_told fu) (allT_cons (ref01_Entry_told fu) (allT_cons (bytes_Uint_n0_told fu) (allT_cons (law01_comes_told fu) (allT_cons (bytes_GetBlob_told fu) (allT_cons (bytes_Unseal_told fu) (allT_cons (bytes_Unseal_n0_told fu) (allT_cons (bytes_Sum_n0_told fu) (allT_cons (law01_awake_told fu) allT_nil)))))))))) mixed Go.Proofs.Try.func7 (by kernel_rfl) (by kernel_rfl) (law01_BytesNumbers_eq fu)

def low_CopyBytes (fu : Nat) (l : List (UInt8)) : Option (List (UInt8)) :=
  need ((Nat.ble (l.length * 1) room) && (Nat.ble l.length room)) <|
  some l
def low_CopyBytes_fa : FnA := ⟨.two (.leaf) (.two (.leaf) (.two (.reg [(2, { ids := [100] })]) (.leaf))), ⟨(.cons (.p (.sl .byte)) .nil), []⟩, [⟨(.cons (.slf 1 0) .nil), [(0, false, (.rows 5 .byte))]⟩], [0]⟩
def low_CopyBytes_ft (fu : Nat) : FnT := ⟨18, ⟨(.cons (.p (.sl .byte)) .nil), []⟩, [⟨(.cons (.slf 1 0) .nil), [(0, false, (.rows 5 .byte))]⟩], fun t => low_CopyBytes fu t⟩
theorem low_CopyBytes_eq (fu : Nat) : ∀ t, evF Go.Proofs.Try.prog [] fu Go.Proofs.Try.f18 low_CopyBytes_fa t = (low_CopyBytes_ft fu).spec t := fun t => by kernel_rfl
theorem low_CopyBytes_told (fu : Nat) : Told Go.Proofs.Try.prog (low_CopyBytes_ft fu) := told_of allT_nil mixed Go.Proofs.Try.func18 (by kernel_rfl) (by kernel_rfl) (low_CopyBytes_eq fu)

def bytes_Uint_o0_l0 (fu : Nat) (n1 : Int) (h1 : List (UInt8)) : Option ((Int × List (UInt8)) ⊕ ((Int × List (UInt8)))) :=
  bif (decide (n1 > 127)) then
    (byte? (IntKind.wrap .u8 (IntKind.wrap .u64 ((Int.tmod n1 128) + 128)))).bind fun c =>
    need ((Nat.ble ((h1.length + 1) * 1) room) && (Nat.ble (h1.length + 1) room)) <|
    some (.inl ((IntKind.wrap .u64 (Int.tdiv n1 128)), (h1 ++ [c])))
  else
    some (.inr (n1, h1))
def bytes_Uint_o0_l0_it (fu : Nat)  (tt : (Int × List (UInt8))) : Option ((Int × List (UInt8))) :=
  iter fu (fun tt => bytes_Uint_o0_l0 fu tt.1 tt.2) tt
def bytes_Uint_o0 (fu : Nat) (n : Int) (h : List (UInt8)) : Option (List (UInt8)) :=
  (bytes_Uint_o0_l0_it fu  (n, h)).bind fun o =>
  (byte? (IntKind.wrap .u8 o.1)).bind fun c1 =>
  need ((Nat.ble ((o.2.length + 1) * 1) room) && (Nat.ble (o.2.length + 1) room)) <|
  some (o.2 ++ [c1])
def bytes_Uint_o0_fa : FnA := ⟨.two (.leaf) (.two (.one (.pre (.renum 0 100) (.loop ⟨[0, 1], ⟨(.cons (.slf 1 100) (.cons (.p (.int .u64)) .nil)), [(100, false, (.rows 5 .byte))]⟩⟩ false [(0, ⟨[0, 1], ⟨(.cons (.slf 1 100) (.cons (.p (.int .u64)) .nil)), [(100, false, (.rows 5 .byte))]⟩⟩)] (.two (.two (.leaf) (.leaf)) (.one (.reg [(5, { ids := [101] }), (6, { ids := [102] })])))))) (.two (.reg [(3, { ids := [103] }), (4, { ids := [104] })]) (.leaf))), ⟨(.cons (.slf 1 0) (.cons (.p (.int .u64)) .nil)), [(0, false, (.rows 5 .byte))]⟩, [⟨(.cons (.slf 1 1) .nil), [(1, false, (.rows 5 .byte))]⟩], [0]⟩
def bytes_Uint_o0_ft (fu : Nat) : FnT := ⟨15, ⟨(.cons (.slf 1 0) (.cons (.p (.int .u64)) .nil)), [(0, false, (.rows 5 .byte))]⟩, [⟨(.cons (.slf 1 1) .nil), [(1, false, (.rows 5 .byte))]⟩], fun t => bytes_Uint_o0 fu t.1 t.2⟩
theorem bytes_Uint_o0_eq (fu : Nat) : ∀ t, evF Go.Proofs.Try.prog [] fu Go.Proofs.Try.f15 bytes_Uint_o0_fa t = (bytes_Uint_o0_ft fu).spec t := fun t => by kernel_rfl
theorem bytes_Uint_o0_told (fu : Nat) : Told Go.Proofs.Try.prog (bytes_Uint_o0_ft fu) := told_of allT_nil mixed Go.Proofs.Try.func15 (by kernel_rfl) (by kernel_rfl) (bytes_Uint_o0_eq fu)

def bytes_Blob_o0 (fu : Nat) (b : List (UInt8)) (h : List (UInt8)) : Option (List (UInt8)) :=
  (bytes_Uint_o0 fu (IntKind.wrap .u64 ((b.length : Nat) : Int)) h).bind fun r =>
  (slices_Concat__byte_byte fu [r, b]).bind fun r1 =>
  some r1
def bytes_Blob_o0_fa : FnA := ⟨.two (.leaf) (.two (.reg [(4, { ids := [100], sh := [0] }), (6, { ids := [101] }), (7, { ids := [102], md := [1], fn := 1 })]) (.leaf)), ⟨(.cons (.slf 1 0) (.cons (.p (.sl .byte)) .nil)), [(0, false, (.rows 5 .byte))]⟩, [⟨(.cons (.slf 1 1) .nil), [(1, false, (.rows 5 .byte))]⟩], [0]⟩
def bytes_Blob_o0_ft (fu : Nat) : FnT := ⟨26, ⟨(.cons (.slf 1 0) (.cons (.p (.sl .byte)) .nil)), [(0, false, (.rows 5 .byte))]⟩, [⟨(.cons (.slf 1 1) .nil), [(1, false, (.rows 5 .byte))]⟩], fun t => bytes_Blob_o0 fu t.1 t.2⟩
theorem bytes_Blob_o0_eq (fu : Nat) : ∀ t, evF Go.Proofs.Try.prog [bytes_Uint_o0_ft fu, slices_Concat__byte_byte_ft fu] fu Go.Proofs.Try.f26 bytes_Blob_o0_fa t = (bytes_Blob_o0_ft fu).spec t := fun t => by kernel_rfl
theorem bytes_Blob_o0_told (fu : Nat) : Told Go.Proofs.Try.prog (bytes_Blob_o0_ft fu) := told_of (allT_cons (bytes_Uint_o0_told fu) (allT_cons (slices_Concat__byte_byte_told fu) allT_nil)) mixed Go.Proofs.Try.func26 (by kernel_rfl) (by kernel_rfl) (bytes_Blob_o0_eq fu)
end
end Go.Ab.D
