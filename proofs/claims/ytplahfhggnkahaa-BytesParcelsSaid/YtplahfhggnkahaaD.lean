/- Functions of the program as plain Lean functions: each equation is checked by the kernel; what is told of a function follows from it. -/
import Derived.Test.YtplahfhggnkahaaA34
import Derived.Test.YtplahfhggnkahaaProg
import Derived.KernelRfl
set_option linter.all false
set_option maxRecDepth 100000
set_option maxHeartbeats 4000000
namespace Go.Ab.D
open Go Go.Ab
noncomputable section
theorem mixed : Go.Proofs.Try.prog.follows .mixedOrders = true := by kernel_rfl
def bytes_halved (s : Int) : Option (Int) :=
  some (bitsI .xor .u32 (Int.fdiv s 2) (IntKind.wrap .u32 (2197175160 * (bitsI .and .u32 s 1))))
def bytes_halved_fa : FnA := ⟨.two (.leaf) (.leaf), ⟨(.cons (.p (.int .u32)) .nil), []⟩, [⟨(.cons (.p (.int .u32)) .nil), []⟩], [0]⟩
def bytes_halved_ft : FnT := ⟨35, ⟨(.cons (.p (.int .u32)) .nil), []⟩, [⟨(.cons (.p (.int .u32)) .nil), []⟩], fun t => bytes_halved t⟩
theorem bytes_halved_eq : ∀ t, evF Go.Proofs.Try.prog [] Go.Proofs.Try.f35 bytes_halved_fa t = bytes_halved_ft.spec t := fun t => by kernel_rfl
theorem bytes_halved_told : Told Go.Proofs.Try.prog bytes_halved_ft := told_of allT_nil mixed Go.Proofs.Try.func35 (by kernel_rfl) (by kernel_rfl) bytes_halved_eq

def bytes_Table_l0 (s : Int) (x : Int) (h : List (Int)) (h1 : List (Int)) : Option ((Int × (Int × (List (Int) × List (Int)))) ⊕ ((List (Int) × List (Int)))) :=
  bif (decide (x < 8)) then
    need (decide (0 ≤ x)) <|
    (idx? (Int.fdiv 128 (2 ^ (min (x).toNat 64))) 256).bind fun q =>
    (h1)[q]?.bind fun r =>
    (bytes_halved s).bind fun r1 =>
    some (.inl (r1, ((IntKind.wrap .i64 (x + 1)), (h, (List.set h1 q s)))))
  else
    some (.inr (h, h1))
def bytes_Table_l0_it  (tt : (Int × (Int × (List (Int) × List (Int))))) : Option ((List (Int) × List (Int))) :=
  iter fuel (fun tt => bytes_Table_l0 tt.1 tt.2.1 tt.2.2.1 tt.2.2.2) tt
def bytes_Table_l1 (x1 : Int) (x2 : Int) (h4 : List (Int)) (h5 : List (Int)) : Option ((Int × (List (Int) × List (Int))) ⊕ ((List (Int) × List (Int)))) :=
  bif (decide (x2 < (IntKind.wrap .i64 (1 * (2 ^ (min (x1).toNat 64)))))) then
    need (decide (0 ≤ x1)) <|
    need (decide (0 ≤ x1)) <|
    (idx? (IntKind.wrap .i64 (1 * (2 ^ (min (x1).toNat 64)))) 256).bind fun q1 =>
    (h5)[q1]?.bind fun r2 =>
    (idx? x2 256).bind fun q2 =>
    (h5)[q2]?.bind fun r3 =>
    (idx? (bitsI .or .i64 (IntKind.wrap .i64 (1 * (2 ^ (min (x1).toNat 64)))) x2) 256).bind fun q3 =>
    (h5)[q3]?.bind fun r4 =>
    some (.inl ((IntKind.wrap .i64 (x2 + 1)), (h4, (List.set h5 q3 (bitsI .xor .u32 r2 r3)))))
  else
    some (.inr (h4, h5))
def bytes_Table_l1_it (x1 : Int) (tt : (Int × (List (Int) × List (Int)))) : Option ((List (Int) × List (Int))) :=
  iter fuel (fun tt => bytes_Table_l1 x1 tt.1 tt.2.1 tt.2.2) tt
def bytes_Table_l2 (x1 : Int) (h2 : List (Int)) (h3 : List (Int)) : Option ((Int × (List (Int) × List (Int))) ⊕ ((List (Int) × List (Int)))) :=
  bif (decide (x1 < 8)) then
    need (decide (0 ≤ x1)) <|
    (bytes_Table_l1_it x1 (0, (h2, h3))).bind fun o1 =>
    some (.inl ((IntKind.wrap .i64 (x1 + 1)), (o1.1, o1.2)))
  else
    some (.inr (h2, h3))
def bytes_Table_l2_it  (tt : (Int × (List (Int) × List (Int)))) : Option ((List (Int) × List (Int))) :=
  iter fuel (fun tt => bytes_Table_l2 tt.1 tt.2.1 tt.2.2) tt
def bytes_Table  : Option (List (Int)) :=
  (bytes_Table_l0_it  (2197175160, (0, ((List.replicate 256 0), (List.replicate 256 0))))).bind fun o =>
  (bytes_Table_l2_it  (0, (o.1, o.2))).bind fun o2 =>
  need (Nat.beq o2.2.length 256) <|
  need (Nat.beq o2.1.length 256) <|
  need (Nat.beq o2.2.length 256) <|
  need (Nat.beq o2.2.length 256) <|
  some o2.2
def bytes_Table_fa : FnA := ⟨.two (.reg [(0, { ids := [100] })]) (.two (.reg [(0, { ids := [101] })]) (.two (.leaf) (.two (.two (.leaf) (.one (.loop ⟨[0, 1, 2, 6], ⟨(.cons (.own 1 100 0 0) (.cons (.own 1 101 0 0) (.cons (.p (.int .u32)) (.cons (.p (.int .i64)) .nil)))), [(100, false, (.rows 27 (.int .u32))), (101, false, (.rows 27 (.int .u32)))]⟩⟩ false [(0, ⟨[0, 1], ⟨(.cons (.own 1 100 0 0) (.cons (.own 1 101 0 0) .nil)), [(100, false, (.rows 27 (.int .u32))), (101, false, (.rows 27 (.int .u32)))]⟩⟩)] (.two (.leaf) (.two (.leaf) (.two (.one (.two (.leaf) (.two (.leaf) (.reg [(1, {  })])))) (.leaf))))))) (.two (.two (.leaf) (.one (.loop ⟨[0, 1, 16], ⟨(.cons (.own 1 100 0 0) (.cons (.own 1 101 0 0) (.cons (.p (.int .i64)) .nil))), [(100, false, (.rows 27 (.int .u32))), (101, false, (.rows 27 (.int .u32)))]⟩⟩ false [(2, ⟨[0, 1], ⟨(.cons (.own 1 100 0 0) (.cons (.own 1 101 0 0) .nil)), [(100, false, (.rows 27 (.int .u32))), (101, false, (.rows 27 (.int .u32)))]⟩⟩)] (.two (.leaf) (.two (.leaf) (.two (.one (.two (.leaf) (.two (.leaf) (.one (.loop ⟨[0, 1, 21], ⟨(.cons (.own 1 100 0 0) (.cons (.own 1 101 0 0) (.cons (.p (.int .i64)) .nil))), [(100, false, (.rows 27 (.int .u32))), (101, false, (.rows 27 (.int .u32)))]⟩⟩ false [(4, ⟨[0, 1], ⟨(.cons (.own 1 100 0 0) (.cons (.own 1 101 0 0) .nil)), [(100, false, (.rows 27 (.int .u32))), (101, false, (.rows 27 (.int .u32)))]⟩⟩)] (.two (.leaf) (.two (.leaf) (.two (.one (.leaf)) (.leaf))))))))) (.leaf))))))) (.leaf))))), ⟨.nil, []⟩, [⟨(.cons (.p (.arr 256 (.int .u32))) .nil), []⟩], [0]⟩
def bytes_Table_ft : FnT := ⟨11, ⟨.nil, []⟩, [⟨(.cons (.p (.arr 256 (.int .u32))) .nil), []⟩], fun t => bytes_Table ⟩
theorem bytes_Table_eq : ∀ t, evF Go.Proofs.Try.prog [bytes_halved_ft] Go.Proofs.Try.f11 bytes_Table_fa t = bytes_Table_ft.spec t := fun t => by kernel_rfl
theorem bytes_Table_told : Told Go.Proofs.Try.prog bytes_Table_ft := told_of (allT_cons bytes_halved_told allT_nil) mixed Go.Proofs.Try.func11 (by kernel_rfl) (by kernel_rfl) bytes_Table_eq

def bytes_Sum_l0 (b : List (UInt8)) (t : List (Int)) (s : Int) (x : Int) : Option ((Int × Int) ⊕ (Int)) :=
  bif (decide (x < ((b.length : Nat) : Int))) then
    (idx? x b.length).bind fun q =>
    (b)[q]?.bind fun r =>
    (idx? (bitsI .xor .u8 (IntKind.wrap .u8 s) ((r.toNat : Nat) : Int)) 256).bind fun q1 =>
    (t)[q1]?.bind fun r1 =>
    some (.inl ((bitsI .xor .u32 r1 (Int.fdiv s 256)), (IntKind.wrap .i64 (x + 1))))
  else
    some (.inr s)
def bytes_Sum_l0_it (b : List (UInt8)) (t : List (Int)) (tt : (Int × Int)) : Option (Int) :=
  iter fuel (fun tt => bytes_Sum_l0 b t tt.1 tt.2) tt
def bytes_Sum (t : List (Int)) (b : List (UInt8)) : Option (Int) :=
  (bytes_Sum_l0_it b t (4294967295, 0)).bind fun o =>
  some (IntKind.wrap .u32 (4294967295 - o))
def bytes_Sum_fa : FnA := ⟨.two (.leaf) (.two (.two (.leaf) (.leaf)) (.two (.leaf) (.two (.two (.leaf) (.one (.loop ⟨[5, 11], ⟨(.cons (.p (.int .u32)) (.cons (.p (.int .i64)) .nil)), []⟩⟩ false [(0, ⟨[5], ⟨(.cons (.p (.int .u32)) .nil), []⟩⟩)] (.two (.leaf) (.two (.leaf) (.two (.one (.leaf)) (.leaf))))))) (.leaf)))), ⟨(.cons (.pt (.int .u32)) (.cons (.p (.sl .byte)) .nil)), []⟩, [⟨(.cons (.p (.int .u32)) .nil), []⟩], [0]⟩
def bytes_Sum_ft : FnT := ⟨12, ⟨(.cons (.pt (.int .u32)) (.cons (.p (.sl .byte)) .nil)), []⟩, [⟨(.cons (.p (.int .u32)) .nil), []⟩], fun t => bytes_Sum t.1 t.2⟩
theorem bytes_Sum_eq : ∀ t, evF Go.Proofs.Try.prog [] Go.Proofs.Try.f12 bytes_Sum_fa t = bytes_Sum_ft.spec t := fun t => by kernel_rfl
theorem bytes_Sum_told : Told Go.Proofs.Try.prog bytes_Sum_ft := told_of allT_nil mixed Go.Proofs.Try.func12 (by kernel_rfl) (by kernel_rfl) bytes_Sum_eq

def bytes_Uint_l0 (n1 : Int) (h : List (UInt8)) : Option ((Int × List (UInt8)) ⊕ ((Int × List (UInt8)))) :=
  bif (decide (n1 > 127)) then
    (byte? (IntKind.wrap .u8 (IntKind.wrap .u64 ((Int.tmod n1 128) + 128)))).bind fun c =>
    need ((Nat.ble ((h.length + 1) * 1) room) && (Nat.ble (h.length + 1) room)) <|
    some (.inl ((IntKind.wrap .u64 (Int.tdiv n1 128)), (h ++ [c])))
  else
    some (.inr (n1, h))
def bytes_Uint_l0_it  (tt : (Int × List (UInt8))) : Option ((Int × List (UInt8))) :=
  iter fuel (fun tt => bytes_Uint_l0 tt.1 tt.2) tt
def bytes_Uint (n : Int) : Option (List (UInt8)) :=
  (bytes_Uint_l0_it  (n, [])).bind fun o =>
  (byte? (IntKind.wrap .u8 o.1)).bind fun c1 =>
  need ((Nat.ble ((o.2.length + 1) * 1) room) && (Nat.ble (o.2.length + 1) room)) <|
  some (o.2 ++ [c1])
def bytes_Uint_fa : FnA := ⟨.two (.leaf) (.two (.one (.pre (.ownNil 0 5 100) (.loop ⟨[0, 1], ⟨(.cons (.slf 1 100) (.cons (.p (.int .u64)) .nil)), [(100, false, (.rows 5 .byte))]⟩⟩ false [(0, ⟨[0, 1], ⟨(.cons (.slf 1 100) (.cons (.p (.int .u64)) .nil)), [(100, false, (.rows 5 .byte))]⟩⟩)] (.two (.two (.leaf) (.leaf)) (.one (.reg [(5, { ids := [101] }), (6, { ids := [102] })])))))) (.two (.reg [(3, { ids := [103] }), (4, { ids := [104] })]) (.leaf))), ⟨(.cons (.nilp (.slice none 0 0)) (.cons (.p (.int .u64)) .nil)), []⟩, [⟨(.cons (.slf 1 0) .nil), [(0, false, (.rows 5 .byte))]⟩], [0]⟩
def bytes_Uint_ft : FnT := ⟨15, ⟨(.cons (.nilp (.slice none 0 0)) (.cons (.p (.int .u64)) .nil)), []⟩, [⟨(.cons (.slf 1 0) .nil), [(0, false, (.rows 5 .byte))]⟩], fun t => bytes_Uint t⟩
theorem bytes_Uint_eq : ∀ t, evF Go.Proofs.Try.prog [] Go.Proofs.Try.f15 bytes_Uint_fa t = bytes_Uint_ft.spec t := fun t => by kernel_rfl
theorem bytes_Uint_told : Told Go.Proofs.Try.prog bytes_Uint_ft := told_of allT_nil mixed Go.Proofs.Try.func15 (by kernel_rfl) (by kernel_rfl) bytes_Uint_eq

def bytes_GetUint_l0 (b : List (UInt8)) (at_ : Int) (n : Int) (to_ : Int) : Option ((Int × Int) ⊕ (Unit ⊕ (Int × (Int × Int)))) :=
  bif (decide (to_ < ((b.length : Nat) : Int))) then
    (idx? to_ b.length).bind fun q =>
    (b)[q]?.bind fun r =>
    Option.bind (α := (Bool)) (
      bif (decide ((IntKind.wrap .i64 (to_ - at_)) > 0)) then
        bif (((r.toNat : Nat) : Int) == 0) then
          some true
        else
          bif (decide ((IntKind.wrap .i64 (to_ - at_)) > 8)) then
            some (decide (((r.toNat : Nat) : Int) > 1))
          else
            some false
      else
        bif (decide ((IntKind.wrap .i64 (to_ - at_)) > 8)) then
          some (decide (((r.toNat : Nat) : Int) > 1))
        else
          some false) fun o1 =>
    bif o1 then
      some (.inr (.inr (0, (0, 10))))
    else
      need (decide (0 ≤ (IntKind.wrap .i64 (7 * (IntKind.wrap .i64 (to_ - at_)))))) <|
      bif (decide (((r.toNat : Nat) : Int) < 128)) then
        some (.inr (.inr ((IntKind.wrap .u64 (n + (IntKind.wrap .u64 ((IntKind.wrap .u64 (Int.tmod ((r.toNat : Nat) : Int) 128)) * (2 ^ (min ((IntKind.wrap .i64 (7 * (IntKind.wrap .i64 (to_ - at_))))).toNat 64)))))), ((IntKind.wrap .i64 (to_ + 1)), 0))))
      else
        some (.inl ((IntKind.wrap .u64 (n + (IntKind.wrap .u64 ((IntKind.wrap .u64 (Int.tmod ((r.toNat : Nat) : Int) 128)) * (2 ^ (min ((IntKind.wrap .i64 (7 * (IntKind.wrap .i64 (to_ - at_))))).toNat 64)))))), (IntKind.wrap .i64 (to_ + 1))))
  else
    some (.inr (.inl ()))
def bytes_GetUint_l0_it (b : List (UInt8)) (at_ : Int) (tt : (Int × Int)) : Option (Unit ⊕ (Int × (Int × Int))) :=
  iter fuel (fun tt => bytes_GetUint_l0 b at_ tt.1 tt.2) tt
def bytes_GetUint (b : List (UInt8)) (at_ : Int) : Option ((Int × (Int × Int))) :=
  Option.bind (α := (Bool)) (
    bif (decide (at_ < 0)) then
      some true
    else
      some (decide (at_ > ((b.length : Nat) : Int)))) fun o =>
  bif o then
    some (0, (0, 2))
  else
    (bytes_GetUint_l0_it b at_ (0, at_)).bind fun o2 =>
    match o2 with
    | .inl s =>
      some (0, (0, 11))
    | .inr o3 =>
      some o3
def bytes_GetUint_fa : FnA := ⟨.two (.leaf) (.two (.two (.join ⟨[18], ⟨(.cons (.p .bool) .nil), []⟩⟩ false [] (.leaf)) (.two (.leaf) (.leaf))) (.two (.leaf) (.two (.two (.leaf) (.one (.loop ⟨[7, 8], ⟨(.cons (.p (.int .u64)) (.cons (.p (.int .i64)) .nil)), []⟩⟩ true [(0, ⟨[], ⟨.nil, []⟩⟩)] (.two (.two (.leaf) (.leaf)) (.two (.one (.two (.leaf) (.two (.two (.join ⟨[46], ⟨(.cons (.p .bool) .nil), []⟩⟩ false [] (.leaf)) (.two (.leaf) (.leaf))) (.two (.leaf) (.two (.leaf) (.two (.leaf) (.leaf))))))) (.leaf)))))) (.leaf)))), ⟨(.cons (.p (.sl .byte)) (.cons (.p (.int .i64)) .nil)), []⟩, [⟨(.cons (.p (.int .u64)) (.cons (.p (.int .i64)) (.cons (.p (.int .i64)) .nil))), []⟩], [0, 0, 0]⟩
def bytes_GetUint_ft : FnT := ⟨14, ⟨(.cons (.p (.sl .byte)) (.cons (.p (.int .i64)) .nil)), []⟩, [⟨(.cons (.p (.int .u64)) (.cons (.p (.int .i64)) (.cons (.p (.int .i64)) .nil))), []⟩], fun t => bytes_GetUint t.1 t.2⟩
theorem bytes_GetUint_eq : ∀ t, evF Go.Proofs.Try.prog [] Go.Proofs.Try.f14 bytes_GetUint_fa t = bytes_GetUint_ft.spec t := fun t => by kernel_rfl
theorem bytes_GetUint_told : Told Go.Proofs.Try.prog bytes_GetUint_ft := told_of allT_nil mixed Go.Proofs.Try.func14 (by kernel_rfl) (by kernel_rfl) bytes_GetUint_eq

def law01_comes (b : List UInt8) (at_ : Int) : Option (List UInt8) :=
  need (Nat.ble b.length room) <|
  (bytes_GetUint b at_).bind fun r =>
  bif (!(r.2.2 == 0)) then
    Option.bind (α := (Bool)) (
      bif (!(r.1 == 0)) then
        some true
      else
        some (!(r.2.1 == 0))) fun o =>
    bif o then
      some [115, 111, 109, 101, 116, 104, 105, 110, 103, 32, 98, 101, 115, 105, 100, 101, 32, 97, 110, 32, 101, 114, 114, 111, 114]
    else
      (bytes_Uint (IntKind.wrap .u64 r.2.2)).bind fun r1 =>
      need (Nat.ble (6 + r1.length) room) <|
      some ([101, 114, 114, 111, 114, 32] ++ r1)
  else
    (bytes_Uint r.1).bind fun r2 =>
    need (Nat.ble (r2.length + 1) room) <|
    (bytes_Uint (IntKind.wrap .u64 r.2.1)).bind fun r3 =>
    need (Nat.ble ((r2 ++ [32]).length + r3.length) room) <|
    some ((r2 ++ [32]) ++ r3)
def law01_comes_fa : FnA := ⟨.two (.leaf) (.two (.reg [(1, { ids := [100] }), (3, { md := [2, 0] })]) (.two (.two (.leaf) (.two (.two (.two (.join ⟨[23], ⟨(.cons (.p .bool) .nil), []⟩⟩ false [] (.leaf)) (.two (.leaf) (.leaf))) (.two (.reg [(2, { ids := [101], fn := 1 })]) (.leaf))) (.leaf))) (.two (.reg [(1, { ids := [102], fn := 1 }), (6, { ids := [103], fn := 1 })]) (.leaf)))), ⟨(.cons (.p .str) (.cons (.p (.int .i64)) .nil)), []⟩, [⟨(.cons (.p .str) .nil), []⟩], [0]⟩
def law01_comes_ft : FnT := ⟨21, ⟨(.cons (.p .str) (.cons (.p (.int .i64)) .nil)), []⟩, [⟨(.cons (.p .str) .nil), []⟩], fun t => law01_comes t.1 t.2⟩
theorem law01_comes_eq : ∀ t, evF Go.Proofs.Try.prog [bytes_GetUint_ft, bytes_Uint_ft] Go.Proofs.Try.f21 law01_comes_fa t = law01_comes_ft.spec t := fun t => by kernel_rfl
theorem law01_comes_told : Told Go.Proofs.Try.prog law01_comes_ft := told_of (allT_cons bytes_GetUint_told (allT_cons bytes_Uint_told allT_nil)) mixed Go.Proofs.Try.func21 (by kernel_rfl) (by kernel_rfl) law01_comes_eq

def slices_Grow__byte_byte (n : Int) : Option (List (UInt8)) :=
  bif (decide (n < 0)) then
    none
  else
    bif (decide ((IntKind.wrap .i64 (n - 0)) > 0)) then
      (upto? (IntKind.wrap .i64 (n - 0)) room).bind fun q =>
      need ((Nat.ble (q * 1) room) && (Nat.ble q room)) <|
      (upto? 0 (List.replicate q 0).length).bind fun q1 =>
      need (Nat.ble q1 (List.replicate q 0).length) <|
      some (List.take q1 (List.replicate q 0))
    else
      some []
def slices_Grow__byte_byte_fa : FnA := ⟨.two (.leaf) (.two (.two (.leaf) (.leaf)) (.two (.two (.leaf) (.two (.leaf) (.two (.reg [(5, { ids := [100] })]) (.leaf)))) (.leaf))), ⟨(.cons (.nilp (.slice none 0 0)) (.cons (.p (.int .i64)) .nil)), []⟩, [⟨(.cons (.slf 1 0) .nil), [(0, false, (.rows 5 .byte))]⟩], [15]⟩
def slices_Grow__byte_byte_ft : FnT := ⟨41, ⟨(.cons (.nilp (.slice none 0 0)) (.cons (.p (.int .i64)) .nil)), []⟩, [⟨(.cons (.slf 1 0) .nil), [(0, false, (.rows 5 .byte))]⟩], fun t => slices_Grow__byte_byte t⟩
theorem slices_Grow__byte_byte_eq : ∀ t, evF Go.Proofs.Try.prog [] Go.Proofs.Try.f41 slices_Grow__byte_byte_fa t = slices_Grow__byte_byte_ft.spec t := fun t => by kernel_rfl
theorem slices_Grow__byte_byte_told : Told Go.Proofs.Try.prog slices_Grow__byte_byte_ft := told_of allT_nil mixed Go.Proofs.Try.func41 (by kernel_rfl) (by kernel_rfl) slices_Grow__byte_byte_eq

def slices_Concat__byte_byte_l0 (slices : List (List (UInt8))) (size : Int) (x : Int) : Option ((Int × Int) ⊕ (Int)) :=
  bif (decide (x < ((slices.length : Nat) : Int))) then
    (idx? x slices.length).bind fun q =>
    (slices)[q]?.bind fun r =>
    bif (decide ((IntKind.wrap .i64 (size + ((r.length : Nat) : Int))) < 0)) then
      none
    else
      some (.inl ((IntKind.wrap .i64 (size + ((r.length : Nat) : Int))), (IntKind.wrap .i64 (x + 1))))
  else
    some (.inr size)
def slices_Concat__byte_byte_l0_it (slices : List (List (UInt8))) (tt : (Int × Int)) : Option (Int) :=
  iter fuel (fun tt => slices_Concat__byte_byte_l0 slices tt.1 tt.2) tt
def slices_Concat__byte_byte_l1 (slices : List (List (UInt8))) (x1 : Int) (h : List (UInt8)) : Option ((Int × List (UInt8)) ⊕ (List (UInt8))) :=
  bif (decide (x1 < ((slices.length : Nat) : Int))) then
    (idx? x1 slices.length).bind fun q1 =>
    (slices)[q1]?.bind fun r2 =>
    need ((Nat.ble ((h.length + r2.length) * 1) room) && (Nat.ble (h.length + r2.length) room)) <|
    some (.inl ((IntKind.wrap .i64 (x1 + 1)), (h ++ r2)))
  else
    some (.inr h)
def slices_Concat__byte_byte_l1_it (slices : List (List (UInt8))) (tt : (Int × List (UInt8))) : Option (List (UInt8)) :=
  iter fuel (fun tt => slices_Concat__byte_byte_l1 slices tt.1 tt.2) tt
def slices_Concat__byte_byte (slices : List (List (UInt8))) : Option (List (UInt8)) :=
  (slices_Concat__byte_byte_l0_it slices (0, 0)).bind fun o =>
  (slices_Grow__byte_byte o).bind fun r1 =>
  (slices_Concat__byte_byte_l1_it slices (0, r1)).bind fun o1 =>
  some o1
def slices_Concat__byte_byte_fa : FnA := ⟨.two (.leaf) (.two (.leaf) (.two (.two (.leaf) (.one (.loop ⟨[3, 11], ⟨(.cons (.p (.int .i64)) (.cons (.p (.int .i64)) .nil)), []⟩⟩ false [(0, ⟨[3], ⟨(.cons (.p (.int .i64)) .nil), []⟩⟩)] (.two (.leaf) (.two (.leaf) (.two (.one (.two (.leaf) (.two (.leaf) (.two (.leaf) (.leaf))))) (.leaf))))))) (.two (.reg [(1, { ids := [100] })]) (.two (.two (.leaf) (.one (.loop ⟨[6, 27], ⟨(.cons (.slf 1 100) (.cons (.p (.int .i64)) .nil)), [(100, false, (.rows 5 .byte))]⟩⟩ false [(2, ⟨[6], ⟨(.cons (.slf 1 100) .nil), [(100, false, (.rows 5 .byte))]⟩⟩)] (.two (.leaf) (.two (.leaf) (.two (.one (.two (.leaf) (.reg [(2, { ids := [101] })]))) (.leaf))))))) (.leaf))))), ⟨(.cons (.p (.sl (.sl .byte))) .nil), []⟩, [⟨(.cons (.slf 1 0) .nil), [(0, false, (.rows 5 .byte))]⟩], [0]⟩
def slices_Concat__byte_byte_ft : FnT := ⟨40, ⟨(.cons (.p (.sl (.sl .byte))) .nil), []⟩, [⟨(.cons (.slf 1 0) .nil), [(0, false, (.rows 5 .byte))]⟩], fun t => slices_Concat__byte_byte t⟩
theorem slices_Concat__byte_byte_eq : ∀ t, evF Go.Proofs.Try.prog [slices_Grow__byte_byte_ft] Go.Proofs.Try.f40 slices_Concat__byte_byte_fa t = slices_Concat__byte_byte_ft.spec t := fun t => by kernel_rfl
theorem slices_Concat__byte_byte_told : Told Go.Proofs.Try.prog slices_Concat__byte_byte_ft := told_of (allT_cons slices_Grow__byte_byte_told allT_nil) mixed Go.Proofs.Try.func40 (by kernel_rfl) (by kernel_rfl) slices_Concat__byte_byte_eq

def bytes_Blob (b : List (UInt8)) : Option (List (UInt8)) :=
  (bytes_Uint (IntKind.wrap .u64 ((b.length : Nat) : Int))).bind fun r =>
  (slices_Concat__byte_byte [r, b]).bind fun r1 =>
  some r1
def bytes_Blob_fa : FnA := ⟨.two (.leaf) (.two (.reg [(4, { ids := [100] }), (6, { ids := [101] }), (7, { ids := [102], md := [1], fn := 1 })]) (.leaf)), ⟨(.cons (.nilp (.slice none 0 0)) (.cons (.p (.sl .byte)) .nil)), []⟩, [⟨(.cons (.slf 1 0) .nil), [(0, false, (.rows 5 .byte))]⟩], [0]⟩
def bytes_Blob_ft : FnT := ⟨26, ⟨(.cons (.nilp (.slice none 0 0)) (.cons (.p (.sl .byte)) .nil)), []⟩, [⟨(.cons (.slf 1 0) .nil), [(0, false, (.rows 5 .byte))]⟩], fun t => bytes_Blob t⟩
theorem bytes_Blob_eq : ∀ t, evF Go.Proofs.Try.prog [bytes_Uint_ft, slices_Concat__byte_byte_ft] Go.Proofs.Try.f26 bytes_Blob_fa t = bytes_Blob_ft.spec t := fun t => by kernel_rfl
theorem bytes_Blob_told : Told Go.Proofs.Try.prog bytes_Blob_ft := told_of (allT_cons bytes_Uint_told (allT_cons slices_Concat__byte_byte_told allT_nil)) mixed Go.Proofs.Try.func26 (by kernel_rfl) (by kernel_rfl) bytes_Blob_eq

def bytes_Seal_l0 (b : List (UInt8)) (r : Int) (x : Int) (h : List (UInt8)) : Option ((Int × List (UInt8)) ⊕ (List (UInt8))) :=
  bif (decide (x < 4)) then
    need (decide (0 ≤ (IntKind.wrap .i64 (8 * x)))) <|
    (idx? (IntKind.wrap .i64 ((IntKind.wrap .i64 ((IntKind.wrap .i64 (((b.length : Nat) : Int) + 4)) - 1)) - x)) h.length).bind fun q1 =>
    (byte? (IntKind.wrap .u8 (Int.fdiv r (2 ^ (min ((IntKind.wrap .i64 (8 * x))).toNat 32))))).bind fun c =>
    (h)[q1]?.bind fun r1 =>
    some (.inl ((IntKind.wrap .i64 (x + 1)), (List.set h q1 c)))
  else
    some (.inr h)
def bytes_Seal_l0_it (b : List (UInt8)) (r : Int) (tt : (Int × List (UInt8))) : Option (List (UInt8)) :=
  iter fuel (fun tt => bytes_Seal_l0 b r tt.1 tt.2) tt
def bytes_Seal (t : List (Int)) (b : List (UInt8)) : Option (List (UInt8)) :=
  (upto? (IntKind.wrap .i64 (((b.length : Nat) : Int) + 4)) room).bind fun m =>
  (upto? (IntKind.wrap .i64 (((b.length : Nat) : Int) + 4)) m).bind fun q =>
  need (Nat.ble (m * 1) room) <|
  (bytes_Sum t b).bind fun r =>
  (bytes_Seal_l0_it b r (0, (List.replicate q 0))).bind fun o =>
  some (splice o 0 (List.take o.length b))
def bytes_Seal_fa : FnA := ⟨.two (.leaf) (.two (.reg [(3, { ids := [100] })]) (.two (.reg [(2, {  })]) (.two (.two (.leaf) (.one (.loop ⟨[5, 15], ⟨(.cons (.slf 1 100) (.cons (.p (.int .i64)) .nil)), [(100, false, (.rows 5 .byte))]⟩⟩ false [(0, ⟨[5], ⟨(.cons (.slf 1 100) .nil), [(100, false, (.rows 5 .byte))]⟩⟩)] (.two (.leaf) (.two (.leaf) (.two (.one (.leaf)) (.leaf))))))) (.two (.leaf) (.leaf))))), ⟨(.cons (.pt (.int .u32)) (.cons (.p (.sl .byte)) .nil)), []⟩, [⟨(.cons (.slf 1 0) .nil), [(0, false, (.rows 5 .byte))]⟩], [0]⟩
def bytes_Seal_ft : FnT := ⟨16, ⟨(.cons (.pt (.int .u32)) (.cons (.p (.sl .byte)) .nil)), []⟩, [⟨(.cons (.slf 1 0) .nil), [(0, false, (.rows 5 .byte))]⟩], fun t => bytes_Seal t.1 t.2⟩
theorem bytes_Seal_eq : ∀ t, evF Go.Proofs.Try.prog [bytes_Sum_ft] Go.Proofs.Try.f16 bytes_Seal_fa t = bytes_Seal_ft.spec t := fun t => by kernel_rfl
theorem bytes_Seal_told : Told Go.Proofs.Try.prog bytes_Seal_ft := told_of (allT_cons bytes_Sum_told allT_nil) mixed Go.Proofs.Try.func16 (by kernel_rfl) (by kernel_rfl) bytes_Seal_eq

def law01_awake  : Option (Bool) :=
  bytes_Table.bind fun r =>
  need (Nat.beq (List.replicate 256 0).length 256) <|
  need (Nat.beq r.length 256) <|
  (bytes_Sum r [(UInt8.ofNat 49), (UInt8.ofNat 50), (UInt8.ofNat 51), (UInt8.ofNat 52), (UInt8.ofNat 53), (UInt8.ofNat 54), (UInt8.ofNat 55), (UInt8.ofNat 56), (UInt8.ofNat 57)]).bind fun r1 =>
  (bytes_Uint 300).bind fun r2 =>
  bif (r2 == [172, 2]) then
    (law01_comes [172, 2] 0).bind fun r3 =>
    bif (r3 == [172, 2, 32, 2]) then
      (law01_comes [128, 0] 0).bind fun r4 =>
      bif (r4 == [101, 114, 114, 111, 114, 32, 10]) then
        (law01_comes [128] 0).bind fun r5 =>
        bif (r5 == [101, 114, 114, 111, 114, 32, 11]) then
          (bytes_Blob [(UInt8.ofNat 97), (UInt8.ofNat 98)]).bind fun r6 =>
          bif (r6 == [2, 97, 98]) then
            bif (r1 == 3808858755) then
              (bytes_Seal r []).bind fun r7 =>
              bif (r7 == [0, 0, 0, 0]) then
                (r)[0]?.bind fun r8 =>
                bif (r8 == 0) then
                  (r)[128]?.bind fun r9 =>
                  some (r9 == 2197175160)
                else
                  some false
              else
                some false
            else
              some false
          else
            some false
        else
          some false
      else
        some false
    else
      some false
  else
    some false
def law01_awake_fa : FnA := ⟨.two (.leaf) (.two (.reg [(0, {  }), (1, { ids := [100] })]) (.two (.reg [(0, { ids := [101] }), (2, { md := [2, 2], fn := 1 })]) (.two (.reg [(0, { ids := [102], fn := 2 }), (4, { fn := 3 }), (8, { fn := 3 }), (12, { fn := 3 }), (16, { ids := [103] }), (18, { ids := [104], md := [0, 1], fn := 4 }), (27, { ids := [105], md := [1, 0], fn := 5 })]) (.leaf)))), ⟨.nil, []⟩, [⟨(.cons (.p .bool) .nil), []⟩], [0]⟩
def law01_awake_ft : FnT := ⟨10, ⟨.nil, []⟩, [⟨(.cons (.p .bool) .nil), []⟩], fun t => law01_awake ⟩
theorem law01_awake_eq : ∀ t, evF Go.Proofs.Try.prog [bytes_Table_ft, bytes_Sum_ft, bytes_Uint_ft, law01_comes_ft, bytes_Blob_ft, bytes_Seal_ft] Go.Proofs.Try.f10 law01_awake_fa t = law01_awake_ft.spec t := fun t => by kernel_rfl
theorem law01_awake_told : Told Go.Proofs.Try.prog law01_awake_ft := told_of (allT_cons bytes_Table_told (allT_cons bytes_Sum_told (allT_cons bytes_Uint_told (allT_cons law01_comes_told (allT_cons bytes_Blob_told (allT_cons bytes_Seal_told allT_nil)))))) mixed Go.Proofs.Try.func10 (by kernel_rfl) (by kernel_rfl) law01_awake_eq

def low_CopyBytes (l : List (UInt8)) : Option (List (UInt8)) :=
  need ((Nat.ble (l.length * 1) room) && (Nat.ble l.length room)) <|
  some l
def low_CopyBytes_fa : FnA := ⟨.two (.leaf) (.two (.leaf) (.two (.reg [(2, { ids := [100] })]) (.leaf))), ⟨(.cons (.p (.sl .byte)) .nil), []⟩, [⟨(.cons (.slf 1 0) .nil), [(0, false, (.rows 5 .byte))]⟩], [0]⟩
def low_CopyBytes_ft : FnT := ⟨18, ⟨(.cons (.p (.sl .byte)) .nil), []⟩, [⟨(.cons (.slf 1 0) .nil), [(0, false, (.rows 5 .byte))]⟩], fun t => low_CopyBytes t⟩
theorem low_CopyBytes_eq : ∀ t, evF Go.Proofs.Try.prog [] Go.Proofs.Try.f18 low_CopyBytes_fa t = low_CopyBytes_ft.spec t := fun t => by kernel_rfl
theorem low_CopyBytes_told : Told Go.Proofs.Try.prog low_CopyBytes_ft := told_of allT_nil mixed Go.Proofs.Try.func18 (by kernel_rfl) (by kernel_rfl) low_CopyBytes_eq

def law01_turned_l0 (from_ : List (Int)) (x : Int) (h : List (UInt8)) : Option ((Int × List (UInt8)) ⊕ (List (UInt8))) :=
  bif (decide (x < ((from_.length : Nat) : Int))) then
    (idx? x from_.length).bind fun q =>
    (from_)[q]?.bind fun r1 =>
    need (!(decide ((IntKind.wrap .i64 (8 * ((h.length : Nat) : Int))) = 0))) <|
    (idx? (IntKind.wrap .i64 ((IntKind.wrap .i64 (((h.length : Nat) : Int) - 1)) - (IntKind.wrap .i64 (Int.tdiv (Int.tmod (IntKind.wrap .i64 r1) (IntKind.wrap .i64 (8 * ((h.length : Nat) : Int)))) 8)))) h.length).bind fun q1 =>
    (h)[q1]?.bind fun r2 =>
    need (decide (0 ≤ (Int.tmod (Int.tmod (IntKind.wrap .i64 r1) (IntKind.wrap .i64 (8 * ((h.length : Nat) : Int)))) 8))) <|
    (idx? (IntKind.wrap .i64 ((IntKind.wrap .i64 (((h.length : Nat) : Int) - 1)) - (IntKind.wrap .i64 (Int.tdiv (Int.tmod (IntKind.wrap .i64 r1) (IntKind.wrap .i64 (8 * ((h.length : Nat) : Int)))) 8)))) h.length).bind fun q2 =>
    (byte? (bitsI .xor .u8 ((r2.toNat : Nat) : Int) (IntKind.wrap .u8 (1 * (2 ^ (min ((Int.tmod (Int.tmod (IntKind.wrap .i64 r1) (IntKind.wrap .i64 (8 * ((h.length : Nat) : Int)))) 8)).toNat 8)))))).bind fun c =>
    (h)[q2]?.bind fun r3 =>
    some (.inl ((IntKind.wrap .i64 (x + 1)), (List.set h q2 c)))
  else
    some (.inr h)
def law01_turned_l0_it (from_ : List (Int)) (tt : (Int × List (UInt8))) : Option (List (UInt8)) :=
  iter fuel (fun tt => law01_turned_l0 from_ tt.1 tt.2) tt
def law01_turned (b : List (UInt8)) (from_ : List (Int)) : Option (List (UInt8)) :=
  (low_CopyBytes b).bind fun r =>
  (law01_turned_l0_it from_ (0, r)).bind fun o =>
  some o
def law01_turned_fa : FnA := ⟨.two (.leaf) (.two (.reg [(1, { ids := [100] })]) (.two (.two (.leaf) (.one (.loop ⟨[5, 13], ⟨(.cons (.slf 1 100) (.cons (.p (.int .i64)) .nil)), [(100, false, (.rows 5 .byte))]⟩⟩ false [(0, ⟨[5], ⟨(.cons (.slf 1 100) .nil), [(100, false, (.rows 5 .byte))]⟩⟩)] (.two (.leaf) (.two (.leaf) (.two (.one (.two (.leaf) (.leaf))) (.leaf))))))) (.leaf))), ⟨(.cons (.p (.sl .byte)) (.cons (.p (.sl (.int .u16))) .nil)), []⟩, [⟨(.cons (.slf 1 0) .nil), [(0, false, (.rows 5 .byte))]⟩], [0]⟩
def law01_turned_ft : FnT := ⟨13, ⟨(.cons (.p (.sl .byte)) (.cons (.p (.sl (.int .u16))) .nil)), []⟩, [⟨(.cons (.slf 1 0) .nil), [(0, false, (.rows 5 .byte))]⟩], fun t => law01_turned t.1 t.2⟩
theorem law01_turned_eq : ∀ t, evF Go.Proofs.Try.prog [low_CopyBytes_ft] Go.Proofs.Try.f13 law01_turned_fa t = law01_turned_ft.spec t := fun t => by kernel_rfl
theorem law01_turned_told : Told Go.Proofs.Try.prog law01_turned_ft := told_of (allT_cons low_CopyBytes_told allT_nil) mixed Go.Proofs.Try.func13 (by kernel_rfl) (by kernel_rfl) law01_turned_eq

def low_Pick (x : Int) (n : Int) : Option (Int) :=
  bif (decide (n ≤ 0)) then
    some 0
  else
    need (!(decide (n = 0))) <|
    bif (decide ((Int.tmod x n) < 0)) then
      some (IntKind.wrap .i64 ((Int.tmod x n) + n))
    else
      some (Int.tmod x n)
def low_Pick_fa : FnA := ⟨.two (.leaf) (.two (.two (.leaf) (.two (.leaf) (.leaf))) (.two (.leaf) (.two (.two (.leaf) (.leaf)) (.leaf)))), ⟨(.cons (.p (.int .i64)) (.cons (.p (.int .i64)) .nil)), []⟩, [⟨(.cons (.p (.int .i64)) .nil), []⟩], [0]⟩
def low_Pick_ft : FnT := ⟨17, ⟨(.cons (.p (.int .i64)) (.cons (.p (.int .i64)) .nil)), []⟩, [⟨(.cons (.p (.int .i64)) .nil), []⟩], fun t => low_Pick t.1 t.2⟩
theorem low_Pick_eq : ∀ t, evF Go.Proofs.Try.prog [] Go.Proofs.Try.f17 low_Pick_fa t = low_Pick_ft.spec t := fun t => by kernel_rfl
theorem low_Pick_told : Told Go.Proofs.Try.prog low_Pick_ft := told_of allT_nil mixed Go.Proofs.Try.func17 (by kernel_rfl) (by kernel_rfl) low_Pick_eq

def slices_Clone__byte_byte (s : List (UInt8)) : Option (List (UInt8)) :=
  nilQ s.length fun isNil =>
  bif isNil then
    some []
  else
    need ((Nat.ble ((0 + s.length) * 1) room) && (Nat.ble (0 + s.length) room)) <|
    some s
def slices_Clone__byte_byte_fa : FnA := ⟨.two (.leaf) (.two (.two (.leaf) (.two (.leaf) (.leaf))) (.two (.reg [(0, { ids := [100] }), (2, { ids := [101] })]) (.leaf))), ⟨(.cons (.p (.sl .byte)) .nil), []⟩, [⟨(.cons (.slf 1 0) .nil), [(0, false, (.rows 5 .byte))]⟩], [15]⟩
def slices_Clone__byte_byte_ft : FnT := ⟨36, ⟨(.cons (.p (.sl .byte)) .nil), []⟩, [⟨(.cons (.slf 1 0) .nil), [(0, false, (.rows 5 .byte))]⟩], fun t => slices_Clone__byte_byte t⟩
theorem slices_Clone__byte_byte_eq : ∀ t, evF Go.Proofs.Try.prog [] Go.Proofs.Try.f36 slices_Clone__byte_byte_fa t = slices_Clone__byte_byte_ft.spec t := fun t => by kernel_rfl
theorem slices_Clone__byte_byte_told : Told Go.Proofs.Try.prog slices_Clone__byte_byte_ft := told_of allT_nil mixed Go.Proofs.Try.func36 (by kernel_rfl) (by kernel_rfl) slices_Clone__byte_byte_eq

def bytes_Unseal (t : List (Int)) (b : List (UInt8)) : Option ((List (UInt8) × Int)) :=
  bif (decide (((b.length : Nat) : Int) < 4)) then
    some ([], 11)
  else
    (upto? (IntKind.wrap .i64 (((b.length : Nat) : Int) - 4)) b.length).bind fun q =>
    (slices_Clone__byte_byte (List.take q b)).bind fun r =>
    (bytes_Seal t r).bind fun r1 =>
    bif (!(r1 == b)) then
      some ([], 12)
    else
      some (r, 0)
def bytes_Unseal_fa : FnA := ⟨.two (.leaf) (.two (.two (.leaf) (.two (.leaf) (.leaf))) (.two (.reg [(5, { ids := [100] })]) (.two (.two (.reg [(2, { ids := [101], md := [0, 1], fn := 1 })]) (.two (.leaf) (.leaf))) (.leaf)))), ⟨(.cons (.pt (.int .u32)) (.cons (.p (.sl .byte)) .nil)), []⟩, [⟨(.cons (.p (.sl .byte)) (.cons (.p (.int .i64)) .nil)), []⟩], [1, 0]⟩
def bytes_Unseal_ft : FnT := ⟨19, ⟨(.cons (.pt (.int .u32)) (.cons (.p (.sl .byte)) .nil)), []⟩, [⟨(.cons (.p (.sl .byte)) (.cons (.p (.int .i64)) .nil)), []⟩], fun t => bytes_Unseal t.1 t.2⟩
theorem bytes_Unseal_eq : ∀ t, evF Go.Proofs.Try.prog [slices_Clone__byte_byte_ft, bytes_Seal_ft] Go.Proofs.Try.f19 bytes_Unseal_fa t = bytes_Unseal_ft.spec t := fun t => by kernel_rfl
theorem bytes_Unseal_told : Told Go.Proofs.Try.prog bytes_Unseal_ft := told_of (allT_cons slices_Clone__byte_byte_told (allT_cons bytes_Seal_told allT_nil)) mixed Go.Proofs.Try.func19 (by kernel_rfl) (by kernel_rfl) bytes_Unseal_eq

def law01_BytesPairs_l0 (r3 : Int) (four : Int) (i : Int) (h : List (Int)) (h1 : List (UInt8)) (h2 : List (UInt8)) : Option ((Int × (List (Int) × (List (UInt8) × List (UInt8)))) ⊕ ((List (Int) × (List (UInt8) × List (UInt8))))) :=
  Option.bind (α := ((Bool × (List (Int) × (List (UInt8) × List (UInt8)))))) (
    bif (decide (i < 4)) then
      some ((decide ((IntKind.wrap .i64 (r3 + i)) < ((h2.length : Nat) : Int))), (h, (h1, h2)))
    else
      some (false, (h, (h1, h2)))) fun o1 =>
  bif o1.1 then
    (idx? (IntKind.wrap .i64 (r3 + i)) o1.2.2.2.length).bind fun q =>
    (o1.2.2.2)[q]?.bind fun r5 =>
    need (decide (0 ≤ (IntKind.wrap .i64 (8 * i)))) <|
    (idx? (IntKind.wrap .i64 (r3 + i)) o1.2.2.2.length).bind fun q1 =>
    (byte? (bitsI .xor .u8 ((r5.toNat : Nat) : Int) (IntKind.wrap .u8 (Int.fdiv four (2 ^ (min ((IntKind.wrap .i64 (8 * i))).toNat 32)))))).bind fun c =>
    (o1.2.2.2)[q1]?.bind fun r6 =>
    some (.inl ((IntKind.wrap .i64 (i + 1)), (o1.2.1, (o1.2.2.1, (List.set o1.2.2.2 q1 c)))))
  else
    some (.inr (o1.2.1, (o1.2.2.1, o1.2.2.2)))
def law01_BytesPairs_l0_it (r3 : Int) (four : Int) (tt : (Int × (List (Int) × (List (UInt8) × List (UInt8))))) : Option ((List (Int) × (List (UInt8) × List (UInt8)))) :=
  iter fuel (fun tt => law01_BytesPairs_l0 r3 four tt.1 tt.2.1 tt.2.2.1 tt.2.2.2) tt
def law01_BytesPairs_l1 (r7 : List (UInt8)) (r8 : List (UInt8)) (o2 : (List (Int) × (List (UInt8) × List (UInt8)))) (b : List (UInt8)) (x : Int) (h3 : List (Int)) (h4 : List (UInt8)) : Option ((Int × (List (Int) × List (UInt8))) ⊕ (Unit ⊕ Bool)) :=
  bif (decide (x < 3)) then
    (idx? x 3).bind fun q2 =>
    ([r7, r8, o2.2.2])[q2]?.bind fun x1 =>
    (low_CopyBytes x1).bind fun r9 =>
    (upto? ((b.length : Nat) : Int) h4.length).bind fun q3 =>
    need (Nat.ble (q3 + (h4.length - q3)) h4.length) <|
    need ((Nat.ble ((r9.length + (List.take (h4.length - q3) (List.drop q3 h4)).length) * 1) room) && (Nat.ble (r9.length + (List.take (h4.length - q3) (List.drop q3 h4)).length) room)) <|
    (bytes_Unseal h3 (r9 ++ (List.take (h4.length - q3) (List.drop q3 h4)))).bind fun r10 =>
    Option.bind (α := ((Bool × (List (Int) × List (UInt8))))) (
      bif (!((r10.2 == 0) == (x1 == b))) then
        some (true, (h3, h4))
      else
        bif ((r10.2 == 12) == (x1 == b)) then
          some (true, (h3, h4))
        else
          bif (x1 == b) then
            bif (!(r10.1 == b)) then
              some (true, (h3, h4))
            else
              (bytes_Sum h3 x1).bind fun r11 =>
              (bytes_Sum h3 b).bind fun r12 =>
              some ((!((r11 == r12) == (x1 == b))), (h3, h4))
          else
            (bytes_Sum h3 x1).bind fun r13 =>
            (bytes_Sum h3 b).bind fun r14 =>
            some ((!((r13 == r14) == (x1 == b))), (h3, h4))) fun o3 =>
    bif o3.1 then
      some (.inr (.inr false))
    else
      some (.inl ((IntKind.wrap .i64 (x + 1)), (o3.2.1, o3.2.2)))
  else
    some (.inr (.inl ()))
def law01_BytesPairs_l1_it (r7 : List (UInt8)) (r8 : List (UInt8)) (o2 : (List (Int) × (List (UInt8) × List (UInt8)))) (b : List (UInt8)) (tt : (Int × (List (Int) × List (UInt8)))) : Option (Unit ⊕ Bool) :=
  iter fuel (fun tt => law01_BytesPairs_l1 r7 r8 o2 b tt.1 tt.2.1 tt.2.2) tt
def law01_BytesPairs (b : List (UInt8)) (one : Int) (two : Int) (at_ : Int) (four : Int) : Option (Bool) :=
  Option.bind (α := (Bool)) (
    bif (((b.length : Nat) : Int) == 0) then
      some true
    else
      some (decide (((b.length : Nat) : Int) > 400))) fun o =>
  bif o then
    law01_awake.bind fun r =>
    some r
  else
    bytes_Table.bind fun r1 =>
    need (Nat.beq (List.replicate 256 0).length 256) <|
    need (Nat.beq r1.length 256) <|
    (bytes_Seal r1 b).bind fun r2 =>
    bif (!(((r2.length : Nat) : Int) == (IntKind.wrap .i64 (((b.length : Nat) : Int) + 4)))) then
      some false
    else
      (low_Pick at_ ((b.length : Nat) : Int)).bind fun r3 =>
      (low_CopyBytes b).bind fun r4 =>
      (law01_BytesPairs_l0_it r3 four (0, (r1, (r2, r4)))).bind fun o2 =>
      (law01_turned b [one]).bind fun r7 =>
      (law01_turned b [one, two]).bind fun r8 =>
      (law01_BytesPairs_l1_it r7 r8 o2 b (0, (o2.1, o2.2.1))).bind fun o4 =>
      match o4 with
      | .inl s =>
        law01_awake.bind fun r15 =>
        some r15
      | .inr o5 =>
        some o5
def law01_BytesPairs_fa : FnA := ⟨.two (.leaf) (.two (.two (.join ⟨[28], ⟨(.cons (.p .bool) .nil), []⟩⟩ false [] (.leaf)) (.two (.two (.reg [(0, {  })]) (.leaf)) (.leaf))) (.two (.reg [(0, { fn := 1 }), (1, { ids := [100] })]) (.two (.reg [(1, { ids := [101], md := [1, 0], fn := 2 })]) (.two (.two (.leaf) (.two (.leaf) (.leaf))) (.two (.reg [(3, { fn := 3 })]) (.two (.reg [(1, { ids := [102], fn := 4 })]) (.two (.two (.leaf) (.one (.loop ⟨[11, 12, 14, 15], ⟨(.cons (.own 1 100 0 0) (.cons (.slf 1 101) (.cons (.slf 1 102) (.cons (.p (.int .i64)) .nil)))), [(100, true, (.rows 27 (.int .u32))), (101, false, (.rows 5 .byte)), (102, false, (.rows 5 .byte))]⟩⟩ false [(0, ⟨[11, 12, 14], ⟨(.cons (.own 1 100 0 0) (.cons (.slf 1 101) (.cons (.slf 1 102) .nil))), [(100, true, (.rows 27 (.int .u32))), (101, false, (.rows 5 .byte)), (102, false, (.rows 5 .byte))]⟩⟩)] (.two (.two (.join ⟨[11, 12, 14, 54], ⟨(.cons (.own 1 100 0 0) (.cons (.slf 1 101) (.cons (.slf 1 102) (.cons (.p .bool) .nil)))), [(100, true, (.rows 27 (.int .u32))), (101, false, (.rows 5 .byte)), (102, false, (.rows 5 .byte))]⟩⟩ false [] (.leaf)) (.leaf)) (.two (.leaf) (.leaf)))))) (.two (.two (.reg [(2, { ids := [103] }), (3, { ids := [104], md := [0, 1], fn := 5 }), (7, { ids := [105] }), (8, { ids := [106], md := [0, 1], fn := 5 })]) (.one (.pre (.pure 80) (.loop ⟨[11, 12, 81], ⟨(.cons (.own 1 100 0 0) (.cons (.slf 1 101) (.cons (.p (.int .i64)) .nil))), [(100, true, (.rows 27 (.int .u32))), (101, false, (.rows 5 .byte))]⟩⟩ true [(2, ⟨[], ⟨.nil, []⟩⟩)] (.two (.leaf) (.two (.leaf) (.two (.one (.two (.leaf) (.two (.leaf) (.two (.reg [(1, { ids := [107], fn := 4 }), (6, { ids := [108] }), (7, { md := [1, 1], fn := 6 })]) (.two (.join ⟨[11, 12, 128], ⟨(.cons (.own 1 100 0 0) (.cons (.slf 1 101) (.cons (.p .bool) .nil))), [(100, true, (.rows 27 (.int .u32))), (101, false, (.rows 5 .byte))]⟩⟩ false [] (.reg [(22, { md := [2, 0], fn := 7 }), (24, { md := [2, 0], fn := 7 })])) (.two (.leaf) (.leaf))))))) (.leaf)))))))) (.two (.reg [(0, {  })]) (.leaf)))))))))), ⟨(.cons (.p (.sl .byte)) (.cons (.p (.int .u16)) (.cons (.p (.int .u16)) (.cons (.p (.int .i64)) (.cons (.p (.int .u32)) .nil))))), []⟩, [⟨(.cons (.p .bool) .nil), []⟩], [0]⟩
def law01_BytesPairs_ft : FnT := ⟨5, ⟨(.cons (.p (.sl .byte)) (.cons (.p (.int .u16)) (.cons (.p (.int .u16)) (.cons (.p (.int .i64)) (.cons (.p (.int .u32)) .nil))))), []⟩, [⟨(.cons (.p .bool) .nil), []⟩], fun t => law01_BytesPairs t.1 t.2.1 t.2.2.1 t.2.2.2.1 t.2.2.2.2⟩
theorem law01_BytesPairs_eq : ∀ t, evF Go.Proofs.Try.prog [law01_awake_ft, bytes_Table_ft, bytes_Seal_ft, low_Pick_ft, low_CopyBytes_ft, law01_turned_ft, bytes_Unseal_ft, bytes_Sum_ft] Go.Proofs.Try.f5 law01_BytesPairs_fa t = law01_BytesPairs_ft.spec t := fun t => by kernel_rfl
theorem law01_BytesPairs_told : Told Go.Proofs.Try.prog law01_BytesPairs_ft := told_of (allT_cons law01_awake_told (allT_cons bytes_Table_told (allT_cons bytes_Seal_told (allT_cons low_Pick_told (allT_cons low_CopyBytes_told (allT_cons law01_turned_told (allT_cons bytes_Unseal_told (allT_cons bytes_Sum_told allT_nil)))))))) mixed Go.Proofs.Try.func5 (by kernel_rfl) (by kernel_rfl) law01_BytesPairs_eq

def bytes_GetBlob (b : List (UInt8)) (at_ : Int) (most : Int) : Option ((Int × (Int × List (UInt8)))) :=
  (bytes_GetUint b at_).bind fun r =>
  bif (!(r.2.2 == 0)) then
    some (0, (r.2.2, []))
  else
    Option.bind (α := (Bool)) (
      bif (decide (most < 0)) then
        some (decide (most < 0))
      else
        some (decide (r.1 > (IntKind.wrap .u64 most)))) fun o =>
    bif o then
      some (0, (3, []))
    else
      bif (decide (r.1 > (IntKind.wrap .u64 (IntKind.wrap .i64 (((b.length : Nat) : Int) - r.2.1))))) then
        some (0, (11, []))
      else
        (upto? r.2.1 b.length).bind fun q =>
        (upto? r.1 (List.drop q b).length).bind fun q1 =>
        (slices_Clone__byte_byte (List.take q1 (List.drop q b))).bind fun r1 =>
        some ((IntKind.wrap .i64 (r.2.1 + (((List.take q1 (List.drop q b)).length : Nat) : Int))), (0, r1))
def bytes_GetBlob_fa : FnA := ⟨.two (.leaf) (.two (.reg [(2, {  })]) (.two (.leaf) (.two (.one (.two (.leaf) (.two (.leaf) (.two (.two (.leaf) (.join ⟨[30], ⟨(.cons (.p .bool) .nil), []⟩⟩ false [] (.leaf))) (.two (.leaf) (.two (.leaf) (.two (.leaf) (.leaf)))))))) (.two (.leaf) (.two (.reg [(1, { ids := [100], fn := 1 })]) (.leaf)))))), ⟨(.cons (.p (.sl .byte)) (.cons (.p (.int .i64)) (.cons (.p (.int .i64)) .nil))), []⟩, [⟨(.cons (.slf 1 0) (.cons (.p (.int .i64)) (.cons (.p (.int .i64)) .nil))), [(0, false, (.rows 5 .byte))]⟩], [15, 0, 0]⟩
def bytes_GetBlob_ft : FnT := ⟨22, ⟨(.cons (.p (.sl .byte)) (.cons (.p (.int .i64)) (.cons (.p (.int .i64)) .nil))), []⟩, [⟨(.cons (.slf 1 0) (.cons (.p (.int .i64)) (.cons (.p (.int .i64)) .nil))), [(0, false, (.rows 5 .byte))]⟩], fun t => bytes_GetBlob t.1 t.2.1 t.2.2⟩
theorem bytes_GetBlob_eq : ∀ t, evF Go.Proofs.Try.prog [bytes_GetUint_ft, slices_Clone__byte_byte_ft] Go.Proofs.Try.f22 bytes_GetBlob_fa t = bytes_GetBlob_ft.spec t := fun t => by kernel_rfl
theorem bytes_GetBlob_told : Told Go.Proofs.Try.prog bytes_GetBlob_ft := told_of (allT_cons bytes_GetUint_told (allT_cons slices_Clone__byte_byte_told allT_nil)) mixed Go.Proofs.Try.func22 (by kernel_rfl) (by kernel_rfl) bytes_GetBlob_eq

def bytes_Uint_v1_l0 (n1 : Int) (h1 : List (UInt8)) : Option ((Int × List (UInt8)) ⊕ ((Int × List (UInt8)))) :=
  bif (decide (n1 > 127)) then
    (byte? (IntKind.wrap .u8 (IntKind.wrap .u64 ((Int.tmod n1 128) + 128)))).bind fun c =>
    need ((Nat.ble ((h1.length + 1) * 1) room) && (Nat.ble (h1.length + 1) room)) <|
    some (.inl ((IntKind.wrap .u64 (Int.tdiv n1 128)), (h1 ++ [c])))
  else
    some (.inr (n1, h1))
def bytes_Uint_v1_l0_it  (tt : (Int × List (UInt8))) : Option ((Int × List (UInt8))) :=
  iter fuel (fun tt => bytes_Uint_v1_l0 tt.1 tt.2) tt
def bytes_Uint_v1 (n : Int) (h : List (UInt8)) : Option (List (UInt8)) :=
  (bytes_Uint_v1_l0_it  (n, h)).bind fun o =>
  (byte? (IntKind.wrap .u8 o.1)).bind fun c1 =>
  need ((Nat.ble ((o.2.length + 1) * 1) room) && (Nat.ble (o.2.length + 1) room)) <|
  some (o.2 ++ [c1])
def bytes_Uint_v1_fa : FnA := ⟨.two (.leaf) (.two (.one (.pre (.renum 0 100) (.loop ⟨[0, 1], ⟨(.cons (.slf 1 100) (.cons (.p (.int .u64)) .nil)), [(100, false, (.rows 5 .byte))]⟩⟩ false [(0, ⟨[0, 1], ⟨(.cons (.slf 1 100) (.cons (.p (.int .u64)) .nil)), [(100, false, (.rows 5 .byte))]⟩⟩)] (.two (.two (.leaf) (.leaf)) (.one (.reg [(5, { ids := [101] }), (6, { ids := [102] })])))))) (.two (.reg [(3, { ids := [103] }), (4, { ids := [104] })]) (.leaf))), ⟨(.cons (.slf 1 0) (.cons (.p (.int .u64)) .nil)), [(0, false, (.rows 5 .byte))]⟩, [⟨(.cons (.slf 1 1) .nil), [(1, false, (.rows 5 .byte))]⟩], [0]⟩
def bytes_Uint_v1_ft : FnT := ⟨15, ⟨(.cons (.slf 1 0) (.cons (.p (.int .u64)) .nil)), [(0, false, (.rows 5 .byte))]⟩, [⟨(.cons (.slf 1 1) .nil), [(1, false, (.rows 5 .byte))]⟩], fun t => bytes_Uint_v1 t.1 t.2⟩
theorem bytes_Uint_v1_eq : ∀ t, evF Go.Proofs.Try.prog [] Go.Proofs.Try.f15 bytes_Uint_v1_fa t = bytes_Uint_v1_ft.spec t := fun t => by kernel_rfl
theorem bytes_Uint_v1_told : Told Go.Proofs.Try.prog bytes_Uint_v1_ft := told_of allT_nil mixed Go.Proofs.Try.func15 (by kernel_rfl) (by kernel_rfl) bytes_Uint_v1_eq

def bytes_Blob_v1 (b : List (UInt8)) (h : List (UInt8)) : Option (List (UInt8)) :=
  (bytes_Uint_v1 (IntKind.wrap .u64 ((b.length : Nat) : Int)) h).bind fun r =>
  (slices_Concat__byte_byte [r, b]).bind fun r1 =>
  some r1
def bytes_Blob_v1_fa : FnA := ⟨.two (.leaf) (.two (.reg [(4, { ids := [100], sh := [0] }), (6, { ids := [101] }), (7, { ids := [102], md := [1], fn := 1 })]) (.leaf)), ⟨(.cons (.slf 1 0) (.cons (.p (.sl .byte)) .nil)), [(0, false, (.rows 5 .byte))]⟩, [⟨(.cons (.slf 1 1) .nil), [(1, false, (.rows 5 .byte))]⟩], [0]⟩
def bytes_Blob_v1_ft : FnT := ⟨26, ⟨(.cons (.slf 1 0) (.cons (.p (.sl .byte)) .nil)), [(0, false, (.rows 5 .byte))]⟩, [⟨(.cons (.slf 1 1) .nil), [(1, false, (.rows 5 .byte))]⟩], fun t => bytes_Blob_v1 t.1 t.2⟩
theorem bytes_Blob_v1_eq : ∀ t, evF Go.Proofs.Try.prog [bytes_Uint_v1_ft, slices_Concat__byte_byte_ft] Go.Proofs.Try.f26 bytes_Blob_v1_fa t = bytes_Blob_v1_ft.spec t := fun t => by kernel_rfl
theorem bytes_Blob_v1_told : Told Go.Proofs.Try.prog bytes_Blob_v1_ft := told_of (allT_cons bytes_Uint_v1_told (allT_cons slices_Concat__byte_byte_told allT_nil)) mixed Go.Proofs.Try.func26 (by kernel_rfl) (by kernel_rfl) bytes_Blob_v1_eq

def law01_sent_l0 (l : List ((Int × (List (UInt8) × Bool)))) (t : List (Int)) (x : Int) (h1 : List (UInt8)) : Option ((Int × List (UInt8)) ⊕ (List (UInt8))) :=
  bif (decide (x < ((l.length : Nat) : Int))) then
    (idx? x l.length).bind fun q =>
    (l)[q]?.bind fun r =>
    Option.bind (α := (List (UInt8))) (
      bif r.2.2 then
        (bytes_Uint r.1).bind fun r1 =>
        (bytes_Blob_v1 r.2.1 r1).bind fun r2 =>
        (bytes_Seal t r2).bind fun r3 =>
        (bytes_Blob_v1 r3 h1).bind fun r4 =>
        some r4
      else
        (bytes_Uint_v1 r.1 h1).bind fun r5 =>
        (bytes_Blob_v1 r.2.1 r5).bind fun r6 =>
        some r6) fun o =>
    some (.inl ((IntKind.wrap .i64 (x + 1)), o))
  else
    some (.inr h1)
def law01_sent_l0_it (l : List ((Int × (List (UInt8) × Bool)))) (t : List (Int)) (tt : (Int × List (UInt8))) : Option (List (UInt8)) :=
  iter fuel (fun tt => law01_sent_l0 l t tt.1 tt.2) tt
def law01_sent (t : List (Int)) (l : List ((Int × (List (UInt8) × Bool)))) (h : List (UInt8)) : Option (List (UInt8)) :=
  (law01_sent_l0_it l t (0, h)).bind fun o1 =>
  some o1
def law01_sent_fa : FnA := ⟨.two (.leaf) (.two (.two (.leaf) (.one (.pre (.renum 0 100) (.loop ⟨[1, 11], ⟨(.cons (.slf 1 100) (.cons (.p (.int .i64)) .nil)), [(100, false, (.rows 5 .byte))]⟩⟩ false [(0, ⟨[1], ⟨(.cons (.slf 1 100) .nil), [(100, false, (.rows 5 .byte))]⟩⟩)] (.two (.leaf) (.two (.leaf) (.two (.one (.two (.reg [(2, { ids := [101] })]) (.two (.leaf) (.join ⟨[1], ⟨(.cons (.slf 1 105) .nil), [(105, false, (.rows 5 .byte))]⟩⟩ false [] (.two (.reg [(4, { ids := [102] }), (7, { ids := [103], sh := [102], fn := 1 }), (8, { ids := [104], md := [0, 1], fn := 2 }), (9, { ids := [105], sh := [100], md := [0, 1], fn := 1 })]) (.reg [(3, { ids := [106], sh := [100], fn := 3 }), (6, { ids := [107], sh := [106], fn := 1 })])))))) (.leaf)))))))) (.leaf)), ⟨(.cons (.pt (.int .u32)) (.cons (.slf 1 0) (.cons (.p (.sl (.pair (.int .u64) (.pair (.sl .byte) .bool)))) .nil))), [(0, false, (.rows 5 .byte))]⟩, [⟨(.cons (.slf 1 1) .nil), [(1, false, (.rows 5 .byte))]⟩], [0]⟩
def law01_sent_ft : FnT := ⟨33, ⟨(.cons (.pt (.int .u32)) (.cons (.slf 1 0) (.cons (.p (.sl (.pair (.int .u64) (.pair (.sl .byte) .bool)))) .nil))), [(0, false, (.rows 5 .byte))]⟩, [⟨(.cons (.slf 1 1) .nil), [(1, false, (.rows 5 .byte))]⟩], fun t => law01_sent t.1 t.2.1 t.2.2⟩
theorem law01_sent_eq : ∀ t, evF Go.Proofs.Try.prog [bytes_Uint_ft, bytes_Blob_v1_ft, bytes_Seal_ft, bytes_Uint_v1_ft] Go.Proofs.Try.f33 law01_sent_fa t = law01_sent_ft.spec t := fun t => by kernel_rfl
theorem law01_sent_told : Told Go.Proofs.Try.prog law01_sent_ft := told_of (allT_cons bytes_Uint_told (allT_cons bytes_Blob_v1_told (allT_cons bytes_Seal_told (allT_cons bytes_Uint_v1_told allT_nil)))) mixed Go.Proofs.Try.func33 (by kernel_rfl) (by kernel_rfl) law01_sent_eq

def law01_got (t : List (Int)) (b : List (UInt8)) (at_ : Int) (p : (Int × (List (UInt8) × Bool))) : Option ((Int × Bool)) :=
  Option.bind (α := ((List (UInt8) × (Int × (Int × (Int × (List (UInt8) × Bool))))) ⊕ (Int × Bool))) (
    bif p.2.2 then
      (bytes_GetBlob b at_ 1048576).bind fun r =>
      (bytes_Unseal t r.2.2).bind fun r1 =>
      Option.bind (α := ((Bool × (Int × (List (UInt8) × Bool))))) (
        bif (!(r.2.1 == 0)) then
          some (true, (p.1, (p.2.1, p.2.2)))
        else
          some ((!(r1.2 == 0)), (p.1, (p.2.1, p.2.2)))) fun o =>
      bif o.1 then
        some (.inr (0, false))
      else
        some (.inl (r1.1, (0, (r.1, (o.2.1, (o.2.2.1, o.2.2.2))))))
    else
      some (.inl (b, (at_, (at_, (p.1, (p.2.1, p.2.2))))))) fun o1 =>
  match o1 with
  | .inl s =>
    (bytes_GetUint s.1 s.2.1).bind fun r2 =>
    Option.bind (α := ((Bool × (Int × (List (UInt8) × Bool))))) (
      bif (!(r2.2.2 == 0)) then
        some (true, (s.2.2.2.1, (s.2.2.2.2.1, s.2.2.2.2.2)))
      else
        some ((!(r2.1 == s.2.2.2.1)), (s.2.2.2.1, (s.2.2.2.2.1, s.2.2.2.2.2)))) fun o3 =>
    bif o3.1 then
      some (0, false)
    else
      (bytes_GetBlob s.1 r2.2.1 ((o3.2.2.1.length : Nat) : Int)).bind fun r3 =>
      Option.bind (α := ((Int × (Int × (List (UInt8) × (Bool × List (UInt8))))))) (
        bif (!o3.2.2.2) then
          some (r3.1, (o3.2.1, (o3.2.2.1, (o3.2.2.2, r3.2.2))))
        else
          some (s.2.2.1, (o3.2.1, (o3.2.2.1, (o3.2.2.2, r3.2.2))))) fun o4 =>
      bif (r3.2.1 == 0) then
        bif (o4.2.2.2.2 == o4.2.2.1) then
          bif (!o4.2.2.2.1) then
            some (o4.1, true)
          else
            some (o4.1, (r3.1 == ((s.1.length : Nat) : Int)))
        else
          some (o4.1, false)
      else
        some (o4.1, false)
  | .inr o2 =>
    some o2
def law01_got_fa : FnA := ⟨.two (.reg [(0, { ids := [100] })]) (.two (.leaf) (.two (.two (.leaf) (.join ⟨[1, 2, 7, 10], ⟨(.cons (.p (.sl .byte)) (.cons (.p (.int .i64)) (.cons (.own 0 100 0 0) (.cons (.p (.int .i64)) .nil)))), [(100, false, (.vars (.cons (.p (.int .u64)) (.cons (.p (.sl .byte)) (.cons (.p .bool) .nil)))))]⟩⟩ true [] (.two (.two (.reg [(2, { ids := [101] })]) (.two (.reg [(2, { md := [0, 1], fn := 1 })]) (.two (.two (.join ⟨[7, 43], ⟨(.cons (.own 0 100 0 0) (.cons (.p .bool) .nil)), [(100, false, (.vars (.cons (.p (.int .u64)) (.cons (.p (.sl .byte)) (.cons (.p .bool) .nil)))))]⟩⟩ false [] (.leaf)) (.two (.leaf) (.leaf))) (.leaf)))) (.leaf)))) (.two (.reg [(2, { fn := 2 })]) (.two (.two (.join ⟨[7, 60], ⟨(.cons (.own 0 100 0 0) (.cons (.p .bool) .nil)), [(100, false, (.vars (.cons (.p (.int .u64)) (.cons (.p (.sl .byte)) (.cons (.p .bool) .nil)))))]⟩⟩ false [] (.leaf)) (.two (.leaf) (.leaf))) (.two (.reg [(5, { ids := [102] })]) (.two (.two (.leaf) (.join ⟨[7, 10, 19], ⟨(.cons (.own 0 100 0 0) (.cons (.p (.int .i64)) (.cons (.slf 1 102) .nil))), [(100, false, (.vars (.cons (.p (.int .u64)) (.cons (.p (.sl .byte)) (.cons (.p .bool) .nil))))), (102, false, (.rows 5 .byte))]⟩⟩ false [] (.leaf))) (.leaf))))))), ⟨(.cons (.pt (.int .u32)) (.cons (.p (.sl .byte)) (.cons (.p (.int .i64)) (.cons (.p (.pair (.int .u64) (.pair (.sl .byte) .bool))) .nil)))), []⟩, [⟨(.cons (.p (.int .i64)) (.cons (.p .bool) .nil)), []⟩], [0, 0]⟩
def law01_got_ft : FnT := ⟨34, ⟨(.cons (.pt (.int .u32)) (.cons (.p (.sl .byte)) (.cons (.p (.int .i64)) (.cons (.p (.pair (.int .u64) (.pair (.sl .byte) .bool))) .nil)))), []⟩, [⟨(.cons (.p (.int .i64)) (.cons (.p .bool) .nil)), []⟩], fun t => law01_got t.1 t.2.1 t.2.2.1 t.2.2.2⟩
theorem law01_got_eq : ∀ t, evF Go.Proofs.Try.prog [bytes_GetBlob_ft, bytes_Unseal_ft, bytes_GetUint_ft] Go.Proofs.Try.f34 law01_got_fa t = law01_got_ft.spec t := fun t => by kernel_rfl
theorem law01_got_told : Told Go.Proofs.Try.prog law01_got_ft := told_of (allT_cons bytes_GetBlob_told (allT_cons bytes_Unseal_told (allT_cons bytes_GetUint_told allT_nil))) mixed Go.Proofs.Try.func34 (by kernel_rfl) (by kernel_rfl) law01_got_eq

def law01_BytesParcels_l0 (q : Nat) (l : List ((Int × (List (UInt8) × Bool)))) (x : Int) : Option (Int ⊕ (Unit ⊕ Bool)) :=
  bif (decide (x < (((List.take q l).length : Nat) : Int))) then
    (idx? x (List.take q l).length).bind fun q1 =>
    ((List.take q l))[q1]?.bind fun r =>
    bif (decide (((r.2.1.length : Nat) : Int) > 100)) then
      law01_awake.bind fun r1 =>
      some (.inr (.inr r1))
    else
      some (.inl (IntKind.wrap .i64 (x + 1)))
  else
    some (.inr (.inl ()))
def law01_BytesParcels_l0_it (q : Nat) (l : List ((Int × (List (UInt8) × Bool)))) (tt : Int) : Option (Unit ⊕ Bool) :=
  iter fuel (fun tt => law01_BytesParcels_l0 q l tt) tt
def law01_BytesParcels_l1 (q : Nat) (l : List ((Int × (List (UInt8) × Bool)))) (at_ : Int) (x1 : Int) (h : List (Int)) (h1 : List (UInt8)) : Option ((Int × (Int × (List (Int) × List (UInt8)))) ⊕ (Int ⊕ Bool)) :=
  bif (decide (x1 < (((List.take q l).length : Nat) : Int))) then
    (idx? x1 (List.take q l).length).bind fun q2 =>
    ((List.take q l))[q2]?.bind fun r6 =>
    (law01_got h h1 at_ (r6.1, (r6.2.1, r6.2.2))).bind fun r7 =>
    bif (!r7.2) then
      some (.inr (.inr false))
    else
      some (.inl (r7.1, ((IntKind.wrap .i64 (x1 + 1)), (h, h1))))
  else
    some (.inr (.inl at_))
def law01_BytesParcels_l1_it (q : Nat) (l : List ((Int × (List (UInt8) × Bool)))) (tt : (Int × (Int × (List (Int) × List (UInt8))))) : Option (Int ⊕ Bool) :=
  iter fuel (fun tt => law01_BytesParcels_l1 q l tt.1 tt.2.1 tt.2.2.1 tt.2.2.2) tt
def law01_BytesParcels (l : List ((Int × (List (UInt8) × Bool)))) (ahead : List (UInt8)) (behind : List (UInt8)) : Option (Bool) :=
  (upto? (if 20 < ((l.length : Nat) : Int) then 20 else ((l.length : Nat) : Int)) l.length).bind fun q =>
  (law01_BytesParcels_l0_it q l 0).bind fun o =>
  match o with
  | .inl s =>
    Option.bind (α := (Bool)) (
      bif (decide (((ahead.length : Nat) : Int) > 100)) then
        some true
      else
        some (decide (((behind.length : Nat) : Int) > 100))) fun o2 =>
    bif o2 then
      law01_awake.bind fun r2 =>
      some r2
    else
      bytes_Table.bind fun r3 =>
      need (Nat.beq (List.replicate 256 0).length 256) <|
      need (Nat.beq r3.length 256) <|
      (low_CopyBytes ahead).bind fun r4 =>
      (law01_sent r3 (List.take q l) r4).bind fun r5 =>
      need ((Nat.ble ((r5.length + behind.length) * 1) room) && (Nat.ble (r5.length + behind.length) room)) <|
      (law01_BytesParcels_l1_it q l (((ahead.length : Nat) : Int), (0, (r3, (r5 ++ behind))))).bind fun o3 =>
      match o3 with
      | .inl s1 =>
        bif (s1 == ((r5.length : Nat) : Int)) then
          law01_awake.bind fun r8 =>
          some r8
        else
          some false
      | .inr o4 =>
        some o4
  | .inr o1 =>
    some o1
def law01_BytesParcels_fa : FnA := ⟨.two (.leaf) (.two (.leaf) (.two (.two (.leaf) (.one (.loop ⟨[24], ⟨(.cons (.p (.int .i64)) .nil), []⟩⟩ true [(0, ⟨[], ⟨.nil, []⟩⟩)] (.two (.leaf) (.two (.leaf) (.two (.one (.two (.reg [(2, { ids := [100] })]) (.two (.leaf) (.two (.two (.reg [(0, {  })]) (.leaf)) (.leaf))))) (.leaf))))))) (.two (.two (.join ⟨[41], ⟨(.cons (.p .bool) .nil), []⟩⟩ false [] (.leaf)) (.two (.two (.reg [(0, {  })]) (.leaf)) (.leaf))) (.two (.reg [(0, { fn := 1 }), (1, { ids := [101] })]) (.two (.reg [(1, { ids := [102], fn := 2 }), (3, { ids := [103], sh := [102], md := [1, 0, 0], fn := 3 })]) (.two (.leaf) (.two (.reg [(2, { ids := [104] })]) (.two (.leaf) (.two (.two (.leaf) (.one (.loop ⟨[9, 10, 12, 57], ⟨(.cons (.own 1 101 0 0) (.cons (.slf 1 104) (.cons (.p (.int .i64)) (.cons (.p (.int .i64)) .nil)))), [(101, true, (.rows 27 (.int .u32))), (104, false, (.rows 5 .byte))]⟩⟩ true [(2, ⟨[12], ⟨(.cons (.p (.int .i64)) .nil), []⟩⟩)] (.two (.leaf) (.two (.leaf) (.two (.one (.two (.reg [(2, { ids := [105] })]) (.two (.reg [(3, { md := [2, 2, 0, 0], fn := 4 })]) (.two (.two (.leaf) (.two (.leaf) (.leaf))) (.leaf))))) (.leaf))))))) (.two (.reg [(4, {  })]) (.leaf))))))))))), ⟨(.cons (.p (.sl (.pair (.int .u64) (.pair (.sl .byte) .bool)))) (.cons (.p (.sl .byte)) (.cons (.p (.sl .byte)) .nil))), []⟩, [⟨(.cons (.p .bool) .nil), []⟩], [0]⟩
def law01_BytesParcels_ft : FnT := ⟨9, ⟨(.cons (.p (.sl (.pair (.int .u64) (.pair (.sl .byte) .bool)))) (.cons (.p (.sl .byte)) (.cons (.p (.sl .byte)) .nil))), []⟩, [⟨(.cons (.p .bool) .nil), []⟩], fun t => law01_BytesParcels t.1 t.2.1 t.2.2⟩
theorem law01_BytesParcels_eq : ∀ t, evF Go.Proofs.Try.prog [law01_awake_ft, bytes_Table_ft, low_CopyBytes_ft, law01_sent_ft, law01_got_ft] Go.Proofs.Try.f9 law01_BytesParcels_fa t = law01_BytesParcels_ft.spec t := fun t => by kernel_rfl
theorem law01_BytesParcels_told : Told Go.Proofs.Try.prog law01_BytesParcels_ft := told_of (allT_cons law01_awake_told (allT_cons bytes_Table_told (allT_cons low_CopyBytes_told (allT_cons law01_sent_told (allT_cons law01_got_told allT_nil))))) mixed Go.Proofs.Try.func9 (by kernel_rfl) (by kernel_rfl) law01_BytesParcels_eq
end
end Go.Ab.D
