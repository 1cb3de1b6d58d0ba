/- Functions of the program as plain Lean functions: each equation is checked by the kernel; what is told of a function follows from it. -/
import Derived.Test.YtnlofelalmefnaaCallTellsD1
set_option linter.all false
set_option maxRecDepth 100000
set_option maxHeartbeats 4000000
namespace Go.Ab.D
open Go Go.Ab
noncomputable section
def ref21_uints_o0o1_l0 (fu : Nat) (i : Int) (h2 : List (UInt8)) (h3 : List (Int)) : Option ((Int × (List (UInt8) × List (Int))) ⊕ ((List (UInt8) × List (Int)))) :=
  bif (decide (i < ((h3.length : Nat) : Int))) then
    (idx? i h3.length).bind fun q =>
    (h3)[q]?.bind fun r =>
    (ref01_Uint fu h2 (IntKind.wrap .u64 r)).bind fun r1 =>
    some (.inl ((IntKind.wrap .i64 (i + 1)), (r1, h3)))
  else
    some (.inr (h2, h3))
def ref21_uints_o0o1_l0_it (fu : Nat)  (tt : (Int × (List (UInt8) × List (Int)))) : Option ((List (UInt8) × List (Int))) :=
  iter fu (fun tt => ref21_uints_o0o1_l0 fu tt.1 tt.2.1 tt.2.2) tt
def ref21_uints_o0o1 (fu : Nat) (h : List (UInt8)) (h1 : List (Int)) : Option ((List (Int) × List (UInt8))) :=
  (ref21_uints_o0o1_l0_it fu  (0, (h, h1))).bind fun o =>
  some (o.2, o.1)
def ref21_uints_o0o1_fa : FnA := ⟨.two (.leaf) (.two (.two (.leaf) (.one (.pre (.renum 0 100) (.loop ⟨[0, 1, 5], ⟨(.cons (.slf 1 100) (.cons (.slf 1 1) (.cons (.p (.int .i64)) .nil))), [(100, false, (.rows 5 .byte)), (1, false, (.rows 3 (.int .i64)))]⟩⟩ false [(0, ⟨[0, 1], ⟨(.cons (.slf 1 100) (.cons (.slf 1 1) .nil)), [(100, false, (.rows 5 .byte)), (1, false, (.rows 3 (.int .i64)))]⟩⟩)] (.two (.two (.leaf) (.leaf)) (.two (.one (.reg [(6, { ids := [101], md := [1, 0] })])) (.leaf))))))) (.leaf)), ⟨(.cons (.slf 1 0) (.cons (.slf 1 1) .nil)), [(0, false, (.rows 5 .byte)), (1, false, (.rows 3 (.int .i64)))]⟩, [⟨(.cons (.slf 1 2) .nil), [(1, false, (.rows 3 (.int .i64))), (2, false, (.rows 5 .byte))]⟩], [0]⟩
def ref21_uints_o0o1_ft (fu : Nat) : FnT := ⟨65, ⟨(.cons (.slf 1 0) (.cons (.slf 1 1) .nil)), [(0, false, (.rows 5 .byte)), (1, false, (.rows 3 (.int .i64)))]⟩, [⟨(.cons (.slf 1 2) .nil), [(1, false, (.rows 3 (.int .i64))), (2, false, (.rows 5 .byte))]⟩], fun t => ref21_uints_o0o1 fu t.1 t.2⟩
theorem ref21_uints_o0o1_eq (fu : Nat) : ∀ t, evF Go.Proofs.Try.prog [ref01_Uint_ft fu] fu Go.Proofs.Try.f65 ref21_uints_o0o1_fa t = (ref21_uints_o0o1_ft fu).spec t := fun t => by kernel_rfl
theorem ref21_uints_o0o1_told (fu : Nat) : Told Go.Proofs.Try.prog (ref21_uints_o0o1_ft fu) := told_of (allT_cons (ref01_Uint_told fu) allT_nil) mixed Go.Proofs.Try.func65 (by kernel_rfl) (by kernel_rfl) (ref21_uints_o0o1_eq fu)

def ref01_Blob (fu : Nat) (out : List (UInt8)) (b : List (UInt8)) : Option (List (UInt8)) :=
  (ref01_Uint fu out (IntKind.wrap .u64 ((b.length : Nat) : Int))).bind fun r =>
  (ref01_joined fu r b).bind fun r1 =>
  some r1
def ref01_Blob_fa : FnA := ⟨.two (.leaf) (.two (.reg [(4, { ids := [100] }), (6, { ids := [101], md := [1, 0], fn := 1 })]) (.leaf)), ⟨(.cons (.p (.sl .byte)) (.cons (.p (.sl .byte)) .nil)), []⟩, [⟨(.cons (.slf 1 0) .nil), [(0, false, (.rows 5 .byte))]⟩], [0]⟩
def ref01_Blob_ft (fu : Nat) : FnT := ⟨66, ⟨(.cons (.p (.sl .byte)) (.cons (.p (.sl .byte)) .nil)), []⟩, [⟨(.cons (.slf 1 0) .nil), [(0, false, (.rows 5 .byte))]⟩], fun t => ref01_Blob fu t.1 t.2⟩
theorem ref01_Blob_eq (fu : Nat) : ∀ t, evF Go.Proofs.Try.prog [ref01_Uint_ft fu, ref01_joined_ft fu] fu Go.Proofs.Try.f66 ref01_Blob_fa t = (ref01_Blob_ft fu).spec t := fun t => by kernel_rfl
theorem ref01_Blob_told (fu : Nat) : Told Go.Proofs.Try.prog (ref01_Blob_ft fu) := told_of (allT_cons (ref01_Uint_told fu) (allT_cons (ref01_joined_told fu) allT_nil)) mixed Go.Proofs.Try.func66 (by kernel_rfl) (by kernel_rfl) (ref01_Blob_eq fu)

def ref21_call (fu : Nat) (c : (Int × (Int × (UInt8 × ((Int × Int) × (List UInt8 × ((Int × Int) × (List UInt8 × (Int × (Int × List (UInt8))))))))))) : Option (List (UInt8)) :=
  (ref21_uints_o0o1 fu [(UInt8.ofNat 3)] [c.1, c.2.1, (IntKind.wrap .i64 ((c.2.2.1.toNat : Nat) : Int)), c.2.2.2.1.1, c.2.2.2.1.2, c.2.2.2.2.2.1.1, c.2.2.2.2.2.1.2, c.2.2.2.2.2.2.2.1, c.2.2.2.2.2.2.2.2.1]).bind fun r =>
  need (Nat.ble c.2.2.2.2.1.length room) <|
  (ref01_Blob fu r.2 c.2.2.2.2.1).bind fun r1 =>
  need (Nat.ble c.2.2.2.2.2.2.1.length room) <|
  (ref01_Blob fu r1 c.2.2.2.2.2.2.1).bind fun r2 =>
  (ref01_Blob fu r2 c.2.2.2.2.2.2.2.2.2).bind fun r3 =>
  some r3
def ref21_call_fa : FnA := ⟨.two (.reg [(0, { ids := [100] })]) (.two (.reg [(0, { ids := [101] }), (24, { ids := [102] }), (25, { ids := [103], sh := [101, 102] })]) (.two (.reg [(3, { ids := [104] }), (4, { ids := [105], md := [1, 1], fn := 1 })]) (.two (.reg [(3, { ids := [106] }), (4, { ids := [107], md := [1, 1], fn := 1 })]) (.two (.reg [(3, { ids := [108], md := [1, 0], fn := 1 })]) (.leaf))))), ⟨(.cons (.p (.pair (.int .i64) (.pair (.int .i64) (.pair .byte (.pair (.pair (.int .i64) (.int .i64)) (.pair .str (.pair (.pair (.int .i64) (.int .i64)) (.pair .str (.pair (.int .i64) (.pair (.int .i64) (.sl .byte))))))))))) .nil), []⟩, [⟨(.cons (.slf 1 0) .nil), [(0, false, (.rows 5 .byte))]⟩], [0]⟩
def ref21_call_ft (fu : Nat) : FnT := ⟨42, ⟨(.cons (.p (.pair (.int .i64) (.pair (.int .i64) (.pair .byte (.pair (.pair (.int .i64) (.int .i64)) (.pair .str (.pair (.pair (.int .i64) (.int .i64)) (.pair .str (.pair (.int .i64) (.pair (.int .i64) (.sl .byte))))))))))) .nil), []⟩, [⟨(.cons (.slf 1 0) .nil), [(0, false, (.rows 5 .byte))]⟩], fun t => ref21_call fu t⟩
theorem ref21_call_eq (fu : Nat) : ∀ t, evF Go.Proofs.Try.prog [ref21_uints_o0o1_ft fu, ref01_Blob_ft fu] fu Go.Proofs.Try.f42 ref21_call_fa t = (ref21_call_ft fu).spec t := fun t => by kernel_rfl
theorem ref21_call_told (fu : Nat) : Told Go.Proofs.Try.prog (ref21_call_ft fu) := told_of (allT_cons (ref21_uints_o0o1_told fu) (allT_cons (ref01_Blob_told fu) allT_nil)) mixed Go.Proofs.Try.func42 (by kernel_rfl) (by kernel_rfl) (ref21_call_eq fu)

def ref01_Sum_l0 (fu : Nat) (b : List (UInt8)) (t : List (Int)) (s : Int) (i : Int) : Option ((Int × Int) ⊕ (Int)) :=
  bif (decide (i < ((b.length : Nat) : Int))) then
    (idx? i b.length).bind fun q =>
    (b)[q]?.bind fun r =>
    (idx? (bitsI .xor .u32 (Int.tmod s 256) (IntKind.wrap .u32 ((r.toNat : Nat) : Int))) 256).bind fun q1 =>
    (t)[q1]?.bind fun r1 =>
    some (.inl ((bitsI .xor .u32 (IntKind.wrap .u32 (Int.tdiv s 256)) r1), (IntKind.wrap .i64 (i + 1))))
  else
    some (.inr s)
def ref01_Sum_l0_it (fu : Nat) (b : List (UInt8)) (t : List (Int)) (tt : (Int × Int)) : Option (Int) :=
  iter fu (fun tt => ref01_Sum_l0 fu b t tt.1 tt.2) tt
def ref01_Sum (fu : Nat) (t : List (Int)) (b : List (UInt8)) : Option (Int) :=
  (ref01_Sum_l0_it fu b t (4294967295, 0)).bind fun o =>
  some (IntKind.wrap .u32 (4294967295 - o))
def ref01_Sum_fa : FnA := ⟨.two (.leaf) (.two (.two (.leaf) (.leaf)) (.two (.leaf) (.two (.two (.leaf) (.one (.loop ⟨[5, 6], ⟨(.cons (.p (.int .u32)) (.cons (.p (.int .i64)) .nil)), []⟩⟩ false [(0, ⟨[5], ⟨(.cons (.p (.int .u32)) .nil), []⟩⟩)] (.two (.two (.leaf) (.leaf)) (.two (.one (.leaf)) (.leaf)))))) (.leaf)))), ⟨(.cons (.pt (.int .u32)) (.cons (.p (.sl .byte)) .nil)), []⟩, [⟨(.cons (.p (.int .u32)) .nil), []⟩], [0]⟩
def ref01_Sum_ft (fu : Nat) : FnT := ⟨63, ⟨(.cons (.pt (.int .u32)) (.cons (.p (.sl .byte)) .nil)), []⟩, [⟨(.cons (.p (.int .u32)) .nil), []⟩], fun t => ref01_Sum fu t.1 t.2⟩
theorem ref01_Sum_eq (fu : Nat) : ∀ t, evF Go.Proofs.Try.prog [] fu Go.Proofs.Try.f63 ref01_Sum_fa t = (ref01_Sum_ft fu).spec t := fun t => by kernel_rfl
theorem ref01_Sum_told (fu : Nat) : Told Go.Proofs.Try.prog (ref01_Sum_ft fu) := told_of allT_nil mixed Go.Proofs.Try.func63 (by kernel_rfl) (by kernel_rfl) (ref01_Sum_eq fu)

def ref01_Seal (fu : Nat) (t : List (Int)) (b : List (UInt8)) : Option (List (UInt8)) :=
  (ref01_Sum fu t b).bind fun r =>
  (byte? (IntKind.wrap .u8 (IntKind.wrap .u32 (Int.tdiv r 16777216)))).bind fun c =>
  (byte? (IntKind.wrap .u8 (IntKind.wrap .u32 (Int.tdiv r 65536)))).bind fun c1 =>
  (byte? (IntKind.wrap .u8 (IntKind.wrap .u32 (Int.tdiv r 256)))).bind fun c2 =>
  (byte? (IntKind.wrap .u8 r)).bind fun c3 =>
  (ref01_joined fu b [c, c1, c2, c3]).bind fun r1 =>
  some r1
def ref01_Seal_fa : FnA := ⟨.two (.leaf) (.two (.reg [(2, {  })]) (.two (.reg [(12, { ids := [100] }), (13, { ids := [101], md := [0, 1], fn := 1 })]) (.leaf))), ⟨(.cons (.pt (.int .u32)) (.cons (.p (.sl .byte)) .nil)), []⟩, [⟨(.cons (.slf 1 0) .nil), [(0, false, (.rows 5 .byte))]⟩], [0]⟩
def ref01_Seal_ft (fu : Nat) : FnT := ⟨41, ⟨(.cons (.pt (.int .u32)) (.cons (.p (.sl .byte)) .nil)), []⟩, [⟨(.cons (.slf 1 0) .nil), [(0, false, (.rows 5 .byte))]⟩], fun t => ref01_Seal fu t.1 t.2⟩
theorem ref01_Seal_eq (fu : Nat) : ∀ t, evF Go.Proofs.Try.prog [ref01_Sum_ft fu, ref01_joined_ft fu] fu Go.Proofs.Try.f41 ref01_Seal_fa t = (ref01_Seal_ft fu).spec t := fun t => by kernel_rfl
theorem ref01_Seal_told (fu : Nat) : Told Go.Proofs.Try.prog (ref01_Seal_ft fu) := told_of (allT_cons (ref01_Sum_told fu) (allT_cons (ref01_joined_told fu) allT_nil)) mixed Go.Proofs.Try.func41 (by kernel_rfl) (by kernel_rfl) (ref01_Seal_eq fu)

def ref21_PutCall (fu : Nat) (t : List (Int)) (c : (Int × (Int × (UInt8 × ((Int × Int) × (List UInt8 × ((Int × Int) × (List UInt8 × (Int × (Int × List (UInt8))))))))))) : Option ((Int × List (UInt8))) :=
  (byte? ((c.2.2.1.toNat : Nat) : Int)).bind fun c1 =>
  (ref21_RightCall fu (c.1, (c.2.1, (c1, ((c.2.2.2.1.1, c.2.2.2.1.2), (c.2.2.2.2.1, ((c.2.2.2.2.2.1.1, c.2.2.2.2.2.1.2), (c.2.2.2.2.2.2.1, (c.2.2.2.2.2.2.2.1, (c.2.2.2.2.2.2.2.2.1, c.2.2.2.2.2.2.2.2.2)))))))))).bind fun r =>
  bif (!r) then
    some (179, [])
  else
    (byte? ((c.2.2.1.toNat : Nat) : Int)).bind fun c2 =>
    (ref21_call fu (c.1, (c.2.1, (c2, ((c.2.2.2.1.1, c.2.2.2.1.2), (c.2.2.2.2.1, ((c.2.2.2.2.2.1.1, c.2.2.2.2.2.1.2), (c.2.2.2.2.2.2.1, (c.2.2.2.2.2.2.2.1, (c.2.2.2.2.2.2.2.2.1, c.2.2.2.2.2.2.2.2.2)))))))))).bind fun r1 =>
    (ref01_Seal fu t r1).bind fun r2 =>
    some (0, r2)
def ref21_PutCall_fa : FnA := ⟨.two (.reg [(0, { ids := [100] })]) (.two (.two (.reg [(1, {  })]) (.two (.leaf) (.leaf))) (.two (.reg [(2, { ids := [101], fn := 1 }), (3, { ids := [102], md := [0, 1], fn := 2 })]) (.leaf))), ⟨(.cons (.pt (.int .u32)) (.cons (.p (.pair (.int .i64) (.pair (.int .i64) (.pair .byte (.pair (.pair (.int .i64) (.int .i64)) (.pair .str (.pair (.pair (.int .i64) (.int .i64)) (.pair .str (.pair (.int .i64) (.pair (.int .i64) (.sl .byte))))))))))) .nil)), []⟩, [⟨(.cons (.slf 1 0) (.cons (.p (.int .i64)) .nil)), [(0, false, (.rows 5 .byte))]⟩], [15, 0]⟩
def ref21_PutCall_ft (fu : Nat) : FnT := ⟨16, ⟨(.cons (.pt (.int .u32)) (.cons (.p (.pair (.int .i64) (.pair (.int .i64) (.pair .byte (.pair (.pair (.int .i64) (.int .i64)) (.pair .str (.pair (.pair (.int .i64) (.int .i64)) (.pair .str (.pair (.int .i64) (.pair (.int .i64) (.sl .byte))))))))))) .nil)), []⟩, [⟨(.cons (.slf 1 0) (.cons (.p (.int .i64)) .nil)), [(0, false, (.rows 5 .byte))]⟩], fun t => ref21_PutCall fu t.1 t.2⟩
theorem ref21_PutCall_eq (fu : Nat) : ∀ t, evF Go.Proofs.Try.prog [ref21_RightCall_ft fu, ref21_call_ft fu, ref01_Seal_ft fu] fu Go.Proofs.Try.f16 ref21_PutCall_fa t = (ref21_PutCall_ft fu).spec t := fun t => by kernel_rfl
theorem ref21_PutCall_told (fu : Nat) : Told Go.Proofs.Try.prog (ref21_PutCall_ft fu) := told_of (allT_cons (ref21_RightCall_told fu) (allT_cons (ref21_call_told fu) (allT_cons (ref01_Seal_told fu) allT_nil))) mixed Go.Proofs.Try.func16 (by kernel_rfl) (by kernel_rfl) (ref21_PutCall_eq fu)

def ref21_RightReply_l0 (fu : Nat) (i : Int) (h : Int) (h1 : Int) (h2 : Int) (h3 : Int) (h4 : Int) (h5 : Bool) (h6 : Int) (h7 : List (UInt8)) (h8 : List ((List UInt8 × Int))) (h9 : Bool) (h10 : Int) : Option ((Int × (Int × (Int × (Int × (Int × (Int × (Bool × (Int × (List (UInt8) × (List ((List UInt8 × Int)) × (Bool × Int))))))))))) ⊕ (Unit ⊕ Bool)) :=
  bif (decide (i < ((h8.length : Nat) : Int))) then
    (idx? i h8.length).bind fun q =>
    (h8)[q]?.bind fun r2 =>
    Option.bind (α := ((Bool × (Int × (Int × (Int × (Int × (Int × (Bool × (Int × (List (UInt8) × (List ((List UInt8 × Int)) × (Bool × Int))))))))))))) (
      bif (decide (((r2.1.length : Nat) : Int) < 1)) then
        some (true, (h, (h1, (h2, (h3, (h4, (h5, (h6, (h7, (h8, (h9, h10)))))))))))
      else
        bif (decide (((r2.1.length : Nat) : Int) > 100)) then
          some (true, (h, (h1, (h2, (h3, (h4, (h5, (h6, (h7, (h8, (h9, h10)))))))))))
        else
          bif (decide (r2.2 < 1)) then
            some (true, (h, (h1, (h2, (h3, (h4, (h5, (h6, (h7, (h8, (h9, h10)))))))))))
          else
            some ((decide (r2.2 > 500)), (h, (h1, (h2, (h3, (h4, (h5, (h6, (h7, (h8, (h9, h10)))))))))))) fun o3 =>
    bif o3.1 then
      some (.inr (.inr false))
    else
      some (.inl ((IntKind.wrap .i64 (i + 1)), (o3.2.1, (o3.2.2.1, (o3.2.2.2.1, (o3.2.2.2.2.1, (o3.2.2.2.2.2.1, (o3.2.2.2.2.2.2.1, (o3.2.2.2.2.2.2.2.1, (o3.2.2.2.2.2.2.2.2.1, (o3.2.2.2.2.2.2.2.2.2.1, (o3.2.2.2.2.2.2.2.2.2.2.1, o3.2.2.2.2.2.2.2.2.2.2.2))))))))))))
  else
    some (.inr (.inl ()))
def ref21_RightReply_l0_it (fu : Nat)  (tt : (Int × (Int × (Int × (Int × (Int × (Int × (Bool × (Int × (List (UInt8) × (List ((List UInt8 × Int)) × (Bool × Int)))))))))))) : Option (Unit ⊕ Bool) :=
  iter fu (fun tt => ref21_RightReply_l0 fu tt.1 tt.2.1 tt.2.2.1 tt.2.2.2.1 tt.2.2.2.2.1 tt.2.2.2.2.2.1 tt.2.2.2.2.2.2.1 tt.2.2.2.2.2.2.2.1 tt.2.2.2.2.2.2.2.2.1 tt.2.2.2.2.2.2.2.2.2.1 tt.2.2.2.2.2.2.2.2.2.2.1 tt.2.2.2.2.2.2.2.2.2.2.2) tt
def ref21_RightReply (fu : Nat) (r : (Int × (Int × (Int × ((Int × Int) × (Bool × (Int × (List (UInt8) × (List ((List UInt8 × Int)) × (Bool × Int)))))))))) : Option (Bool) :=
  Option.bind (α := ((Bool × (Int × (Int × (Int × (Int × (Int × (Bool × (Int × (List (UInt8) × (List ((List UInt8 × Int)) × (Bool × Int))))))))))))) (
    bif (decide (r.1 < 0)) then
      some (true, (r.1, (r.2.1, (r.2.2.1, (r.2.2.2.1.1, (r.2.2.2.1.2, (r.2.2.2.2.1, (r.2.2.2.2.2.1, (r.2.2.2.2.2.2.1, (r.2.2.2.2.2.2.2.1, (r.2.2.2.2.2.2.2.2.1, r.2.2.2.2.2.2.2.2.2)))))))))))
    else
      bif (decide (r.1 ≥ 16)) then
        some (true, (r.1, (r.2.1, (r.2.2.1, (r.2.2.2.1.1, (r.2.2.2.1.2, (r.2.2.2.2.1, (r.2.2.2.2.2.1, (r.2.2.2.2.2.2.1, (r.2.2.2.2.2.2.2.1, (r.2.2.2.2.2.2.2.2.1, r.2.2.2.2.2.2.2.2.2)))))))))))
      else
        bif (decide (r.2.1 < 1)) then
          some (true, (r.1, (r.2.1, (r.2.2.1, (r.2.2.2.1.1, (r.2.2.2.1.2, (r.2.2.2.2.1, (r.2.2.2.2.2.1, (r.2.2.2.2.2.2.1, (r.2.2.2.2.2.2.2.1, (r.2.2.2.2.2.2.2.2.1, r.2.2.2.2.2.2.2.2.2)))))))))))
        else
          bif (decide (r.2.1 > 1099511627776)) then
            some (true, (r.1, (r.2.1, (r.2.2.1, (r.2.2.2.1.1, (r.2.2.2.1.2, (r.2.2.2.2.1, (r.2.2.2.2.2.1, (r.2.2.2.2.2.2.1, (r.2.2.2.2.2.2.2.1, (r.2.2.2.2.2.2.2.2.1, r.2.2.2.2.2.2.2.2.2)))))))))))
          else
            bif (decide (r.2.2.1 < 0)) then
              some (true, (r.1, (r.2.1, (r.2.2.1, (r.2.2.2.1.1, (r.2.2.2.1.2, (r.2.2.2.2.1, (r.2.2.2.2.2.1, (r.2.2.2.2.2.2.1, (r.2.2.2.2.2.2.2.1, (r.2.2.2.2.2.2.2.2.1, r.2.2.2.2.2.2.2.2.2)))))))))))
            else
              some ((decide (r.2.2.1 > 1000)), (r.1, (r.2.1, (r.2.2.1, (r.2.2.2.1.1, (r.2.2.2.1.2, (r.2.2.2.2.1, (r.2.2.2.2.2.1, (r.2.2.2.2.2.2.1, (r.2.2.2.2.2.2.2.1, (r.2.2.2.2.2.2.2.2.1, r.2.2.2.2.2.2.2.2.2)))))))))))) fun o =>
  bif o.1 then
    some false
  else
    bif (!(o.2.2.2.1 == 0)) then
      Option.bind (α := (Bool)) (
        bif ((o.2.2.2.2.1 == 0) && (o.2.2.2.2.2.1 == 0)) then
          bif (!o.2.2.2.2.2.2.1) then
            bif (o.2.2.2.2.2.2.2.1 == 0) then
              bif (((o.2.2.2.2.2.2.2.2.1.length : Nat) : Int) == 0) then
                bif (((o.2.2.2.2.2.2.2.2.2.1.length : Nat) : Int) == 0) then
                  bif (!o.2.2.2.2.2.2.2.2.2.2.1) then
                    some (o.2.2.2.2.2.2.2.2.2.2.2 == 0)
                  else
                    some false
                else
                  some false
              else
                some false
            else
              some false
          else
            some false
        else
          some false) fun o1 =>
      some o1
    else
      Option.bind (α := ((Bool × (Int × (Int × (Int × (Int × (Int × (Bool × (Int × (List (UInt8) × (List ((List UInt8 × Int)) × (Bool × Int))))))))))))) (
        bif (!((o.2.2.2.2.1 == 0) && (o.2.2.2.2.2.1 == 0))) then
          (ref20_Right fu (o.2.2.2.2.1, o.2.2.2.2.2.1)).bind fun r1 =>
          bif (!r1) then
            some (true, (o.2.1, (o.2.2.1, (o.2.2.2.1, (o.2.2.2.2.1, (o.2.2.2.2.2.1, (o.2.2.2.2.2.2.1, (o.2.2.2.2.2.2.2.1, (o.2.2.2.2.2.2.2.2.1, (o.2.2.2.2.2.2.2.2.2.1, (o.2.2.2.2.2.2.2.2.2.2.1, o.2.2.2.2.2.2.2.2.2.2.2)))))))))))
          else
            bif (decide (o.2.2.2.2.2.2.2.1 < 0)) then
              some (true, (o.2.1, (o.2.2.1, (o.2.2.2.1, (o.2.2.2.2.1, (o.2.2.2.2.2.1, (o.2.2.2.2.2.2.1, (o.2.2.2.2.2.2.2.1, (o.2.2.2.2.2.2.2.2.1, (o.2.2.2.2.2.2.2.2.2.1, (o.2.2.2.2.2.2.2.2.2.2.1, o.2.2.2.2.2.2.2.2.2.2.2)))))))))))
            else
              bif (decide (o.2.2.2.2.2.2.2.1 > 65536)) then
                some (true, (o.2.1, (o.2.2.1, (o.2.2.2.1, (o.2.2.2.2.1, (o.2.2.2.2.2.1, (o.2.2.2.2.2.2.1, (o.2.2.2.2.2.2.2.1, (o.2.2.2.2.2.2.2.2.1, (o.2.2.2.2.2.2.2.2.2.1, (o.2.2.2.2.2.2.2.2.2.2.1, o.2.2.2.2.2.2.2.2.2.2.2)))))))))))
              else
                bif (decide (((o.2.2.2.2.2.2.2.2.1.length : Nat) : Int) > 4096)) then
                  some (true, (o.2.1, (o.2.2.1, (o.2.2.2.1, (o.2.2.2.2.1, (o.2.2.2.2.2.1, (o.2.2.2.2.2.2.1, (o.2.2.2.2.2.2.2.1, (o.2.2.2.2.2.2.2.2.1, (o.2.2.2.2.2.2.2.2.2.1, (o.2.2.2.2.2.2.2.2.2.2.1, o.2.2.2.2.2.2.2.2.2.2.2)))))))))))
                else
                  bif (decide (((o.2.2.2.2.2.2.2.2.2.1.length : Nat) : Int) > 100)) then
                    some (true, (o.2.1, (o.2.2.1, (o.2.2.2.1, (o.2.2.2.2.1, (o.2.2.2.2.2.1, (o.2.2.2.2.2.2.1, (o.2.2.2.2.2.2.2.1, (o.2.2.2.2.2.2.2.2.1, (o.2.2.2.2.2.2.2.2.2.1, (o.2.2.2.2.2.2.2.2.2.2.1, o.2.2.2.2.2.2.2.2.2.2.2)))))))))))
                  else
                    bif (decide (o.2.2.2.2.2.2.2.2.2.2.2 < 0)) then
                      some (true, (o.2.1, (o.2.2.1, (o.2.2.2.1, (o.2.2.2.2.1, (o.2.2.2.2.2.1, (o.2.2.2.2.2.2.1, (o.2.2.2.2.2.2.2.1, (o.2.2.2.2.2.2.2.2.1, (o.2.2.2.2.2.2.2.2.2.1, (o.2.2.2.2.2.2.2.2.2.2.1, o.2.2.2.2.2.2.2.2.2.2.2)))))))))))
                    else
                      some ((decide (o.2.2.2.2.2.2.2.2.2.2.2 > 1099511627776)), (o.2.1, (o.2.2.1, (o.2.2.2.1, (o.2.2.2.2.1, (o.2.2.2.2.2.1, (o.2.2.2.2.2.2.1, (o.2.2.2.2.2.2.2.1, (o.2.2.2.2.2.2.2.2.1, (o.2.2.2.2.2.2.2.2.2.1, (o.2.2.2.2.2.2.2.2.2.2.1, o.2.2.2.2.2.2.2.2.2.2.2)))))))))))
        else
          bif (decide (o.2.2.2.2.2.2.2.1 < 0)) then
            some (true, (o.2.1, (o.2.2.1, (o.2.2.2.1, (o.2.2.2.2.1, (o.2.2.2.2.2.1, (o.2.2.2.2.2.2.1, (o.2.2.2.2.2.2.2.1, (o.2.2.2.2.2.2.2.2.1, (o.2.2.2.2.2.2.2.2.2.1, (o.2.2.2.2.2.2.2.2.2.2.1, o.2.2.2.2.2.2.2.2.2.2.2)))))))))))
          else
            bif (decide (o.2.2.2.2.2.2.2.1 > 65536)) then
              some (true, (o.2.1, (o.2.2.1, (o.2.2.2.1, (o.2.2.2.2.1, (o.2.2.2.2.2.1, (o.2.2.2.2.2.2.1, (o.2.2.2.2.2.2.2.1, (o.2.2.2.2.2.2.2.2.1, (o.2.2.2.2.2.2.2.2.2.1, (o.2.2.2.2.2.2.2.2.2.2.1, o.2.2.2.2.2.2.2.2.2.2.2)))))))))))
            else
              bif (decide (((o.2.2.2.2.2.2.2.2.1.length : Nat) : Int) > 4096)) then
                some (true, (o.2.1, (o.2.2.1, (o.2.2.2.1, (o.2.2.2.2.1, (o.2.2.2.2.2.1, (o.2.2.2.2.2.2.1, (o.2.2.2.2.2.2.2.1, (o.2.2.2.2.2.2.2.2.1, (o.2.2.2.2.2.2.2.2.2.1, (o.2.2.2.2.2.2.2.2.2.2.1, o.2.2.2.2.2.2.2.2.2.2.2)))))))))))
              else
                bif (decide (((o.2.2.2.2.2.2.2.2.2.1.length : Nat) : Int) > 100)) then
                  some (true, (o.2.1, (o.2.2.1, (o.2.2.2.1, (o.2.2.2.2.1, (o.2.2.2.2.2.1, (o.2.2.2.2.2.2.1, (o.2.2.2.2.2.2.2.1, (o.2.2.2.2.2.2.2.2.1, (o.2.2.2.2.2.2.2.2.2.1, (o.2.2.2.2.2.2.2.2.2.2.1, o.2.2.2.2.2.2.2.2.2.2.2)))))))))))
                else
                  bif (decide (o.2.2.2.2.2.2.2.2.2.2.2 < 0)) then
                    some (true, (o.2.1, (o.2.2.1, (o.2.2.2.1, (o.2.2.2.2.1, (o.2.2.2.2.2.1, (o.2.2.2.2.2.2.1, (o.2.2.2.2.2.2.2.1, (o.2.2.2.2.2.2.2.2.1, (o.2.2.2.2.2.2.2.2.2.1, (o.2.2.2.2.2.2.2.2.2.2.1, o.2.2.2.2.2.2.2.2.2.2.2)))))))))))
                  else
                    some ((decide (o.2.2.2.2.2.2.2.2.2.2.2 > 1099511627776)), (o.2.1, (o.2.2.1, (o.2.2.2.1, (o.2.2.2.2.1, (o.2.2.2.2.2.1, (o.2.2.2.2.2.2.1, (o.2.2.2.2.2.2.2.1, (o.2.2.2.2.2.2.2.2.1, (o.2.2.2.2.2.2.2.2.2.1, (o.2.2.2.2.2.2.2.2.2.2.1, o.2.2.2.2.2.2.2.2.2.2.2)))))))))))) fun o2 =>
      bif o2.1 then
        some false
      else
        (ref21_RightReply_l0_it fu  (0, (o2.2.1, (o2.2.2.1, (o2.2.2.2.1, (o2.2.2.2.2.1, (o2.2.2.2.2.2.1, (o2.2.2.2.2.2.2.1, (o2.2.2.2.2.2.2.2.1, (o2.2.2.2.2.2.2.2.2.1, (o2.2.2.2.2.2.2.2.2.2.1, (o2.2.2.2.2.2.2.2.2.2.2.1, o2.2.2.2.2.2.2.2.2.2.2.2)))))))))))).bind fun o4 =>
        match o4 with
        | .inl s =>
          some true
        | .inr o5 =>
          some o5
def ref21_RightReply_fa : FnA := ⟨.two (.reg [(0, { ids := [100] })]) (.two (.two (.join ⟨[1, 33], ⟨(.cons (.own 0 100 0 0) (.cons (.p .bool) .nil)), [(100, false, (.vars (.cons (.p (.int .i64)) (.cons (.p (.int .i64)) (.cons (.p (.int .i64)) (.cons (.p (.int .i64)) (.cons (.p (.int .i64)) (.cons (.p .bool) (.cons (.p (.int .i64)) (.cons (.p (.sl .byte)) (.cons (.p (.sl (.pair .str (.int .i64)))) (.cons (.p .bool) (.cons (.p (.int .i64)) .nil)))))))))))))]⟩⟩ false [] (.leaf)) (.two (.leaf) (.leaf))) (.two (.leaf) (.two (.two (.leaf) (.two (.two (.join ⟨[2], ⟨(.cons (.p .bool) .nil), []⟩⟩ false [] (.leaf)) (.leaf)) (.leaf))) (.two (.two (.join ⟨[1, 113], ⟨(.cons (.own 0 100 0 0) (.cons (.p .bool) .nil)), [(100, false, (.vars (.cons (.p (.int .i64)) (.cons (.p (.int .i64)) (.cons (.p (.int .i64)) (.cons (.p (.int .i64)) (.cons (.p (.int .i64)) (.cons (.p .bool) (.cons (.p (.int .i64)) (.cons (.p (.sl .byte)) (.cons (.p (.sl (.pair .str (.int .i64)))) (.cons (.p .bool) (.cons (.p (.int .i64)) .nil)))))))))))))]⟩⟩ false [] (.reg [(5, {  })])) (.two (.leaf) (.leaf))) (.two (.two (.leaf) (.one (.loop ⟨[1, 4], ⟨(.cons (.own 0 100 0 0) (.cons (.p (.int .i64)) .nil)), [(100, false, (.vars (.cons (.p (.int .i64)) (.cons (.p (.int .i64)) (.cons (.p (.int .i64)) (.cons (.p (.int .i64)) (.cons (.p (.int .i64)) (.cons (.p .bool) (.cons (.p (.int .i64)) (.cons (.p (.sl .byte)) (.cons (.p (.sl (.pair .str (.int .i64)))) (.cons (.p .bool) (.cons (.p (.int .i64)) .nil)))))))))))))]⟩⟩ true [(0, ⟨[], ⟨.nil, []⟩⟩)] (.two (.two (.leaf) (.leaf)) (.two (.one (.two (.reg [(5, { ids := [101] })]) (.two (.join ⟨[1, 145], ⟨(.cons (.own 0 100 0 0) (.cons (.p .bool) .nil)), [(100, false, (.vars (.cons (.p (.int .i64)) (.cons (.p (.int .i64)) (.cons (.p (.int .i64)) (.cons (.p (.int .i64)) (.cons (.p (.int .i64)) (.cons (.p .bool) (.cons (.p (.int .i64)) (.cons (.p (.sl .byte)) (.cons (.p (.sl (.pair .str (.int .i64)))) (.cons (.p .bool) (.cons (.p (.int .i64)) .nil)))))))))))))]⟩⟩ false [] (.leaf)) (.two (.leaf) (.leaf))))) (.leaf)))))) (.leaf)))))), ⟨(.cons (.p (.pair (.int .i64) (.pair (.int .i64) (.pair (.int .i64) (.pair (.pair (.int .i64) (.int .i64)) (.pair .bool (.pair (.int .i64) (.pair (.sl .byte) (.pair (.sl (.pair .str (.int .i64))) (.pair .bool (.int .i64))))))))))) .nil), []⟩, [⟨(.cons (.p .bool) .nil), []⟩], [0]⟩
def ref21_RightReply_ft (fu : Nat) : FnT := ⟨22, ⟨(.cons (.p (.pair (.int .i64) (.pair (.int .i64) (.pair (.int .i64) (.pair (.pair (.int .i64) (.int .i64)) (.pair .bool (.pair (.int .i64) (.pair (.sl .byte) (.pair (.sl (.pair .str (.int .i64))) (.pair .bool (.int .i64))))))))))) .nil), []⟩, [⟨(.cons (.p .bool) .nil), []⟩], fun t => ref21_RightReply fu t⟩
theorem ref21_RightReply_eq (fu : Nat) : ∀ t, evF Go.Proofs.Try.prog [ref20_Right_ft fu] fu Go.Proofs.Try.f22 ref21_RightReply_fa t = (ref21_RightReply_ft fu).spec t := fun t => by kernel_rfl
theorem ref21_RightReply_told (fu : Nat) : Told Go.Proofs.Try.prog (ref21_RightReply_ft fu) := told_of (allT_cons (ref20_Right_told fu) allT_nil) mixed Go.Proofs.Try.func22 (by kernel_rfl) (by kernel_rfl) (ref21_RightReply_eq fu)

def ref21_flag (fu : Nat) (b : Bool) : Option (Int) :=
  bif b then
    some 1
  else
    some 0
def ref21_flag_fa : FnA := ⟨.two (.leaf) (.two (.two (.leaf) (.two (.leaf) (.leaf))) (.leaf)), ⟨(.cons (.p .bool) .nil), []⟩, [⟨(.cons (.p (.int .i64)) .nil), []⟩], [0]⟩
def ref21_flag_ft (fu : Nat) : FnT := ⟨67, ⟨(.cons (.p .bool) .nil), []⟩, [⟨(.cons (.p (.int .i64)) .nil), []⟩], fun t => ref21_flag fu t⟩
theorem ref21_flag_eq (fu : Nat) : ∀ t, evF Go.Proofs.Try.prog [] fu Go.Proofs.Try.f67 ref21_flag_fa t = (ref21_flag_ft fu).spec t := fun t => by kernel_rfl
theorem ref21_flag_told (fu : Nat) : Told Go.Proofs.Try.prog (ref21_flag_ft fu) := told_of allT_nil mixed Go.Proofs.Try.func67 (by kernel_rfl) (by kernel_rfl) (ref21_flag_eq fu)

def ref21_reply_l0 (fu : Nat) (i : Int) (h : Int) (h1 : Int) (h2 : Int) (h3 : Int) (h4 : Int) (h5 : Bool) (h6 : Int) (h7 : List (UInt8)) (h8 : List ((List UInt8 × Int))) (h9 : Bool) (h10 : Int) (h11 : List (UInt8)) : Option ((Int × (Int × (Int × (Int × (Int × (Int × (Bool × (Int × (List (UInt8) × (List ((List UInt8 × Int)) × (Bool × (Int × List (UInt8))))))))))))) ⊕ (List (UInt8))) :=
  bif (decide (i < ((h8.length : Nat) : Int))) then
    (idx? i h8.length).bind fun q =>
    (h8)[q]?.bind fun r6 =>
    need (Nat.ble r6.1.length room) <|
    (ref01_Blob fu h11 r6.1).bind fun r7 =>
    (idx? i h8.length).bind fun q1 =>
    (h8)[q1]?.bind fun r8 =>
    (ref21_uints_o0o1 fu r7 [r8.2]).bind fun r9 =>
    some (.inl ((IntKind.wrap .i64 (i + 1)), (h, (h1, (h2, (h3, (h4, (h5, (h6, (h7, (h8, (h9, (h10, r9.2)))))))))))))
  else
    some (.inr h11)
def ref21_reply_l0_it (fu : Nat)  (tt : (Int × (Int × (Int × (Int × (Int × (Int × (Bool × (Int × (List (UInt8) × (List ((List UInt8 × Int)) × (Bool × (Int × List (UInt8)))))))))))))) : Option (List (UInt8)) :=
  iter fu (fun tt => ref21_reply_l0 fu tt.1 tt.2.1 tt.2.2.1 tt.2.2.2.1 tt.2.2.2.2.1 tt.2.2.2.2.2.1 tt.2.2.2.2.2.2.1 tt.2.2.2.2.2.2.2.1 tt.2.2.2.2.2.2.2.2.1 tt.2.2.2.2.2.2.2.2.2.1 tt.2.2.2.2.2.2.2.2.2.2.1 tt.2.2.2.2.2.2.2.2.2.2.2.1 tt.2.2.2.2.2.2.2.2.2.2.2.2) tt
def ref21_reply (fu : Nat) (r : (Int × (Int × (Int × ((Int × Int) × (Bool × (Int × (List (UInt8) × (List ((List UInt8 × Int)) × (Bool × Int)))))))))) : Option (List (UInt8)) :=
  (ref21_flag fu r.2.2.2.2.1).bind fun r1 =>
  (ref21_flag fu r.2.2.2.2.2.2.2.2.1).bind fun r2 =>
  (ref21_uints_o0o1 fu [(UInt8.ofNat 4)] [r.1, r.2.1, r.2.2.1, r.2.2.2.1.1, r.2.2.2.1.2, r1, r.2.2.2.2.2.1, r2, r.2.2.2.2.2.2.2.2.2]).bind fun r3 =>
  (ref01_Blob fu r3.2 r.2.2.2.2.2.2.1).bind fun r4 =>
  (ref21_uints_o0o1 fu r4 [((r.2.2.2.2.2.2.2.1.length : Nat) : Int)]).bind fun r5 =>
  (ref21_reply_l0_it fu  (0, (r.1, (r.2.1, (r.2.2.1, (r.2.2.2.1.1, (r.2.2.2.1.2, (r.2.2.2.2.1, (r.2.2.2.2.2.1, (r.2.2.2.2.2.2.1, (r.2.2.2.2.2.2.2.1, (r.2.2.2.2.2.2.2.2.1, (r.2.2.2.2.2.2.2.2.2, r5.2))))))))))))).bind fun o =>
  some o
def ref21_reply_fa : FnA := ⟨.two (.reg [(0, { ids := [100] })]) (.two (.reg [(0, { ids := [101] }), (15, {  }), (20, {  }), (23, { ids := [102] }), (24, { ids := [103], sh := [101, 102], fn := 1 })]) (.two (.reg [(3, { ids := [104], md := [1, 0], fn := 2 }), (7, { ids := [105] }), (8, { ids := [106], sh := [104, 105], fn := 1 })]) (.two (.two (.leaf) (.one (.loop ⟨[1, 3, 4], ⟨(.cons (.own 0 100 0 0) (.cons (.slf 1 106) (.cons (.p (.int .i64)) .nil))), [(100, false, (.vars (.cons (.p (.int .i64)) (.cons (.p (.int .i64)) (.cons (.p (.int .i64)) (.cons (.p (.int .i64)) (.cons (.p (.int .i64)) (.cons (.p .bool) (.cons (.p (.int .i64)) (.cons (.p (.sl .byte)) (.cons (.p (.sl (.pair .str (.int .i64)))) (.cons (.p .bool) (.cons (.p (.int .i64)) .nil))))))))))))), (106, false, (.rows 5 .byte))]⟩⟩ false [(0, ⟨[3], ⟨(.cons (.slf 1 106) .nil), [(106, false, (.rows 5 .byte))]⟩⟩)] (.two (.two (.leaf) (.leaf)) (.two (.one (.reg [(7, { ids := [107] }), (8, { ids := [108], md := [1, 1], fn := 2 }), (15, { ids := [109] }), (16, { ids := [110], sh := [108, 109], fn := 1 })])) (.leaf)))))) (.leaf)))), ⟨(.cons (.p (.pair (.int .i64) (.pair (.int .i64) (.pair (.int .i64) (.pair (.pair (.int .i64) (.int .i64)) (.pair .bool (.pair (.int .i64) (.pair (.sl .byte) (.pair (.sl (.pair .str (.int .i64))) (.pair .bool (.int .i64))))))))))) .nil), []⟩, [⟨(.cons (.slf 1 0) .nil), [(0, false, (.rows 5 .byte))]⟩], [0]⟩
def ref21_reply_ft (fu : Nat) : FnT := ⟨44, ⟨(.cons (.p (.pair (.int .i64) (.pair (.int .i64) (.pair (.int .i64) (.pair (.pair (.int .i64) (.int .i64)) (.pair .bool (.pair (.int .i64) (.pair (.sl .byte) (.pair (.sl (.pair .str (.int .i64))) (.pair .bool (.int .i64))))))))))) .nil), []⟩, [⟨(.cons (.slf 1 0) .nil), [(0, false, (.rows 5 .byte))]⟩], fun t => ref21_reply fu t⟩
theorem ref21_reply_eq (fu : Nat) : ∀ t, evF Go.Proofs.Try.prog [ref21_flag_ft fu, ref21_uints_o0o1_ft fu, ref01_Blob_ft fu] fu Go.Proofs.Try.f44 ref21_reply_fa t = (ref21_reply_ft fu).spec t := fun t => by kernel_rfl
theorem ref21_reply_told (fu : Nat) : Told Go.Proofs.Try.prog (ref21_reply_ft fu) := told_of (allT_cons (ref21_flag_told fu) (allT_cons (ref21_uints_o0o1_told fu) (allT_cons (ref01_Blob_told fu) allT_nil))) mixed Go.Proofs.Try.func44 (by kernel_rfl) (by kernel_rfl) (ref21_reply_eq fu)

def ref21_PutReply (fu : Nat) (t : List (Int)) (r : (Int × (Int × (Int × ((Int × Int) × (Bool × (Int × (List (UInt8) × (List ((List UInt8 × Int)) × (Bool × Int)))))))))) : Option ((Int × List (UInt8))) :=
  (ref21_RightReply fu (r.1, (r.2.1, (r.2.2.1, ((r.2.2.2.1.1, r.2.2.2.1.2), (r.2.2.2.2.1, (r.2.2.2.2.2.1, (r.2.2.2.2.2.2.1, (r.2.2.2.2.2.2.2.1, (r.2.2.2.2.2.2.2.2.1, r.2.2.2.2.2.2.2.2.2)))))))))).bind fun r1 =>
  bif (!r1) then
    some (179, [])
  else
    (ref21_reply fu (r.1, (r.2.1, (r.2.2.1, ((r.2.2.2.1.1, r.2.2.2.1.2), (r.2.2.2.2.1, (r.2.2.2.2.2.1, (r.2.2.2.2.2.2.1, (r.2.2.2.2.2.2.2.1, (r.2.2.2.2.2.2.2.2.1, r.2.2.2.2.2.2.2.2.2)))))))))).bind fun r2 =>
    (ref01_Seal fu t r2).bind fun r3 =>
    some (0, r3)
def ref21_PutReply_fa : FnA := ⟨.two (.reg [(0, { ids := [100] })]) (.two (.two (.reg [(1, {  })]) (.two (.leaf) (.leaf))) (.two (.reg [(2, { ids := [101], fn := 1 }), (3, { ids := [102], md := [0, 1], fn := 2 })]) (.leaf))), ⟨(.cons (.pt (.int .u32)) (.cons (.p (.pair (.int .i64) (.pair (.int .i64) (.pair (.int .i64) (.pair (.pair (.int .i64) (.int .i64)) (.pair .bool (.pair (.int .i64) (.pair (.sl .byte) (.pair (.sl (.pair .str (.int .i64))) (.pair .bool (.int .i64))))))))))) .nil)), []⟩, [⟨(.cons (.slf 1 0) (.cons (.p (.int .i64)) .nil)), [(0, false, (.rows 5 .byte))]⟩], [15, 0]⟩
def ref21_PutReply_ft (fu : Nat) : FnT := ⟨18, ⟨(.cons (.pt (.int .u32)) (.cons (.p (.pair (.int .i64) (.pair (.int .i64) (.pair (.int .i64) (.pair (.pair (.int .i64) (.int .i64)) (.pair .bool (.pair (.int .i64) (.pair (.sl .byte) (.pair (.sl (.pair .str (.int .i64))) (.pair .bool (.int .i64))))))))))) .nil)), []⟩, [⟨(.cons (.slf 1 0) (.cons (.p (.int .i64)) .nil)), [(0, false, (.rows 5 .byte))]⟩], fun t => ref21_PutReply fu t.1 t.2⟩
theorem ref21_PutReply_eq (fu : Nat) : ∀ t, evF Go.Proofs.Try.prog [ref21_RightReply_ft fu, ref21_reply_ft fu, ref01_Seal_ft fu] fu Go.Proofs.Try.f18 ref21_PutReply_fa t = (ref21_PutReply_ft fu).spec t := fun t => by kernel_rfl
theorem ref21_PutReply_told (fu : Nat) : Told Go.Proofs.Try.prog (ref21_PutReply_ft fu) := told_of (allT_cons (ref21_RightReply_told fu) (allT_cons (ref21_reply_told fu) (allT_cons (ref01_Seal_told fu) allT_nil))) mixed Go.Proofs.Try.func18 (by kernel_rfl) (by kernel_rfl) (ref21_PutReply_eq fu)

def ref01_Unseal (fu : Nat) (t : List (Int)) (b : List (UInt8)) : Option ((List (UInt8) × Int)) :=
  bif (decide (((b.length : Nat) : Int) < 4)) then
    some ([], 11)
  else
    (upto? (IntKind.wrap .i64 (((b.length : Nat) : Int) - 4)) b.length).bind fun q =>
    (ref01_joined fu [] (List.take q b)).bind fun r =>
    (ref01_Seal fu t r).bind fun r1 =>
    bif (r1 == b) then
      some (r, 0)
    else
      some ([], 12)
def ref01_Unseal_fa : FnA := ⟨.two (.leaf) (.two (.two (.leaf) (.two (.leaf) (.leaf))) (.two (.reg [(5, { ids := [100] })]) (.two (.two (.reg [(2, { ids := [101], md := [0, 1], fn := 1 })]) (.two (.leaf) (.leaf))) (.leaf)))), ⟨(.cons (.pt (.int .u32)) (.cons (.p (.sl .byte)) .nil)), []⟩, [⟨(.cons (.p (.sl .byte)) (.cons (.p (.int .i64)) .nil)), []⟩], [1, 0]⟩
def ref01_Unseal_ft (fu : Nat) : FnT := ⟨46, ⟨(.cons (.pt (.int .u32)) (.cons (.p (.sl .byte)) .nil)), []⟩, [⟨(.cons (.p (.sl .byte)) (.cons (.p (.int .i64)) .nil)), []⟩], fun t => ref01_Unseal fu t.1 t.2⟩
theorem ref01_Unseal_eq (fu : Nat) : ∀ t, evF Go.Proofs.Try.prog [ref01_joined_ft fu, ref01_Seal_ft fu] fu Go.Proofs.Try.f46 ref01_Unseal_fa t = (ref01_Unseal_ft fu).spec t := fun t => by kernel_rfl
theorem ref01_Unseal_told (fu : Nat) : Told Go.Proofs.Try.prog (ref01_Unseal_ft fu) := told_of (allT_cons (ref01_joined_told fu) (allT_cons (ref01_Seal_told fu) allT_nil)) mixed Go.Proofs.Try.func46 (by kernel_rfl) (by kernel_rfl) (ref01_Unseal_eq fu)

def ref01_GetUint_l0 (fu : Nat) (at_ : Int) (b : List (UInt8)) (n : Int) (weight : Int) (many : Int) : Option ((Int × (Int × Int)) ⊕ ((Int × (Int × Int)))) :=
  bif ((IntKind.wrap .i64 (at_ + many)) == ((b.length : Nat) : Int)) then
    some (.inr (0, (0, 11)))
  else
    (idx? (IntKind.wrap .i64 (at_ + many)) b.length).bind fun q =>
    (b)[q]?.bind fun r =>
    Option.bind (α := (Bool)) (
      bif (decide ((IntKind.wrap .i64 (many + 1)) > 1)) then
        bif (((r.toNat : Nat) : Int) == 0) then
          some true
        else
          bif ((IntKind.wrap .i64 (many + 1)) == 10) then
            some (decide (((r.toNat : Nat) : Int) > 1))
          else
            some false
      else
        bif ((IntKind.wrap .i64 (many + 1)) == 10) then
          some (decide (((r.toNat : Nat) : Int) > 1))
        else
          some false) fun o1 =>
    bif o1 then
      some (.inr (0, (0, 10)))
    else
      bif (decide (((r.toNat : Nat) : Int) < 128)) then
        some (.inr ((IntKind.wrap .u64 (n + (IntKind.wrap .u64 (weight * (IntKind.wrap .u64 ((r.toNat : Nat) : Int)))))), ((IntKind.wrap .i64 (at_ + (IntKind.wrap .i64 (many + 1)))), 0)))
      else
        some (.inl ((IntKind.wrap .u64 (n + (IntKind.wrap .u64 (weight * (IntKind.wrap .u64 (IntKind.wrap .u8 (((r.toNat : Nat) : Int) - 128))))))), ((IntKind.wrap .u64 (weight * 128)), (IntKind.wrap .i64 (many + 1)))))
def ref01_GetUint_l0_it (fu : Nat) (at_ : Int) (b : List (UInt8)) (tt : (Int × (Int × Int))) : Option ((Int × (Int × Int))) :=
  iter fu (fun tt => ref01_GetUint_l0 fu at_ b tt.1 tt.2.1 tt.2.2) tt
def ref01_GetUint (fu : Nat) (b : List (UInt8)) (at_ : Int) : Option ((Int × (Int × Int))) :=
  Option.bind (α := (Bool)) (
    bif (decide (at_ < 0)) then
      some true
    else
      some (decide (at_ > ((b.length : Nat) : Int)))) fun o =>
  bif o then
    some (0, (0, 2))
  else
    (ref01_GetUint_l0_it fu at_ b (0, (1, 0))).bind fun o2 =>
    some o2
def ref01_GetUint_fa : FnA := ⟨.two (.leaf) (.two (.two (.join ⟨[18], ⟨(.cons (.p .bool) .nil), []⟩⟩ false [] (.leaf)) (.two (.leaf) (.leaf))) (.two (.leaf) (.one (.loop ⟨[7, 8, 9], ⟨(.cons (.p (.int .u64)) (.cons (.p (.int .u64)) (.cons (.p (.int .i64)) .nil))), []⟩⟩ true [] (.one (.two (.two (.leaf) (.two (.leaf) (.leaf))) (.two (.leaf) (.two (.leaf) (.two (.two (.join ⟨[46], ⟨(.cons (.p .bool) .nil), []⟩⟩ false [] (.leaf)) (.two (.leaf) (.leaf))) (.two (.two (.leaf) (.two (.leaf) (.leaf))) (.leaf))))))))))), ⟨(.cons (.p (.sl .byte)) (.cons (.p (.int .i64)) .nil)), []⟩, [⟨(.cons (.p (.int .u64)) (.cons (.p (.int .i64)) (.cons (.p (.int .i64)) .nil))), []⟩], [0, 0, 0]⟩
def ref01_GetUint_ft (fu : Nat) : FnT := ⟨68, ⟨(.cons (.p (.sl .byte)) (.cons (.p (.int .i64)) .nil)), []⟩, [⟨(.cons (.p (.int .u64)) (.cons (.p (.int .i64)) (.cons (.p (.int .i64)) .nil))), []⟩], fun t => ref01_GetUint fu t.1 t.2⟩
theorem ref01_GetUint_eq (fu : Nat) : ∀ t, evF Go.Proofs.Try.prog [] fu Go.Proofs.Try.f68 ref01_GetUint_fa t = (ref01_GetUint_ft fu).spec t := fun t => by kernel_rfl
theorem ref01_GetUint_told (fu : Nat) : Told Go.Proofs.Try.prog (ref01_GetUint_ft fu) := told_of allT_nil mixed Go.Proofs.Try.func68 (by kernel_rfl) (by kernel_rfl) (ref01_GetUint_eq fu)

def ref21_eye_num (fu : Nat) (h : List (UInt8)) (h1 : Int) (h2 : Bool) : Option ((Int × (List (UInt8) × (Int × Bool)))) :=
  (ref01_GetUint fu h h1).bind fun r =>
  Option.bind (α := ((Bool × (List (UInt8) × (Int × Bool))))) (
    bif h2 then
      some (true, (h, (h1, h2)))
    else
      bif (!(r.2.2 == 0)) then
        some (true, (h, (h1, h2)))
      else
        some ((decide (r.1 > 4611686018427387904)), (h, (h1, h2)))) fun o =>
  bif o.1 then
    some (0, (o.2.1, (o.2.2.1, true)))
  else
    some ((IntKind.wrap .i64 r.1), (o.2.1, (r.2.1, o.2.2.2)))
def ref21_eye_num_fa : FnA := ⟨.two (.leaf) (.two (.reg [(8, {  })]) (.two (.two (.join ⟨[0, 30], ⟨(.cons (.own 0 0 0 0) (.cons (.p .bool) .nil)), [(0, false, (.vars (.cons (.p (.sl .byte)) (.cons (.p (.int .i64)) (.cons (.p .bool) .nil)))))]⟩⟩ false [] (.leaf)) (.two (.two (.leaf) (.leaf)) (.leaf))) (.two (.leaf) (.leaf)))), ⟨(.cons (.own 0 0 0 0) .nil), [(0, false, (.vars (.cons (.p (.sl .byte)) (.cons (.p (.int .i64)) (.cons (.p .bool) .nil)))))]⟩, [⟨(.cons (.p (.int .i64)) .nil), [(0, false, (.vars (.cons (.p (.sl .byte)) (.cons (.p (.int .i64)) (.cons (.p .bool) .nil)))))]⟩], [0]⟩
def ref21_eye_num_ft (fu : Nat) : FnT := ⟨47, ⟨(.cons (.own 0 0 0 0) .nil), [(0, false, (.vars (.cons (.p (.sl .byte)) (.cons (.p (.int .i64)) (.cons (.p .bool) .nil)))))]⟩, [⟨(.cons (.p (.int .i64)) .nil), [(0, false, (.vars (.cons (.p (.sl .byte)) (.cons (.p (.int .i64)) (.cons (.p .bool) .nil)))))]⟩], fun t => ref21_eye_num fu t.1 t.2.1 t.2.2⟩
theorem ref21_eye_num_eq (fu : Nat) : ∀ t, evF Go.Proofs.Try.prog [ref01_GetUint_ft fu] fu Go.Proofs.Try.f47 ref21_eye_num_fa t = (ref21_eye_num_ft fu).spec t := fun t => by kernel_rfl
theorem ref21_eye_num_told (fu : Nat) : Told Go.Proofs.Try.prog (ref21_eye_num_ft fu) := told_of (allT_cons (ref01_GetUint_told fu) allT_nil) mixed Go.Proofs.Try.func47 (by kernel_rfl) (by kernel_rfl) (ref21_eye_num_eq fu)

def ref01_GetBlob (fu : Nat) (b : List (UInt8)) (at_ : Int) (most : Int) : Option ((Int × (Int × List (UInt8)))) :=
  (ref01_GetUint fu b at_).bind fun r =>
  bif (!(r.2.2 == 0)) then
    some (0, (r.2.2, []))
  else
    Option.bind (α := (Bool)) (
      bif (decide (most < 0)) then
        some true
      else
        some (decide (r.1 > (IntKind.wrap .u64 most)))) fun o =>
    bif o then
      some (0, (3, []))
    else
      Option.bind (α := (Bool)) (
        bif (decide (r.1 > (IntKind.wrap .u64 ((b.length : Nat) : Int)))) then
          some true
        else
          some (decide ((IntKind.wrap .i64 (r.2.1 + (IntKind.wrap .i64 r.1))) > ((b.length : Nat) : Int)))) fun o1 =>
      bif o1 then
        some (0, (11, []))
      else
        (upto? (IntKind.wrap .i64 (r.2.1 + (IntKind.wrap .i64 r.1))) b.length).bind fun q =>
        (upto? r.2.1 q).bind fun q1 =>
        (ref01_joined fu [] (List.drop q1 (List.take q b))).bind fun r1 =>
        some ((IntKind.wrap .i64 (r.2.1 + (IntKind.wrap .i64 r.1))), (0, r1))
def ref01_GetBlob_fa : FnA := ⟨.two (.leaf) (.two (.reg [(2, {  })]) (.two (.two (.leaf) (.two (.leaf) (.leaf))) (.two (.two (.join ⟨[29], ⟨(.cons (.p .bool) .nil), []⟩⟩ false [] (.leaf)) (.two (.leaf) (.leaf))) (.two (.two (.join ⟨[43], ⟨(.cons (.p .bool) .nil), []⟩⟩ false [] (.leaf)) (.two (.leaf) (.leaf))) (.two (.reg [(7, { ids := [100], fn := 1 })]) (.leaf)))))), ⟨(.cons (.p (.sl .byte)) (.cons (.p (.int .i64)) (.cons (.p (.int .i64)) .nil))), []⟩, [⟨(.cons (.slf 1 0) (.cons (.p (.int .i64)) (.cons (.p (.int .i64)) .nil))), [(0, false, (.rows 5 .byte))]⟩], [15, 0, 0]⟩
def ref01_GetBlob_ft (fu : Nat) : FnT := ⟨69, ⟨(.cons (.p (.sl .byte)) (.cons (.p (.int .i64)) (.cons (.p (.int .i64)) .nil))), []⟩, [⟨(.cons (.slf 1 0) (.cons (.p (.int .i64)) (.cons (.p (.int .i64)) .nil))), [(0, false, (.rows 5 .byte))]⟩], fun t => ref01_GetBlob fu t.1 t.2.1 t.2.2⟩
theorem ref01_GetBlob_eq (fu : Nat) : ∀ t, evF Go.Proofs.Try.prog [ref01_GetUint_ft fu, ref01_joined_ft fu] fu Go.Proofs.Try.f69 ref01_GetBlob_fa t = (ref01_GetBlob_ft fu).spec t := fun t => by kernel_rfl
theorem ref01_GetBlob_told (fu : Nat) : Told Go.Proofs.Try.prog (ref01_GetBlob_ft fu) := told_of (allT_cons (ref01_GetUint_told fu) (allT_cons (ref01_joined_told fu) allT_nil)) mixed Go.Proofs.Try.func69 (by kernel_rfl) (by kernel_rfl) (ref01_GetBlob_eq fu)

def ref21_eye_blob (fu : Nat) (h : List (UInt8)) (h1 : Int) (h2 : Bool) : Option ((List (UInt8) × (Int × (Bool × List (UInt8))))) :=
  (ref01_GetBlob fu h h1 5000).bind fun r =>
  Option.bind (α := ((Bool × (List (UInt8) × (Int × (Bool × List (UInt8))))))) (
    bif h2 then
      some (true, (h, (h1, (h2, r.2.2))))
    else
      some ((!(r.2.1 == 0)), (h, (h1, (h2, r.2.2))))) fun o =>
  bif o.1 then
    some (o.2.1, (o.2.2.1, (true, [])))
  else
    some (o.2.1, (r.1, (o.2.2.2.1, o.2.2.2.2)))
def ref21_eye_blob_fa : FnA := ⟨.two (.leaf) (.two (.reg [(8, { ids := [100] })]) (.two (.two (.join ⟨[0, 3, 26], ⟨(.cons (.own 0 0 0 0) (.cons (.slf 1 100) (.cons (.p .bool) .nil))), [(0, false, (.vars (.cons (.p (.sl .byte)) (.cons (.p (.int .i64)) (.cons (.p .bool) .nil))))), (100, false, (.rows 5 .byte))]⟩⟩ false [] (.leaf)) (.two (.two (.leaf) (.leaf)) (.leaf))) (.two (.leaf) (.leaf)))), ⟨(.cons (.own 0 0 0 0) .nil), [(0, false, (.vars (.cons (.p (.sl .byte)) (.cons (.p (.int .i64)) (.cons (.p .bool) .nil)))))]⟩, [⟨(.cons (.slf 1 1) .nil), [(0, false, (.vars (.cons (.p (.sl .byte)) (.cons (.p (.int .i64)) (.cons (.p .bool) .nil))))), (1, false, (.rows 5 .byte))]⟩], [15]⟩
def ref21_eye_blob_ft (fu : Nat) : FnT := ⟨48, ⟨(.cons (.own 0 0 0 0) .nil), [(0, false, (.vars (.cons (.p (.sl .byte)) (.cons (.p (.int .i64)) (.cons (.p .bool) .nil)))))]⟩, [⟨(.cons (.slf 1 1) .nil), [(0, false, (.vars (.cons (.p (.sl .byte)) (.cons (.p (.int .i64)) (.cons (.p .bool) .nil))))), (1, false, (.rows 5 .byte))]⟩], fun t => ref21_eye_blob fu t.1 t.2.1 t.2.2⟩
theorem ref21_eye_blob_eq (fu : Nat) : ∀ t, evF Go.Proofs.Try.prog [ref01_GetBlob_ft fu] fu Go.Proofs.Try.f48 ref21_eye_blob_fa t = (ref21_eye_blob_ft fu).spec t := fun t => by kernel_rfl
theorem ref21_eye_blob_told (fu : Nat) : Told Go.Proofs.Try.prog (ref21_eye_blob_ft fu) := told_of (allT_cons (ref01_GetBlob_told fu) allT_nil) mixed Go.Proofs.Try.func48 (by kernel_rfl) (by kernel_rfl) (ref21_eye_blob_eq fu)

def ref21_GetCall (fu : Nat) (t : List (Int)) (b : List (UInt8)) : Option ((Int × (Int × (Int × (Int × (Int × (List UInt8 × (Int × (Int × (List UInt8 × (Int × (Int × (List (UInt8) × Int))))))))))))) :=
  (ref01_Unseal fu t b).bind fun r =>
  bif (!(r.2 == 0)) then
    some (0, (0, (0, (0, (0, ([], (0, (0, ([], (0, (0, ([], r.2))))))))))))
  else
    Option.bind (α := ((Bool × (Int × (Int × (Int × (Int × (Int × (List UInt8 × (Int × (Int × (List UInt8 × (Int × Int))))))))))))) (
      bif (((r.1.length : Nat) : Int) == 0) then
        some (true, (0, (0, (0, (0, (0, ([], (0, (0, ([], (0, 0)))))))))))
      else
        (idx? 0 r.1.length).bind fun q =>
        (r.1)[q]?.bind fun r1 =>
        some ((!(((r1.toNat : Nat) : Int) == 3)), (0, (0, (0, (0, (0, ([], (0, (0, ([], (0, 0)))))))))))) fun o =>
    bif o.1 then
      some (0, (0, (0, (0, (0, ([], (0, (0, ([], (0, (0, ([], 179))))))))))))
    else
      (ref21_eye_num fu r.1 1 false).bind fun r2 =>
      (ref21_eye_num fu r2.2.1 r2.2.2.1 r2.2.2.2).bind fun r3 =>
      (ref21_eye_num fu r3.2.1 r3.2.2.1 r3.2.2.2).bind fun r4 =>
      (ref21_eye_num fu r4.2.1 r4.2.2.1 r4.2.2.2).bind fun r5 =>
      (ref21_eye_num fu r5.2.1 r5.2.2.1 r5.2.2.2).bind fun r6 =>
      (ref21_eye_num fu r6.2.1 r6.2.2.1 r6.2.2.2).bind fun r7 =>
      (ref21_eye_num fu r7.2.1 r7.2.2.1 r7.2.2.2).bind fun r8 =>
      (ref21_eye_num fu r8.2.1 r8.2.2.1 r8.2.2.2).bind fun r9 =>
      (ref21_eye_num fu r9.2.1 r9.2.2.1 r9.2.2.2).bind fun r10 =>
      (ref21_eye_blob fu r10.2.1 r10.2.2.1 r10.2.2.2).bind fun r11 =>
      (ref21_eye_blob fu r11.1 r11.2.1 r11.2.2.1).bind fun r12 =>
      (ref21_eye_blob fu r12.1 r12.2.1 r12.2.2.1).bind fun r13 =>
      bif (decide (r4.1 > 200)) then
        some (0, (0, (0, (0, (0, ([], (0, (0, ([], (0, (0, ([], 179))))))))))))
      else
        Option.bind (α := ((Bool × (Int × (Int × (Int × (Int × (Int × (List UInt8 × (Int × (Int × (List UInt8 × (Int × (Int × (Int × (Int × (Int × (Int × (Int × (List UInt8 × (Int × (Int × (List UInt8 × (Int × (Int × List (UInt8)))))))))))))))))))))))))) (
          bif r13.2.2.1 then
            some (true, (o.2.1, (o.2.2.1, (o.2.2.2.1, (o.2.2.2.2.1, (o.2.2.2.2.2.1, (o.2.2.2.2.2.2.1, (o.2.2.2.2.2.2.2.1, (o.2.2.2.2.2.2.2.2.1, (o.2.2.2.2.2.2.2.2.2.1, (o.2.2.2.2.2.2.2.2.2.2.1, (o.2.2.2.2.2.2.2.2.2.2.2, (r2.1, (r3.1, ((IntKind.wrap .u8 r4.1), (r5.1, (r6.1, (r11.2.2.2, (r7.1, (r8.1, (r12.2.2.2, (r9.1, (r10.1, r13.2.2.2)))))))))))))))))))))))
          else
            (byte? (IntKind.wrap .u8 r4.1)).bind fun c =>
            (ref21_RightCall fu (r2.1, (r3.1, (c, ((r5.1, r6.1), (r11.2.2.2, ((r7.1, r8.1), (r12.2.2.2, (r9.1, (r10.1, r13.2.2.2)))))))))).bind fun r14 =>
            bif (!r14) then
              some (true, (o.2.1, (o.2.2.1, (o.2.2.2.1, (o.2.2.2.2.1, (o.2.2.2.2.2.1, (o.2.2.2.2.2.2.1, (o.2.2.2.2.2.2.2.1, (o.2.2.2.2.2.2.2.2.1, (o.2.2.2.2.2.2.2.2.2.1, (o.2.2.2.2.2.2.2.2.2.2.1, (o.2.2.2.2.2.2.2.2.2.2.2, (r2.1, (r3.1, ((IntKind.wrap .u8 r4.1), (r5.1, (r6.1, (r11.2.2.2, (r7.1, (r8.1, (r12.2.2.2, (r9.1, (r10.1, r13.2.2.2)))))))))))))))))))))))
            else
              (byte? (IntKind.wrap .u8 r4.1)).bind fun c1 =>
              (ref21_call fu (r2.1, (r3.1, (c1, ((r5.1, r6.1), (r11.2.2.2, ((r7.1, r8.1), (r12.2.2.2, (r9.1, (r10.1, r13.2.2.2)))))))))).bind fun r15 =>
              some ((!(r15 == r.1)), (o.2.1, (o.2.2.1, (o.2.2.2.1, (o.2.2.2.2.1, (o.2.2.2.2.2.1, (o.2.2.2.2.2.2.1, (o.2.2.2.2.2.2.2.1, (o.2.2.2.2.2.2.2.2.1, (o.2.2.2.2.2.2.2.2.2.1, (o.2.2.2.2.2.2.2.2.2.2.1, (o.2.2.2.2.2.2.2.2.2.2.2, (r2.1, (r3.1, ((IntKind.wrap .u8 r4.1), (r5.1, (r6.1, (r11.2.2.2, (r7.1, (r8.1, (r12.2.2.2, (r9.1, (r10.1, r13.2.2.2)))))))))))))))))))))))) fun o1 =>
        bif o1.1 then
          some (0, (0, (0, (0, (0, ([], (0, (0, ([], (0, (0, ([], 179))))))))))))
        else
          some (o1.2.2.2.2.2.2.2.2.2.2.2.2.1, (o1.2.2.2.2.2.2.2.2.2.2.2.2.2.1, (o1.2.2.2.2.2.2.2.2.2.2.2.2.2.2.1, (o1.2.2.2.2.2.2.2.2.2.2.2.2.2.2.2.1, (o1.2.2.2.2.2.2.2.2.2.2.2.2.2.2.2.2.1, (o1.2.2.2.2.2.2.2.2.2.2.2.2.2.2.2.2.2.1, (o1.2.2.2.2.2.2.2.2.2.2.2.2.2.2.2.2.2.2.1, (o1.2.2.2.2.2.2.2.2.2.2.2.2.2.2.2.2.2.2.2.1, (o1.2.2.2.2.2.2.2.2.2.2.2.2.2.2.2.2.2.2.2.2.1, (o1.2.2.2.2.2.2.2.2.2.2.2.2.2.2.2.2.2.2.2.2.2.1, (o1.2.2.2.2.2.2.2.2.2.2.2.2.2.2.2.2.2.2.2.2.2.2.1, (o1.2.2.2.2.2.2.2.2.2.2.2.2.2.2.2.2.2.2.2.2.2.2.2, 0))))))))))))
def ref21_GetCall_fa : FnA := ⟨.two (.reg [(0, { ids := [100] })]) (.two (.reg [(2, {  })]) (.two (.two (.leaf) (.two (.leaf) (.leaf))) (.two (.two (.join ⟨[4, 29], ⟨(.cons (.own 0 100 0 0) (.cons (.p .bool) .nil)), [(100, false, (.vars (.cons (.p (.int .i64)) (.cons (.p (.int .i64)) (.cons (.p (.int .u8)) (.cons (.p (.int .i64)) (.cons (.p (.int .i64)) (.cons (.p .str) (.cons (.p (.int .i64)) (.cons (.p (.int .i64)) (.cons (.p .str) (.cons (.p (.int .i64)) (.cons (.p (.int .i64)) (.cons (.nilp (.slice none 0 0)) .nil))))))))))))))]⟩⟩ false [] (.leaf)) (.two (.leaf) (.leaf))) (.two (.reg [(2, { ids := [101] })]) (.two (.reg [(0, { ids := [102] })]) (.two (.reg [(1, { sh := [101], fn := 1 })]) (.two (.reg [(1, { sh := [101], fn := 1 })]) (.two (.reg [(1, { sh := [101], fn := 1 })]) (.two (.reg [(1, { sh := [101], fn := 1 })]) (.two (.reg [(1, { sh := [101], fn := 1 })]) (.two (.reg [(1, { sh := [101], fn := 1 })]) (.two (.reg [(1, { sh := [101], fn := 1 })]) (.two (.reg [(1, { sh := [101], fn := 1 })]) (.two (.reg [(1, { sh := [101], fn := 1 })]) (.two (.reg [(1, { ids := [103], sh := [101], fn := 2 })]) (.two (.reg [(1, { ids := [104], sh := [101], fn := 2 })]) (.two (.reg [(1, { ids := [105], sh := [101], fn := 2 })]) (.two (.two (.leaf) (.two (.leaf) (.leaf))) (.two (.leaf) (.pre (.freeze 73) (.two (.two (.join ⟨[4, 9, 97], ⟨(.cons (.own 0 100 0 0) (.cons (.own 0 102 0 0) (.cons (.p .bool) .nil))), [(100, false, (.vars (.cons (.p (.int .i64)) (.cons (.p (.int .i64)) (.cons (.p (.int .u8)) (.cons (.p (.int .i64)) (.cons (.p (.int .i64)) (.cons (.p .str) (.cons (.p (.int .i64)) (.cons (.p (.int .i64)) (.cons (.p .str) (.cons (.p (.int .i64)) (.cons (.p (.int .i64)) (.cons (.nilp (.slice none 0 0)) .nil)))))))))))))), (102, false, (.vars (.cons (.p (.int .i64)) (.cons (.p (.int .i64)) (.cons (.p (.int .u8)) (.cons (.p (.int .i64)) (.cons (.p (.int .i64)) (.cons (.p .str) (.cons (.p (.int .i64)) (.cons (.p (.int .i64)) (.cons (.p .str) (.cons (.p (.int .i64)) (.cons (.p (.int .i64)) (.cons (.slf 1 105) .nil)))))))))))))), (105, true, (.rows 5 .byte))]⟩⟩ false [] (.reg [(6, { md := [2], fn := 3 }), (11, { ids := [106], md := [1], fn := 4 })])) (.two (.leaf) (.leaf))) (.leaf)))))))))))))))))))))), ⟨(.cons (.pt (.int .u32)) (.cons (.p (.sl .byte)) .nil)), []⟩, [⟨(.cons (.agg (.cons (.p (.int .i64)) (.cons (.p (.int .i64)) (.cons (.p (.int .u8)) (.cons (.p (.int .i64)) (.cons (.p (.int .i64)) (.cons (.p .str) (.cons (.p (.int .i64)) (.cons (.p (.int .i64)) (.cons (.p .str) (.cons (.p (.int .i64)) (.cons (.p (.int .i64)) (.cons (.p (.sl .byte)) .nil))))))))))))) (.cons (.p (.int .i64)) .nil)), []⟩], [1, 0]⟩
def ref21_GetCall_ft (fu : Nat) : FnT := ⟨23, ⟨(.cons (.pt (.int .u32)) (.cons (.p (.sl .byte)) .nil)), []⟩, [⟨(.cons (.agg (.cons (.p (.int .i64)) (.cons (.p (.int .i64)) (.cons (.p (.int .u8)) (.cons (.p (.int .i64)) (.cons (.p (.int .i64)) (.cons (.p .str) (.cons (.p (.int .i64)) (.cons (.p (.int .i64)) (.cons (.p .str) (.cons (.p (.int .i64)) (.cons (.p (.int .i64)) (.cons (.p (.sl .byte)) .nil))))))))))))) (.cons (.p (.int .i64)) .nil)), []⟩], fun t => ref21_GetCall fu t.1 t.2⟩
theorem ref21_GetCall_eq (fu : Nat) : ∀ t, evF Go.Proofs.Try.prog [ref01_Unseal_ft fu, ref21_eye_num_ft fu, ref21_eye_blob_ft fu, ref21_RightCall_ft fu, ref21_call_ft fu] fu Go.Proofs.Try.f23 ref21_GetCall_fa t = (ref21_GetCall_ft fu).spec t := fun t => by kernel_rfl
theorem ref21_GetCall_told (fu : Nat) : Told Go.Proofs.Try.prog (ref21_GetCall_ft fu) := told_of (allT_cons (ref01_Unseal_told fu) (allT_cons (ref21_eye_num_told fu) (allT_cons (ref21_eye_blob_told fu) (allT_cons (ref21_RightCall_told fu) (allT_cons (ref21_call_told fu) allT_nil))))) mixed Go.Proofs.Try.func23 (by kernel_rfl) (by kernel_rfl) (ref21_GetCall_eq fu)

def ref21_GetReply_l0 (fu : Nat) (n : Int) (h : Int) (h1 : Int) (h2 : Int) (h3 : Int) (h4 : Int) (h5 : Bool) (h6 : Int) (h7 : Bool) (h8 : Int) (h9 : List (UInt8)) (h10 : Int) (h11 : Bool) (h12 : Int) (h13 : Int) (h14 : Int) (h15 : Int) (h16 : Int) (h17 : Bool) (h18 : Int) (h19 : Bool) (h20 : Int) (h21 : List (UInt8)) (h22 : List ((List UInt8 × Int))) : Option ((Int × (Int × (Int × (Int × (Int × (Int × (Bool × (Int × (Bool × (Int × (List (UInt8) × (Int × (Bool × (Int × (Int × (Int × (Int × (Int × (Bool × (Int × (Bool × (Int × (List (UInt8) × List ((List UInt8 × Int))))))))))))))))))))))))) ⊕ ((Int × (Int × (Int × (Int × (Int × (Bool × (Int × (Bool × (Int × (List (UInt8) × (Int × (Bool × (Int × (Int × (Int × (Int × (Int × (Bool × (Int × (Bool × (Int × (List (UInt8) × List ((List UInt8 × Int)))))))))))))))))))))))))) :=
  Option.bind (α := ((Bool × (Int × (Int × (Int × (Int × (Int × (Bool × (Int × (Bool × (Int × (List (UInt8) × (Int × (Bool × (Int × (Int × (Int × (Int × (Int × (Bool × (Int × (Bool × (Int × (List (UInt8) × List ((List UInt8 × Int))))))))))))))))))))))))))) (
    bif (decide (n > 0)) then
      bif (!h11) then
        some ((decide (((h22.length : Nat) : Int) ≤ 100)), (h, (h1, (h2, (h3, (h4, (h5, (h6, (h7, (h8, (h9, (h10, (h11, (h12, (h13, (h14, (h15, (h16, (h17, (h18, (h19, (h20, (h21, h22)))))))))))))))))))))))
      else
        some (false, (h, (h1, (h2, (h3, (h4, (h5, (h6, (h7, (h8, (h9, (h10, (h11, (h12, (h13, (h14, (h15, (h16, (h17, (h18, (h19, (h20, (h21, h22)))))))))))))))))))))))
    else
      some (false, (h, (h1, (h2, (h3, (h4, (h5, (h6, (h7, (h8, (h9, (h10, (h11, (h12, (h13, (h14, (h15, (h16, (h17, (h18, (h19, (h20, (h21, h22)))))))))))))))))))))))) fun o1 =>
  bif o1.1 then
    (ref21_eye_blob fu o1.2.2.2.2.2.2.2.2.2.2.1 o1.2.2.2.2.2.2.2.2.2.2.2.1 o1.2.2.2.2.2.2.2.2.2.2.2.2.1).bind fun r13 =>
    (ref21_eye_num fu r13.1 r13.2.1 r13.2.2.1).bind fun r14 =>
    need ((Nat.ble ((o1.2.2.2.2.2.2.2.2.2.2.2.2.2.2.2.2.2.2.2.2.2.2.2.length + 1) * 24) room) && (Nat.ble (o1.2.2.2.2.2.2.2.2.2.2.2.2.2.2.2.2.2.2.2.2.2.2.2.length + 1) room)) <|
    some (.inl ((IntKind.wrap .i64 (n - 1)), (o1.2.1, (o1.2.2.1, (o1.2.2.2.1, (o1.2.2.2.2.1, (o1.2.2.2.2.2.1, (o1.2.2.2.2.2.2.1, (o1.2.2.2.2.2.2.2.1, (o1.2.2.2.2.2.2.2.2.1, (o1.2.2.2.2.2.2.2.2.2.1, (r14.2.1, (r14.2.2.1, (r14.2.2.2, (o1.2.2.2.2.2.2.2.2.2.2.2.2.2.1, (o1.2.2.2.2.2.2.2.2.2.2.2.2.2.2.1, (o1.2.2.2.2.2.2.2.2.2.2.2.2.2.2.2.1, (o1.2.2.2.2.2.2.2.2.2.2.2.2.2.2.2.2.1, (o1.2.2.2.2.2.2.2.2.2.2.2.2.2.2.2.2.2.1, (o1.2.2.2.2.2.2.2.2.2.2.2.2.2.2.2.2.2.2.1, (o1.2.2.2.2.2.2.2.2.2.2.2.2.2.2.2.2.2.2.2.1, (o1.2.2.2.2.2.2.2.2.2.2.2.2.2.2.2.2.2.2.2.2.1, (o1.2.2.2.2.2.2.2.2.2.2.2.2.2.2.2.2.2.2.2.2.2.1, (o1.2.2.2.2.2.2.2.2.2.2.2.2.2.2.2.2.2.2.2.2.2.2.1, (o1.2.2.2.2.2.2.2.2.2.2.2.2.2.2.2.2.2.2.2.2.2.2.2 ++ [(r13.2.2.2, r14.1)])))))))))))))))))))))))))
  else
    some (.inr (o1.2.1, (o1.2.2.1, (o1.2.2.2.1, (o1.2.2.2.2.1, (o1.2.2.2.2.2.1, (o1.2.2.2.2.2.2.1, (o1.2.2.2.2.2.2.2.1, (o1.2.2.2.2.2.2.2.2.1, (o1.2.2.2.2.2.2.2.2.2.1, (o1.2.2.2.2.2.2.2.2.2.2.1, (o1.2.2.2.2.2.2.2.2.2.2.2.1, (o1.2.2.2.2.2.2.2.2.2.2.2.2.1, (o1.2.2.2.2.2.2.2.2.2.2.2.2.2.1, (o1.2.2.2.2.2.2.2.2.2.2.2.2.2.2.1, (o1.2.2.2.2.2.2.2.2.2.2.2.2.2.2.2.1, (o1.2.2.2.2.2.2.2.2.2.2.2.2.2.2.2.2.1, (o1.2.2.2.2.2.2.2.2.2.2.2.2.2.2.2.2.2.1, (o1.2.2.2.2.2.2.2.2.2.2.2.2.2.2.2.2.2.2.1, (o1.2.2.2.2.2.2.2.2.2.2.2.2.2.2.2.2.2.2.2.1, (o1.2.2.2.2.2.2.2.2.2.2.2.2.2.2.2.2.2.2.2.2.1, (o1.2.2.2.2.2.2.2.2.2.2.2.2.2.2.2.2.2.2.2.2.2.1, (o1.2.2.2.2.2.2.2.2.2.2.2.2.2.2.2.2.2.2.2.2.2.2.1, o1.2.2.2.2.2.2.2.2.2.2.2.2.2.2.2.2.2.2.2.2.2.2.2)))))))))))))))))))))))
def ref21_GetReply_l0_it (fu : Nat)  (tt : (Int × (Int × (Int × (Int × (Int × (Int × (Bool × (Int × (Bool × (Int × (List (UInt8) × (Int × (Bool × (Int × (Int × (Int × (Int × (Int × (Bool × (Int × (Bool × (Int × (List (UInt8) × List ((List UInt8 × Int)))))))))))))))))))))))))) : Option ((Int × (Int × (Int × (Int × (Int × (Bool × (Int × (Bool × (Int × (List (UInt8) × (Int × (Bool × (Int × (Int × (Int × (Int × (Int × (Bool × (Int × (Bool × (Int × (List (UInt8) × List ((List UInt8 × Int))))))))))))))))))))))))) :=
  iter fu (fun tt => ref21_GetReply_l0 fu tt.1 tt.2.1 tt.2.2.1 tt.2.2.2.1 tt.2.2.2.2.1 tt.2.2.2.2.2.1 tt.2.2.2.2.2.2.1 tt.2.2.2.2.2.2.2.1 tt.2.2.2.2.2.2.2.2.1 tt.2.2.2.2.2.2.2.2.2.1 tt.2.2.2.2.2.2.2.2.2.2.1 tt.2.2.2.2.2.2.2.2.2.2.2.1 tt.2.2.2.2.2.2.2.2.2.2.2.2.1 tt.2.2.2.2.2.2.2.2.2.2.2.2.2.1 tt.2.2.2.2.2.2.2.2.2.2.2.2.2.2.1 tt.2.2.2.2.2.2.2.2.2.2.2.2.2.2.2.1 tt.2.2.2.2.2.2.2.2.2.2.2.2.2.2.2.2.1 tt.2.2.2.2.2.2.2.2.2.2.2.2.2.2.2.2.2.1 tt.2.2.2.2.2.2.2.2.2.2.2.2.2.2.2.2.2.2.1 tt.2.2.2.2.2.2.2.2.2.2.2.2.2.2.2.2.2.2.2.1 tt.2.2.2.2.2.2.2.2.2.2.2.2.2.2.2.2.2.2.2.2.1 tt.2.2.2.2.2.2.2.2.2.2.2.2.2.2.2.2.2.2.2.2.2.1 tt.2.2.2.2.2.2.2.2.2.2.2.2.2.2.2.2.2.2.2.2.2.2.1 tt.2.2.2.2.2.2.2.2.2.2.2.2.2.2.2.2.2.2.2.2.2.2.2) tt
def ref21_GetReply (fu : Nat) (t : List (Int)) (b : List (UInt8)) : Option ((Int × (Int × (Int × (Int × (Int × (Bool × (Int × (List (UInt8) × (List ((List UInt8 × Int)) × (Bool × (Int × Int)))))))))))) :=
  (ref01_Unseal fu t b).bind fun r =>
  bif (!(r.2 == 0)) then
    some (0, (0, (0, (0, (0, (false, (0, ([], ([], (false, (0, r.2)))))))))))
  else
    Option.bind (α := ((Bool × (Int × (Int × (Int × (Int × (Int × (Bool × (Int × (Bool × Int))))))))))) (
      bif (((r.1.length : Nat) : Int) == 0) then
        some (true, (0, (0, (0, (0, (0, (false, (0, (false, 0)))))))))
      else
        (idx? 0 r.1.length).bind fun q =>
        (r.1)[q]?.bind fun r1 =>
        some ((!(((r1.toNat : Nat) : Int) == 4)), (0, (0, (0, (0, (0, (false, (0, (false, 0)))))))))) fun o =>
    bif o.1 then
      some (0, (0, (0, (0, (0, (false, (0, ([], ([], (false, (0, 179)))))))))))
    else
      (ref21_eye_num fu r.1 1 false).bind fun r2 =>
      (ref21_eye_num fu r2.2.1 r2.2.2.1 r2.2.2.2).bind fun r3 =>
      (ref21_eye_num fu r3.2.1 r3.2.2.1 r3.2.2.2).bind fun r4 =>
      (ref21_eye_num fu r4.2.1 r4.2.2.1 r4.2.2.2).bind fun r5 =>
      (ref21_eye_num fu r5.2.1 r5.2.2.1 r5.2.2.2).bind fun r6 =>
      (ref21_eye_num fu r6.2.1 r6.2.2.1 r6.2.2.2).bind fun r7 =>
      (ref21_eye_num fu r7.2.1 r7.2.2.1 r7.2.2.2).bind fun r8 =>
      (ref21_eye_num fu r8.2.1 r8.2.2.1 r8.2.2.2).bind fun r9 =>
      (ref21_eye_num fu r9.2.1 r9.2.2.1 r9.2.2.2).bind fun r10 =>
      (ref21_eye_blob fu r10.2.1 r10.2.2.1 r10.2.2.2).bind fun r11 =>
      (ref21_eye_num fu r11.1 r11.2.1 r11.2.2.1).bind fun r12 =>
      (ref21_GetReply_l0_it fu  (r12.1, (o.2.1, (o.2.2.1, (o.2.2.2.1, (o.2.2.2.2.1, (o.2.2.2.2.2.1, (o.2.2.2.2.2.2.1, (o.2.2.2.2.2.2.2.1, (o.2.2.2.2.2.2.2.2.1, (o.2.2.2.2.2.2.2.2.2, (r12.2.1, (r12.2.2.1, (r12.2.2.2, (r2.1, (r3.1, (r4.1, (r5.1, (r6.1, ((r7.1 == 1), (r8.1, ((r9.1 == 1), (r10.1, (r11.2.2.2, [])))))))))))))))))))))))).bind fun o2 =>
      Option.bind (α := ((Bool × (Int × (Int × (Int × (Int × (Int × (Bool × (Int × (Bool × (Int × (Int × (Int × (Int × (Int × (Int × (Bool × (Int × (Bool × (Int × (List (UInt8) × List ((List UInt8 × Int)))))))))))))))))))))))) (
        bif o2.2.2.2.2.2.2.2.2.2.2.2.1 then
          some (true, (o2.1, (o2.2.1, (o2.2.2.1, (o2.2.2.2.1, (o2.2.2.2.2.1, (o2.2.2.2.2.2.1, (o2.2.2.2.2.2.2.1, (o2.2.2.2.2.2.2.2.1, (o2.2.2.2.2.2.2.2.2.1, (o2.2.2.2.2.2.2.2.2.2.2.2.2.1, (o2.2.2.2.2.2.2.2.2.2.2.2.2.2.1, (o2.2.2.2.2.2.2.2.2.2.2.2.2.2.2.1, (o2.2.2.2.2.2.2.2.2.2.2.2.2.2.2.2.1, (o2.2.2.2.2.2.2.2.2.2.2.2.2.2.2.2.2.1, (o2.2.2.2.2.2.2.2.2.2.2.2.2.2.2.2.2.2.1, (o2.2.2.2.2.2.2.2.2.2.2.2.2.2.2.2.2.2.2.1, (o2.2.2.2.2.2.2.2.2.2.2.2.2.2.2.2.2.2.2.2.1, (o2.2.2.2.2.2.2.2.2.2.2.2.2.2.2.2.2.2.2.2.2.1, (o2.2.2.2.2.2.2.2.2.2.2.2.2.2.2.2.2.2.2.2.2.2.1, o2.2.2.2.2.2.2.2.2.2.2.2.2.2.2.2.2.2.2.2.2.2.2))))))))))))))))))))
        else
          (ref21_RightReply fu (o2.2.2.2.2.2.2.2.2.2.2.2.2.1, (o2.2.2.2.2.2.2.2.2.2.2.2.2.2.1, (o2.2.2.2.2.2.2.2.2.2.2.2.2.2.2.1, ((o2.2.2.2.2.2.2.2.2.2.2.2.2.2.2.2.1, o2.2.2.2.2.2.2.2.2.2.2.2.2.2.2.2.2.1), (o2.2.2.2.2.2.2.2.2.2.2.2.2.2.2.2.2.2.1, (o2.2.2.2.2.2.2.2.2.2.2.2.2.2.2.2.2.2.2.1, (o2.2.2.2.2.2.2.2.2.2.2.2.2.2.2.2.2.2.2.2.2.2.1, (o2.2.2.2.2.2.2.2.2.2.2.2.2.2.2.2.2.2.2.2.2.2.2, (o2.2.2.2.2.2.2.2.2.2.2.2.2.2.2.2.2.2.2.2.1, o2.2.2.2.2.2.2.2.2.2.2.2.2.2.2.2.2.2.2.2.2.1)))))))))).bind fun r15 =>
          bif (!r15) then
            some (true, (o2.1, (o2.2.1, (o2.2.2.1, (o2.2.2.2.1, (o2.2.2.2.2.1, (o2.2.2.2.2.2.1, (o2.2.2.2.2.2.2.1, (o2.2.2.2.2.2.2.2.1, (o2.2.2.2.2.2.2.2.2.1, (o2.2.2.2.2.2.2.2.2.2.2.2.2.1, (o2.2.2.2.2.2.2.2.2.2.2.2.2.2.1, (o2.2.2.2.2.2.2.2.2.2.2.2.2.2.2.1, (o2.2.2.2.2.2.2.2.2.2.2.2.2.2.2.2.1, (o2.2.2.2.2.2.2.2.2.2.2.2.2.2.2.2.2.1, (o2.2.2.2.2.2.2.2.2.2.2.2.2.2.2.2.2.2.1, (o2.2.2.2.2.2.2.2.2.2.2.2.2.2.2.2.2.2.2.1, (o2.2.2.2.2.2.2.2.2.2.2.2.2.2.2.2.2.2.2.2.1, (o2.2.2.2.2.2.2.2.2.2.2.2.2.2.2.2.2.2.2.2.2.1, (o2.2.2.2.2.2.2.2.2.2.2.2.2.2.2.2.2.2.2.2.2.2.1, o2.2.2.2.2.2.2.2.2.2.2.2.2.2.2.2.2.2.2.2.2.2.2))))))))))))))))))))
          else
            (ref21_reply fu (o2.2.2.2.2.2.2.2.2.2.2.2.2.1, (o2.2.2.2.2.2.2.2.2.2.2.2.2.2.1, (o2.2.2.2.2.2.2.2.2.2.2.2.2.2.2.1, ((o2.2.2.2.2.2.2.2.2.2.2.2.2.2.2.2.1, o2.2.2.2.2.2.2.2.2.2.2.2.2.2.2.2.2.1), (o2.2.2.2.2.2.2.2.2.2.2.2.2.2.2.2.2.2.1, (o2.2.2.2.2.2.2.2.2.2.2.2.2.2.2.2.2.2.2.1, (o2.2.2.2.2.2.2.2.2.2.2.2.2.2.2.2.2.2.2.2.2.2.1, (o2.2.2.2.2.2.2.2.2.2.2.2.2.2.2.2.2.2.2.2.2.2.2, (o2.2.2.2.2.2.2.2.2.2.2.2.2.2.2.2.2.2.2.2.1, o2.2.2.2.2.2.2.2.2.2.2.2.2.2.2.2.2.2.2.2.2.1)))))))))).bind fun r16 =>
            some ((!(r16 == r.1)), (o2.1, (o2.2.1, (o2.2.2.1, (o2.2.2.2.1, (o2.2.2.2.2.1, (o2.2.2.2.2.2.1, (o2.2.2.2.2.2.2.1, (o2.2.2.2.2.2.2.2.1, (o2.2.2.2.2.2.2.2.2.1, (o2.2.2.2.2.2.2.2.2.2.2.2.2.1, (o2.2.2.2.2.2.2.2.2.2.2.2.2.2.1, (o2.2.2.2.2.2.2.2.2.2.2.2.2.2.2.1, (o2.2.2.2.2.2.2.2.2.2.2.2.2.2.2.2.1, (o2.2.2.2.2.2.2.2.2.2.2.2.2.2.2.2.2.1, (o2.2.2.2.2.2.2.2.2.2.2.2.2.2.2.2.2.2.1, (o2.2.2.2.2.2.2.2.2.2.2.2.2.2.2.2.2.2.2.1, (o2.2.2.2.2.2.2.2.2.2.2.2.2.2.2.2.2.2.2.2.1, (o2.2.2.2.2.2.2.2.2.2.2.2.2.2.2.2.2.2.2.2.2.1, (o2.2.2.2.2.2.2.2.2.2.2.2.2.2.2.2.2.2.2.2.2.2.1, o2.2.2.2.2.2.2.2.2.2.2.2.2.2.2.2.2.2.2.2.2.2.2))))))))))))))))))))) fun o3 =>
      bif o3.1 then
        some (0, (0, (0, (0, (0, (false, (0, ([], ([], (false, (0, 179)))))))))))
      else
        some (o3.2.2.2.2.2.2.2.2.2.2.1, (o3.2.2.2.2.2.2.2.2.2.2.2.1, (o3.2.2.2.2.2.2.2.2.2.2.2.2.1, (o3.2.2.2.2.2.2.2.2.2.2.2.2.2.1, (o3.2.2.2.2.2.2.2.2.2.2.2.2.2.2.1, (o3.2.2.2.2.2.2.2.2.2.2.2.2.2.2.2.1, (o3.2.2.2.2.2.2.2.2.2.2.2.2.2.2.2.2.1, (o3.2.2.2.2.2.2.2.2.2.2.2.2.2.2.2.2.2.2.2.1, (o3.2.2.2.2.2.2.2.2.2.2.2.2.2.2.2.2.2.2.2.2, (o3.2.2.2.2.2.2.2.2.2.2.2.2.2.2.2.2.2.1, (o3.2.2.2.2.2.2.2.2.2.2.2.2.2.2.2.2.2.2.1, 0)))))))))))
def ref21_GetReply_fa : FnA := ⟨.two (.reg [(0, { ids := [100] })]) (.two (.reg [(2, {  })]) (.two (.two (.leaf) (.two (.leaf) (.leaf))) (.two (.two (.join ⟨[4, 32], ⟨(.cons (.own 0 100 0 0) (.cons (.p .bool) .nil)), [(100, false, (.vars (.cons (.p (.int .i64)) (.cons (.p (.int .i64)) (.cons (.p (.int .i64)) (.cons (.p (.int .i64)) (.cons (.p (.int .i64)) (.cons (.p .bool) (.cons (.p (.int .i64)) (.cons (.nilp (.slice none 0 0)) (.cons (.nilp (.slice none 0 0)) (.cons (.p .bool) (.cons (.p (.int .i64)) .nil)))))))))))))]⟩⟩ false [] (.leaf)) (.two (.leaf) (.leaf))) (.two (.reg [(2, { ids := [101] })]) (.two (.reg [(0, { ids := [102] })]) (.two (.reg [(1, { sh := [101], fn := 1 })]) (.two (.reg [(1, { sh := [101], fn := 1 })]) (.two (.reg [(1, { sh := [101], fn := 1 })]) (.two (.reg [(1, { sh := [101], fn := 1 })]) (.two (.reg [(1, { sh := [101], fn := 1 })]) (.two (.reg [(1, { sh := [101], fn := 1 })]) (.two (.reg [(1, { sh := [101], fn := 1 })]) (.two (.reg [(1, { sh := [101], fn := 1 })]) (.two (.reg [(1, { sh := [101], fn := 1 })]) (.two (.leaf) (.two (.reg [(1, { ids := [103], sh := [101], fn := 2 })]) (.two (.two (.reg [(1, { sh := [101], fn := 1 })]) (.one (.pre (.ownCell 102 8 57 104) (.loop ⟨[4, 8, 9, 12], ⟨(.cons (.own 0 100 0 0) (.cons (.own 0 101 0 0) (.cons (.own 0 102 0 0) (.cons (.p (.int .i64)) .nil)))), [(100, false, (.vars (.cons (.p (.int .i64)) (.cons (.p (.int .i64)) (.cons (.p (.int .i64)) (.cons (.p (.int .i64)) (.cons (.p (.int .i64)) (.cons (.p .bool) (.cons (.p (.int .i64)) (.cons (.nilp (.slice none 0 0)) (.cons (.nilp (.slice none 0 0)) (.cons (.p .bool) (.cons (.p (.int .i64)) .nil))))))))))))), (101, false, (.vars (.cons (.p (.sl .byte)) (.cons (.p (.int .i64)) (.cons (.p .bool) .nil))))), (102, false, (.vars (.cons (.p (.int .i64)) (.cons (.p (.int .i64)) (.cons (.p (.int .i64)) (.cons (.p (.int .i64)) (.cons (.p (.int .i64)) (.cons (.p .bool) (.cons (.p (.int .i64)) (.cons (.slf 1 103) (.cons (.slf 2 104) (.cons (.p .bool) (.cons (.p (.int .i64)) .nil))))))))))))), (103, false, (.rows 5 .byte)), (104, false, (.rows 57 (.pair .str (.int .i64))))]⟩⟩ false [(0, ⟨[4, 8, 9], ⟨(.cons (.own 0 100 0 0) (.cons (.own 0 101 0 0) (.cons (.own 0 102 0 0) .nil))), [(100, false, (.vars (.cons (.p (.int .i64)) (.cons (.p (.int .i64)) (.cons (.p (.int .i64)) (.cons (.p (.int .i64)) (.cons (.p (.int .i64)) (.cons (.p .bool) (.cons (.p (.int .i64)) (.cons (.nilp (.slice none 0 0)) (.cons (.nilp (.slice none 0 0)) (.cons (.p .bool) (.cons (.p (.int .i64)) .nil))))))))))))), (101, false, (.vars (.cons (.p (.sl .byte)) (.cons (.p (.int .i64)) (.cons (.p .bool) .nil))))), (102, false, (.vars (.cons (.p (.int .i64)) (.cons (.p (.int .i64)) (.cons (.p (.int .i64)) (.cons (.p (.int .i64)) (.cons (.p (.int .i64)) (.cons (.p .bool) (.cons (.p (.int .i64)) (.cons (.slf 1 103) (.cons (.slf 2 104) (.cons (.p .bool) (.cons (.p (.int .i64)) .nil))))))))))))), (103, false, (.rows 5 .byte)), (104, false, (.rows 57 (.pair .str (.int .i64))))]⟩⟩)] (.two (.two (.join ⟨[4, 8, 9, 89], ⟨(.cons (.own 0 100 0 0) (.cons (.own 0 101 0 0) (.cons (.own 0 102 0 0) (.cons (.p .bool) .nil)))), [(100, false, (.vars (.cons (.p (.int .i64)) (.cons (.p (.int .i64)) (.cons (.p (.int .i64)) (.cons (.p (.int .i64)) (.cons (.p (.int .i64)) (.cons (.p .bool) (.cons (.p (.int .i64)) (.cons (.nilp (.slice none 0 0)) (.cons (.nilp (.slice none 0 0)) (.cons (.p .bool) (.cons (.p (.int .i64)) .nil))))))))))))), (101, false, (.vars (.cons (.p (.sl .byte)) (.cons (.p (.int .i64)) (.cons (.p .bool) .nil))))), (102, false, (.vars (.cons (.p (.int .i64)) (.cons (.p (.int .i64)) (.cons (.p (.int .i64)) (.cons (.p (.int .i64)) (.cons (.p (.int .i64)) (.cons (.p .bool) (.cons (.p (.int .i64)) (.cons (.slf 1 103) (.cons (.slf 2 104) (.cons (.p .bool) (.cons (.p (.int .i64)) .nil))))))))))))), (103, false, (.rows 5 .byte)), (104, false, (.rows 57 (.pair .str (.int .i64))))]⟩⟩ false [] (.leaf)) (.leaf)) (.two (.one (.two (.reg [(1, { ids := [105], sh := [101], fn := 2 })]) (.reg [(4, { sh := [101], fn := 1 }), (6, { ids := [106] }), (7, { ids := [107] })]))) (.leaf))))))) (.pre (.frzB 103) (.pre (.frzB 104) (.two (.two (.join ⟨[4, 9, 120], ⟨(.cons (.own 0 100 0 0) (.cons (.own 0 102 0 0) (.cons (.p .bool) .nil))), [(100, false, (.vars (.cons (.p (.int .i64)) (.cons (.p (.int .i64)) (.cons (.p (.int .i64)) (.cons (.p (.int .i64)) (.cons (.p (.int .i64)) (.cons (.p .bool) (.cons (.p (.int .i64)) (.cons (.nilp (.slice none 0 0)) (.cons (.nilp (.slice none 0 0)) (.cons (.p .bool) (.cons (.p (.int .i64)) .nil))))))))))))), (102, false, (.vars (.cons (.p (.int .i64)) (.cons (.p (.int .i64)) (.cons (.p (.int .i64)) (.cons (.p (.int .i64)) (.cons (.p (.int .i64)) (.cons (.p .bool) (.cons (.p (.int .i64)) (.cons (.slf 1 103) (.cons (.slf 2 104) (.cons (.p .bool) (.cons (.p (.int .i64)) .nil))))))))))))), (103, true, (.rows 5 .byte)), (104, true, (.rows 57 (.pair .str (.int .i64))))]⟩⟩ false [] (.reg [(6, { md := [2], fn := 3 }), (11, { ids := [108], md := [1], fn := 4 })])) (.two (.leaf) (.leaf))) (.leaf))))))))))))))))))))), ⟨(.cons (.pt (.int .u32)) (.cons (.p (.sl .byte)) .nil)), []⟩, [⟨(.cons (.agg (.cons (.p (.int .i64)) (.cons (.p (.int .i64)) (.cons (.p (.int .i64)) (.cons (.p (.int .i64)) (.cons (.p (.int .i64)) (.cons (.p .bool) (.cons (.p (.int .i64)) (.cons (.p (.sl .byte)) (.cons (.p (.sl (.pair .str (.int .i64)))) (.cons (.p .bool) (.cons (.p (.int .i64)) .nil)))))))))))) (.cons (.p (.int .i64)) .nil)), []⟩], [1, 0]⟩
def ref21_GetReply_ft (fu : Nat) : FnT := ⟨25, ⟨(.cons (.pt (.int .u32)) (.cons (.p (.sl .byte)) .nil)), []⟩, [⟨(.cons (.agg (.cons (.p (.int .i64)) (.cons (.p (.int .i64)) (.cons (.p (.int .i64)) (.cons (.p (.int .i64)) (.cons (.p (.int .i64)) (.cons (.p .bool) (.cons (.p (.int .i64)) (.cons (.p (.sl .byte)) (.cons (.p (.sl (.pair .str (.int .i64)))) (.cons (.p .bool) (.cons (.p (.int .i64)) .nil)))))))))))) (.cons (.p (.int .i64)) .nil)), []⟩], fun t => ref21_GetReply fu t.1 t.2⟩
theorem ref21_GetReply_eq (fu : Nat) : ∀ t, evF Go.Proofs.Try.prog [ref01_Unseal_ft fu, ref21_eye_num_ft fu, ref21_eye_blob_ft fu, ref21_RightReply_ft fu, ref21_reply_ft fu] fu Go.Proofs.Try.f25 ref21_GetReply_fa t = (ref21_GetReply_ft fu).spec t := fun t => by kernel_rfl
theorem ref21_GetReply_told (fu : Nat) : Told Go.Proofs.Try.prog (ref21_GetReply_ft fu) := told_of (allT_cons (ref01_Unseal_told fu) (allT_cons (ref21_eye_num_told fu) (allT_cons (ref21_eye_blob_told fu) (allT_cons (ref21_RightReply_told fu) (allT_cons (ref21_reply_told fu) allT_nil))))) mixed Go.Proofs.Try.func25 (by kernel_rfl) (by kernel_rfl) (ref21_GetReply_eq fu)

def law21_CallTells (fu : Nat) (c : (Int × (Int × (UInt8 × ((Int × Int) × (List UInt8 × ((Int × Int) × (List UInt8 × (Int × (Int × List (UInt8))))))))))) (r : (Int × (Int × (Int × ((Int × Int) × (Bool × (Int × (List (UInt8) × (List ((List UInt8 × Int)) × (Bool × Int)))))))))) (b : List (UInt8)) : Option (Bool) :=
  Option.bind (α := ((Bool × (Int × (Int × (Int × (Int × (Int × (List UInt8 × (Int × (Int × (List UInt8 × (Int × (Int × (List (UInt8) × (Int × (Int × (Int × (Int × (Int × (Bool × (Int × (List (UInt8) × (List ((List UInt8 × Int)) × (Bool × Int))))))))))))))))))))))))) (
    (byte? ((c.2.2.1.toNat : Nat) : Int)).bind fun c1 =>
    (law21_Huge fu (c.1, (c.2.1, (c1, ((c.2.2.2.1.1, c.2.2.2.1.2), (c.2.2.2.2.1, ((c.2.2.2.2.2.1.1, c.2.2.2.2.2.1.2), (c.2.2.2.2.2.2.1, (c.2.2.2.2.2.2.2.1, (c.2.2.2.2.2.2.2.2.1, c.2.2.2.2.2.2.2.2.2))))))))) (r.1, (r.2.1, (r.2.2.1, ((r.2.2.2.1.1, r.2.2.2.1.2), (r.2.2.2.2.1, (r.2.2.2.2.2.1, (r.2.2.2.2.2.2.1, (r.2.2.2.2.2.2.2.1, (r.2.2.2.2.2.2.2.2.1, r.2.2.2.2.2.2.2.2.2)))))))))).bind fun r1 =>
    bif r1 then
      some (true, (c.1, (c.2.1, (((c.2.2.1.toNat : Nat) : Int), (c.2.2.2.1.1, (c.2.2.2.1.2, (c.2.2.2.2.1, (c.2.2.2.2.2.1.1, (c.2.2.2.2.2.1.2, (c.2.2.2.2.2.2.1, (c.2.2.2.2.2.2.2.1, (c.2.2.2.2.2.2.2.2.1, (c.2.2.2.2.2.2.2.2.2, (r.1, (r.2.1, (r.2.2.1, (r.2.2.2.1.1, (r.2.2.2.1.2, (r.2.2.2.2.1, (r.2.2.2.2.2.1, (r.2.2.2.2.2.2.1, (r.2.2.2.2.2.2.2.1, (r.2.2.2.2.2.2.2.2.1, r.2.2.2.2.2.2.2.2.2)))))))))))))))))))))))
    else
      some ((decide (((b.length : Nat) : Int) > 20000)), (c.1, (c.2.1, (((c.2.2.1.toNat : Nat) : Int), (c.2.2.2.1.1, (c.2.2.2.1.2, (c.2.2.2.2.1, (c.2.2.2.2.2.1.1, (c.2.2.2.2.2.1.2, (c.2.2.2.2.2.2.1, (c.2.2.2.2.2.2.2.1, (c.2.2.2.2.2.2.2.2.1, (c.2.2.2.2.2.2.2.2.2, (r.1, (r.2.1, (r.2.2.1, (r.2.2.2.1.1, (r.2.2.2.1.2, (r.2.2.2.2.1, (r.2.2.2.2.2.1, (r.2.2.2.2.2.2.1, (r.2.2.2.2.2.2.2.1, (r.2.2.2.2.2.2.2.2.1, r.2.2.2.2.2.2.2.2.2)))))))))))))))))))))))) fun o =>
  bif o.1 then
    (law21_awake fu).bind fun r2 =>
    some r2
  else
    (bytes_Table fu).bind fun r3 =>
    need (Nat.beq (List.replicate (α := Int) 256 0).length 256) <|
    need (Nat.beq r3.length 256) <|
    (byte? o.2.2.2.1).bind fun c2 =>
    (call_PutCall fu r3 (o.2.1, (o.2.2.1, (c2, ((o.2.2.2.2.1, o.2.2.2.2.2.1), (o.2.2.2.2.2.2.1, ((o.2.2.2.2.2.2.2.1, o.2.2.2.2.2.2.2.2.1), (o.2.2.2.2.2.2.2.2.2.1, (o.2.2.2.2.2.2.2.2.2.2.1, (o.2.2.2.2.2.2.2.2.2.2.2.1, o.2.2.2.2.2.2.2.2.2.2.2.2.1)))))))))).bind fun r4 =>
    (byte? o.2.2.2.1).bind fun c3 =>
    (ref21_PutCall fu r3 (o.2.1, (o.2.2.1, (c3, ((o.2.2.2.2.1, o.2.2.2.2.2.1), (o.2.2.2.2.2.2.1, ((o.2.2.2.2.2.2.2.1, o.2.2.2.2.2.2.2.2.1), (o.2.2.2.2.2.2.2.2.2.1, (o.2.2.2.2.2.2.2.2.2.2.1, (o.2.2.2.2.2.2.2.2.2.2.2.1, o.2.2.2.2.2.2.2.2.2.2.2.2.1)))))))))).bind fun r5 =>
    (call_PutReply fu r3 (o.2.2.2.2.2.2.2.2.2.2.2.2.2.1, (o.2.2.2.2.2.2.2.2.2.2.2.2.2.2.1, (o.2.2.2.2.2.2.2.2.2.2.2.2.2.2.2.1, ((o.2.2.2.2.2.2.2.2.2.2.2.2.2.2.2.2.1, o.2.2.2.2.2.2.2.2.2.2.2.2.2.2.2.2.2.1), (o.2.2.2.2.2.2.2.2.2.2.2.2.2.2.2.2.2.2.1, (o.2.2.2.2.2.2.2.2.2.2.2.2.2.2.2.2.2.2.2.1, (o.2.2.2.2.2.2.2.2.2.2.2.2.2.2.2.2.2.2.2.2.1, (o.2.2.2.2.2.2.2.2.2.2.2.2.2.2.2.2.2.2.2.2.2.1, (o.2.2.2.2.2.2.2.2.2.2.2.2.2.2.2.2.2.2.2.2.2.2.1, o.2.2.2.2.2.2.2.2.2.2.2.2.2.2.2.2.2.2.2.2.2.2.2)))))))))).bind fun r6 =>
    (ref21_PutReply fu r3 (o.2.2.2.2.2.2.2.2.2.2.2.2.2.1, (o.2.2.2.2.2.2.2.2.2.2.2.2.2.2.1, (o.2.2.2.2.2.2.2.2.2.2.2.2.2.2.2.1, ((o.2.2.2.2.2.2.2.2.2.2.2.2.2.2.2.2.1, o.2.2.2.2.2.2.2.2.2.2.2.2.2.2.2.2.2.1), (o.2.2.2.2.2.2.2.2.2.2.2.2.2.2.2.2.2.2.1, (o.2.2.2.2.2.2.2.2.2.2.2.2.2.2.2.2.2.2.2.1, (o.2.2.2.2.2.2.2.2.2.2.2.2.2.2.2.2.2.2.2.2.1, (o.2.2.2.2.2.2.2.2.2.2.2.2.2.2.2.2.2.2.2.2.2.1, (o.2.2.2.2.2.2.2.2.2.2.2.2.2.2.2.2.2.2.2.2.2.2.1, o.2.2.2.2.2.2.2.2.2.2.2.2.2.2.2.2.2.2.2.2.2.2.2)))))))))).bind fun r7 =>
    Option.bind (α := ((Bool × List (Int)))) (
      (low_SameBytes fu r4.2 r5.2).bind fun r8 =>
      bif (!r8) then
        some (true, r3)
      else
        bif (!(r4.1 == r5.1)) then
          some (true, r3)
        else
          (low_SameBytes fu r6.2 r7.2).bind fun r9 =>
          bif (!r9) then
            some (true, r3)
          else
            bif (!(r6.1 == r7.1)) then
              some (true, r3)
            else
              (byte? o.2.2.2.1).bind fun c4 =>
              (call_RightCall fu (o.2.1, (o.2.2.1, (c4, ((o.2.2.2.2.1, o.2.2.2.2.2.1), (o.2.2.2.2.2.2.1, ((o.2.2.2.2.2.2.2.1, o.2.2.2.2.2.2.2.2.1), (o.2.2.2.2.2.2.2.2.2.1, (o.2.2.2.2.2.2.2.2.2.2.1, (o.2.2.2.2.2.2.2.2.2.2.2.1, o.2.2.2.2.2.2.2.2.2.2.2.2.1)))))))))).bind fun r10 =>
              (byte? o.2.2.2.1).bind fun c5 =>
              (ref21_RightCall fu (o.2.1, (o.2.2.1, (c5, ((o.2.2.2.2.1, o.2.2.2.2.2.1), (o.2.2.2.2.2.2.1, ((o.2.2.2.2.2.2.2.1, o.2.2.2.2.2.2.2.2.1), (o.2.2.2.2.2.2.2.2.2.1, (o.2.2.2.2.2.2.2.2.2.2.1, (o.2.2.2.2.2.2.2.2.2.2.2.1, o.2.2.2.2.2.2.2.2.2.2.2.2.1)))))))))).bind fun r11 =>
              bif (!(r10 == r11)) then
                some (true, r3)
              else
                (call_RightReply fu (o.2.2.2.2.2.2.2.2.2.2.2.2.2.1, (o.2.2.2.2.2.2.2.2.2.2.2.2.2.2.1, (o.2.2.2.2.2.2.2.2.2.2.2.2.2.2.2.1, ((o.2.2.2.2.2.2.2.2.2.2.2.2.2.2.2.2.1, o.2.2.2.2.2.2.2.2.2.2.2.2.2.2.2.2.2.1), (o.2.2.2.2.2.2.2.2.2.2.2.2.2.2.2.2.2.2.1, (o.2.2.2.2.2.2.2.2.2.2.2.2.2.2.2.2.2.2.2.1, (o.2.2.2.2.2.2.2.2.2.2.2.2.2.2.2.2.2.2.2.2.1, (o.2.2.2.2.2.2.2.2.2.2.2.2.2.2.2.2.2.2.2.2.2.1, (o.2.2.2.2.2.2.2.2.2.2.2.2.2.2.2.2.2.2.2.2.2.2.1, o.2.2.2.2.2.2.2.2.2.2.2.2.2.2.2.2.2.2.2.2.2.2.2)))))))))).bind fun r12 =>
                (ref21_RightReply fu (o.2.2.2.2.2.2.2.2.2.2.2.2.2.1, (o.2.2.2.2.2.2.2.2.2.2.2.2.2.2.1, (o.2.2.2.2.2.2.2.2.2.2.2.2.2.2.2.1, ((o.2.2.2.2.2.2.2.2.2.2.2.2.2.2.2.2.1, o.2.2.2.2.2.2.2.2.2.2.2.2.2.2.2.2.2.1), (o.2.2.2.2.2.2.2.2.2.2.2.2.2.2.2.2.2.2.1, (o.2.2.2.2.2.2.2.2.2.2.2.2.2.2.2.2.2.2.2.1, (o.2.2.2.2.2.2.2.2.2.2.2.2.2.2.2.2.2.2.2.2.1, (o.2.2.2.2.2.2.2.2.2.2.2.2.2.2.2.2.2.2.2.2.2.1, (o.2.2.2.2.2.2.2.2.2.2.2.2.2.2.2.2.2.2.2.2.2.2.1, o.2.2.2.2.2.2.2.2.2.2.2.2.2.2.2.2.2.2.2.2.2.2.2)))))))))).bind fun r13 =>
                some ((!(r12 == r13)), r3)) fun o1 =>
    bif o1.1 then
      some false
    else
      (call_GetCall fu o1.2 b).bind fun r14 =>
      (ref21_GetCall fu o1.2 b).bind fun r15 =>
      (call_GetReply fu o1.2 b).bind fun r16 =>
      (ref21_GetReply fu o1.2 b).bind fun r17 =>
      (byte? r15.2.2.1).bind fun c6 =>
      (byte? r14.2.2.1).bind fun c7 =>
      (law21_SameCall fu (r14.1, (r14.2.1, (c7, ((r14.2.2.2.1, r14.2.2.2.2.1), (r14.2.2.2.2.2.1, ((r14.2.2.2.2.2.2.1, r14.2.2.2.2.2.2.2.1), (r14.2.2.2.2.2.2.2.2.1, (r14.2.2.2.2.2.2.2.2.2.1, (r14.2.2.2.2.2.2.2.2.2.2.1, r14.2.2.2.2.2.2.2.2.2.2.2.1))))))))) (r15.1, (r15.2.1, (c6, ((r15.2.2.2.1, r15.2.2.2.2.1), (r15.2.2.2.2.2.1, ((r15.2.2.2.2.2.2.1, r15.2.2.2.2.2.2.2.1), (r15.2.2.2.2.2.2.2.2.1, (r15.2.2.2.2.2.2.2.2.2.1, (r15.2.2.2.2.2.2.2.2.2.2.1, r15.2.2.2.2.2.2.2.2.2.2.2.1)))))))))).bind fun r18 =>
      bif r18 then
        bif (r14.2.2.2.2.2.2.2.2.2.2.2.2 == r15.2.2.2.2.2.2.2.2.2.2.2.2) then
          (law21_SameReply fu (r16.1, (r16.2.1, (r16.2.2.1, ((r16.2.2.2.1, r16.2.2.2.2.1), (r16.2.2.2.2.2.1, (r16.2.2.2.2.2.2.1, (r16.2.2.2.2.2.2.2.1, (r16.2.2.2.2.2.2.2.2.1, (r16.2.2.2.2.2.2.2.2.2.1, r16.2.2.2.2.2.2.2.2.2.2.1))))))))) (r17.1, (r17.2.1, (r17.2.2.1, ((r17.2.2.2.1, r17.2.2.2.2.1), (r17.2.2.2.2.2.1, (r17.2.2.2.2.2.2.1, (r17.2.2.2.2.2.2.2.1, (r17.2.2.2.2.2.2.2.2.1, (r17.2.2.2.2.2.2.2.2.2.1, r17.2.2.2.2.2.2.2.2.2.2.1)))))))))).bind fun r19 =>
          bif r19 then
            bif (r16.2.2.2.2.2.2.2.2.2.2.2 == r17.2.2.2.2.2.2.2.2.2.2.2) then
              (law21_awake fu).bind fun r20 =>
              some r20
            else
              some false
          else
            some false
        else
          some false
      else
        some false
def law21_CallTells_fa : FnA := ⟨.two (.reg [(0, { ids := [100] }), (1, { ids := [101] })]) (.two (.two (.join ⟨[3, 4, 31], ⟨(.cons (.own 0 100 0 0) (.cons (.own 0 101 0 0) (.cons (.p .bool) .nil))), [(100, false, (.vars (.cons (.p (.int .i64)) (.cons (.p (.int .i64)) (.cons (.p (.int .u8)) (.cons (.p (.int .i64)) (.cons (.p (.int .i64)) (.cons (.p .str) (.cons (.p (.int .i64)) (.cons (.p (.int .i64)) (.cons (.p .str) (.cons (.p (.int .i64)) (.cons (.p (.int .i64)) (.cons (.p (.sl .byte)) .nil)))))))))))))), (101, false, (.vars (.cons (.p (.int .i64)) (.cons (.p (.int .i64)) (.cons (.p (.int .i64)) (.cons (.p (.int .i64)) (.cons (.p (.int .i64)) (.cons (.p .bool) (.cons (.p (.int .i64)) (.cons (.p (.sl .byte)) (.cons (.p (.sl (.pair .str (.int .i64)))) (.cons (.p .bool) (.cons (.p (.int .i64)) .nil)))))))))))))]⟩⟩ false [] (.reg [(2, {  })])) (.two (.two (.reg [(0, { fn := 1 })]) (.leaf)) (.leaf))) (.two (.reg [(0, { fn := 2 }), (1, { ids := [102] })]) (.two (.reg [(1, { ids := [103], md := [1, 0], fn := 3 })]) (.two (.reg [(1, { ids := [104], md := [1, 0], fn := 4 })]) (.two (.reg [(1, { ids := [105], md := [1, 0], fn := 5 })]) (.two (.reg [(1, { ids := [106], md := [1, 0], fn := 6 })]) (.two (.two (.join ⟨[7, 87], ⟨(.cons (.own 1 102 0 0) (.cons (.p .bool) .nil)), [(102, true, (.rows 37 (.int .u32)))]⟩⟩ false [] (.reg [(2, { md := [2, 2], fn := 7 }), (12, { md := [2, 2], fn := 7 }), (22, { fn := 8 }), (24, { fn := 9 }), (29, { fn := 10 }), (31, { fn := 11 })])) (.two (.leaf) (.leaf))) (.two (.reg [(1, { md := [1, 0], fn := 12 }), (5, { ids := [107] })]) (.two (.reg [(1, { md := [1, 0], fn := 13 }), (5, { ids := [108] })]) (.two (.reg [(1, { md := [1, 0], fn := 14 }), (5, { ids := [109] })]) (.two (.reg [(1, { md := [1, 0], fn := 15 }), (5, { ids := [110] })]) (.two (.reg [(2, { fn := 16 }), (11, { fn := 17 }), (19, { fn := 1 })]) (.leaf))))))))))))), ⟨(.cons (.p (.pair (.int .i64) (.pair (.int .i64) (.pair .byte (.pair (.pair (.int .i64) (.int .i64)) (.pair .str (.pair (.pair (.int .i64) (.int .i64)) (.pair .str (.pair (.int .i64) (.pair (.int .i64) (.sl .byte))))))))))) (.cons (.p (.pair (.int .i64) (.pair (.int .i64) (.pair (.int .i64) (.pair (.pair (.int .i64) (.int .i64)) (.pair .bool (.pair (.int .i64) (.pair (.sl .byte) (.pair (.sl (.pair .str (.int .i64))) (.pair .bool (.int .i64))))))))))) (.cons (.p (.sl .byte)) .nil))), []⟩, [⟨(.cons (.p .bool) .nil), []⟩], [0]⟩
def law21_CallTells_ft (fu : Nat) : FnT := ⟨5, ⟨(.cons (.p (.pair (.int .i64) (.pair (.int .i64) (.pair .byte (.pair (.pair (.int .i64) (.int .i64)) (.pair .str (.pair (.pair (.int .i64) (.int .i64)) (.pair .str (.pair (.int .i64) (.pair (.int .i64) (.sl .byte))))))))))) (.cons (.p (.pair (.int .i64) (.pair (.int .i64) (.pair (.int .i64) (.pair (.pair (.int .i64) (.int .i64)) (.pair .bool (.pair (.int .i64) (.pair (.sl .byte) (.pair (.sl (.pair .str (.int .i64))) (.pair .bool (.int .i64))))))))))) (.cons (.p (.sl .byte)) .nil))), []⟩, [⟨(.cons (.p .bool) .nil), []⟩], fun t => law21_CallTells fu t.1 t.2.1 t.2.2⟩
theorem law21_CallTells_eq (fu : Nat) : ∀ t, evF Go.Proofs.Try.prog [law21_Huge_ft fu, law21_awake_ft fu, bytes_Table_ft fu, call_PutCall_ft fu, ref21_PutCall_ft fu, call_PutReply_ft fu, ref21_PutReply_ft fu, low_SameBytes_ft fu, call_RightCall_ft fu, ref21_RightCall_ft fu, call_RightReply_ft fu, ref21_RightReply_ft fu, call_GetCall_ft fu, ref21_GetCall_ft fu, call_GetReply_ft fu, ref21_GetReply_ft fu, law21_SameCall_ft fu, law21_SameReply_ft fu] fu Go.Proofs.Try.f5 law21_CallTells_fa t = (law21_CallTells_ft fu).spec t := fun t => by kernel_rfl
theorem law21_CallTells_told (fu : Nat) : Told Go.Proofs.Try.prog (law21_CallTells_ft fu) := told_of (allT_cons (law21_Huge_told fu) (allT_cons (law21_awake_told fu) (allT_cons (bytes_Table_told fu) (allT_cons (call_PutCall_told fu) (allT_cons (ref21_PutCall_told fu) (allT_cons (call_PutReply_told fu) (allT_cons (ref21_PutReply_told fu) (allT_cons (low_SameBytes_told fu) (allT_cons (call_RightCall_told fu) (allT_cons (ref21_RightCall_told fu) (allT_cons (call_RightReply_told fu) (allT_cons (ref21_RightReply_told fu) (allT_cons (call_GetCall_told fu) (allT_cons (ref21_GetCall_told fu) (allT_cons (call_GetReply_told fu) (allT_cons (ref21_GetReply_told fu) (allT_cons (law21_SameCall_told fu) (allT_cons (law21_SameReply_told fu) allT_nil)))))))))))))))))) mixed Go.Proofs.Try.func5 (by kernel_rfl) (by kernel_rfl) (law21_CallTells_eq fu)
end
end Go.Ab.D
