/- Functions of the program as plain Lean functions: each equation is checked by the kernel; what is told of a function follows from it. -/
import Derived.Test.YtnkgdefgajgbgaaE3
import Derived.Test.YtnkgdefgajgbgaaProg
import Derived.KernelRfl
set_option linter.all false
set_option maxRecDepth 100000
set_option maxHeartbeats 4000000
namespace Go.Ab.D
open Go Go.Ab
noncomputable section
theorem mixed : Go.Proofs.Try.prog.follows .mixedOrders = true := by kernel_rfl
def wire_within (fu : Nat) (n : Int) (low : Int) (high : Int) : Option (Bool) :=
  bif (decide (n ≥ low)) then
    some (decide (n ≤ high))
  else
    some false
def wire_within_fa : FnA := ⟨.two (.leaf) (.leaf), ⟨(.cons (.p (.int .i64)) (.cons (.p (.int .i64)) (.cons (.p (.int .i64)) .nil))), []⟩, [⟨(.cons (.p .bool) .nil), []⟩], [0]⟩
def wire_within_ft (fu : Nat) : FnT := ⟨33, ⟨(.cons (.p (.int .i64)) (.cons (.p (.int .i64)) (.cons (.p (.int .i64)) .nil))), []⟩, [⟨(.cons (.p .bool) .nil), []⟩], fun t => wire_within fu t.1 t.2.1 t.2.2⟩
theorem wire_within_eq (fu : Nat) : ∀ t, evF Go.Proofs.Try.prog [] fu Go.Proofs.Try.f33 wire_within_fa t = (wire_within_ft fu).spec t := fun t => by kernel_rfl
theorem wire_within_told (fu : Nat) : Told Go.Proofs.Try.prog (wire_within_ft fu) := told_of allT_nil mixed Go.Proofs.Try.func33 (by kernel_rfl) (by kernel_rfl) (wire_within_eq fu)

def wire_headed (fu : Nat) (life : Int) (seq : Int) (op : Int) : Option (Bool) :=
  (wire_within fu life 1 1099511627776).bind fun r =>
  bif r then
    (wire_within fu seq 1 1099511627776).bind fun r1 =>
    bif r1 then
      bif (decide (op ≥ 1)) then
        some (decide (op ≤ 6))
      else
        some false
    else
      some false
  else
    some false
def wire_headed_fa : FnA := ⟨.two (.leaf) (.two (.reg [(1, {  }), (4, {  })]) (.leaf)), ⟨(.cons (.p (.int .i64)) (.cons (.p (.int .i64)) (.cons (.p (.int .u8)) .nil))), []⟩, [⟨(.cons (.p .bool) .nil), []⟩], [0]⟩
def wire_headed_ft (fu : Nat) : FnT := ⟨31, ⟨(.cons (.p (.int .i64)) (.cons (.p (.int .i64)) (.cons (.p (.int .u8)) .nil))), []⟩, [⟨(.cons (.p .bool) .nil), []⟩], fun t => wire_headed fu t.1 t.2.1 t.2.2⟩
theorem wire_headed_eq (fu : Nat) : ∀ t, evF Go.Proofs.Try.prog [wire_within_ft fu] fu Go.Proofs.Try.f31 wire_headed_fa t = (wire_headed_ft fu).spec t := fun t => by kernel_rfl
theorem wire_headed_told (fu : Nat) : Told Go.Proofs.Try.prog (wire_headed_ft fu) := told_of (allT_cons (wire_within_told fu) allT_nil) mixed Go.Proofs.Try.func31 (by kernel_rfl) (by kernel_rfl) (wire_headed_eq fu)

def wire_named (fu : Nat) (stripe : Int) (index : Int) (version : Int) (least : Int) : Option (Bool) :=
  (wire_within fu stripe 0 1099511627776).bind fun r =>
  bif r then
    (wire_within fu index 0 254).bind fun r1 =>
    bif r1 then
      (wire_within fu version least 1099511627776).bind fun r2 =>
      some r2
    else
      some false
  else
    some false
def wire_named_fa : FnA := ⟨.two (.leaf) (.two (.reg [(1, {  }), (4, {  }), (9, {  })]) (.leaf)), ⟨(.cons (.p (.int .i64)) (.cons (.p (.int .i64)) (.cons (.p (.int .i64)) (.cons (.p (.int .i64)) .nil)))), []⟩, [⟨(.cons (.p .bool) .nil), []⟩], [0]⟩
def wire_named_ft (fu : Nat) : FnT := ⟨32, ⟨(.cons (.p (.int .i64)) (.cons (.p (.int .i64)) (.cons (.p (.int .i64)) (.cons (.p (.int .i64)) .nil)))), []⟩, [⟨(.cons (.p .bool) .nil), []⟩], fun t => wire_named fu t.1 t.2.1 t.2.2.1 t.2.2.2⟩
theorem wire_named_eq (fu : Nat) : ∀ t, evF Go.Proofs.Try.prog [wire_within_ft fu] fu Go.Proofs.Try.f32 wire_named_fa t = (wire_named_ft fu).spec t := fun t => by kernel_rfl
theorem wire_named_told (fu : Nat) : Told Go.Proofs.Try.prog (wire_named_ft fu) := told_of (allT_cons (wire_within_told fu) allT_nil) mixed Go.Proofs.Try.func32 (by kernel_rfl) (by kernel_rfl) (wire_named_eq fu)

def wire_RightAsk (fu : Nat) (a : (Int × (Int × (UInt8 × (Int × (Int × (Int × List (UInt8)))))))) : Option (Bool) :=
  Option.bind (α := ((Bool × (Int × (Int × (Int × (Int × (Int × (Int × List (UInt8)))))))))) (
    bif (!(((a.2.2.1.toNat : Nat) : Int) == 4)) then
      some ((!(((a.2.2.1.toNat : Nat) : Int) == 5)), (a.1, (a.2.1, (((a.2.2.1.toNat : Nat) : Int), (a.2.2.2.1, (a.2.2.2.2.1, (a.2.2.2.2.2.1, a.2.2.2.2.2.2)))))))
    else
      some (false, (a.1, (a.2.1, (((a.2.2.1.toNat : Nat) : Int), (a.2.2.2.1, (a.2.2.2.2.1, (a.2.2.2.2.2.1, a.2.2.2.2.2.2)))))))) fun o =>
  Option.bind (α := ((Int × (Int × (Int × (Int × (Int × (Int × (Int × List (UInt8)))))))))) (
    bif o.1 then
      some (1, (o.2.1, (o.2.2.1, (o.2.2.2.1, (o.2.2.2.2.1, (o.2.2.2.2.2.1, (o.2.2.2.2.2.2.1, o.2.2.2.2.2.2.2)))))))
    else
      some (0, (o.2.1, (o.2.2.1, (o.2.2.2.1, (o.2.2.2.2.1, (o.2.2.2.2.2.1, (o.2.2.2.2.2.2.1, o.2.2.2.2.2.2.2)))))))) fun o1 =>
  Option.bind (α := ((Bool × (Int × (Int × (Int × (Int × (Int × (Int × List (UInt8)))))))))) (
    (wire_headed fu o1.2.1 o1.2.2.1 o1.2.2.2.1).bind fun r =>
    bif (!r) then
      some (true, (o1.2.1, (o1.2.2.1, (o1.2.2.2.1, (o1.2.2.2.2.1, (o1.2.2.2.2.2.1, (o1.2.2.2.2.2.2.1, o1.2.2.2.2.2.2.2)))))))
    else
      (wire_named fu o1.2.2.2.2.1 o1.2.2.2.2.2.1 o1.2.2.2.2.2.2.1 o1.1).bind fun r1 =>
      some ((!r1), (o1.2.1, (o1.2.2.1, (o1.2.2.2.1, (o1.2.2.2.2.1, (o1.2.2.2.2.2.1, (o1.2.2.2.2.2.2.1, o1.2.2.2.2.2.2.2)))))))) fun o2 =>
  bif o2.1 then
    some false
  else
    bif (o2.2.2.2.1 == 1) then
      some (decide (((o2.2.2.2.2.2.2.2.length : Nat) : Int) ≤ 65536))
    else
      some (((o2.2.2.2.2.2.2.2.length : Nat) : Int) == 0)
def wire_RightAsk_fa : FnA := ⟨.two (.reg [(0, { ids := [100] })]) (.two (.leaf) (.two (.two (.join ⟨[1, 11], ⟨(.cons (.own 0 100 0 0) (.cons (.p .bool) .nil)), [(100, false, (.vars (.cons (.p (.int .i64)) (.cons (.p (.int .i64)) (.cons (.p (.int .u8)) (.cons (.p (.int .i64)) (.cons (.p (.int .i64)) (.cons (.p (.int .i64)) (.cons (.p (.sl .byte)) .nil)))))))))]⟩⟩ false [] (.leaf)) (.join ⟨[1, 3], ⟨(.cons (.own 0 100 0 0) (.cons (.p (.int .i64)) .nil)), [(100, false, (.vars (.cons (.p (.int .i64)) (.cons (.p (.int .i64)) (.cons (.p (.int .u8)) (.cons (.p (.int .i64)) (.cons (.p (.int .i64)) (.cons (.p (.int .i64)) (.cons (.p (.sl .byte)) .nil)))))))))]⟩⟩ false [] (.leaf))) (.two (.one (.two (.join ⟨[1, 12], ⟨(.cons (.own 0 100 0 0) (.cons (.p .bool) .nil)), [(100, false, (.vars (.cons (.p (.int .i64)) (.cons (.p (.int .i64)) (.cons (.p (.int .u8)) (.cons (.p (.int .i64)) (.cons (.p (.int .i64)) (.cons (.p (.int .i64)) (.cons (.p (.sl .byte)) .nil)))))))))]⟩⟩ false [] (.reg [(6, {  }), (16, { fn := 1 })])) (.two (.leaf) (.two (.leaf) (.two (.leaf) (.leaf)))))) (.leaf)))), ⟨(.cons (.p (.pair (.int .i64) (.pair (.int .i64) (.pair .byte (.pair (.int .i64) (.pair (.int .i64) (.pair (.int .i64) (.sl .byte)))))))) .nil), []⟩, [⟨(.cons (.p .bool) .nil), []⟩], [0]⟩
def wire_RightAsk_ft (fu : Nat) : FnT := ⟨10, ⟨(.cons (.p (.pair (.int .i64) (.pair (.int .i64) (.pair .byte (.pair (.int .i64) (.pair (.int .i64) (.pair (.int .i64) (.sl .byte)))))))) .nil), []⟩, [⟨(.cons (.p .bool) .nil), []⟩], fun t => wire_RightAsk fu t⟩
theorem wire_RightAsk_eq (fu : Nat) : ∀ t, evF Go.Proofs.Try.prog [wire_headed_ft fu, wire_named_ft fu] fu Go.Proofs.Try.f10 wire_RightAsk_fa t = (wire_RightAsk_ft fu).spec t := fun t => by kernel_rfl
theorem wire_RightAsk_told (fu : Nat) : Told Go.Proofs.Try.prog (wire_RightAsk_ft fu) := told_of (allT_cons (wire_headed_told fu) (allT_cons (wire_named_told fu) allT_nil)) mixed Go.Proofs.Try.func10 (by kernel_rfl) (by kernel_rfl) (wire_RightAsk_eq fu)

def wire_wrong (fu : Nat) (i : (Int × (Int × (Int × UInt8)))) : Option (Bool) :=
  (wire_named fu i.1 i.2.1 i.2.2.1 1).bind fun r =>
  bif (!r) then
    some true
  else
    bif (!(((i.2.2.2.toNat : Nat) : Int) == 1)) then
      some (!(((i.2.2.2.toNat : Nat) : Int) == 2))
    else
      some false
def wire_wrong_fa : FnA := ⟨.two (.reg [(0, { ids := [100] })]) (.two (.reg [(6, {  })]) (.leaf)), ⟨(.cons (.p (.pair (.int .i64) (.pair (.int .i64) (.pair (.int .i64) .byte)))) .nil), []⟩, [⟨(.cons (.p .bool) .nil), []⟩], [0]⟩
def wire_wrong_ft (fu : Nat) : FnT := ⟨35, ⟨(.cons (.p (.pair (.int .i64) (.pair (.int .i64) (.pair (.int .i64) .byte)))) .nil), []⟩, [⟨(.cons (.p .bool) .nil), []⟩], fun t => wire_wrong fu t⟩
theorem wire_wrong_eq (fu : Nat) : ∀ t, evF Go.Proofs.Try.prog [wire_named_ft fu] fu Go.Proofs.Try.f35 wire_wrong_fa t = (wire_wrong_ft fu).spec t := fun t => by kernel_rfl
theorem wire_wrong_told (fu : Nat) : Told Go.Proofs.Try.prog (wire_wrong_ft fu) := told_of (allT_cons (wire_named_told fu) allT_nil) mixed Go.Proofs.Try.func35 (by kernel_rfl) (by kernel_rfl) (wire_wrong_eq fu)

def slices_IndexFunc__api_Info_api_Info_fwrong1_l0 (fu : Nat) (s : List ((Int × (Int × (Int × UInt8))))) (x : Int) : Option (Int ⊕ (Unit ⊕ Int)) :=
  bif (decide (x < ((s.length : Nat) : Int))) then
    (idx? x s.length).bind fun q =>
    (s)[q]?.bind fun r =>
    (wire_wrong fu r).bind fun r1 =>
    bif r1 then
      some (.inr (.inr x))
    else
      some (.inl (IntKind.wrap .i64 (x + 1)))
  else
    some (.inr (.inl ()))
def slices_IndexFunc__api_Info_api_Info_fwrong1_l0_it (fu : Nat) (s : List ((Int × (Int × (Int × UInt8))))) (tt : Int) : Option (Unit ⊕ Int) :=
  iter fu (fun tt => slices_IndexFunc__api_Info_api_Info_fwrong1_l0 fu s tt) tt
def slices_IndexFunc__api_Info_api_Info_fwrong1 (fu : Nat) (s : List ((Int × (Int × (Int × UInt8))))) : Option (Int) :=
  (slices_IndexFunc__api_Info_api_Info_fwrong1_l0_it fu s 0).bind fun o =>
  match o with
  | .inl s1 =>
    some (-1)
  | .inr o1 =>
    some o1
def slices_IndexFunc__api_Info_api_Info_fwrong1_fa : FnA := ⟨.two (.leaf) (.two (.two (.leaf) (.one (.loop ⟨[8], ⟨(.cons (.p (.int .i64)) .nil), []⟩⟩ true [(0, ⟨[], ⟨.nil, []⟩⟩)] (.two (.leaf) (.two (.leaf) (.two (.one (.two (.leaf) (.two (.reg [(5, {  })]) (.two (.leaf) (.leaf))))) (.leaf))))))) (.leaf)), ⟨(.cons (.p (.sl (.pair (.int .i64) (.pair (.int .i64) (.pair (.int .i64) .byte))))) (.cons (.fn 35 .nil .nil) .nil)), []⟩, [⟨(.cons (.p (.int .i64)) .nil), []⟩], [0]⟩
def slices_IndexFunc__api_Info_api_Info_fwrong1_ft (fu : Nat) : FnT := ⟨50, ⟨(.cons (.p (.sl (.pair (.int .i64) (.pair (.int .i64) (.pair (.int .i64) .byte))))) (.cons (.fn 35 .nil .nil) .nil)), []⟩, [⟨(.cons (.p (.int .i64)) .nil), []⟩], fun t => slices_IndexFunc__api_Info_api_Info_fwrong1 fu t⟩
theorem slices_IndexFunc__api_Info_api_Info_fwrong1_eq (fu : Nat) : ∀ t, evF Go.Proofs.Try.prog [wire_wrong_ft fu] fu Go.Proofs.Try.f50 slices_IndexFunc__api_Info_api_Info_fwrong1_fa t = (slices_IndexFunc__api_Info_api_Info_fwrong1_ft fu).spec t := fun t => by kernel_rfl
theorem slices_IndexFunc__api_Info_api_Info_fwrong1_told (fu : Nat) : Told Go.Proofs.Try.prog (slices_IndexFunc__api_Info_api_Info_fwrong1_ft fu) := told_of (allT_cons (wire_wrong_told fu) allT_nil) mixed Go.Proofs.Try.func50 (by kernel_rfl) (by kernel_rfl) (slices_IndexFunc__api_Info_api_Info_fwrong1_eq fu)

def slices_ContainsFunc__api_Info_api_Info_fwrong1 (fu : Nat) (s : List ((Int × (Int × (Int × UInt8))))) : Option (Bool) :=
  (slices_IndexFunc__api_Info_api_Info_fwrong1 fu s).bind fun r =>
  some (decide (r ≥ 0))
def slices_ContainsFunc__api_Info_api_Info_fwrong1_fa : FnA := ⟨.two (.leaf) (.two (.reg [(2, {  })]) (.leaf)), ⟨(.cons (.p (.sl (.pair (.int .i64) (.pair (.int .i64) (.pair (.int .i64) .byte))))) (.cons (.fn 35 .nil .nil) .nil)), []⟩, [⟨(.cons (.p .bool) .nil), []⟩], [0]⟩
def slices_ContainsFunc__api_Info_api_Info_fwrong1_ft (fu : Nat) : FnT := ⟨34, ⟨(.cons (.p (.sl (.pair (.int .i64) (.pair (.int .i64) (.pair (.int .i64) .byte))))) (.cons (.fn 35 .nil .nil) .nil)), []⟩, [⟨(.cons (.p .bool) .nil), []⟩], fun t => slices_ContainsFunc__api_Info_api_Info_fwrong1 fu t⟩
theorem slices_ContainsFunc__api_Info_api_Info_fwrong1_eq (fu : Nat) : ∀ t, evF Go.Proofs.Try.prog [slices_IndexFunc__api_Info_api_Info_fwrong1_ft fu] fu Go.Proofs.Try.f34 slices_ContainsFunc__api_Info_api_Info_fwrong1_fa t = (slices_ContainsFunc__api_Info_api_Info_fwrong1_ft fu).spec t := fun t => by kernel_rfl
theorem slices_ContainsFunc__api_Info_api_Info_fwrong1_told (fu : Nat) : Told Go.Proofs.Try.prog (slices_ContainsFunc__api_Info_api_Info_fwrong1_ft fu) := told_of (allT_cons (slices_IndexFunc__api_Info_api_Info_fwrong1_told fu) allT_nil) mixed Go.Proofs.Try.func34 (by kernel_rfl) (by kernel_rfl) (slices_ContainsFunc__api_Info_api_Info_fwrong1_eq fu)

def wire_RightTell (fu : Nat) (x : (Int × (Int × (UInt8 × (Int × (List ((Int × (Int × (Int × UInt8)))) × (List (UInt8) × Int))))))) : Option (Bool) :=
  Option.bind (α := ((Bool × (Int × (Int × (Int × (Int × (List ((Int × (Int × (Int × UInt8)))) × (List (UInt8) × Int))))))))) (
    (wire_headed fu x.1 x.2.1 ((x.2.2.1.toNat : Nat) : Int)).bind fun r =>
    bif r then
      (wire_within fu x.2.2.2.1 0 1000).bind fun r1 =>
      bif r1 then
        bif (decide (((x.2.2.2.2.1.length : Nat) : Int) ≤ 50)) then
          (slices_ContainsFunc__api_Info_api_Info_fwrong1 fu x.2.2.2.2.1).bind fun r2 =>
          bif (!r2) then
            bif (decide (((x.2.2.2.2.2.1.length : Nat) : Int) ≤ 65536)) then
              (wire_within fu x.2.2.2.2.2.2 0 65536).bind fun r3 =>
              some (r3, (x.1, (x.2.1, (((x.2.2.1.toNat : Nat) : Int), (x.2.2.2.1, (x.2.2.2.2.1, (x.2.2.2.2.2.1, x.2.2.2.2.2.2)))))))
            else
              some (false, (x.1, (x.2.1, (((x.2.2.1.toNat : Nat) : Int), (x.2.2.2.1, (x.2.2.2.2.1, (x.2.2.2.2.2.1, x.2.2.2.2.2.2)))))))
          else
            some (false, (x.1, (x.2.1, (((x.2.2.1.toNat : Nat) : Int), (x.2.2.2.1, (x.2.2.2.2.1, (x.2.2.2.2.2.1, x.2.2.2.2.2.2)))))))
        else
          some (false, (x.1, (x.2.1, (((x.2.2.1.toNat : Nat) : Int), (x.2.2.2.1, (x.2.2.2.2.1, (x.2.2.2.2.2.1, x.2.2.2.2.2.2)))))))
      else
        some (false, (x.1, (x.2.1, (((x.2.2.1.toNat : Nat) : Int), (x.2.2.2.1, (x.2.2.2.2.1, (x.2.2.2.2.2.1, x.2.2.2.2.2.2)))))))
    else
      some (false, (x.1, (x.2.1, (((x.2.2.1.toNat : Nat) : Int), (x.2.2.2.1, (x.2.2.2.2.1, (x.2.2.2.2.2.1, x.2.2.2.2.2.2)))))))) fun o =>
  bif o.1 then
    bif (o.2.2.2.2.1 == 0) then
      some true
    else
      some ((IntKind.wrap .i64 (((o.2.2.2.2.2.1.length : Nat) : Int) + ((o.2.2.2.2.2.2.1.length : Nat) : Int))) == 0)
  else
    some false
def wire_RightTell_fa : FnA := ⟨.two (.reg [(0, { ids := [100] })]) (.two (.join ⟨[1, 3], ⟨(.cons (.own 0 100 0 0) (.cons (.p .bool) .nil)), [(100, false, (.vars (.cons (.p (.int .i64)) (.cons (.p (.int .i64)) (.cons (.p (.int .u8)) (.cons (.p (.int .i64)) (.cons (.p (.sl (.pair (.int .i64) (.pair (.int .i64) (.pair (.int .i64) .byte))))) (.cons (.p (.sl .byte)) (.cons (.p (.int .i64)) .nil)))))))))]⟩⟩ false [] (.reg [(6, {  }), (10, { fn := 1 }), (21, { fn := 2 }), (33, { fn := 1 })])) (.leaf)), ⟨(.cons (.p (.pair (.int .i64) (.pair (.int .i64) (.pair .byte (.pair (.int .i64) (.pair (.sl (.pair (.int .i64) (.pair (.int .i64) (.pair (.int .i64) .byte)))) (.pair (.sl .byte) (.int .i64)))))))) .nil), []⟩, [⟨(.cons (.p .bool) .nil), []⟩], [0]⟩
def wire_RightTell_ft (fu : Nat) : FnT := ⟨11, ⟨(.cons (.p (.pair (.int .i64) (.pair (.int .i64) (.pair .byte (.pair (.int .i64) (.pair (.sl (.pair (.int .i64) (.pair (.int .i64) (.pair (.int .i64) .byte)))) (.pair (.sl .byte) (.int .i64)))))))) .nil), []⟩, [⟨(.cons (.p .bool) .nil), []⟩], fun t => wire_RightTell fu t⟩
theorem wire_RightTell_eq (fu : Nat) : ∀ t, evF Go.Proofs.Try.prog [wire_headed_ft fu, wire_within_ft fu, slices_ContainsFunc__api_Info_api_Info_fwrong1_ft fu] fu Go.Proofs.Try.f11 wire_RightTell_fa t = (wire_RightTell_ft fu).spec t := fun t => by kernel_rfl
theorem wire_RightTell_told (fu : Nat) : Told Go.Proofs.Try.prog (wire_RightTell_ft fu) := told_of (allT_cons (wire_headed_told fu) (allT_cons (wire_within_told fu) (allT_cons (slices_ContainsFunc__api_Info_api_Info_fwrong1_told fu) allT_nil))) mixed Go.Proofs.Try.func11 (by kernel_rfl) (by kernel_rfl) (wire_RightTell_eq fu)

def bytes_halved (fu : Nat) (s : Int) : Option (Int) :=
  some (bitsI .xor .u32 (Int.fdiv s 2) (IntKind.wrap .u32 (2197175160 * (bitsI .and .u32 s 1))))
def bytes_halved_fa : FnA := ⟨.two (.leaf) (.leaf), ⟨(.cons (.p (.int .u32)) .nil), []⟩, [⟨(.cons (.p (.int .u32)) .nil), []⟩], [0]⟩
def bytes_halved_ft (fu : Nat) : FnT := ⟨36, ⟨(.cons (.p (.int .u32)) .nil), []⟩, [⟨(.cons (.p (.int .u32)) .nil), []⟩], fun t => bytes_halved fu t⟩
theorem bytes_halved_eq (fu : Nat) : ∀ t, evF Go.Proofs.Try.prog [] fu Go.Proofs.Try.f36 bytes_halved_fa t = (bytes_halved_ft fu).spec t := fun t => by kernel_rfl
theorem bytes_halved_told (fu : Nat) : Told Go.Proofs.Try.prog (bytes_halved_ft fu) := told_of allT_nil mixed Go.Proofs.Try.func36 (by kernel_rfl) (by kernel_rfl) (bytes_halved_eq fu)

def bytes_Table_l0 (fu : Nat) (s : Int) (x : Int) (h : List (Int)) (h1 : List (Int)) : Option ((Int × (Int × (List (Int) × List (Int)))) ⊕ ((List (Int) × List (Int)))) :=
  bif (decide (x < 8)) then
    need (decide (0 ≤ x)) <|
    (idx? (Int.fdiv 128 (2 ^ (min (x).toNat 64))) 256).bind fun q =>
    (h1)[q]?.bind fun r =>
    (bytes_halved fu s).bind fun r1 =>
    some (.inl (r1, ((IntKind.wrap .i64 (x + 1)), (h, (List.set h1 q s)))))
  else
    some (.inr (h, h1))
def bytes_Table_l0_it (fu : Nat)  (tt : (Int × (Int × (List (Int) × List (Int))))) : Option ((List (Int) × List (Int))) :=
  iter fu (fun tt => bytes_Table_l0 fu tt.1 tt.2.1 tt.2.2.1 tt.2.2.2) tt
def bytes_Table_l1 (fu : Nat) (x1 : Int) (x2 : Int) (h4 : List (Int)) (h5 : List (Int)) : Option ((Int × (List (Int) × List (Int))) ⊕ ((List (Int) × List (Int)))) :=
  bif (decide (x2 < (IntKind.wrap .i64 (1 * (2 ^ (min (x1).toNat 64)))))) then
    need (decide (0 ≤ x1)) <|
    need (decide (0 ≤ x1)) <|
    (idx? (IntKind.wrap .i64 (1 * (2 ^ (min (x1).toNat 64)))) 256).bind fun q1 =>
    (h5)[q1]?.bind fun r2 =>
    (idx? x2 256).bind fun q2 =>
    (h5)[q2]?.bind fun r3 =>
    (idx? (bitsI .or .i64 (IntKind.wrap .i64 (1 * (2 ^ (min (x1).toNat 64)))) x2) 256).bind fun q3 =>
    (h5)[q3]?.bind fun r4 =>
    some (.inl ((IntKind.wrap .i64 (x2 + 1)), (h4, (List.set h5 q3 (bitsI .xor .u32 r2 r3)))))
  else
    some (.inr (h4, h5))
def bytes_Table_l1_it (fu : Nat) (x1 : Int) (tt : (Int × (List (Int) × List (Int)))) : Option ((List (Int) × List (Int))) :=
  iter fu (fun tt => bytes_Table_l1 fu x1 tt.1 tt.2.1 tt.2.2) tt
def bytes_Table_l2 (fu : Nat) (x1 : Int) (h2 : List (Int)) (h3 : List (Int)) : Option ((Int × (List (Int) × List (Int))) ⊕ ((List (Int) × List (Int)))) :=
  bif (decide (x1 < 8)) then
    need (decide (0 ≤ x1)) <|
    (bytes_Table_l1_it fu x1 (0, (h2, h3))).bind fun o1 =>
    some (.inl ((IntKind.wrap .i64 (x1 + 1)), (o1.1, o1.2)))
  else
    some (.inr (h2, h3))
def bytes_Table_l2_it (fu : Nat)  (tt : (Int × (List (Int) × List (Int)))) : Option ((List (Int) × List (Int))) :=
  iter fu (fun tt => bytes_Table_l2 fu tt.1 tt.2.1 tt.2.2) tt
def bytes_Table (fu : Nat)  : Option (List (Int)) :=
  (bytes_Table_l0_it fu  (2197175160, (0, ((List.replicate (α := Int) 256 0), (List.replicate (α := Int) 256 0))))).bind fun o =>
  (bytes_Table_l2_it fu  (0, (o.1, o.2))).bind fun o2 =>
  need (Nat.beq o2.2.length 256) <|
  need (Nat.beq o2.1.length 256) <|
  need (Nat.beq o2.2.length 256) <|
  need (Nat.beq o2.2.length 256) <|
  some o2.2
def bytes_Table_fa : FnA := ⟨.two (.reg [(0, { ids := [100] })]) (.two (.reg [(0, { ids := [101] })]) (.two (.leaf) (.two (.two (.leaf) (.one (.loop ⟨[0, 1, 2, 6], ⟨(.cons (.own 1 100 0 0) (.cons (.own 1 101 0 0) (.cons (.p (.int .u32)) (.cons (.p (.int .i64)) .nil)))), [(100, false, (.rows 39 (.int .u32))), (101, false, (.rows 39 (.int .u32)))]⟩⟩ false [(0, ⟨[0, 1], ⟨(.cons (.own 1 100 0 0) (.cons (.own 1 101 0 0) .nil)), [(100, false, (.rows 39 (.int .u32))), (101, false, (.rows 39 (.int .u32)))]⟩⟩)] (.two (.leaf) (.two (.leaf) (.two (.one (.two (.leaf) (.two (.leaf) (.reg [(1, {  })])))) (.leaf))))))) (.two (.two (.leaf) (.one (.loop ⟨[0, 1, 16], ⟨(.cons (.own 1 100 0 0) (.cons (.own 1 101 0 0) (.cons (.p (.int .i64)) .nil))), [(100, false, (.rows 39 (.int .u32))), (101, false, (.rows 39 (.int .u32)))]⟩⟩ false [(2, ⟨[0, 1], ⟨(.cons (.own 1 100 0 0) (.cons (.own 1 101 0 0) .nil)), [(100, false, (.rows 39 (.int .u32))), (101, false, (.rows 39 (.int .u32)))]⟩⟩)] (.two (.leaf) (.two (.leaf) (.two (.one (.two (.leaf) (.two (.leaf) (.one (.loop ⟨[0, 1, 21], ⟨(.cons (.own 1 100 0 0) (.cons (.own 1 101 0 0) (.cons (.p (.int .i64)) .nil))), [(100, false, (.rows 39 (.int .u32))), (101, false, (.rows 39 (.int .u32)))]⟩⟩ false [(4, ⟨[0, 1], ⟨(.cons (.own 1 100 0 0) (.cons (.own 1 101 0 0) .nil)), [(100, false, (.rows 39 (.int .u32))), (101, false, (.rows 39 (.int .u32)))]⟩⟩)] (.two (.leaf) (.two (.leaf) (.two (.one (.leaf)) (.leaf))))))))) (.leaf))))))) (.leaf))))), ⟨.nil, []⟩, [⟨(.cons (.p (.arr 256 (.int .u32))) .nil), []⟩], [0]⟩
def bytes_Table_ft (fu : Nat) : FnT := ⟨12, ⟨.nil, []⟩, [⟨(.cons (.p (.arr 256 (.int .u32))) .nil), []⟩], fun t => bytes_Table fu ⟩
theorem bytes_Table_eq (fu : Nat) : ∀ t, evF Go.Proofs.Try.prog [bytes_halved_ft fu] fu Go.Proofs.Try.f12 bytes_Table_fa t = (bytes_Table_ft fu).spec t := fun t => by kernel_rfl
theorem bytes_Table_told (fu : Nat) : Told Go.Proofs.Try.prog (bytes_Table_ft fu) := told_of (allT_cons (bytes_halved_told fu) allT_nil) mixed Go.Proofs.Try.func12 (by kernel_rfl) (by kernel_rfl) (bytes_Table_eq fu)

def slices_Clone__byte_byte (fu : Nat) (s : List (UInt8)) : Option (List (UInt8)) :=
  nilQ s.length fun isNil =>
  bif isNil then
    some []
  else
    need ((Nat.ble ((0 + s.length) * 1) room) && (Nat.ble (0 + s.length) room)) <|
    some s
def slices_Clone__byte_byte_fa : FnA := ⟨.two (.leaf) (.two (.two (.leaf) (.two (.leaf) (.leaf))) (.two (.reg [(0, { ids := [100] }), (2, { ids := [101] })]) (.leaf))), ⟨(.cons (.p (.sl .byte)) .nil), []⟩, [⟨(.cons (.slf 1 0) .nil), [(0, false, (.rows 5 .byte))]⟩], [15]⟩
def slices_Clone__byte_byte_ft (fu : Nat) : FnT := ⟨63, ⟨(.cons (.p (.sl .byte)) .nil), []⟩, [⟨(.cons (.slf 1 0) .nil), [(0, false, (.rows 5 .byte))]⟩], fun t => slices_Clone__byte_byte fu t⟩
theorem slices_Clone__byte_byte_eq (fu : Nat) : ∀ t, evF Go.Proofs.Try.prog [] fu Go.Proofs.Try.f63 slices_Clone__byte_byte_fa t = (slices_Clone__byte_byte_ft fu).spec t := fun t => by kernel_rfl
theorem slices_Clone__byte_byte_told (fu : Nat) : Told Go.Proofs.Try.prog (slices_Clone__byte_byte_ft fu) := told_of allT_nil mixed Go.Proofs.Try.func63 (by kernel_rfl) (by kernel_rfl) (slices_Clone__byte_byte_eq fu)

def bytes_Sum_l0 (fu : Nat) (b : List (UInt8)) (t : List (Int)) (s : Int) (x : Int) : Option ((Int × Int) ⊕ (Int)) :=
  bif (decide (x < ((b.length : Nat) : Int))) then
    (idx? x b.length).bind fun q =>
    (b)[q]?.bind fun r =>
    (idx? (bitsI .xor .u8 (IntKind.wrap .u8 s) ((r.toNat : Nat) : Int)) 256).bind fun q1 =>
    (t)[q1]?.bind fun r1 =>
    some (.inl ((bitsI .xor .u32 r1 (Int.fdiv s 256)), (IntKind.wrap .i64 (x + 1))))
  else
    some (.inr s)
def bytes_Sum_l0_it (fu : Nat) (b : List (UInt8)) (t : List (Int)) (tt : (Int × Int)) : Option (Int) :=
  iter fu (fun tt => bytes_Sum_l0 fu b t tt.1 tt.2) tt
def bytes_Sum (fu : Nat) (t : List (Int)) (b : List (UInt8)) : Option (Int) :=
  (bytes_Sum_l0_it fu b t (4294967295, 0)).bind fun o =>
  some (IntKind.wrap .u32 (4294967295 - o))
def bytes_Sum_fa : FnA := ⟨.two (.leaf) (.two (.two (.leaf) (.leaf)) (.two (.leaf) (.two (.two (.leaf) (.one (.loop ⟨[5, 11], ⟨(.cons (.p (.int .u32)) (.cons (.p (.int .i64)) .nil)), []⟩⟩ false [(0, ⟨[5], ⟨(.cons (.p (.int .u32)) .nil), []⟩⟩)] (.two (.leaf) (.two (.leaf) (.two (.one (.leaf)) (.leaf))))))) (.leaf)))), ⟨(.cons (.pt (.int .u32)) (.cons (.p (.sl .byte)) .nil)), []⟩, [⟨(.cons (.p (.int .u32)) .nil), []⟩], [0]⟩
def bytes_Sum_ft (fu : Nat) : FnT := ⟨45, ⟨(.cons (.pt (.int .u32)) (.cons (.p (.sl .byte)) .nil)), []⟩, [⟨(.cons (.p (.int .u32)) .nil), []⟩], fun t => bytes_Sum fu t.1 t.2⟩
theorem bytes_Sum_eq (fu : Nat) : ∀ t, evF Go.Proofs.Try.prog [] fu Go.Proofs.Try.f45 bytes_Sum_fa t = (bytes_Sum_ft fu).spec t := fun t => by kernel_rfl
theorem bytes_Sum_told (fu : Nat) : Told Go.Proofs.Try.prog (bytes_Sum_ft fu) := told_of allT_nil mixed Go.Proofs.Try.func45 (by kernel_rfl) (by kernel_rfl) (bytes_Sum_eq fu)

def bytes_Seal_l0 (fu : Nat) (b : List (UInt8)) (r : Int) (x : Int) (h : List (UInt8)) : Option ((Int × List (UInt8)) ⊕ (List (UInt8))) :=
  bif (decide (x < 4)) then
    need (decide (0 ≤ (IntKind.wrap .i64 (8 * x)))) <|
    (idx? (IntKind.wrap .i64 ((IntKind.wrap .i64 ((IntKind.wrap .i64 (((b.length : Nat) : Int) + 4)) - 1)) - x)) h.length).bind fun q1 =>
    (byte? (IntKind.wrap .u8 (Int.fdiv r (2 ^ (min ((IntKind.wrap .i64 (8 * x))).toNat 32))))).bind fun c =>
    (h)[q1]?.bind fun r1 =>
    some (.inl ((IntKind.wrap .i64 (x + 1)), (List.set h q1 c)))
  else
    some (.inr h)
def bytes_Seal_l0_it (fu : Nat) (b : List (UInt8)) (r : Int) (tt : (Int × List (UInt8))) : Option (List (UInt8)) :=
  iter fu (fun tt => bytes_Seal_l0 fu b r tt.1 tt.2) tt
def bytes_Seal (fu : Nat) (t : List (Int)) (b : List (UInt8)) : Option (List (UInt8)) :=
  (upto? (IntKind.wrap .i64 (((b.length : Nat) : Int) + 4)) room).bind fun m =>
  (upto? (IntKind.wrap .i64 (((b.length : Nat) : Int) + 4)) m).bind fun q =>
  need (Nat.ble (m * 1) room) <|
  (bytes_Sum fu t b).bind fun r =>
  (bytes_Seal_l0_it fu b r (0, (List.replicate (α := UInt8) q 0))).bind fun o =>
  some (splice o 0 (List.take o.length b))
def bytes_Seal_fa : FnA := ⟨.two (.leaf) (.two (.reg [(3, { ids := [100] })]) (.two (.reg [(2, {  })]) (.two (.two (.leaf) (.one (.loop ⟨[5, 15], ⟨(.cons (.slf 1 100) (.cons (.p (.int .i64)) .nil)), [(100, false, (.rows 5 .byte))]⟩⟩ false [(0, ⟨[5], ⟨(.cons (.slf 1 100) .nil), [(100, false, (.rows 5 .byte))]⟩⟩)] (.two (.leaf) (.two (.leaf) (.two (.one (.leaf)) (.leaf))))))) (.two (.leaf) (.leaf))))), ⟨(.cons (.pt (.int .u32)) (.cons (.p (.sl .byte)) .nil)), []⟩, [⟨(.cons (.slf 1 0) .nil), [(0, false, (.rows 5 .byte))]⟩], [0]⟩
def bytes_Seal_ft (fu : Nat) : FnT := ⟨24, ⟨(.cons (.pt (.int .u32)) (.cons (.p (.sl .byte)) .nil)), []⟩, [⟨(.cons (.slf 1 0) .nil), [(0, false, (.rows 5 .byte))]⟩], fun t => bytes_Seal fu t.1 t.2⟩
theorem bytes_Seal_eq (fu : Nat) : ∀ t, evF Go.Proofs.Try.prog [bytes_Sum_ft fu] fu Go.Proofs.Try.f24 bytes_Seal_fa t = (bytes_Seal_ft fu).spec t := fun t => by kernel_rfl
theorem bytes_Seal_told (fu : Nat) : Told Go.Proofs.Try.prog (bytes_Seal_ft fu) := told_of (allT_cons (bytes_Sum_told fu) allT_nil) mixed Go.Proofs.Try.func24 (by kernel_rfl) (by kernel_rfl) (bytes_Seal_eq fu)

def bytes_Unseal (fu : Nat) (t : List (Int)) (b : List (UInt8)) : Option ((List (UInt8) × Int)) :=
  bif (decide (((b.length : Nat) : Int) < 4)) then
    some ([], 11)
  else
    (upto? (IntKind.wrap .i64 (((b.length : Nat) : Int) - 4)) b.length).bind fun q =>
    (slices_Clone__byte_byte fu (List.take q b)).bind fun r =>
    (bytes_Seal fu t r).bind fun r1 =>
    bif (!(r1 == b)) then
      some ([], 12)
    else
      some (r, 0)
def bytes_Unseal_fa : FnA := ⟨.two (.leaf) (.two (.two (.leaf) (.two (.leaf) (.leaf))) (.two (.reg [(5, { ids := [100] })]) (.two (.two (.reg [(2, { ids := [101], md := [0, 1], fn := 1 })]) (.two (.leaf) (.leaf))) (.leaf)))), ⟨(.cons (.pt (.int .u32)) (.cons (.p (.sl .byte)) .nil)), []⟩, [⟨(.cons (.p (.sl .byte)) (.cons (.p (.int .i64)) .nil)), []⟩], [1, 0]⟩
def bytes_Unseal_ft (fu : Nat) : FnT := ⟨51, ⟨(.cons (.pt (.int .u32)) (.cons (.p (.sl .byte)) .nil)), []⟩, [⟨(.cons (.p (.sl .byte)) (.cons (.p (.int .i64)) .nil)), []⟩], fun t => bytes_Unseal fu t.1 t.2⟩
theorem bytes_Unseal_eq (fu : Nat) : ∀ t, evF Go.Proofs.Try.prog [slices_Clone__byte_byte_ft fu, bytes_Seal_ft fu] fu Go.Proofs.Try.f51 bytes_Unseal_fa t = (bytes_Unseal_ft fu).spec t := fun t => by kernel_rfl
theorem bytes_Unseal_told (fu : Nat) : Told Go.Proofs.Try.prog (bytes_Unseal_ft fu) := told_of (allT_cons (slices_Clone__byte_byte_told fu) (allT_cons (bytes_Seal_told fu) allT_nil)) mixed Go.Proofs.Try.func51 (by kernel_rfl) (by kernel_rfl) (bytes_Unseal_eq fu)

def wire_reader (fu : Nat) (t : List (Int)) (b : List (UInt8)) (kind : Int) : Option (Int ⊕ (Int × (Bool × (List (UInt8) × Int)))) :=
  (bytes_Unseal fu t b).bind fun r =>
  bif (!(r.2 == 0)) then
    some (.inl r.2)
  else
    Option.bind (α := ((List (UInt8) × (Int × Bool)))) (
      bif (((r.1.length : Nat) : Int) == 0) then
        some (r.1, (1, true))
      else
        (idx? 0 r.1.length).bind fun q =>
        (r.1)[q]?.bind fun r1 =>
        some (r.1, (1, (!(((r1.toNat : Nat) : Int) == kind))))) fun o =>
    some (.inr (0, (o.2.2, (o.1, o.2.1))))
def wire_reader_fa : FnA := ⟨.two (.leaf) (.two (.reg [(2, {  }), (6, { ids := [100] })]) (.two (.two (.leaf) (.two (.leaf) (.leaf))) (.two (.join ⟨[9, 11, 12], ⟨(.cons (.own 0 100 0 0) (.cons (.own 0 101 0 0) (.cons (.own 0 102 0 0) .nil))), [(100, false, (.vars (.cons (.p (.sl .byte)) .nil))), (101, false, (.vars (.cons (.p (.int .i64)) .nil))), (102, false, (.vars (.cons (.p .bool) .nil)))]⟩⟩ false [] (.reg [(10, { ids := [101] }), (11, { ids := [102] })])) (.two (.leaf) (.two (.leaf) (.leaf)))))), ⟨(.cons (.pt (.int .u32)) (.cons (.p (.sl .byte)) (.cons (.p (.int .u8)) .nil))), []⟩, [⟨(.cons (.nilp .nilFunc) (.cons (.nilp .nilFunc) (.cons (.p (.int .i64)) .nil))), []⟩, ⟨(.cons (.fn 52 .nil (.cons (.own 0 0 0 0) (.cons (.own 0 1 0 0) (.cons (.own 0 2 0 0) .nil)))) (.cons (.fn 54 .nil (.cons (.own 0 0 0 0) (.cons (.own 0 1 0 0) (.cons (.own 0 2 0 0) .nil)))) (.cons (.p (.int .i64)) .nil))), [(0, false, (.vars (.cons (.p .bool) .nil))), (1, false, (.vars (.cons (.p (.sl .byte)) .nil))), (2, false, (.vars (.cons (.p (.int .i64)) .nil)))]⟩], [0, 0, 0]⟩
def wire_reader_ft (fu : Nat) : FnT := ⟨37, ⟨(.cons (.pt (.int .u32)) (.cons (.p (.sl .byte)) (.cons (.p (.int .u8)) .nil))), []⟩, [⟨(.cons (.nilp .nilFunc) (.cons (.nilp .nilFunc) (.cons (.p (.int .i64)) .nil))), []⟩, ⟨(.cons (.fn 52 .nil (.cons (.own 0 0 0 0) (.cons (.own 0 1 0 0) (.cons (.own 0 2 0 0) .nil)))) (.cons (.fn 54 .nil (.cons (.own 0 0 0 0) (.cons (.own 0 1 0 0) (.cons (.own 0 2 0 0) .nil)))) (.cons (.p (.int .i64)) .nil))), [(0, false, (.vars (.cons (.p .bool) .nil))), (1, false, (.vars (.cons (.p (.sl .byte)) .nil))), (2, false, (.vars (.cons (.p (.int .i64)) .nil)))]⟩], fun t => wire_reader fu t.1 t.2.1 t.2.2⟩
theorem wire_reader_eq (fu : Nat) : ∀ t, evF Go.Proofs.Try.prog [bytes_Unseal_ft fu] fu Go.Proofs.Try.f37 wire_reader_fa t = (wire_reader_ft fu).spec t := fun t => by kernel_rfl
theorem wire_reader_told (fu : Nat) : Told Go.Proofs.Try.prog (wire_reader_ft fu) := told_of (allT_cons (bytes_Unseal_told fu) allT_nil) mixed Go.Proofs.Try.func37 (by kernel_rfl) (by kernel_rfl) (wire_reader_eq fu)

def bytes_GetUint_l0 (fu : Nat) (b : List (UInt8)) (at_ : Int) (n : Int) (to_ : Int) : Option ((Int × Int) ⊕ (Unit ⊕ (Int × (Int × Int)))) :=
  bif (decide (to_ < ((b.length : Nat) : Int))) then
    (idx? to_ b.length).bind fun q =>
    (b)[q]?.bind fun r =>
    Option.bind (α := (Bool)) (
      bif (decide ((IntKind.wrap .i64 (to_ - at_)) > 0)) then
        bif (((r.toNat : Nat) : Int) == 0) then
          some true
        else
          bif (decide ((IntKind.wrap .i64 (to_ - at_)) > 8)) then
            some (decide (((r.toNat : Nat) : Int) > 1))
          else
            some false
      else
        bif (decide ((IntKind.wrap .i64 (to_ - at_)) > 8)) then
          some (decide (((r.toNat : Nat) : Int) > 1))
        else
          some false) fun o1 =>
    bif o1 then
      some (.inr (.inr (0, (0, 10))))
    else
      need (decide (0 ≤ (IntKind.wrap .i64 (7 * (IntKind.wrap .i64 (to_ - at_)))))) <|
      bif (decide (((r.toNat : Nat) : Int) < 128)) then
        some (.inr (.inr ((IntKind.wrap .u64 (n + (IntKind.wrap .u64 ((IntKind.wrap .u64 (Int.tmod ((r.toNat : Nat) : Int) 128)) * (2 ^ (min ((IntKind.wrap .i64 (7 * (IntKind.wrap .i64 (to_ - at_))))).toNat 64)))))), ((IntKind.wrap .i64 (to_ + 1)), 0))))
      else
        some (.inl ((IntKind.wrap .u64 (n + (IntKind.wrap .u64 ((IntKind.wrap .u64 (Int.tmod ((r.toNat : Nat) : Int) 128)) * (2 ^ (min ((IntKind.wrap .i64 (7 * (IntKind.wrap .i64 (to_ - at_))))).toNat 64)))))), (IntKind.wrap .i64 (to_ + 1))))
  else
    some (.inr (.inl ()))
def bytes_GetUint_l0_it (fu : Nat) (b : List (UInt8)) (at_ : Int) (tt : (Int × Int)) : Option (Unit ⊕ (Int × (Int × Int))) :=
  iter fu (fun tt => bytes_GetUint_l0 fu b at_ tt.1 tt.2) tt
def bytes_GetUint (fu : Nat) (b : List (UInt8)) (at_ : Int) : Option ((Int × (Int × Int))) :=
  Option.bind (α := (Bool)) (
    bif (decide (at_ < 0)) then
      some true
    else
      some (decide (at_ > ((b.length : Nat) : Int)))) fun o =>
  bif o then
    some (0, (0, 2))
  else
    (bytes_GetUint_l0_it fu b at_ (0, at_)).bind fun o2 =>
    match o2 with
    | .inl s =>
      some (0, (0, 11))
    | .inr o3 =>
      some o3
def bytes_GetUint_fa : FnA := ⟨.two (.leaf) (.two (.two (.join ⟨[18], ⟨(.cons (.p .bool) .nil), []⟩⟩ false [] (.leaf)) (.two (.leaf) (.leaf))) (.two (.leaf) (.two (.two (.leaf) (.one (.loop ⟨[7, 8], ⟨(.cons (.p (.int .u64)) (.cons (.p (.int .i64)) .nil)), []⟩⟩ true [(0, ⟨[], ⟨.nil, []⟩⟩)] (.two (.two (.leaf) (.leaf)) (.two (.one (.two (.leaf) (.two (.two (.join ⟨[46], ⟨(.cons (.p .bool) .nil), []⟩⟩ false [] (.leaf)) (.two (.leaf) (.leaf))) (.two (.leaf) (.two (.leaf) (.two (.leaf) (.leaf))))))) (.leaf)))))) (.leaf)))), ⟨(.cons (.p (.sl .byte)) (.cons (.p (.int .i64)) .nil)), []⟩, [⟨(.cons (.p (.int .u64)) (.cons (.p (.int .i64)) (.cons (.p (.int .i64)) .nil))), []⟩], [0, 0, 0]⟩
def bytes_GetUint_ft (fu : Nat) : FnT := ⟨53, ⟨(.cons (.p (.sl .byte)) (.cons (.p (.int .i64)) .nil)), []⟩, [⟨(.cons (.p (.int .u64)) (.cons (.p (.int .i64)) (.cons (.p (.int .i64)) .nil))), []⟩], fun t => bytes_GetUint fu t.1 t.2⟩
theorem bytes_GetUint_eq (fu : Nat) : ∀ t, evF Go.Proofs.Try.prog [] fu Go.Proofs.Try.f53 bytes_GetUint_fa t = (bytes_GetUint_ft fu).spec t := fun t => by kernel_rfl
theorem bytes_GetUint_told (fu : Nat) : Told Go.Proofs.Try.prog (bytes_GetUint_ft fu) := told_of allT_nil mixed Go.Proofs.Try.func53 (by kernel_rfl) (by kernel_rfl) (bytes_GetUint_eq fu)

def wire_reader_1 (fu : Nat) (most : Int) (h : Bool) (h1 : List (UInt8)) (h2 : Int) : Option ((Int × (Bool × (List (UInt8) × Int)))) :=
  bif h then
    some (0, (h, (h1, h2)))
  else
    (bytes_GetUint fu h1 h2).bind fun r =>
    Option.bind (α := ((Bool × (List (UInt8) × Int)))) (
      bif (!(r.2.2 == 0)) then
        some (true, (h1, h2))
      else
        some ((decide (r.1 > (IntKind.wrap .u64 most))), (h1, h2))) fun o =>
    bif o.1 then
      some (0, (o.1, (o.2.1, o.2.2)))
    else
      some ((IntKind.wrap .i64 r.1), (o.1, (o.2.1, r.2.1)))
def wire_reader_1_fa : FnA := ⟨.two (.leaf) (.two (.two (.leaf) (.two (.leaf) (.leaf))) (.two (.reg [(2, {  })]) (.two (.two (.join ⟨[1, 2, 3], ⟨(.cons (.own 0 0 0 0) (.cons (.own 0 1 0 0) (.cons (.own 0 2 0 0) .nil))), [(0, false, (.vars (.cons (.p .bool) .nil))), (1, false, (.vars (.cons (.p (.sl .byte)) .nil))), (2, false, (.vars (.cons (.p (.int .i64)) .nil)))]⟩⟩ false [] (.leaf)) (.two (.leaf) (.two (.leaf) (.leaf)))) (.two (.leaf) (.leaf))))), ⟨(.cons (.p (.int .i64)) (.cons (.own 0 0 0 0) (.cons (.own 0 1 0 0) (.cons (.own 0 2 0 0) .nil)))), [(0, false, (.vars (.cons (.p .bool) .nil))), (1, false, (.vars (.cons (.p (.sl .byte)) .nil))), (2, false, (.vars (.cons (.p (.int .i64)) .nil)))]⟩, [⟨(.cons (.p (.int .i64)) .nil), [(0, false, (.vars (.cons (.p .bool) .nil))), (1, false, (.vars (.cons (.p (.sl .byte)) .nil))), (2, false, (.vars (.cons (.p (.int .i64)) .nil)))]⟩], [0]⟩
def wire_reader_1_ft (fu : Nat) : FnT := ⟨52, ⟨(.cons (.p (.int .i64)) (.cons (.own 0 0 0 0) (.cons (.own 0 1 0 0) (.cons (.own 0 2 0 0) .nil)))), [(0, false, (.vars (.cons (.p .bool) .nil))), (1, false, (.vars (.cons (.p (.sl .byte)) .nil))), (2, false, (.vars (.cons (.p (.int .i64)) .nil)))]⟩, [⟨(.cons (.p (.int .i64)) .nil), [(0, false, (.vars (.cons (.p .bool) .nil))), (1, false, (.vars (.cons (.p (.sl .byte)) .nil))), (2, false, (.vars (.cons (.p (.int .i64)) .nil)))]⟩], fun t => wire_reader_1 fu t.1 t.2.1 t.2.2.1 t.2.2.2⟩
theorem wire_reader_1_eq (fu : Nat) : ∀ t, evF Go.Proofs.Try.prog [bytes_GetUint_ft fu] fu Go.Proofs.Try.f52 wire_reader_1_fa t = (wire_reader_1_ft fu).spec t := fun t => by kernel_rfl
theorem wire_reader_1_told (fu : Nat) : Told Go.Proofs.Try.prog (wire_reader_1_ft fu) := told_of (allT_cons (bytes_GetUint_told fu) allT_nil) mixed Go.Proofs.Try.func52 (by kernel_rfl) (by kernel_rfl) (wire_reader_1_eq fu)

def bytes_GetBlob (fu : Nat) (b : List (UInt8)) (at_ : Int) (most : Int) : Option ((Int × (Int × List (UInt8)))) :=
  (bytes_GetUint fu b at_).bind fun r =>
  bif (!(r.2.2 == 0)) then
    some (0, (r.2.2, []))
  else
    Option.bind (α := (Bool)) (
      bif (decide (most < 0)) then
        some (decide (most < 0))
      else
        some (decide (r.1 > (IntKind.wrap .u64 most)))) fun o =>
    bif o then
      some (0, (3, []))
    else
      bif (decide (r.1 > (IntKind.wrap .u64 (IntKind.wrap .i64 (((b.length : Nat) : Int) - r.2.1))))) then
        some (0, (11, []))
      else
        (upto? r.2.1 b.length).bind fun q =>
        (upto? r.1 (List.drop q b).length).bind fun q1 =>
        (slices_Clone__byte_byte fu (List.take q1 (List.drop q b))).bind fun r1 =>
        some ((IntKind.wrap .i64 (r.2.1 + (((List.take q1 (List.drop q b)).length : Nat) : Int))), (0, r1))
def bytes_GetBlob_fa : FnA := ⟨.two (.leaf) (.two (.reg [(2, {  })]) (.two (.leaf) (.two (.one (.two (.leaf) (.two (.leaf) (.two (.two (.leaf) (.join ⟨[30], ⟨(.cons (.p .bool) .nil), []⟩⟩ false [] (.leaf))) (.two (.leaf) (.two (.leaf) (.two (.leaf) (.leaf)))))))) (.two (.leaf) (.two (.reg [(1, { ids := [100], fn := 1 })]) (.leaf)))))), ⟨(.cons (.p (.sl .byte)) (.cons (.p (.int .i64)) (.cons (.p (.int .i64)) .nil))), []⟩, [⟨(.cons (.slf 1 0) (.cons (.p (.int .i64)) (.cons (.p (.int .i64)) .nil))), [(0, false, (.rows 5 .byte))]⟩], [15, 0, 0]⟩
def bytes_GetBlob_ft (fu : Nat) : FnT := ⟨55, ⟨(.cons (.p (.sl .byte)) (.cons (.p (.int .i64)) (.cons (.p (.int .i64)) .nil))), []⟩, [⟨(.cons (.slf 1 0) (.cons (.p (.int .i64)) (.cons (.p (.int .i64)) .nil))), [(0, false, (.rows 5 .byte))]⟩], fun t => bytes_GetBlob fu t.1 t.2.1 t.2.2⟩
theorem bytes_GetBlob_eq (fu : Nat) : ∀ t, evF Go.Proofs.Try.prog [bytes_GetUint_ft fu, slices_Clone__byte_byte_ft fu] fu Go.Proofs.Try.f55 bytes_GetBlob_fa t = (bytes_GetBlob_ft fu).spec t := fun t => by kernel_rfl
theorem bytes_GetBlob_told (fu : Nat) : Told Go.Proofs.Try.prog (bytes_GetBlob_ft fu) := told_of (allT_cons (bytes_GetUint_told fu) (allT_cons (slices_Clone__byte_byte_told fu) allT_nil)) mixed Go.Proofs.Try.func55 (by kernel_rfl) (by kernel_rfl) (bytes_GetBlob_eq fu)

def wire_reader_2 (fu : Nat) (h : Bool) (h1 : List (UInt8)) (h2 : Int) : Option ((Bool × (Bool × (List (UInt8) × (Int × List (UInt8)))))) :=
  bif h then
    some (false, (h, (h1, (h2, []))))
  else
    (bytes_GetBlob fu h1 h2 65536).bind fun r =>
    bif (r.2.1 == 0) then
      some ((r.1 == ((h1.length : Nat) : Int)), (h, (h1, (h2, r.2.2))))
    else
      some (false, (h, (h1, (h2, r.2.2))))
def wire_reader_2_fa : FnA := ⟨.two (.leaf) (.two (.two (.leaf) (.two (.leaf) (.leaf))) (.two (.reg [(2, { ids := [100] })]) (.leaf))), ⟨(.cons (.own 0 0 0 0) (.cons (.own 0 1 0 0) (.cons (.own 0 2 0 0) .nil))), [(0, false, (.vars (.cons (.p .bool) .nil))), (1, false, (.vars (.cons (.p (.sl .byte)) .nil))), (2, false, (.vars (.cons (.p (.int .i64)) .nil)))]⟩, [⟨(.cons (.slf 1 3) (.cons (.p .bool) .nil)), [(0, false, (.vars (.cons (.p .bool) .nil))), (1, false, (.vars (.cons (.p (.sl .byte)) .nil))), (2, false, (.vars (.cons (.p (.int .i64)) .nil))), (3, false, (.rows 5 .byte))]⟩], [15, 0]⟩
def wire_reader_2_ft (fu : Nat) : FnT := ⟨54, ⟨(.cons (.own 0 0 0 0) (.cons (.own 0 1 0 0) (.cons (.own 0 2 0 0) .nil))), [(0, false, (.vars (.cons (.p .bool) .nil))), (1, false, (.vars (.cons (.p (.sl .byte)) .nil))), (2, false, (.vars (.cons (.p (.int .i64)) .nil)))]⟩, [⟨(.cons (.slf 1 3) (.cons (.p .bool) .nil)), [(0, false, (.vars (.cons (.p .bool) .nil))), (1, false, (.vars (.cons (.p (.sl .byte)) .nil))), (2, false, (.vars (.cons (.p (.int .i64)) .nil))), (3, false, (.rows 5 .byte))]⟩], fun t => wire_reader_2 fu t.1 t.2.1 t.2.2⟩
theorem wire_reader_2_eq (fu : Nat) : ∀ t, evF Go.Proofs.Try.prog [bytes_GetBlob_ft fu] fu Go.Proofs.Try.f54 wire_reader_2_fa t = (wire_reader_2_ft fu).spec t := fun t => by kernel_rfl
theorem wire_reader_2_told (fu : Nat) : Told Go.Proofs.Try.prog (wire_reader_2_ft fu) := told_of (allT_cons (bytes_GetBlob_told fu) allT_nil) mixed Go.Proofs.Try.func54 (by kernel_rfl) (by kernel_rfl) (wire_reader_2_eq fu)

def wire_GetAsk (fu : Nat) (t : List (Int)) (b : List (UInt8)) : Option ((Int × (Int × (Int × (Int × (Int × (Int × (List (UInt8) × Int)))))))) :=
  (wire_reader fu t b 1).bind fun r =>
  match r with
  | .inl r1 =>
    bif (!(r1 == 0)) then
      some (0, (0, (0, (0, (0, (0, ([], r1)))))))
    else
      none
  | .inr r2 =>
    bif (!(r2.1 == 0)) then
      some (0, (0, (0, (0, (0, (0, ([], r2.1)))))))
    else
      (wire_reader_1 fu 1099511627776 r2.2.1 r2.2.2.1 r2.2.2.2).bind fun r3 =>
      (wire_reader_1 fu 1099511627776 r3.2.1 r3.2.2.1 r3.2.2.2).bind fun r4 =>
      (wire_reader_1 fu 9 r4.2.1 r4.2.2.1 r4.2.2.2).bind fun r5 =>
      (wire_reader_1 fu 1099511627776 r5.2.1 r5.2.2.1 r5.2.2.2).bind fun r6 =>
      (wire_reader_1 fu 255 r6.2.1 r6.2.2.1 r6.2.2.2).bind fun r7 =>
      (wire_reader_1 fu 1099511627776 r7.2.1 r7.2.2.1 r7.2.2.2).bind fun r8 =>
      (wire_reader_2 fu r8.2.1 r8.2.2.1 r8.2.2.2).bind fun r9 =>
      Option.bind (α := ((Bool × (Int × (Int × (Int × (Int × (Int × (Int × (Int × (Int × (Int × (Int × (Int × (Int × List (UInt8)))))))))))))))) (
        bif (!r9.1) then
          some (true, (0, (0, (0, (0, (0, (0, (r3.1, (r4.1, ((IntKind.wrap .u8 r5.1), (r6.1, (r7.1, (r8.1, r9.2.2.2.2)))))))))))))
        else
          (byte? (IntKind.wrap .u8 r5.1)).bind fun c =>
          (wire_RightAsk fu (r3.1, (r4.1, (c, (r6.1, (r7.1, (r8.1, r9.2.2.2.2))))))).bind fun r10 =>
          some ((!r10), (0, (0, (0, (0, (0, (0, (r3.1, (r4.1, ((IntKind.wrap .u8 r5.1), (r6.1, (r7.1, (r8.1, r9.2.2.2.2)))))))))))))) fun o =>
      bif o.1 then
        some (0, (0, (0, (0, (0, (0, ([], 110)))))))
      else
        some (o.2.2.2.2.2.2.2.1, (o.2.2.2.2.2.2.2.2.1, (o.2.2.2.2.2.2.2.2.2.1, (o.2.2.2.2.2.2.2.2.2.2.1, (o.2.2.2.2.2.2.2.2.2.2.2.1, (o.2.2.2.2.2.2.2.2.2.2.2.2.1, (o.2.2.2.2.2.2.2.2.2.2.2.2.2, 0)))))))
def wire_GetAsk_fa : FnA := ⟨.two (.reg [(0, { ids := [100] })]) (.two (.reg [(2, { ids := [101, 102, 103] })]) (.sel (.slot 6 (.nilp .nilFunc)) (.two (.two (.leaf) (.two (.leaf) (.leaf))) (.leaf)) (.two (.two (.leaf) (.two (.leaf) (.leaf))) (.two (.reg [(1, { sh := [101, 102, 103], fn := 1 }), (3, { sh := [101, 102, 103], fn := 1 }), (5, { sh := [101, 102, 103], fn := 1 }), (8, { sh := [101, 102, 103], fn := 1 }), (10, { sh := [101, 102, 103], fn := 1 }), (12, { sh := [101, 102, 103], fn := 1 }), (14, { ids := [105] })]) (.two (.reg [(1, { ids := [106], sh := [101, 102, 103], fn := 2 })]) (.two (.leaf) (.two (.two (.join ⟨[4, 9, 50], ⟨(.cons (.own 0 100 0 0) (.cons (.own 0 105 0 0) (.cons (.p .bool) .nil))), [(100, false, (.vars (.cons (.p (.int .i64)) (.cons (.p (.int .i64)) (.cons (.p (.int .u8)) (.cons (.p (.int .i64)) (.cons (.p (.int .i64)) (.cons (.p (.int .i64)) (.cons (.nilp (.slice none 0 0)) .nil))))))))), (105, false, (.vars (.cons (.p (.int .i64)) (.cons (.p (.int .i64)) (.cons (.p (.int .u8)) (.cons (.p (.int .i64)) (.cons (.p (.int .i64)) (.cons (.p (.int .i64)) (.cons (.slf 1 106) .nil))))))))), (106, false, (.rows 5 .byte))]⟩⟩ false [] (.reg [(4, { md := [2], fn := 3 })])) (.two (.leaf) (.leaf))) (.leaf)))))))), ⟨(.cons (.pt (.int .u32)) (.cons (.p (.sl .byte)) .nil)), []⟩, [⟨(.cons (.agg (.cons (.p (.int .i64)) (.cons (.p (.int .i64)) (.cons (.p (.int .u8)) (.cons (.p (.int .i64)) (.cons (.p (.int .i64)) (.cons (.p (.int .i64)) (.cons (.p (.sl .byte)) .nil)))))))) (.cons (.p (.int .i64)) .nil)), []⟩], [1, 0]⟩
def wire_GetAsk_ft (fu : Nat) : FnT := ⟨13, ⟨(.cons (.pt (.int .u32)) (.cons (.p (.sl .byte)) .nil)), []⟩, [⟨(.cons (.agg (.cons (.p (.int .i64)) (.cons (.p (.int .i64)) (.cons (.p (.int .u8)) (.cons (.p (.int .i64)) (.cons (.p (.int .i64)) (.cons (.p (.int .i64)) (.cons (.p (.sl .byte)) .nil)))))))) (.cons (.p (.int .i64)) .nil)), []⟩], fun t => wire_GetAsk fu t.1 t.2⟩
theorem wire_GetAsk_eq (fu : Nat) : ∀ t, evF Go.Proofs.Try.prog [wire_reader_ft fu, wire_reader_1_ft fu, wire_reader_2_ft fu, wire_RightAsk_ft fu] fu Go.Proofs.Try.f13 wire_GetAsk_fa t = (wire_GetAsk_ft fu).spec t := fun t => by kernel_rfl
theorem wire_GetAsk_told (fu : Nat) : Told Go.Proofs.Try.prog (wire_GetAsk_ft fu) := told_of (allT_cons (wire_reader_told fu) (allT_cons (wire_reader_1_told fu) (allT_cons (wire_reader_2_told fu) (allT_cons (wire_RightAsk_told fu) allT_nil)))) mixed Go.Proofs.Try.func13 (by kernel_rfl) (by kernel_rfl) (wire_GetAsk_eq fu)

def wire_GetTell_l0 (fu : Nat) (r8 : (Int × (Bool × (List (UInt8) × Int)))) (x : Int) (h : Int) (h1 : Int) (h2 : Int) (h3 : Int) (h4 : Int) (h5 : Bool) (h6 : List (UInt8)) (h7 : Int) (h8 : Int) (h9 : Int) (h10 : Int) (h11 : Int) (h12 : Int) (h13 : List ((Int × (Int × (Int × UInt8))))) : Option ((Int × (Int × (Int × (Int × (Int × (Int × (Bool × (List (UInt8) × (Int × (Int × (Int × (Int × (Int × (Int × List ((Int × (Int × (Int × UInt8)))))))))))))))))) ⊕ ((Int × (Int × (Int × (Int × (Int × (Bool × (List (UInt8) × (Int × (Int × (Int × (Int × (Int × (Int × List ((Int × (Int × (Int × UInt8))))))))))))))))))) :=
  bif (decide (x < r8.1)) then
    (wire_reader_1 fu 1099511627776 h5 h6 h7).bind fun r9 =>
    (wire_reader_1 fu 255 r9.2.1 r9.2.2.1 r9.2.2.2).bind fun r10 =>
    (wire_reader_1 fu 1099511627776 r10.2.1 r10.2.2.1 r10.2.2.2).bind fun r11 =>
    (wire_reader_1 fu 9 r11.2.1 r11.2.2.1 r11.2.2.2).bind fun r12 =>
    (byte? (IntKind.wrap .u8 r12.1)).bind fun c =>
    need ((Nat.ble ((h13.length + 1) * 32) room) && (Nat.ble (h13.length + 1) room)) <|
    some (.inl ((IntKind.wrap .i64 (x + 1)), (h, (h1, (h2, (h3, (h4, (r12.2.1, (r12.2.2.1, (r12.2.2.2, (h8, (h9, (h10, (h11, (h12, (h13 ++ [(r9.1, (r10.1, (r11.1, c)))]))))))))))))))))
  else
    some (.inr (h, (h1, (h2, (h3, (h4, (h5, (h6, (h7, (h8, (h9, (h10, (h11, (h12, h13))))))))))))))
def wire_GetTell_l0_it (fu : Nat) (r8 : (Int × (Bool × (List (UInt8) × Int)))) (tt : (Int × (Int × (Int × (Int × (Int × (Int × (Bool × (List (UInt8) × (Int × (Int × (Int × (Int × (Int × (Int × List ((Int × (Int × (Int × UInt8))))))))))))))))))) : Option ((Int × (Int × (Int × (Int × (Int × (Bool × (List (UInt8) × (Int × (Int × (Int × (Int × (Int × (Int × List ((Int × (Int × (Int × UInt8)))))))))))))))))) :=
  iter fu (fun tt => wire_GetTell_l0 fu r8 tt.1 tt.2.1 tt.2.2.1 tt.2.2.2.1 tt.2.2.2.2.1 tt.2.2.2.2.2.1 tt.2.2.2.2.2.2.1 tt.2.2.2.2.2.2.2.1 tt.2.2.2.2.2.2.2.2.1 tt.2.2.2.2.2.2.2.2.2.1 tt.2.2.2.2.2.2.2.2.2.2.1 tt.2.2.2.2.2.2.2.2.2.2.2.1 tt.2.2.2.2.2.2.2.2.2.2.2.2.1 tt.2.2.2.2.2.2.2.2.2.2.2.2.2.1 tt.2.2.2.2.2.2.2.2.2.2.2.2.2.2) tt
def wire_GetTell (fu : Nat) (t : List (Int)) (b : List (UInt8)) : Option ((Int × (Int × (Int × (Int × (List ((Int × (Int × (Int × UInt8)))) × (List (UInt8) × (Int × Int)))))))) :=
  (wire_reader fu t b 2).bind fun r =>
  match r with
  | .inl r1 =>
    bif (!(r1 == 0)) then
      some (0, (0, (0, (0, ([], ([], (0, r1)))))))
    else
      none
  | .inr r2 =>
    bif (!(r2.1 == 0)) then
      some (0, (0, (0, (0, ([], ([], (0, r2.1)))))))
    else
      (wire_reader_1 fu 1099511627776 r2.2.1 r2.2.2.1 r2.2.2.2).bind fun r3 =>
      (wire_reader_1 fu 1099511627776 r3.2.1 r3.2.2.1 r3.2.2.2).bind fun r4 =>
      (wire_reader_1 fu 9 r4.2.1 r4.2.2.1 r4.2.2.2).bind fun r5 =>
      (wire_reader_1 fu 1000 r5.2.1 r5.2.2.1 r5.2.2.2).bind fun r6 =>
      (wire_reader_1 fu 65536 r6.2.1 r6.2.2.1 r6.2.2.2).bind fun r7 =>
      (wire_reader_1 fu 50 r7.2.1 r7.2.2.1 r7.2.2.2).bind fun r8 =>
      (wire_GetTell_l0_it fu r8 (0, (0, (0, (0, (0, (0, (r8.2.1, (r8.2.2.1, (r8.2.2.2, (r3.1, (r4.1, ((IntKind.wrap .u8 r5.1), (r6.1, (r7.1, []))))))))))))))).bind fun o =>
      (wire_reader_2 fu o.2.2.2.2.2.1 o.2.2.2.2.2.2.1 o.2.2.2.2.2.2.2.1).bind fun r13 =>
      Option.bind (α := ((Bool × (Int × (Int × (Int × (Int × (Int × (Int × (Int × (Int × (Int × (Int × (List ((Int × (Int × (Int × UInt8)))) × List (UInt8))))))))))))))) (
        bif (!r13.1) then
          some (true, (o.1, (o.2.1, (o.2.2.1, (o.2.2.2.1, (o.2.2.2.2.1, (o.2.2.2.2.2.2.2.2.1, (o.2.2.2.2.2.2.2.2.2.1, (o.2.2.2.2.2.2.2.2.2.2.1, (o.2.2.2.2.2.2.2.2.2.2.2.1, (o.2.2.2.2.2.2.2.2.2.2.2.2.1, (o.2.2.2.2.2.2.2.2.2.2.2.2.2, r13.2.2.2.2))))))))))))
        else
          (byte? o.2.2.2.2.2.2.2.2.2.2.1).bind fun c1 =>
          (wire_RightTell fu (o.2.2.2.2.2.2.2.2.1, (o.2.2.2.2.2.2.2.2.2.1, (c1, (o.2.2.2.2.2.2.2.2.2.2.2.1, (o.2.2.2.2.2.2.2.2.2.2.2.2.2, (r13.2.2.2.2, o.2.2.2.2.2.2.2.2.2.2.2.2.1))))))).bind fun r14 =>
          some ((!r14), (o.1, (o.2.1, (o.2.2.1, (o.2.2.2.1, (o.2.2.2.2.1, (o.2.2.2.2.2.2.2.2.1, (o.2.2.2.2.2.2.2.2.2.1, (o.2.2.2.2.2.2.2.2.2.2.1, (o.2.2.2.2.2.2.2.2.2.2.2.1, (o.2.2.2.2.2.2.2.2.2.2.2.2.1, (o.2.2.2.2.2.2.2.2.2.2.2.2.2, r13.2.2.2.2))))))))))))) fun o1 =>
      bif o1.1 then
        some (0, (0, (0, (0, ([], ([], (0, 110)))))))
      else
        some (o1.2.2.2.2.2.2.1, (o1.2.2.2.2.2.2.2.1, (o1.2.2.2.2.2.2.2.2.1, (o1.2.2.2.2.2.2.2.2.2.1, (o1.2.2.2.2.2.2.2.2.2.2.2.1, (o1.2.2.2.2.2.2.2.2.2.2.2.2, (o1.2.2.2.2.2.2.2.2.2.2.1, 0)))))))
def wire_GetTell_fa : FnA := ⟨.two (.reg [(0, { ids := [100] })]) (.two (.reg [(2, { ids := [101, 102, 103] })]) (.sel (.slot 6 (.nilp .nilFunc)) (.two (.two (.leaf) (.two (.leaf) (.leaf))) (.leaf)) (.two (.two (.leaf) (.two (.leaf) (.leaf))) (.two (.reg [(1, { sh := [101, 102, 103], fn := 1 }), (3, { sh := [101, 102, 103], fn := 1 }), (5, { sh := [101, 102, 103], fn := 1 }), (8, { sh := [101, 102, 103], fn := 1 }), (10, { sh := [101, 102, 103], fn := 1 }), (12, { ids := [105] })]) (.two (.two (.reg [(1, { sh := [101, 102, 103], fn := 1 })]) (.one (.pre (.ownCell 105 4 30 106) (.loop ⟨[4, 6, 7, 9, 37], ⟨(.cons (.own 0 100 0 0) (.cons (.fn 52 .nil (.cons (.own 0 101 0 0) (.cons (.own 0 102 0 0) (.cons (.own 0 103 0 0) .nil)))) (.cons (.fn 54 .nil (.cons (.own 0 101 0 0) (.cons (.own 0 102 0 0) (.cons (.own 0 103 0 0) .nil)))) (.cons (.own 0 105 0 0) (.cons (.p (.int .i64)) .nil))))), [(100, false, (.vars (.cons (.p (.int .i64)) (.cons (.p (.int .i64)) (.cons (.p (.int .u8)) (.cons (.p (.int .i64)) (.cons (.nilp (.slice none 0 0)) (.cons (.nilp (.slice none 0 0)) (.cons (.p (.int .i64)) .nil))))))))), (101, false, (.vars (.cons (.p .bool) .nil))), (102, false, (.vars (.cons (.p (.sl .byte)) .nil))), (103, false, (.vars (.cons (.p (.int .i64)) .nil))), (105, false, (.vars (.cons (.p (.int .i64)) (.cons (.p (.int .i64)) (.cons (.p (.int .u8)) (.cons (.p (.int .i64)) (.cons (.slf 4 106) (.cons (.nilp (.slice none 0 0)) (.cons (.p (.int .i64)) .nil))))))))), (106, false, (.rows 30 (.pair (.int .i64) (.pair (.int .i64) (.pair (.int .i64) .byte)))))]⟩⟩ false [(0, ⟨[4, 7, 9], ⟨(.cons (.own 0 100 0 0) (.cons (.fn 54 .nil (.cons (.own 0 101 0 0) (.cons (.own 0 102 0 0) (.cons (.own 0 103 0 0) .nil)))) (.cons (.own 0 105 0 0) .nil))), [(100, false, (.vars (.cons (.p (.int .i64)) (.cons (.p (.int .i64)) (.cons (.p (.int .u8)) (.cons (.p (.int .i64)) (.cons (.nilp (.slice none 0 0)) (.cons (.nilp (.slice none 0 0)) (.cons (.p (.int .i64)) .nil))))))))), (101, false, (.vars (.cons (.p .bool) .nil))), (102, false, (.vars (.cons (.p (.sl .byte)) .nil))), (103, false, (.vars (.cons (.p (.int .i64)) .nil))), (105, false, (.vars (.cons (.p (.int .i64)) (.cons (.p (.int .i64)) (.cons (.p (.int .u8)) (.cons (.p (.int .i64)) (.cons (.slf 4 106) (.cons (.nilp (.slice none 0 0)) (.cons (.p (.int .i64)) .nil))))))))), (106, false, (.rows 30 (.pair (.int .i64) (.pair (.int .i64) (.pair (.int .i64) .byte)))))]⟩⟩)] (.two (.leaf) (.two (.leaf) (.two (.one (.reg [(3, { sh := [101, 102, 103], fn := 1 }), (5, { sh := [101, 102, 103], fn := 1 }), (7, { sh := [101, 102, 103], fn := 1 }), (9, { sh := [101, 102, 103], fn := 1 }), (12, { ids := [107] }), (13, { ids := [108] })])) (.leaf)))))))) (.two (.reg [(1, { ids := [109], sh := [101, 102, 103], fn := 2 })]) (.two (.leaf) (.two (.two (.join ⟨[4, 9, 68], ⟨(.cons (.own 0 100 0 0) (.cons (.own 0 105 0 0) (.cons (.p .bool) .nil))), [(100, false, (.vars (.cons (.p (.int .i64)) (.cons (.p (.int .i64)) (.cons (.p (.int .u8)) (.cons (.p (.int .i64)) (.cons (.nilp (.slice none 0 0)) (.cons (.nilp (.slice none 0 0)) (.cons (.p (.int .i64)) .nil))))))))), (105, false, (.vars (.cons (.p (.int .i64)) (.cons (.p (.int .i64)) (.cons (.p (.int .u8)) (.cons (.p (.int .i64)) (.cons (.slf 4 106) (.cons (.slf 1 109) (.cons (.p (.int .i64)) .nil))))))))), (106, false, (.rows 30 (.pair (.int .i64) (.pair (.int .i64) (.pair (.int .i64) .byte))))), (109, false, (.rows 5 .byte))]⟩⟩ false [] (.reg [(4, { md := [2], fn := 3 })])) (.two (.leaf) (.leaf))) (.leaf))))))))), ⟨(.cons (.pt (.int .u32)) (.cons (.p (.sl .byte)) .nil)), []⟩, [⟨(.cons (.agg (.cons (.p (.int .i64)) (.cons (.p (.int .i64)) (.cons (.p (.int .u8)) (.cons (.p (.int .i64)) (.cons (.p (.sl (.pair (.int .i64) (.pair (.int .i64) (.pair (.int .i64) .byte))))) (.cons (.p (.sl .byte)) (.cons (.p (.int .i64)) .nil)))))))) (.cons (.p (.int .i64)) .nil)), []⟩], [1, 0]⟩
def wire_GetTell_ft (fu : Nat) : FnT := ⟨14, ⟨(.cons (.pt (.int .u32)) (.cons (.p (.sl .byte)) .nil)), []⟩, [⟨(.cons (.agg (.cons (.p (.int .i64)) (.cons (.p (.int .i64)) (.cons (.p (.int .u8)) (.cons (.p (.int .i64)) (.cons (.p (.sl (.pair (.int .i64) (.pair (.int .i64) (.pair (.int .i64) .byte))))) (.cons (.p (.sl .byte)) (.cons (.p (.int .i64)) .nil)))))))) (.cons (.p (.int .i64)) .nil)), []⟩], fun t => wire_GetTell fu t.1 t.2⟩
theorem wire_GetTell_eq (fu : Nat) : ∀ t, evF Go.Proofs.Try.prog [wire_reader_ft fu, wire_reader_1_ft fu, wire_reader_2_ft fu, wire_RightTell_ft fu] fu Go.Proofs.Try.f14 wire_GetTell_fa t = (wire_GetTell_ft fu).spec t := fun t => by kernel_rfl
theorem wire_GetTell_told (fu : Nat) : Told Go.Proofs.Try.prog (wire_GetTell_ft fu) := told_of (allT_cons (wire_reader_told fu) (allT_cons (wire_reader_1_told fu) (allT_cons (wire_reader_2_told fu) (allT_cons (wire_RightTell_told fu) allT_nil)))) mixed Go.Proofs.Try.func14 (by kernel_rfl) (by kernel_rfl) (wire_GetTell_eq fu)

def bytes_Uint_o0_l0 (fu : Nat) (n1 : Int) (h1 : List (UInt8)) : Option ((Int × List (UInt8)) ⊕ ((Int × List (UInt8)))) :=
  bif (decide (n1 > 127)) then
    (byte? (IntKind.wrap .u8 (IntKind.wrap .u64 ((Int.tmod n1 128) + 128)))).bind fun c =>
    need ((Nat.ble ((h1.length + 1) * 1) room) && (Nat.ble (h1.length + 1) room)) <|
    some (.inl ((IntKind.wrap .u64 (Int.tdiv n1 128)), (h1 ++ [c])))
  else
    some (.inr (n1, h1))
def bytes_Uint_o0_l0_it (fu : Nat)  (tt : (Int × List (UInt8))) : Option ((Int × List (UInt8))) :=
  iter fu (fun tt => bytes_Uint_o0_l0 fu tt.1 tt.2) tt
def bytes_Uint_o0 (fu : Nat) (n : Int) (h : List (UInt8)) : Option (List (UInt8)) :=
  (bytes_Uint_o0_l0_it fu  (n, h)).bind fun o =>
  (byte? (IntKind.wrap .u8 o.1)).bind fun c1 =>
  need ((Nat.ble ((o.2.length + 1) * 1) room) && (Nat.ble (o.2.length + 1) room)) <|
  some (o.2 ++ [c1])
def bytes_Uint_o0_fa : FnA := ⟨.two (.leaf) (.two (.one (.pre (.renum 0 100) (.loop ⟨[0, 1], ⟨(.cons (.slf 1 100) (.cons (.p (.int .u64)) .nil)), [(100, false, (.rows 5 .byte))]⟩⟩ false [(0, ⟨[0, 1], ⟨(.cons (.slf 1 100) (.cons (.p (.int .u64)) .nil)), [(100, false, (.rows 5 .byte))]⟩⟩)] (.two (.two (.leaf) (.leaf)) (.one (.reg [(5, { ids := [101] }), (6, { ids := [102] })])))))) (.two (.reg [(3, { ids := [103] }), (4, { ids := [104] })]) (.leaf))), ⟨(.cons (.slf 1 0) (.cons (.p (.int .u64)) .nil)), [(0, false, (.rows 5 .byte))]⟩, [⟨(.cons (.slf 1 1) .nil), [(1, false, (.rows 5 .byte))]⟩], [0]⟩
def bytes_Uint_o0_ft (fu : Nat) : FnT := ⟨56, ⟨(.cons (.slf 1 0) (.cons (.p (.int .u64)) .nil)), [(0, false, (.rows 5 .byte))]⟩, [⟨(.cons (.slf 1 1) .nil), [(1, false, (.rows 5 .byte))]⟩], fun t => bytes_Uint_o0 fu t.1 t.2⟩
theorem bytes_Uint_o0_eq (fu : Nat) : ∀ t, evF Go.Proofs.Try.prog [] fu Go.Proofs.Try.f56 bytes_Uint_o0_fa t = (bytes_Uint_o0_ft fu).spec t := fun t => by kernel_rfl
theorem bytes_Uint_o0_told (fu : Nat) : Told Go.Proofs.Try.prog (bytes_Uint_o0_ft fu) := told_of allT_nil mixed Go.Proofs.Try.func56 (by kernel_rfl) (by kernel_rfl) (bytes_Uint_o0_eq fu)

def wire_put_o0_l0 (fu : Nat) (l : List (Int)) (x : Int) (h1 : List (UInt8)) : Option ((Int × List (UInt8)) ⊕ (List (UInt8))) :=
  bif (decide (x < ((l.length : Nat) : Int))) then
    (idx? x l.length).bind fun q =>
    (l)[q]?.bind fun r =>
    (bytes_Uint_o0 fu (IntKind.wrap .u64 r) h1).bind fun r1 =>
    some (.inl ((IntKind.wrap .i64 (x + 1)), r1))
  else
    some (.inr h1)
def wire_put_o0_l0_it (fu : Nat) (l : List (Int)) (tt : (Int × List (UInt8))) : Option (List (UInt8)) :=
  iter fu (fun tt => wire_put_o0_l0 fu l tt.1 tt.2) tt
def wire_put_o0 (fu : Nat) (l : List (Int)) (h : List (UInt8)) : Option (List (UInt8)) :=
  (wire_put_o0_l0_it fu l (0, h)).bind fun o =>
  some o
def wire_put_o0_fa : FnA := ⟨.two (.leaf) (.two (.two (.leaf) (.one (.pre (.renum 0 100) (.loop ⟨[0, 9], ⟨(.cons (.slf 1 100) (.cons (.p (.int .i64)) .nil)), [(100, false, (.rows 5 .byte))]⟩⟩ false [(0, ⟨[0], ⟨(.cons (.slf 1 100) .nil), [(100, false, (.rows 5 .byte))]⟩⟩)] (.two (.leaf) (.two (.leaf) (.two (.one (.two (.leaf) (.reg [(3, { ids := [101], sh := [100] })]))) (.leaf)))))))) (.leaf)), ⟨(.cons (.slf 1 0) (.cons (.p (.sl (.int .i64))) .nil)), [(0, false, (.rows 5 .byte))]⟩, [⟨(.cons (.slf 1 1) .nil), [(1, false, (.rows 5 .byte))]⟩], [0]⟩
def wire_put_o0_ft (fu : Nat) : FnT := ⟨38, ⟨(.cons (.slf 1 0) (.cons (.p (.sl (.int .i64))) .nil)), [(0, false, (.rows 5 .byte))]⟩, [⟨(.cons (.slf 1 1) .nil), [(1, false, (.rows 5 .byte))]⟩], fun t => wire_put_o0 fu t.1 t.2⟩
theorem wire_put_o0_eq (fu : Nat) : ∀ t, evF Go.Proofs.Try.prog [bytes_Uint_o0_ft fu] fu Go.Proofs.Try.f38 wire_put_o0_fa t = (wire_put_o0_ft fu).spec t := fun t => by kernel_rfl
theorem wire_put_o0_told (fu : Nat) : Told Go.Proofs.Try.prog (wire_put_o0_ft fu) := told_of (allT_cons (bytes_Uint_o0_told fu) allT_nil) mixed Go.Proofs.Try.func38 (by kernel_rfl) (by kernel_rfl) (wire_put_o0_eq fu)

def slices_Grow__byte_byte_n0 (fu : Nat) (n : Int) : Option (List (UInt8)) :=
  bif (decide (n < 0)) then
    none
  else
    bif (decide ((IntKind.wrap .i64 (n - 0)) > 0)) then
      (upto? (IntKind.wrap .i64 (n - 0)) room).bind fun q =>
      need ((Nat.ble (q * 1) room) && (Nat.ble q room)) <|
      (upto? 0 (List.replicate (α := UInt8) q 0).length).bind fun q1 =>
      need (Nat.ble q1 (List.replicate (α := UInt8) q 0).length) <|
      some (List.take q1 (List.replicate (α := UInt8) q 0))
    else
      some []
def slices_Grow__byte_byte_n0_fa : FnA := ⟨.two (.leaf) (.two (.two (.leaf) (.leaf)) (.two (.two (.leaf) (.two (.leaf) (.two (.reg [(5, { ids := [100] })]) (.leaf)))) (.leaf))), ⟨(.cons (.nilp (.slice none 0 0)) (.cons (.p (.int .i64)) .nil)), []⟩, [⟨(.cons (.slf 1 0) .nil), [(0, false, (.rows 5 .byte))]⟩], [15]⟩
def slices_Grow__byte_byte_n0_ft (fu : Nat) : FnT := ⟨64, ⟨(.cons (.nilp (.slice none 0 0)) (.cons (.p (.int .i64)) .nil)), []⟩, [⟨(.cons (.slf 1 0) .nil), [(0, false, (.rows 5 .byte))]⟩], fun t => slices_Grow__byte_byte_n0 fu t⟩
theorem slices_Grow__byte_byte_n0_eq (fu : Nat) : ∀ t, evF Go.Proofs.Try.prog [] fu Go.Proofs.Try.f64 slices_Grow__byte_byte_n0_fa t = (slices_Grow__byte_byte_n0_ft fu).spec t := fun t => by kernel_rfl
theorem slices_Grow__byte_byte_n0_told (fu : Nat) : Told Go.Proofs.Try.prog (slices_Grow__byte_byte_n0_ft fu) := told_of allT_nil mixed Go.Proofs.Try.func64 (by kernel_rfl) (by kernel_rfl) (slices_Grow__byte_byte_n0_eq fu)

def slices_Concat__byte_byte_l0 (fu : Nat) (slices : List (List (UInt8))) (size : Int) (x : Int) : Option ((Int × Int) ⊕ (Int)) :=
  bif (decide (x < ((slices.length : Nat) : Int))) then
    (idx? x slices.length).bind fun q =>
    (slices)[q]?.bind fun r =>
    bif (decide ((IntKind.wrap .i64 (size + ((r.length : Nat) : Int))) < 0)) then
      none
    else
      some (.inl ((IntKind.wrap .i64 (size + ((r.length : Nat) : Int))), (IntKind.wrap .i64 (x + 1))))
  else
    some (.inr size)
def slices_Concat__byte_byte_l0_it (fu : Nat) (slices : List (List (UInt8))) (tt : (Int × Int)) : Option (Int) :=
  iter fu (fun tt => slices_Concat__byte_byte_l0 fu slices tt.1 tt.2) tt
def slices_Concat__byte_byte_l1 (fu : Nat) (slices : List (List (UInt8))) (x1 : Int) (h : List (UInt8)) : Option ((Int × List (UInt8)) ⊕ (List (UInt8))) :=
  bif (decide (x1 < ((slices.length : Nat) : Int))) then
    (idx? x1 slices.length).bind fun q1 =>
    (slices)[q1]?.bind fun r2 =>
    need ((Nat.ble ((h.length + r2.length) * 1) room) && (Nat.ble (h.length + r2.length) room)) <|
    some (.inl ((IntKind.wrap .i64 (x1 + 1)), (h ++ r2)))
  else
    some (.inr h)
def slices_Concat__byte_byte_l1_it (fu : Nat) (slices : List (List (UInt8))) (tt : (Int × List (UInt8))) : Option (List (UInt8)) :=
  iter fu (fun tt => slices_Concat__byte_byte_l1 fu slices tt.1 tt.2) tt
def slices_Concat__byte_byte (fu : Nat) (slices : List (List (UInt8))) : Option (List (UInt8)) :=
  (slices_Concat__byte_byte_l0_it fu slices (0, 0)).bind fun o =>
  (slices_Grow__byte_byte_n0 fu o).bind fun r1 =>
  (slices_Concat__byte_byte_l1_it fu slices (0, r1)).bind fun o1 =>
  some o1
def slices_Concat__byte_byte_fa : FnA := ⟨.two (.leaf) (.two (.leaf) (.two (.two (.leaf) (.one (.loop ⟨[3, 11], ⟨(.cons (.p (.int .i64)) (.cons (.p (.int .i64)) .nil)), []⟩⟩ false [(0, ⟨[3], ⟨(.cons (.p (.int .i64)) .nil), []⟩⟩)] (.two (.leaf) (.two (.leaf) (.two (.one (.two (.leaf) (.two (.leaf) (.two (.leaf) (.leaf))))) (.leaf))))))) (.two (.reg [(1, { ids := [100] })]) (.two (.two (.leaf) (.one (.loop ⟨[6, 27], ⟨(.cons (.slf 1 100) (.cons (.p (.int .i64)) .nil)), [(100, false, (.rows 5 .byte))]⟩⟩ false [(2, ⟨[6], ⟨(.cons (.slf 1 100) .nil), [(100, false, (.rows 5 .byte))]⟩⟩)] (.two (.leaf) (.two (.leaf) (.two (.one (.two (.leaf) (.reg [(2, { ids := [101] })]))) (.leaf))))))) (.leaf))))), ⟨(.cons (.p (.sl (.sl .byte))) .nil), []⟩, [⟨(.cons (.slf 1 0) .nil), [(0, false, (.rows 5 .byte))]⟩], [0]⟩
def slices_Concat__byte_byte_ft (fu : Nat) : FnT := ⟨57, ⟨(.cons (.p (.sl (.sl .byte))) .nil), []⟩, [⟨(.cons (.slf 1 0) .nil), [(0, false, (.rows 5 .byte))]⟩], fun t => slices_Concat__byte_byte fu t⟩
theorem slices_Concat__byte_byte_eq (fu : Nat) : ∀ t, evF Go.Proofs.Try.prog [slices_Grow__byte_byte_n0_ft fu] fu Go.Proofs.Try.f57 slices_Concat__byte_byte_fa t = (slices_Concat__byte_byte_ft fu).spec t := fun t => by kernel_rfl
theorem slices_Concat__byte_byte_told (fu : Nat) : Told Go.Proofs.Try.prog (slices_Concat__byte_byte_ft fu) := told_of (allT_cons (slices_Grow__byte_byte_n0_told fu) allT_nil) mixed Go.Proofs.Try.func57 (by kernel_rfl) (by kernel_rfl) (slices_Concat__byte_byte_eq fu)

def bytes_Blob_o0 (fu : Nat) (b : List (UInt8)) (h : List (UInt8)) : Option (List (UInt8)) :=
  (bytes_Uint_o0 fu (IntKind.wrap .u64 ((b.length : Nat) : Int)) h).bind fun r =>
  (slices_Concat__byte_byte fu [r, b]).bind fun r1 =>
  some r1
def bytes_Blob_o0_fa : FnA := ⟨.two (.leaf) (.two (.reg [(4, { ids := [100], sh := [0] }), (6, { ids := [101] }), (7, { ids := [102], md := [1], fn := 1 })]) (.leaf)), ⟨(.cons (.slf 1 0) (.cons (.p (.sl .byte)) .nil)), [(0, false, (.rows 5 .byte))]⟩, [⟨(.cons (.slf 1 1) .nil), [(1, false, (.rows 5 .byte))]⟩], [0]⟩
def bytes_Blob_o0_ft (fu : Nat) : FnT := ⟨39, ⟨(.cons (.slf 1 0) (.cons (.p (.sl .byte)) .nil)), [(0, false, (.rows 5 .byte))]⟩, [⟨(.cons (.slf 1 1) .nil), [(1, false, (.rows 5 .byte))]⟩], fun t => bytes_Blob_o0 fu t.1 t.2⟩
theorem bytes_Blob_o0_eq (fu : Nat) : ∀ t, evF Go.Proofs.Try.prog [bytes_Uint_o0_ft fu, slices_Concat__byte_byte_ft fu] fu Go.Proofs.Try.f39 bytes_Blob_o0_fa t = (bytes_Blob_o0_ft fu).spec t := fun t => by kernel_rfl
theorem bytes_Blob_o0_told (fu : Nat) : Told Go.Proofs.Try.prog (bytes_Blob_o0_ft fu) := told_of (allT_cons (bytes_Uint_o0_told fu) (allT_cons (slices_Concat__byte_byte_told fu) allT_nil)) mixed Go.Proofs.Try.func39 (by kernel_rfl) (by kernel_rfl) (bytes_Blob_o0_eq fu)

def wire_PutAsk (fu : Nat) (t : List (Int)) (a : (Int × (Int × (UInt8 × (Int × (Int × (Int × List (UInt8)))))))) : Option ((Int × List (UInt8))) :=
  (byte? ((a.2.2.1.toNat : Nat) : Int)).bind fun c =>
  (wire_RightAsk fu (a.1, (a.2.1, (c, (a.2.2.2.1, (a.2.2.2.2.1, (a.2.2.2.2.2.1, a.2.2.2.2.2.2))))))).bind fun r =>
  bif (!r) then
    some (110, [])
  else
    (wire_put_o0 fu [a.1, a.2.1, (IntKind.wrap .i64 ((a.2.2.1.toNat : Nat) : Int)), a.2.2.2.1, a.2.2.2.2.1, a.2.2.2.2.2.1] [(UInt8.ofNat 1)]).bind fun r1 =>
    (bytes_Blob_o0 fu a.2.2.2.2.2.2 r1).bind fun r2 =>
    (bytes_Seal fu t r2).bind fun r3 =>
    some (0, r3)
def wire_PutAsk_fa : FnA := ⟨.two (.reg [(0, { ids := [100] })]) (.two (.two (.reg [(1, {  })]) (.two (.leaf) (.leaf))) (.two (.reg [(0, { ids := [101] }), (14, { ids := [102] }), (15, { ids := [103], sh := [101], md := [0, 1], fn := 1 })]) (.two (.reg [(4, { ids := [104], sh := [103], fn := 2 }), (5, { ids := [105], md := [0, 1], fn := 3 })]) (.leaf)))), ⟨(.cons (.pt (.int .u32)) (.cons (.p (.pair (.int .i64) (.pair (.int .i64) (.pair .byte (.pair (.int .i64) (.pair (.int .i64) (.pair (.int .i64) (.sl .byte)))))))) .nil)), []⟩, [⟨(.cons (.slf 1 0) (.cons (.p (.int .i64)) .nil)), [(0, false, (.rows 5 .byte))]⟩], [15, 0]⟩
def wire_PutAsk_ft (fu : Nat) : FnT := ⟨15, ⟨(.cons (.pt (.int .u32)) (.cons (.p (.pair (.int .i64) (.pair (.int .i64) (.pair .byte (.pair (.int .i64) (.pair (.int .i64) (.pair (.int .i64) (.sl .byte)))))))) .nil)), []⟩, [⟨(.cons (.slf 1 0) (.cons (.p (.int .i64)) .nil)), [(0, false, (.rows 5 .byte))]⟩], fun t => wire_PutAsk fu t.1 t.2⟩
theorem wire_PutAsk_eq (fu : Nat) : ∀ t, evF Go.Proofs.Try.prog [wire_RightAsk_ft fu, wire_put_o0_ft fu, bytes_Blob_o0_ft fu, bytes_Seal_ft fu] fu Go.Proofs.Try.f15 wire_PutAsk_fa t = (wire_PutAsk_ft fu).spec t := fun t => by kernel_rfl
theorem wire_PutAsk_told (fu : Nat) : Told Go.Proofs.Try.prog (wire_PutAsk_ft fu) := told_of (allT_cons (wire_RightAsk_told fu) (allT_cons (wire_put_o0_told fu) (allT_cons (bytes_Blob_o0_told fu) (allT_cons (bytes_Seal_told fu) allT_nil)))) mixed Go.Proofs.Try.func15 (by kernel_rfl) (by kernel_rfl) (wire_PutAsk_eq fu)

def wire_PutTell_l0 (fu : Nat) (x : (Int × (Int × (UInt8 × (Int × (List ((Int × (Int × (Int × UInt8)))) × (List (UInt8) × Int))))))) (x1 : Int) (h : Int) (h1 : Int) (h2 : Int) (h3 : Int) (h4 : List ((Int × (Int × (Int × UInt8))))) (h5 : List (UInt8)) (h6 : Int) (h7 : List (UInt8)) : Option ((Int × (Int × (Int × (Int × (Int × (List ((Int × (Int × (Int × UInt8)))) × (List (UInt8) × (Int × List (UInt8))))))))) ⊕ ((Int × (Int × (Int × (Int × (List ((Int × (Int × (Int × UInt8)))) × (List (UInt8) × (Int × List (UInt8)))))))))) :=
  bif (decide (x1 < ((x.2.2.2.2.1.length : Nat) : Int))) then
    (idx? x1 x.2.2.2.2.1.length).bind fun q =>
    (x.2.2.2.2.1)[q]?.bind fun r2 =>
    (wire_put_o0 fu [r2.1, r2.2.1, r2.2.2.1, (IntKind.wrap .i64 ((r2.2.2.2.toNat : Nat) : Int))] h7).bind fun r3 =>
    some (.inl ((IntKind.wrap .i64 (x1 + 1)), (h, (h1, (h2, (h3, (h4, (h5, (h6, r3)))))))))
  else
    some (.inr (h, (h1, (h2, (h3, (h4, (h5, (h6, h7))))))))
def wire_PutTell_l0_it (fu : Nat) (x : (Int × (Int × (UInt8 × (Int × (List ((Int × (Int × (Int × UInt8)))) × (List (UInt8) × Int))))))) (tt : (Int × (Int × (Int × (Int × (Int × (List ((Int × (Int × (Int × UInt8)))) × (List (UInt8) × (Int × List (UInt8)))))))))) : Option ((Int × (Int × (Int × (Int × (List ((Int × (Int × (Int × UInt8)))) × (List (UInt8) × (Int × List (UInt8))))))))) :=
  iter fu (fun tt => wire_PutTell_l0 fu x tt.1 tt.2.1 tt.2.2.1 tt.2.2.2.1 tt.2.2.2.2.1 tt.2.2.2.2.2.1 tt.2.2.2.2.2.2.1 tt.2.2.2.2.2.2.2.1 tt.2.2.2.2.2.2.2.2) tt
def wire_PutTell (fu : Nat) (t : List (Int)) (x : (Int × (Int × (UInt8 × (Int × (List ((Int × (Int × (Int × UInt8)))) × (List (UInt8) × Int))))))) : Option ((Int × List (UInt8))) :=
  (byte? ((x.2.2.1.toNat : Nat) : Int)).bind fun c =>
  (wire_RightTell fu (x.1, (x.2.1, (c, (x.2.2.2.1, (x.2.2.2.2.1, (x.2.2.2.2.2.1, x.2.2.2.2.2.2))))))).bind fun r =>
  bif (!r) then
    some (110, [])
  else
    (wire_put_o0 fu [x.1, x.2.1, (IntKind.wrap .i64 ((x.2.2.1.toNat : Nat) : Int)), x.2.2.2.1, x.2.2.2.2.2.2, ((x.2.2.2.2.1.length : Nat) : Int)] [(UInt8.ofNat 2)]).bind fun r1 =>
    (wire_PutTell_l0_it fu x (0, (x.1, (x.2.1, (((x.2.2.1.toNat : Nat) : Int), (x.2.2.2.1, (x.2.2.2.2.1, (x.2.2.2.2.2.1, (x.2.2.2.2.2.2, r1))))))))).bind fun o =>
    (bytes_Blob_o0 fu o.2.2.2.2.2.1 o.2.2.2.2.2.2.2).bind fun r4 =>
    (bytes_Seal fu t r4).bind fun r5 =>
    some (0, r5)
def wire_PutTell_fa : FnA := ⟨.two (.reg [(0, { ids := [100] })]) (.two (.two (.reg [(1, {  })]) (.two (.leaf) (.leaf))) (.two (.reg [(0, { ids := [101] }), (15, { ids := [102] }), (16, { ids := [103], sh := [101], md := [0, 1], fn := 1 })]) (.two (.two (.leaf) (.one (.loop ⟨[3, 6, 32], ⟨(.cons (.own 0 100 0 0) (.cons (.slf 1 103) (.cons (.p (.int .i64)) .nil))), [(100, false, (.vars (.cons (.p (.int .i64)) (.cons (.p (.int .i64)) (.cons (.p (.int .u8)) (.cons (.p (.int .i64)) (.cons (.p (.sl (.pair (.int .i64) (.pair (.int .i64) (.pair (.int .i64) .byte))))) (.cons (.p (.sl .byte)) (.cons (.p (.int .i64)) .nil))))))))), (103, false, (.rows 5 .byte))]⟩⟩ false [(0, ⟨[3, 6], ⟨(.cons (.own 0 100 0 0) (.cons (.slf 1 103) .nil)), [(100, false, (.vars (.cons (.p (.int .i64)) (.cons (.p (.int .i64)) (.cons (.p (.int .u8)) (.cons (.p (.int .i64)) (.cons (.p (.sl (.pair (.int .i64) (.pair (.int .i64) (.pair (.int .i64) .byte))))) (.cons (.p (.sl .byte)) (.cons (.p (.int .i64)) .nil))))))))), (103, false, (.rows 5 .byte))]⟩⟩)] (.two (.leaf) (.two (.leaf) (.two (.one (.two (.reg [(2, { ids := [104] })]) (.reg [(10, { ids := [105] }), (11, { ids := [106], sh := [103], md := [0, 1], fn := 1 })]))) (.leaf))))))) (.two (.reg [(4, { ids := [107], sh := [103], fn := 2 }), (5, { ids := [108], md := [0, 1], fn := 3 })]) (.leaf))))), ⟨(.cons (.pt (.int .u32)) (.cons (.p (.pair (.int .i64) (.pair (.int .i64) (.pair .byte (.pair (.int .i64) (.pair (.sl (.pair (.int .i64) (.pair (.int .i64) (.pair (.int .i64) .byte)))) (.pair (.sl .byte) (.int .i64)))))))) .nil)), []⟩, [⟨(.cons (.slf 1 0) (.cons (.p (.int .i64)) .nil)), [(0, false, (.rows 5 .byte))]⟩], [15, 0]⟩
def wire_PutTell_ft (fu : Nat) : FnT := ⟨16, ⟨(.cons (.pt (.int .u32)) (.cons (.p (.pair (.int .i64) (.pair (.int .i64) (.pair .byte (.pair (.int .i64) (.pair (.sl (.pair (.int .i64) (.pair (.int .i64) (.pair (.int .i64) .byte)))) (.pair (.sl .byte) (.int .i64)))))))) .nil)), []⟩, [⟨(.cons (.slf 1 0) (.cons (.p (.int .i64)) .nil)), [(0, false, (.rows 5 .byte))]⟩], fun t => wire_PutTell fu t.1 t.2⟩
theorem wire_PutTell_eq (fu : Nat) : ∀ t, evF Go.Proofs.Try.prog [wire_RightTell_ft fu, wire_put_o0_ft fu, bytes_Blob_o0_ft fu, bytes_Seal_ft fu] fu Go.Proofs.Try.f16 wire_PutTell_fa t = (wire_PutTell_ft fu).spec t := fun t => by kernel_rfl
theorem wire_PutTell_told (fu : Nat) : Told Go.Proofs.Try.prog (wire_PutTell_ft fu) := told_of (allT_cons (wire_RightTell_told fu) (allT_cons (wire_put_o0_told fu) (allT_cons (bytes_Blob_o0_told fu) (allT_cons (bytes_Seal_told fu) allT_nil)))) mixed Go.Proofs.Try.func16 (by kernel_rfl) (by kernel_rfl) (wire_PutTell_eq fu)

def low_SameBytes (fu : Nat) (a : List (UInt8)) (b : List (UInt8)) : Option (Bool) :=
  some (a == b)
def low_SameBytes_fa : FnA := ⟨.two (.leaf) (.leaf), ⟨(.cons (.p (.sl .byte)) (.cons (.p (.sl .byte)) .nil)), []⟩, [⟨(.cons (.p .bool) .nil), []⟩], [0]⟩
def low_SameBytes_ft (fu : Nat) : FnT := ⟨21, ⟨(.cons (.p (.sl .byte)) (.cons (.p (.sl .byte)) .nil)), []⟩, [⟨(.cons (.p .bool) .nil), []⟩], fun t => low_SameBytes fu t.1 t.2⟩
theorem low_SameBytes_eq (fu : Nat) : ∀ t, evF Go.Proofs.Try.prog [] fu Go.Proofs.Try.f21 low_SameBytes_fa t = (low_SameBytes_ft fu).spec t := fun t => by kernel_rfl
theorem low_SameBytes_told (fu : Nat) : Told Go.Proofs.Try.prog (low_SameBytes_ft fu) := told_of allT_nil mixed Go.Proofs.Try.func21 (by kernel_rfl) (by kernel_rfl) (low_SameBytes_eq fu)

def low_SameAsk (fu : Nat) (a : (Int × (Int × (UInt8 × (Int × (Int × (Int × List (UInt8)))))))) (b : (Int × (Int × (UInt8 × (Int × (Int × (Int × List (UInt8)))))))) : Option (Bool) :=
  bif (a.1 == b.1) then
    bif (a.2.1 == b.2.1) then
      bif (((a.2.2.1.toNat : Nat) : Int) == ((b.2.2.1.toNat : Nat) : Int)) then
        bif (a.2.2.2.1 == b.2.2.2.1) then
          bif (a.2.2.2.2.1 == b.2.2.2.2.1) then
            bif (a.2.2.2.2.2.1 == b.2.2.2.2.2.1) then
              (low_SameBytes fu a.2.2.2.2.2.2 b.2.2.2.2.2.2).bind fun r =>
              some r
            else
              some false
          else
            some false
        else
          some false
      else
        some false
    else
      some false
  else
    some false
def low_SameAsk_fa : FnA := ⟨.two (.reg [(0, { ids := [100] }), (1, { ids := [101] })]) (.two (.reg [(45, {  })]) (.leaf)), ⟨(.cons (.p (.pair (.int .i64) (.pair (.int .i64) (.pair .byte (.pair (.int .i64) (.pair (.int .i64) (.pair (.int .i64) (.sl .byte)))))))) (.cons (.p (.pair (.int .i64) (.pair (.int .i64) (.pair .byte (.pair (.int .i64) (.pair (.int .i64) (.pair (.int .i64) (.sl .byte)))))))) .nil)), []⟩, [⟨(.cons (.p .bool) .nil), []⟩], [0]⟩
def low_SameAsk_ft (fu : Nat) : FnT := ⟨27, ⟨(.cons (.p (.pair (.int .i64) (.pair (.int .i64) (.pair .byte (.pair (.int .i64) (.pair (.int .i64) (.pair (.int .i64) (.sl .byte)))))))) (.cons (.p (.pair (.int .i64) (.pair (.int .i64) (.pair .byte (.pair (.int .i64) (.pair (.int .i64) (.pair (.int .i64) (.sl .byte)))))))) .nil)), []⟩, [⟨(.cons (.p .bool) .nil), []⟩], fun t => low_SameAsk fu t.1 t.2⟩
theorem low_SameAsk_eq (fu : Nat) : ∀ t, evF Go.Proofs.Try.prog [low_SameBytes_ft fu] fu Go.Proofs.Try.f27 low_SameAsk_fa t = (low_SameAsk_ft fu).spec t := fun t => by kernel_rfl
theorem low_SameAsk_told (fu : Nat) : Told Go.Proofs.Try.prog (low_SameAsk_ft fu) := told_of (allT_cons (low_SameBytes_told fu) allT_nil) mixed Go.Proofs.Try.func27 (by kernel_rfl) (by kernel_rfl) (low_SameAsk_eq fu)

def low_SameInfos_l0 (fu : Nat) (a : List ((Int × (Int × (Int × UInt8))))) (b : List ((Int × (Int × (Int × UInt8))))) (i : Int) : Option (Int ⊕ (Unit ⊕ Bool)) :=
  bif (decide (i < ((a.length : Nat) : Int))) then
    (idx? i a.length).bind fun q =>
    (a)[q]?.bind fun r =>
    (idx? i b.length).bind fun q1 =>
    (b)[q1]?.bind fun r1 =>
    bif (!((r.1 == r1.1) && ((r.2.1 == r1.2.1) && ((r.2.2.1 == r1.2.2.1) && (r.2.2.2 == r1.2.2.2))))) then
      some (.inr (.inr false))
    else
      some (.inl (IntKind.wrap .i64 (i + 1)))
  else
    some (.inr (.inl ()))
def low_SameInfos_l0_it (fu : Nat) (a : List ((Int × (Int × (Int × UInt8))))) (b : List ((Int × (Int × (Int × UInt8))))) (tt : Int) : Option (Unit ⊕ Bool) :=
  iter fu (fun tt => low_SameInfos_l0 fu a b tt) tt
def low_SameInfos (fu : Nat) (a : List ((Int × (Int × (Int × UInt8))))) (b : List ((Int × (Int × (Int × UInt8))))) : Option (Bool) :=
  bif (!(((a.length : Nat) : Int) == ((b.length : Nat) : Int))) then
    some false
  else
    (low_SameInfos_l0_it fu a b 0).bind fun o =>
    match o with
    | .inl s =>
      some true
    | .inr o1 =>
      some o1
def low_SameInfos_fa : FnA := ⟨.two (.leaf) (.two (.two (.leaf) (.two (.leaf) (.leaf))) (.two (.two (.leaf) (.one (.loop ⟨[5], ⟨(.cons (.p (.int .i64)) .nil), []⟩⟩ true [(0, ⟨[], ⟨.nil, []⟩⟩)] (.two (.two (.leaf) (.leaf)) (.two (.one (.two (.leaf) (.two (.leaf) (.leaf)))) (.leaf)))))) (.leaf))), ⟨(.cons (.p (.sl (.pair (.int .i64) (.pair (.int .i64) (.pair (.int .i64) .byte))))) (.cons (.p (.sl (.pair (.int .i64) (.pair (.int .i64) (.pair (.int .i64) .byte))))) .nil)), []⟩, [⟨(.cons (.p .bool) .nil), []⟩], [0]⟩
def low_SameInfos_ft (fu : Nat) : FnT := ⟨49, ⟨(.cons (.p (.sl (.pair (.int .i64) (.pair (.int .i64) (.pair (.int .i64) .byte))))) (.cons (.p (.sl (.pair (.int .i64) (.pair (.int .i64) (.pair (.int .i64) .byte))))) .nil)), []⟩, [⟨(.cons (.p .bool) .nil), []⟩], fun t => low_SameInfos fu t.1 t.2⟩
theorem low_SameInfos_eq (fu : Nat) : ∀ t, evF Go.Proofs.Try.prog [] fu Go.Proofs.Try.f49 low_SameInfos_fa t = (low_SameInfos_ft fu).spec t := fun t => by kernel_rfl
theorem low_SameInfos_told (fu : Nat) : Told Go.Proofs.Try.prog (low_SameInfos_ft fu) := told_of allT_nil mixed Go.Proofs.Try.func49 (by kernel_rfl) (by kernel_rfl) (low_SameInfos_eq fu)

def low_SameTell (fu : Nat) (a : (Int × (Int × (UInt8 × (Int × (List ((Int × (Int × (Int × UInt8)))) × (List (UInt8) × Int))))))) (b : (Int × (Int × (UInt8 × (Int × (List ((Int × (Int × (Int × UInt8)))) × (List (UInt8) × Int))))))) : Option (Bool) :=
  bif (a.1 == b.1) then
    bif (a.2.1 == b.2.1) then
      bif (((a.2.2.1.toNat : Nat) : Int) == ((b.2.2.1.toNat : Nat) : Int)) then
        bif (a.2.2.2.1 == b.2.2.2.1) then
          (low_SameInfos fu a.2.2.2.2.1 b.2.2.2.2.1).bind fun r =>
          bif r then
            (low_SameBytes fu a.2.2.2.2.2.1 b.2.2.2.2.2.1).bind fun r1 =>
            bif r1 then
              some (a.2.2.2.2.2.2 == b.2.2.2.2.2.2)
            else
              some false
          else
            some false
        else
          some false
      else
        some false
    else
      some false
  else
    some false
def low_SameTell_fa : FnA := ⟨.two (.reg [(0, { ids := [100] }), (1, { ids := [101] })]) (.two (.reg [(31, {  }), (38, { fn := 1 })]) (.leaf)), ⟨(.cons (.p (.pair (.int .i64) (.pair (.int .i64) (.pair .byte (.pair (.int .i64) (.pair (.sl (.pair (.int .i64) (.pair (.int .i64) (.pair (.int .i64) .byte)))) (.pair (.sl .byte) (.int .i64)))))))) (.cons (.p (.pair (.int .i64) (.pair (.int .i64) (.pair .byte (.pair (.int .i64) (.pair (.sl (.pair (.int .i64) (.pair (.int .i64) (.pair (.int .i64) .byte)))) (.pair (.sl .byte) (.int .i64)))))))) .nil)), []⟩, [⟨(.cons (.p .bool) .nil), []⟩], [0]⟩
def low_SameTell_ft (fu : Nat) : FnT := ⟨28, ⟨(.cons (.p (.pair (.int .i64) (.pair (.int .i64) (.pair .byte (.pair (.int .i64) (.pair (.sl (.pair (.int .i64) (.pair (.int .i64) (.pair (.int .i64) .byte)))) (.pair (.sl .byte) (.int .i64)))))))) (.cons (.p (.pair (.int .i64) (.pair (.int .i64) (.pair .byte (.pair (.int .i64) (.pair (.sl (.pair (.int .i64) (.pair (.int .i64) (.pair (.int .i64) .byte)))) (.pair (.sl .byte) (.int .i64)))))))) .nil)), []⟩, [⟨(.cons (.p .bool) .nil), []⟩], fun t => low_SameTell fu t.1 t.2⟩
theorem low_SameTell_eq (fu : Nat) : ∀ t, evF Go.Proofs.Try.prog [low_SameInfos_ft fu, low_SameBytes_ft fu] fu Go.Proofs.Try.f28 low_SameTell_fa t = (low_SameTell_ft fu).spec t := fun t => by kernel_rfl
theorem low_SameTell_told (fu : Nat) : Told Go.Proofs.Try.prog (low_SameTell_ft fu) := told_of (allT_cons (low_SameInfos_told fu) (allT_cons (low_SameBytes_told fu) allT_nil)) mixed Go.Proofs.Try.func28 (by kernel_rfl) (by kernel_rfl) (low_SameTell_eq fu)

def law10_awake (fu : Nat)  : Option (Bool) :=
  (bytes_Table fu).bind fun r =>
  need (Nat.beq (List.replicate (α := Int) 256 0).length 256) <|
  need (Nat.beq r.length 256) <|
  (wire_PutAsk fu r (1, (2, ((UInt8.ofNat 2), (3, (0, (4, []))))))).bind fun r1 =>
  (wire_PutTell fu r (1, (2, ((UInt8.ofNat 2), (0, ([], ([], 5))))))).bind fun r2 =>
  Option.bind (α := ((Bool × (List (Int) × (Int × (Int × (Int × (Int × (Int × (Int × (Int × (Int × (Int × (Int × (Int × (List (UInt8) × List (UInt8))))))))))))))))) (
    bif (!(r1.1 == 0)) then
      some (true, (r, (1, (2, (2, (3, (0, (4, (1, (2, (2, (0, (5, (r1.2, r2.2))))))))))))))
    else
      bif (!(r2.1 == 0)) then
        some (true, (r, (1, (2, (2, (3, (0, (4, (1, (2, (2, (0, (5, (r1.2, r2.2))))))))))))))
      else
        bif (!(((r1.2.length : Nat) : Int) == 12)) then
          some (true, (r, (1, (2, (2, (3, (0, (4, (1, (2, (2, (0, (5, (r1.2, r2.2))))))))))))))
        else
          bif (!(((r2.2.length : Nat) : Int) == 12)) then
            some (true, (r, (1, (2, (2, (3, (0, (4, (1, (2, (2, (0, (5, (r1.2, r2.2))))))))))))))
          else
            (upto? 8 r1.2.length).bind fun q =>
            need (Nat.ble (0 + q) r1.2.length) <|
            (low_SameBytes fu (List.take q (List.drop 0 r1.2)) [(UInt8.ofNat 1), (UInt8.ofNat 1), (UInt8.ofNat 2), (UInt8.ofNat 2), (UInt8.ofNat 3), (UInt8.ofNat 0), (UInt8.ofNat 4), (UInt8.ofNat 0)]).bind fun r3 =>
            bif (!r3) then
              some (true, (r, (1, (2, (2, (3, (0, (4, (1, (2, (2, (0, (5, (r1.2, r2.2))))))))))))))
            else
              (upto? 8 r2.2.length).bind fun q1 =>
              need (Nat.ble (0 + q1) r2.2.length) <|
              (low_SameBytes fu (List.take q1 (List.drop 0 r2.2)) [(UInt8.ofNat 2), (UInt8.ofNat 1), (UInt8.ofNat 2), (UInt8.ofNat 2), (UInt8.ofNat 0), (UInt8.ofNat 5), (UInt8.ofNat 0), (UInt8.ofNat 0)]).bind fun r4 =>
              some ((!r4), (r, (1, (2, (2, (3, (0, (4, (1, (2, (2, (0, (5, (r1.2, r2.2))))))))))))))) fun o =>
  bif o.1 then
    some false
  else
    (wire_GetAsk fu o.2.1 o.2.2.2.2.2.2.2.2.2.2.2.2.2.1).bind fun r5 =>
    (wire_GetTell fu o.2.1 o.2.2.2.2.2.2.2.2.2.2.2.2.2.2).bind fun r6 =>
    (wire_GetTell fu o.2.1 o.2.2.2.2.2.2.2.2.2.2.2.2.2.1).bind fun r7 =>
    (upto? 11 o.2.2.2.2.2.2.2.2.2.2.2.2.2.2.length).bind fun q2 =>
    need (Nat.ble (0 + q2) o.2.2.2.2.2.2.2.2.2.2.2.2.2.2.length) <|
    (wire_GetTell fu o.2.1 (List.take q2 (List.drop 0 o.2.2.2.2.2.2.2.2.2.2.2.2.2.2))).bind fun r8 =>
    bif (r5.2.2.2.2.2.2.2 == 0) then
      bif (r6.2.2.2.2.2.2.2 == 0) then
        (byte? r5.2.2.1).bind fun c =>
        (byte? o.2.2.2.2.1).bind fun c1 =>
        (low_SameAsk fu (o.2.2.1, (o.2.2.2.1, (c1, (o.2.2.2.2.2.1, (o.2.2.2.2.2.2.1, (o.2.2.2.2.2.2.2.1, [])))))) (r5.1, (r5.2.1, (c, (r5.2.2.2.1, (r5.2.2.2.2.1, (r5.2.2.2.2.2.1, r5.2.2.2.2.2.2.1))))))).bind fun r9 =>
        bif r9 then
          (byte? r6.2.2.1).bind fun c2 =>
          (byte? o.2.2.2.2.2.2.2.2.2.2.1).bind fun c3 =>
          (low_SameTell fu (o.2.2.2.2.2.2.2.2.1, (o.2.2.2.2.2.2.2.2.2.1, (c3, (o.2.2.2.2.2.2.2.2.2.2.2.1, ([], ([], o.2.2.2.2.2.2.2.2.2.2.2.2.1)))))) (r6.1, (r6.2.1, (c2, (r6.2.2.2.1, (r6.2.2.2.2.1, (r6.2.2.2.2.2.1, r6.2.2.2.2.2.2.1))))))).bind fun r10 =>
          bif r10 then
            bif (r7.2.2.2.2.2.2.2 == 110) then
              some (r8.2.2.2.2.2.2.2 == 12)
            else
              some false
          else
            some false
        else
          some false
      else
        some false
    else
      some false
def law10_awake_fa : FnA := ⟨.two (.leaf) (.two (.reg [(0, {  }), (1, { ids := [100] })]) (.two (.reg [(1, { ids := [101] })]) (.two (.reg [(1, { ids := [102] })]) (.two (.reg [(1, { ids := [103], md := [1, 0], fn := 1 })]) (.two (.reg [(1, { ids := [104], md := [1, 0], fn := 2 })]) (.two (.two (.join ⟨[1, 2, 3, 4, 6, 58], ⟨(.cons (.own 1 100 0 0) (.cons (.own 0 101 0 0) (.cons (.own 0 102 0 0) (.cons (.slf 1 103) (.cons (.slf 1 104) (.cons (.p .bool) .nil)))))), [(100, true, (.rows 39 (.int .u32))), (101, false, (.vars (.cons (.p (.int .i64)) (.cons (.p (.int .i64)) (.cons (.p (.int .u8)) (.cons (.p (.int .i64)) (.cons (.p (.int .i64)) (.cons (.p (.int .i64)) (.cons (.nilp (.slice none 0 0)) .nil))))))))), (102, false, (.vars (.cons (.p (.int .i64)) (.cons (.p (.int .i64)) (.cons (.p (.int .u8)) (.cons (.p (.int .i64)) (.cons (.nilp (.slice none 0 0)) (.cons (.nilp (.slice none 0 0)) (.cons (.p (.int .i64)) .nil))))))))), (103, false, (.rows 5 .byte)), (104, false, (.rows 5 .byte))]⟩⟩ false [] (.reg [(19, { ids := [105] }), (20, { md := [2, 2], fn := 3 }), (26, { ids := [106] }), (27, { md := [2, 2], fn := 3 })])) (.two (.leaf) (.leaf))) (.two (.reg [(1, { md := [1, 1], fn := 4 }), (5, { ids := [107] })]) (.two (.reg [(1, { md := [1, 1], fn := 5 }), (5, { ids := [108] })]) (.two (.reg [(1, { md := [1, 1], fn := 5 }), (5, { ids := [109] })]) (.two (.reg [(2, { md := [1, 1], fn := 5 }), (6, { ids := [110] })]) (.two (.reg [(9, { fn := 6 }), (14, { fn := 7 })]) (.leaf)))))))))))), ⟨.nil, []⟩, [⟨(.cons (.p .bool) .nil), []⟩], [0]⟩
def law10_awake_ft (fu : Nat) : FnT := ⟨17, ⟨.nil, []⟩, [⟨(.cons (.p .bool) .nil), []⟩], fun t => law10_awake fu ⟩
theorem law10_awake_eq (fu : Nat) : ∀ t, evF Go.Proofs.Try.prog [bytes_Table_ft fu, wire_PutAsk_ft fu, wire_PutTell_ft fu, low_SameBytes_ft fu, wire_GetAsk_ft fu, wire_GetTell_ft fu, low_SameAsk_ft fu, low_SameTell_ft fu] fu Go.Proofs.Try.f17 law10_awake_fa t = (law10_awake_ft fu).spec t := fun t => by kernel_rfl
theorem law10_awake_told (fu : Nat) : Told Go.Proofs.Try.prog (law10_awake_ft fu) := told_of (allT_cons (bytes_Table_told fu) (allT_cons (wire_PutAsk_told fu) (allT_cons (wire_PutTell_told fu) (allT_cons (low_SameBytes_told fu) (allT_cons (wire_GetAsk_told fu) (allT_cons (wire_GetTell_told fu) (allT_cons (low_SameAsk_told fu) (allT_cons (low_SameTell_told fu) allT_nil)))))))) mixed Go.Proofs.Try.func17 (by kernel_rfl) (by kernel_rfl) (law10_awake_eq fu)

def law10_small (fu : Nat) (a : (Int × (Int × (UInt8 × (Int × (Int × (Int × List (UInt8)))))))) (x : (Int × (Int × (UInt8 × (Int × (List ((Int × (Int × (Int × UInt8)))) × (List (UInt8) × Int))))))) (b : List (UInt8)) : Option (Bool) :=
  bif (decide (((a.2.2.2.2.2.2.length : Nat) : Int) ≤ 500)) then
    bif (decide (((x.2.2.2.2.2.1.length : Nat) : Int) ≤ 500)) then
      bif (decide (((x.2.2.2.2.1.length : Nat) : Int) ≤ 60)) then
        some (decide (((b.length : Nat) : Int) ≤ 1000))
      else
        some false
    else
      some false
  else
    some false
def law10_small_fa : FnA := ⟨.two (.reg [(0, { ids := [100] }), (1, { ids := [101] })]) (.leaf), ⟨(.cons (.p (.pair (.int .i64) (.pair (.int .i64) (.pair .byte (.pair (.int .i64) (.pair (.int .i64) (.pair (.int .i64) (.sl .byte)))))))) (.cons (.p (.pair (.int .i64) (.pair (.int .i64) (.pair .byte (.pair (.int .i64) (.pair (.sl (.pair (.int .i64) (.pair (.int .i64) (.pair (.int .i64) .byte)))) (.pair (.sl .byte) (.int .i64)))))))) (.cons (.p (.sl .byte)) .nil))), []⟩, [⟨(.cons (.p .bool) .nil), []⟩], [0]⟩
def law10_small_ft (fu : Nat) : FnT := ⟨18, ⟨(.cons (.p (.pair (.int .i64) (.pair (.int .i64) (.pair .byte (.pair (.int .i64) (.pair (.int .i64) (.pair (.int .i64) (.sl .byte)))))))) (.cons (.p (.pair (.int .i64) (.pair (.int .i64) (.pair .byte (.pair (.int .i64) (.pair (.sl (.pair (.int .i64) (.pair (.int .i64) (.pair (.int .i64) .byte)))) (.pair (.sl .byte) (.int .i64)))))))) (.cons (.p (.sl .byte)) .nil))), []⟩, [⟨(.cons (.p .bool) .nil), []⟩], fun t => law10_small fu t.1 t.2.1 t.2.2⟩
theorem law10_small_eq (fu : Nat) : ∀ t, evF Go.Proofs.Try.prog [] fu Go.Proofs.Try.f18 law10_small_fa t = (law10_small_ft fu).spec t := fun t => by kernel_rfl
theorem law10_small_told (fu : Nat) : Told Go.Proofs.Try.prog (law10_small_ft fu) := told_of allT_nil mixed Go.Proofs.Try.func18 (by kernel_rfl) (by kernel_rfl) (law10_small_eq fu)

def slices_Clone__byte_byte_s0 (fu : Nat) (s : Nat) (s1 : Nat) (h : List (UInt8)) : Option ((List (UInt8) × List (UInt8))) :=
  nilQ s1 fun isNil =>
  bif isNil then
    some (h, [])
  else
    need (Nat.ble (s + s1) h.length) <|
    need ((Nat.ble ((0 + (List.take s1 (List.drop s h)).length) * 1) room) && (Nat.ble (0 + (List.take s1 (List.drop s h)).length) room)) <|
    some (h, (List.take s1 (List.drop s h)))
def slices_Clone__byte_byte_s0_fa : FnA := ⟨.two (.leaf) (.two (.two (.leaf) (.two (.leaf) (.leaf))) (.two (.reg [(0, { ids := [100] }), (2, { ids := [101] })]) (.leaf))), ⟨(.cons (.sl 1 0) .nil), [(0, false, (.rows 5 .byte))]⟩, [⟨(.cons (.slf 1 1) .nil), [(0, false, (.rows 5 .byte)), (1, false, (.rows 5 .byte))]⟩], [15]⟩
def slices_Clone__byte_byte_s0_ft (fu : Nat) : FnT := ⟨63, ⟨(.cons (.sl 1 0) .nil), [(0, false, (.rows 5 .byte))]⟩, [⟨(.cons (.slf 1 1) .nil), [(0, false, (.rows 5 .byte)), (1, false, (.rows 5 .byte))]⟩], fun t => slices_Clone__byte_byte_s0 fu t.1 t.2.1 t.2.2⟩
theorem slices_Clone__byte_byte_s0_eq (fu : Nat) : ∀ t, evF Go.Proofs.Try.prog [] fu Go.Proofs.Try.f63 slices_Clone__byte_byte_s0_fa t = (slices_Clone__byte_byte_s0_ft fu).spec t := fun t => by kernel_rfl
theorem slices_Clone__byte_byte_s0_told (fu : Nat) : Told Go.Proofs.Try.prog (slices_Clone__byte_byte_s0_ft fu) := told_of allT_nil mixed Go.Proofs.Try.func63 (by kernel_rfl) (by kernel_rfl) (slices_Clone__byte_byte_s0_eq fu)

def bytes_Unseal_o1 (fu : Nat) (t : List (Int)) (h : List (UInt8)) : Option ((List (UInt8) × (Int × List (UInt8)))) :=
  bif (decide (((h.length : Nat) : Int) < 4)) then
    some ([], (11, h))
  else
    (upto? (IntKind.wrap .i64 (((h.length : Nat) : Int) - 4)) h.length).bind fun q =>
    (slices_Clone__byte_byte_s0 fu 0 q h).bind fun r =>
    (bytes_Seal fu t r.2).bind fun r1 =>
    bif (!(r1 == r.1)) then
      some ([], (12, r.1))
    else
      some (r.2, (0, r.1))
def bytes_Unseal_o1_fa : FnA := ⟨.two (.leaf) (.two (.two (.leaf) (.two (.leaf) (.leaf))) (.two (.reg [(5, { ids := [100], sh := [0] })]) (.two (.two (.reg [(2, { ids := [101], md := [0, 1], fn := 1 })]) (.two (.leaf) (.leaf))) (.leaf)))), ⟨(.cons (.pt (.int .u32)) (.cons (.slf 1 0) .nil)), [(0, false, (.rows 5 .byte))]⟩, [⟨(.cons (.p (.sl .byte)) (.cons (.p (.int .i64)) .nil)), [(0, false, (.rows 5 .byte))]⟩], [1, 0]⟩
def bytes_Unseal_o1_ft (fu : Nat) : FnT := ⟨51, ⟨(.cons (.pt (.int .u32)) (.cons (.slf 1 0) .nil)), [(0, false, (.rows 5 .byte))]⟩, [⟨(.cons (.p (.sl .byte)) (.cons (.p (.int .i64)) .nil)), [(0, false, (.rows 5 .byte))]⟩], fun t => bytes_Unseal_o1 fu t.1 t.2⟩
theorem bytes_Unseal_o1_eq (fu : Nat) : ∀ t, evF Go.Proofs.Try.prog [slices_Clone__byte_byte_s0_ft fu, bytes_Seal_ft fu] fu Go.Proofs.Try.f51 bytes_Unseal_o1_fa t = (bytes_Unseal_o1_ft fu).spec t := fun t => by kernel_rfl
theorem bytes_Unseal_o1_told (fu : Nat) : Told Go.Proofs.Try.prog (bytes_Unseal_o1_ft fu) := told_of (allT_cons (slices_Clone__byte_byte_s0_told fu) (allT_cons (bytes_Seal_told fu) allT_nil)) mixed Go.Proofs.Try.func51 (by kernel_rfl) (by kernel_rfl) (bytes_Unseal_o1_eq fu)

def wire_reader_o1 (fu : Nat) (t : List (Int)) (kind : Int) (h : List (UInt8)) : Option ((Int × List (UInt8)) ⊕ (Int × (List (UInt8) × (Bool × (List (UInt8) × Int))))) :=
  (bytes_Unseal_o1 fu t h).bind fun r =>
  bif (!(r.2.1 == 0)) then
    some (.inl (r.2.1, r.2.2))
  else
    Option.bind (α := ((List (UInt8) × (List (UInt8) × (Int × Bool))))) (
      bif (((r.1.length : Nat) : Int) == 0) then
        some (r.2.2, (r.1, (1, true)))
      else
        (idx? 0 r.1.length).bind fun q =>
        (r.1)[q]?.bind fun r1 =>
        some (r.2.2, (r.1, (1, (!(((r1.toNat : Nat) : Int) == kind)))))) fun o =>
    some (.inr (0, (o.1, (o.2.2.2, (o.2.1, o.2.2.1)))))
def wire_reader_o1_fa : FnA := ⟨.two (.leaf) (.two (.reg [(2, { sh := [0] }), (6, { ids := [100] })]) (.two (.two (.leaf) (.two (.leaf) (.leaf))) (.two (.join ⟨[1, 9, 11, 12], ⟨(.cons (.slf 1 0) (.cons (.own 0 100 0 0) (.cons (.own 0 101 0 0) (.cons (.own 0 102 0 0) .nil)))), [(0, false, (.rows 5 .byte)), (100, false, (.vars (.cons (.p (.sl .byte)) .nil))), (101, false, (.vars (.cons (.p (.int .i64)) .nil))), (102, false, (.vars (.cons (.p .bool) .nil)))]⟩⟩ false [] (.reg [(10, { ids := [101] }), (11, { ids := [102] })])) (.two (.leaf) (.two (.leaf) (.leaf)))))), ⟨(.cons (.pt (.int .u32)) (.cons (.slf 1 0) (.cons (.p (.int .u8)) .nil))), [(0, false, (.rows 5 .byte))]⟩, [⟨(.cons (.nilp .nilFunc) (.cons (.nilp .nilFunc) (.cons (.p (.int .i64)) .nil))), [(0, false, (.rows 5 .byte))]⟩, ⟨(.cons (.fn 52 .nil (.cons (.own 0 1 0 0) (.cons (.own 0 2 0 0) (.cons (.own 0 3 0 0) .nil)))) (.cons (.fn 54 .nil (.cons (.own 0 1 0 0) (.cons (.own 0 2 0 0) (.cons (.own 0 3 0 0) .nil)))) (.cons (.p (.int .i64)) .nil))), [(0, false, (.rows 5 .byte)), (1, false, (.vars (.cons (.p .bool) .nil))), (2, false, (.vars (.cons (.p (.sl .byte)) .nil))), (3, false, (.vars (.cons (.p (.int .i64)) .nil)))]⟩], [0, 0, 0]⟩
def wire_reader_o1_ft (fu : Nat) : FnT := ⟨37, ⟨(.cons (.pt (.int .u32)) (.cons (.slf 1 0) (.cons (.p (.int .u8)) .nil))), [(0, false, (.rows 5 .byte))]⟩, [⟨(.cons (.nilp .nilFunc) (.cons (.nilp .nilFunc) (.cons (.p (.int .i64)) .nil))), [(0, false, (.rows 5 .byte))]⟩, ⟨(.cons (.fn 52 .nil (.cons (.own 0 1 0 0) (.cons (.own 0 2 0 0) (.cons (.own 0 3 0 0) .nil)))) (.cons (.fn 54 .nil (.cons (.own 0 1 0 0) (.cons (.own 0 2 0 0) (.cons (.own 0 3 0 0) .nil)))) (.cons (.p (.int .i64)) .nil))), [(0, false, (.rows 5 .byte)), (1, false, (.vars (.cons (.p .bool) .nil))), (2, false, (.vars (.cons (.p (.sl .byte)) .nil))), (3, false, (.vars (.cons (.p (.int .i64)) .nil)))]⟩], fun t => wire_reader_o1 fu t.1 t.2.1 t.2.2⟩
theorem wire_reader_o1_eq (fu : Nat) : ∀ t, evF Go.Proofs.Try.prog [bytes_Unseal_o1_ft fu] fu Go.Proofs.Try.f37 wire_reader_o1_fa t = (wire_reader_o1_ft fu).spec t := fun t => by kernel_rfl
theorem wire_reader_o1_told (fu : Nat) : Told Go.Proofs.Try.prog (wire_reader_o1_ft fu) := told_of (allT_cons (bytes_Unseal_o1_told fu) allT_nil) mixed Go.Proofs.Try.func37 (by kernel_rfl) (by kernel_rfl) (wire_reader_o1_eq fu)

def wire_GetAsk_o1 (fu : Nat) (t : List (Int)) (h : List (UInt8)) : Option ((Int × (Int × (Int × (Int × (Int × (Int × (List (UInt8) × (Int × List (UInt8)))))))))) :=
  (wire_reader_o1 fu t 1 h).bind fun r =>
  match r with
  | .inl r1 =>
    bif (!(r1.1 == 0)) then
      some (0, (0, (0, (0, (0, (0, ([], (r1.1, r1.2))))))))
    else
      none
  | .inr r2 =>
    bif (!(r2.1 == 0)) then
      some (0, (0, (0, (0, (0, (0, ([], (r2.1, r2.2.1))))))))
    else
      (wire_reader_1 fu 1099511627776 r2.2.2.1 r2.2.2.2.1 r2.2.2.2.2).bind fun r3 =>
      (wire_reader_1 fu 1099511627776 r3.2.1 r3.2.2.1 r3.2.2.2).bind fun r4 =>
      (wire_reader_1 fu 9 r4.2.1 r4.2.2.1 r4.2.2.2).bind fun r5 =>
      (wire_reader_1 fu 1099511627776 r5.2.1 r5.2.2.1 r5.2.2.2).bind fun r6 =>
      (wire_reader_1 fu 255 r6.2.1 r6.2.2.1 r6.2.2.2).bind fun r7 =>
      (wire_reader_1 fu 1099511627776 r7.2.1 r7.2.2.1 r7.2.2.2).bind fun r8 =>
      (wire_reader_2 fu r8.2.1 r8.2.2.1 r8.2.2.2).bind fun r9 =>
      Option.bind (α := ((Bool × (List (UInt8) × (Int × (Int × (Int × (Int × (Int × (Int × (Int × (Int × (Int × (Int × (Int × (Int × List (UInt8))))))))))))))))) (
        bif (!r9.1) then
          some (true, (r2.2.1, (0, (0, (0, (0, (0, (0, (r3.1, (r4.1, ((IntKind.wrap .u8 r5.1), (r6.1, (r7.1, (r8.1, r9.2.2.2.2))))))))))))))
        else
          (byte? (IntKind.wrap .u8 r5.1)).bind fun c =>
          (wire_RightAsk fu (r3.1, (r4.1, (c, (r6.1, (r7.1, (r8.1, r9.2.2.2.2))))))).bind fun r10 =>
          some ((!r10), (r2.2.1, (0, (0, (0, (0, (0, (0, (r3.1, (r4.1, ((IntKind.wrap .u8 r5.1), (r6.1, (r7.1, (r8.1, r9.2.2.2.2))))))))))))))) fun o =>
      bif o.1 then
        some (0, (0, (0, (0, (0, (0, ([], (110, o.2.1))))))))
      else
        some (o.2.2.2.2.2.2.2.2.1, (o.2.2.2.2.2.2.2.2.2.1, (o.2.2.2.2.2.2.2.2.2.2.1, (o.2.2.2.2.2.2.2.2.2.2.2.1, (o.2.2.2.2.2.2.2.2.2.2.2.2.1, (o.2.2.2.2.2.2.2.2.2.2.2.2.2.1, (o.2.2.2.2.2.2.2.2.2.2.2.2.2.2, (0, o.2.1))))))))
def wire_GetAsk_o1_fa : FnA := ⟨.two (.reg [(0, { ids := [100] })]) (.two (.reg [(2, { ids := [101, 102, 103], sh := [0] })]) (.sel (.slot 6 (.nilp .nilFunc)) (.two (.two (.leaf) (.two (.leaf) (.leaf))) (.leaf)) (.two (.two (.leaf) (.two (.leaf) (.leaf))) (.two (.reg [(1, { sh := [101, 102, 103], fn := 1 }), (3, { sh := [101, 102, 103], fn := 1 }), (5, { sh := [101, 102, 103], fn := 1 }), (8, { sh := [101, 102, 103], fn := 1 }), (10, { sh := [101, 102, 103], fn := 1 }), (12, { sh := [101, 102, 103], fn := 1 }), (14, { ids := [105] })]) (.two (.reg [(1, { ids := [106], sh := [101, 102, 103], fn := 2 })]) (.two (.leaf) (.two (.two (.join ⟨[1, 4, 9, 50], ⟨(.cons (.slf 1 0) (.cons (.own 0 100 0 0) (.cons (.own 0 105 0 0) (.cons (.p .bool) .nil)))), [(0, false, (.rows 5 .byte)), (100, false, (.vars (.cons (.p (.int .i64)) (.cons (.p (.int .i64)) (.cons (.p (.int .u8)) (.cons (.p (.int .i64)) (.cons (.p (.int .i64)) (.cons (.p (.int .i64)) (.cons (.nilp (.slice none 0 0)) .nil))))))))), (105, false, (.vars (.cons (.p (.int .i64)) (.cons (.p (.int .i64)) (.cons (.p (.int .u8)) (.cons (.p (.int .i64)) (.cons (.p (.int .i64)) (.cons (.p (.int .i64)) (.cons (.slf 1 106) .nil))))))))), (106, false, (.rows 5 .byte))]⟩⟩ false [] (.reg [(4, { md := [2], fn := 3 })])) (.two (.leaf) (.leaf))) (.leaf)))))))), ⟨(.cons (.pt (.int .u32)) (.cons (.slf 1 0) .nil)), [(0, false, (.rows 5 .byte))]⟩, [⟨(.cons (.agg (.cons (.p (.int .i64)) (.cons (.p (.int .i64)) (.cons (.p (.int .u8)) (.cons (.p (.int .i64)) (.cons (.p (.int .i64)) (.cons (.p (.int .i64)) (.cons (.p (.sl .byte)) .nil)))))))) (.cons (.p (.int .i64)) .nil)), [(0, false, (.rows 5 .byte))]⟩], [1, 0]⟩
def wire_GetAsk_o1_ft (fu : Nat) : FnT := ⟨13, ⟨(.cons (.pt (.int .u32)) (.cons (.slf 1 0) .nil)), [(0, false, (.rows 5 .byte))]⟩, [⟨(.cons (.agg (.cons (.p (.int .i64)) (.cons (.p (.int .i64)) (.cons (.p (.int .u8)) (.cons (.p (.int .i64)) (.cons (.p (.int .i64)) (.cons (.p (.int .i64)) (.cons (.p (.sl .byte)) .nil)))))))) (.cons (.p (.int .i64)) .nil)), [(0, false, (.rows 5 .byte))]⟩], fun t => wire_GetAsk_o1 fu t.1 t.2⟩
theorem wire_GetAsk_o1_eq (fu : Nat) : ∀ t, evF Go.Proofs.Try.prog [wire_reader_o1_ft fu, wire_reader_1_ft fu, wire_reader_2_ft fu, wire_RightAsk_ft fu] fu Go.Proofs.Try.f13 wire_GetAsk_o1_fa t = (wire_GetAsk_o1_ft fu).spec t := fun t => by kernel_rfl
theorem wire_GetAsk_o1_told (fu : Nat) : Told Go.Proofs.Try.prog (wire_GetAsk_o1_ft fu) := told_of (allT_cons (wire_reader_o1_told fu) (allT_cons (wire_reader_1_told fu) (allT_cons (wire_reader_2_told fu) (allT_cons (wire_RightAsk_told fu) allT_nil)))) mixed Go.Proofs.Try.func13 (by kernel_rfl) (by kernel_rfl) (wire_GetAsk_o1_eq fu)

def wire_GetTell_o1_l0 (fu : Nat) (r8 : (Int × (Bool × (List (UInt8) × Int)))) (x : Int) (h1 : List (UInt8)) (h2 : Int) (h3 : Int) (h4 : Int) (h5 : Int) (h6 : Int) (h7 : Bool) (h8 : List (UInt8)) (h9 : Int) (h10 : Int) (h11 : Int) (h12 : Int) (h13 : Int) (h14 : Int) (h15 : List ((Int × (Int × (Int × UInt8))))) : Option ((Int × (List (UInt8) × (Int × (Int × (Int × (Int × (Int × (Bool × (List (UInt8) × (Int × (Int × (Int × (Int × (Int × (Int × List ((Int × (Int × (Int × UInt8))))))))))))))))))) ⊕ ((List (UInt8) × (Int × (Int × (Int × (Int × (Int × (Bool × (List (UInt8) × (Int × (Int × (Int × (Int × (Int × (Int × List ((Int × (Int × (Int × UInt8)))))))))))))))))))) :=
  bif (decide (x < r8.1)) then
    (wire_reader_1 fu 1099511627776 h7 h8 h9).bind fun r9 =>
    (wire_reader_1 fu 255 r9.2.1 r9.2.2.1 r9.2.2.2).bind fun r10 =>
    (wire_reader_1 fu 1099511627776 r10.2.1 r10.2.2.1 r10.2.2.2).bind fun r11 =>
    (wire_reader_1 fu 9 r11.2.1 r11.2.2.1 r11.2.2.2).bind fun r12 =>
    (byte? (IntKind.wrap .u8 r12.1)).bind fun c =>
    need ((Nat.ble ((h15.length + 1) * 32) room) && (Nat.ble (h15.length + 1) room)) <|
    some (.inl ((IntKind.wrap .i64 (x + 1)), (h1, (h2, (h3, (h4, (h5, (h6, (r12.2.1, (r12.2.2.1, (r12.2.2.2, (h10, (h11, (h12, (h13, (h14, (h15 ++ [(r9.1, (r10.1, (r11.1, c)))])))))))))))))))))
  else
    some (.inr (h1, (h2, (h3, (h4, (h5, (h6, (h7, (h8, (h9, (h10, (h11, (h12, (h13, (h14, h15)))))))))))))))
def wire_GetTell_o1_l0_it (fu : Nat) (r8 : (Int × (Bool × (List (UInt8) × Int)))) (tt : (Int × (List (UInt8) × (Int × (Int × (Int × (Int × (Int × (Bool × (List (UInt8) × (Int × (Int × (Int × (Int × (Int × (Int × List ((Int × (Int × (Int × UInt8)))))))))))))))))))) : Option ((List (UInt8) × (Int × (Int × (Int × (Int × (Int × (Bool × (List (UInt8) × (Int × (Int × (Int × (Int × (Int × (Int × List ((Int × (Int × (Int × UInt8))))))))))))))))))) :=
  iter fu (fun tt => wire_GetTell_o1_l0 fu r8 tt.1 tt.2.1 tt.2.2.1 tt.2.2.2.1 tt.2.2.2.2.1 tt.2.2.2.2.2.1 tt.2.2.2.2.2.2.1 tt.2.2.2.2.2.2.2.1 tt.2.2.2.2.2.2.2.2.1 tt.2.2.2.2.2.2.2.2.2.1 tt.2.2.2.2.2.2.2.2.2.2.1 tt.2.2.2.2.2.2.2.2.2.2.2.1 tt.2.2.2.2.2.2.2.2.2.2.2.2.1 tt.2.2.2.2.2.2.2.2.2.2.2.2.2.1 tt.2.2.2.2.2.2.2.2.2.2.2.2.2.2.1 tt.2.2.2.2.2.2.2.2.2.2.2.2.2.2.2) tt
def wire_GetTell_o1 (fu : Nat) (t : List (Int)) (h : List (UInt8)) : Option ((Int × (Int × (Int × (Int × (List ((Int × (Int × (Int × UInt8)))) × (List (UInt8) × (Int × (Int × List (UInt8)))))))))) :=
  (wire_reader_o1 fu t 2 h).bind fun r =>
  match r with
  | .inl r1 =>
    bif (!(r1.1 == 0)) then
      some (0, (0, (0, (0, ([], ([], (0, (r1.1, r1.2))))))))
    else
      none
  | .inr r2 =>
    bif (!(r2.1 == 0)) then
      some (0, (0, (0, (0, ([], ([], (0, (r2.1, r2.2.1))))))))
    else
      (wire_reader_1 fu 1099511627776 r2.2.2.1 r2.2.2.2.1 r2.2.2.2.2).bind fun r3 =>
      (wire_reader_1 fu 1099511627776 r3.2.1 r3.2.2.1 r3.2.2.2).bind fun r4 =>
      (wire_reader_1 fu 9 r4.2.1 r4.2.2.1 r4.2.2.2).bind fun r5 =>
      (wire_reader_1 fu 1000 r5.2.1 r5.2.2.1 r5.2.2.2).bind fun r6 =>
      (wire_reader_1 fu 65536 r6.2.1 r6.2.2.1 r6.2.2.2).bind fun r7 =>
      (wire_reader_1 fu 50 r7.2.1 r7.2.2.1 r7.2.2.2).bind fun r8 =>
      (wire_GetTell_o1_l0_it fu r8 (0, (r2.2.1, (0, (0, (0, (0, (0, (r8.2.1, (r8.2.2.1, (r8.2.2.2, (r3.1, (r4.1, ((IntKind.wrap .u8 r5.1), (r6.1, (r7.1, [])))))))))))))))).bind fun o =>
      (wire_reader_2 fu o.2.2.2.2.2.2.1 o.2.2.2.2.2.2.2.1 o.2.2.2.2.2.2.2.2.1).bind fun r13 =>
      Option.bind (α := ((Bool × (List (UInt8) × (Int × (Int × (Int × (Int × (Int × (Int × (Int × (Int × (Int × (Int × (List ((Int × (Int × (Int × UInt8)))) × List (UInt8)))))))))))))))) (
        bif (!r13.1) then
          some (true, (o.1, (o.2.1, (o.2.2.1, (o.2.2.2.1, (o.2.2.2.2.1, (o.2.2.2.2.2.1, (o.2.2.2.2.2.2.2.2.2.1, (o.2.2.2.2.2.2.2.2.2.2.1, (o.2.2.2.2.2.2.2.2.2.2.2.1, (o.2.2.2.2.2.2.2.2.2.2.2.2.1, (o.2.2.2.2.2.2.2.2.2.2.2.2.2.1, (o.2.2.2.2.2.2.2.2.2.2.2.2.2.2, r13.2.2.2.2)))))))))))))
        else
          (byte? o.2.2.2.2.2.2.2.2.2.2.2.1).bind fun c1 =>
          (wire_RightTell fu (o.2.2.2.2.2.2.2.2.2.1, (o.2.2.2.2.2.2.2.2.2.2.1, (c1, (o.2.2.2.2.2.2.2.2.2.2.2.2.1, (o.2.2.2.2.2.2.2.2.2.2.2.2.2.2, (r13.2.2.2.2, o.2.2.2.2.2.2.2.2.2.2.2.2.2.1))))))).bind fun r14 =>
          some ((!r14), (o.1, (o.2.1, (o.2.2.1, (o.2.2.2.1, (o.2.2.2.2.1, (o.2.2.2.2.2.1, (o.2.2.2.2.2.2.2.2.2.1, (o.2.2.2.2.2.2.2.2.2.2.1, (o.2.2.2.2.2.2.2.2.2.2.2.1, (o.2.2.2.2.2.2.2.2.2.2.2.2.1, (o.2.2.2.2.2.2.2.2.2.2.2.2.2.1, (o.2.2.2.2.2.2.2.2.2.2.2.2.2.2, r13.2.2.2.2)))))))))))))) fun o1 =>
      bif o1.1 then
        some (0, (0, (0, (0, ([], ([], (0, (110, o1.2.1))))))))
      else
        some (o1.2.2.2.2.2.2.2.1, (o1.2.2.2.2.2.2.2.2.1, (o1.2.2.2.2.2.2.2.2.2.1, (o1.2.2.2.2.2.2.2.2.2.2.1, (o1.2.2.2.2.2.2.2.2.2.2.2.2.1, (o1.2.2.2.2.2.2.2.2.2.2.2.2.2, (o1.2.2.2.2.2.2.2.2.2.2.2.1, (0, o1.2.1))))))))
def wire_GetTell_o1_fa : FnA := ⟨.two (.reg [(0, { ids := [100] })]) (.two (.reg [(2, { ids := [101, 102, 103], sh := [0] })]) (.sel (.slot 6 (.nilp .nilFunc)) (.two (.two (.leaf) (.two (.leaf) (.leaf))) (.leaf)) (.two (.two (.leaf) (.two (.leaf) (.leaf))) (.two (.reg [(1, { sh := [101, 102, 103], fn := 1 }), (3, { sh := [101, 102, 103], fn := 1 }), (5, { sh := [101, 102, 103], fn := 1 }), (8, { sh := [101, 102, 103], fn := 1 }), (10, { sh := [101, 102, 103], fn := 1 }), (12, { ids := [105] })]) (.two (.two (.reg [(1, { sh := [101, 102, 103], fn := 1 })]) (.one (.pre (.ownCell 105 4 30 106) (.loop ⟨[1, 4, 6, 7, 9, 37], ⟨(.cons (.slf 1 0) (.cons (.own 0 100 0 0) (.cons (.fn 52 .nil (.cons (.own 0 101 0 0) (.cons (.own 0 102 0 0) (.cons (.own 0 103 0 0) .nil)))) (.cons (.fn 54 .nil (.cons (.own 0 101 0 0) (.cons (.own 0 102 0 0) (.cons (.own 0 103 0 0) .nil)))) (.cons (.own 0 105 0 0) (.cons (.p (.int .i64)) .nil)))))), [(0, false, (.rows 5 .byte)), (100, false, (.vars (.cons (.p (.int .i64)) (.cons (.p (.int .i64)) (.cons (.p (.int .u8)) (.cons (.p (.int .i64)) (.cons (.nilp (.slice none 0 0)) (.cons (.nilp (.slice none 0 0)) (.cons (.p (.int .i64)) .nil))))))))), (101, false, (.vars (.cons (.p .bool) .nil))), (102, false, (.vars (.cons (.p (.sl .byte)) .nil))), (103, false, (.vars (.cons (.p (.int .i64)) .nil))), (105, false, (.vars (.cons (.p (.int .i64)) (.cons (.p (.int .i64)) (.cons (.p (.int .u8)) (.cons (.p (.int .i64)) (.cons (.slf 4 106) (.cons (.nilp (.slice none 0 0)) (.cons (.p (.int .i64)) .nil))))))))), (106, false, (.rows 30 (.pair (.int .i64) (.pair (.int .i64) (.pair (.int .i64) .byte)))))]⟩⟩ false [(0, ⟨[1, 4, 7, 9], ⟨(.cons (.slf 1 0) (.cons (.own 0 100 0 0) (.cons (.fn 54 .nil (.cons (.own 0 101 0 0) (.cons (.own 0 102 0 0) (.cons (.own 0 103 0 0) .nil)))) (.cons (.own 0 105 0 0) .nil)))), [(0, false, (.rows 5 .byte)), (100, false, (.vars (.cons (.p (.int .i64)) (.cons (.p (.int .i64)) (.cons (.p (.int .u8)) (.cons (.p (.int .i64)) (.cons (.nilp (.slice none 0 0)) (.cons (.nilp (.slice none 0 0)) (.cons (.p (.int .i64)) .nil))))))))), (101, false, (.vars (.cons (.p .bool) .nil))), (102, false, (.vars (.cons (.p (.sl .byte)) .nil))), (103, false, (.vars (.cons (.p (.int .i64)) .nil))), (105, false, (.vars (.cons (.p (.int .i64)) (.cons (.p (.int .i64)) (.cons (.p (.int .u8)) (.cons (.p (.int .i64)) (.cons (.slf 4 106) (.cons (.nilp (.slice none 0 0)) (.cons (.p (.int .i64)) .nil))))))))), (106, false, (.rows 30 (.pair (.int .i64) (.pair (.int .i64) (.pair (.int .i64) .byte)))))]⟩⟩)] (.two (.leaf) (.two (.leaf) (.two (.one (.reg [(3, { sh := [101, 102, 103], fn := 1 }), (5, { sh := [101, 102, 103], fn := 1 }), (7, { sh := [101, 102, 103], fn := 1 }), (9, { sh := [101, 102, 103], fn := 1 }), (12, { ids := [107] }), (13, { ids := [108] })])) (.leaf)))))))) (.two (.reg [(1, { ids := [109], sh := [101, 102, 103], fn := 2 })]) (.two (.leaf) (.two (.two (.join ⟨[1, 4, 9, 68], ⟨(.cons (.slf 1 0) (.cons (.own 0 100 0 0) (.cons (.own 0 105 0 0) (.cons (.p .bool) .nil)))), [(0, false, (.rows 5 .byte)), (100, false, (.vars (.cons (.p (.int .i64)) (.cons (.p (.int .i64)) (.cons (.p (.int .u8)) (.cons (.p (.int .i64)) (.cons (.nilp (.slice none 0 0)) (.cons (.nilp (.slice none 0 0)) (.cons (.p (.int .i64)) .nil))))))))), (105, false, (.vars (.cons (.p (.int .i64)) (.cons (.p (.int .i64)) (.cons (.p (.int .u8)) (.cons (.p (.int .i64)) (.cons (.slf 4 106) (.cons (.slf 1 109) (.cons (.p (.int .i64)) .nil))))))))), (106, false, (.rows 30 (.pair (.int .i64) (.pair (.int .i64) (.pair (.int .i64) .byte))))), (109, false, (.rows 5 .byte))]⟩⟩ false [] (.reg [(4, { md := [2], fn := 3 })])) (.two (.leaf) (.leaf))) (.leaf))))))))), ⟨(.cons (.pt (.int .u32)) (.cons (.slf 1 0) .nil)), [(0, false, (.rows 5 .byte))]⟩, [⟨(.cons (.agg (.cons (.p (.int .i64)) (.cons (.p (.int .i64)) (.cons (.p (.int .u8)) (.cons (.p (.int .i64)) (.cons (.p (.sl (.pair (.int .i64) (.pair (.int .i64) (.pair (.int .i64) .byte))))) (.cons (.p (.sl .byte)) (.cons (.p (.int .i64)) .nil)))))))) (.cons (.p (.int .i64)) .nil)), [(0, false, (.rows 5 .byte))]⟩], [1, 0]⟩
def wire_GetTell_o1_ft (fu : Nat) : FnT := ⟨14, ⟨(.cons (.pt (.int .u32)) (.cons (.slf 1 0) .nil)), [(0, false, (.rows 5 .byte))]⟩, [⟨(.cons (.agg (.cons (.p (.int .i64)) (.cons (.p (.int .i64)) (.cons (.p (.int .u8)) (.cons (.p (.int .i64)) (.cons (.p (.sl (.pair (.int .i64) (.pair (.int .i64) (.pair (.int .i64) .byte))))) (.cons (.p (.sl .byte)) (.cons (.p (.int .i64)) .nil)))))))) (.cons (.p (.int .i64)) .nil)), [(0, false, (.rows 5 .byte))]⟩], fun t => wire_GetTell_o1 fu t.1 t.2⟩
theorem wire_GetTell_o1_eq (fu : Nat) : ∀ t, evF Go.Proofs.Try.prog [wire_reader_o1_ft fu, wire_reader_1_ft fu, wire_reader_2_ft fu, wire_RightTell_ft fu] fu Go.Proofs.Try.f14 wire_GetTell_o1_fa t = (wire_GetTell_o1_ft fu).spec t := fun t => by kernel_rfl
theorem wire_GetTell_o1_told (fu : Nat) : Told Go.Proofs.Try.prog (wire_GetTell_o1_ft fu) := told_of (allT_cons (wire_reader_o1_told fu) (allT_cons (wire_reader_1_told fu) (allT_cons (wire_reader_2_told fu) (allT_cons (wire_RightTell_told fu) allT_nil)))) mixed Go.Proofs.Try.func14 (by kernel_rfl) (by kernel_rfl) (wire_GetTell_o1_eq fu)

def low_CopyBytes (fu : Nat) (l : List (UInt8)) : Option (List (UInt8)) :=
  need ((Nat.ble (l.length * 1) room) && (Nat.ble l.length room)) <|
  some l
def low_CopyBytes_fa : FnA := ⟨.two (.leaf) (.two (.leaf) (.two (.reg [(2, { ids := [100] })]) (.leaf))), ⟨(.cons (.p (.sl .byte)) .nil), []⟩, [⟨(.cons (.slf 1 0) .nil), [(0, false, (.rows 5 .byte))]⟩], [0]⟩
def low_CopyBytes_ft (fu : Nat) : FnT := ⟨30, ⟨(.cons (.p (.sl .byte)) .nil), []⟩, [⟨(.cons (.slf 1 0) .nil), [(0, false, (.rows 5 .byte))]⟩], fun t => low_CopyBytes fu t⟩
theorem low_CopyBytes_eq (fu : Nat) : ∀ t, evF Go.Proofs.Try.prog [] fu Go.Proofs.Try.f30 low_CopyBytes_fa t = (low_CopyBytes_ft fu).spec t := fun t => by kernel_rfl
theorem low_CopyBytes_told (fu : Nat) : Told Go.Proofs.Try.prog (low_CopyBytes_ft fu) := told_of allT_nil mixed Go.Proofs.Try.func30 (by kernel_rfl) (by kernel_rfl) (low_CopyBytes_eq fu)

def law10_WireAny_l0 (fu : Nat) (o1 : (Bool × (List (UInt8) × (Int × (Int × (Int × (Int × (Int × (Int × (List (UInt8) × (Int × (Int × (Int × (Int × (List ((Int × (Int × (Int × UInt8)))) × (List (UInt8) × Int)))))))))))))))) (x : Int) (h : List (UInt8)) (h1 : Int) (h2 : Int) (h3 : Int) (h4 : Int) (h5 : Int) (h6 : Int) (h7 : List (UInt8)) (h8 : Int) (h9 : Int) (h10 : Int) (h11 : Int) (h12 : List ((Int × (Int × (Int × UInt8))))) (h13 : List (UInt8)) (h14 : Int) (h15 : List (UInt8)) (h16 : List (UInt8)) : Option ((Int × (List (UInt8) × (Int × (Int × (Int × (Int × (Int × (Int × (List (UInt8) × (Int × (Int × (Int × (Int × (List ((Int × (Int × (Int × UInt8)))) × (List (UInt8) × (Int × (List (UInt8) × List (UInt8)))))))))))))))))) ⊕ ((Int × (Int × (Int × (Int × (Int × (Int × (List (UInt8) × (Int × (Int × (Int × (Int × (List ((Int × (Int × (Int × UInt8)))) × (List (UInt8) × (Int × (List (UInt8) × List (UInt8)))))))))))))))))) :=
  bif (decide (x < ((o1.2.1.length : Nat) : Int))) then
    (idx? x h.length).bind fun q =>
    (h)[q]?.bind fun r10 =>
    (idx? x h.length).bind fun q1 =>
    (byte? (bitsI .xor .u8 ((r10.toNat : Nat) : Int) 255)).bind fun c4 =>
    (h)[q1]?.bind fun r11 =>
    some (.inl ((IntKind.wrap .i64 (x + 1)), ((List.set h q1 c4), (h1, (h2, (h3, (h4, (h5, (h6, (h7, (h8, (h9, (h10, (h11, (h12, (h13, (h14, (h15, h16))))))))))))))))))
  else
    some (.inr (h1, (h2, (h3, (h4, (h5, (h6, (h7, (h8, (h9, (h10, (h11, (h12, (h13, (h14, (h15, h16))))))))))))))))
def law10_WireAny_l0_it (fu : Nat) (o1 : (Bool × (List (UInt8) × (Int × (Int × (Int × (Int × (Int × (Int × (List (UInt8) × (Int × (Int × (Int × (Int × (List ((Int × (Int × (Int × UInt8)))) × (List (UInt8) × Int)))))))))))))))) (tt : (Int × (List (UInt8) × (Int × (Int × (Int × (Int × (Int × (Int × (List (UInt8) × (Int × (Int × (Int × (Int × (List ((Int × (Int × (Int × UInt8)))) × (List (UInt8) × (Int × (List (UInt8) × List (UInt8))))))))))))))))))) : Option ((Int × (Int × (Int × (Int × (Int × (Int × (List (UInt8) × (Int × (Int × (Int × (Int × (List ((Int × (Int × (Int × UInt8)))) × (List (UInt8) × (Int × (List (UInt8) × List (UInt8))))))))))))))))) :=
  iter fu (fun tt => law10_WireAny_l0 fu o1 tt.1 tt.2.1 tt.2.2.1 tt.2.2.2.1 tt.2.2.2.2.1 tt.2.2.2.2.2.1 tt.2.2.2.2.2.2.1 tt.2.2.2.2.2.2.2.1 tt.2.2.2.2.2.2.2.2.1 tt.2.2.2.2.2.2.2.2.2.1 tt.2.2.2.2.2.2.2.2.2.2.1 tt.2.2.2.2.2.2.2.2.2.2.2.1 tt.2.2.2.2.2.2.2.2.2.2.2.2.1 tt.2.2.2.2.2.2.2.2.2.2.2.2.2.1 tt.2.2.2.2.2.2.2.2.2.2.2.2.2.2.1 tt.2.2.2.2.2.2.2.2.2.2.2.2.2.2.2.1 tt.2.2.2.2.2.2.2.2.2.2.2.2.2.2.2.2.1 tt.2.2.2.2.2.2.2.2.2.2.2.2.2.2.2.2.2) tt
def law10_WireAny (fu : Nat) (b : List (UInt8)) (tell : Bool) : Option (Bool) :=
  bif (decide (((b.length : Nat) : Int) > 1000)) then
    (law10_awake fu).bind fun r =>
    some r
  else
    (bytes_Table fu).bind fun r1 =>
    need (Nat.beq (List.replicate (α := Int) 256 0).length 256) <|
    need (Nat.beq r1.length 256) <|
    Option.bind (α := ((Int × List (Int)))) (
      bif tell then
        some (2, r1)
      else
        some (1, r1)) fun o =>
    (byte? o.1).bind fun c =>
    need ((Nat.ble ((1 + b.length) * 1) room) && (Nat.ble (1 + b.length) room)) <|
    (bytes_Seal fu o.2 ([c] ++ b)).bind fun r2 =>
    (wire_GetAsk_o1 fu o.2 r2).bind fun r3 =>
    (wire_GetTell_o1 fu o.2 r3.2.2.2.2.2.2.2.2).bind fun r4 =>
    Option.bind (α := ((Bool × (List (UInt8) × (Int × (Int × (Int × (Int × (Int × (Int × (List (UInt8) × (Int × (Int × (Int × (Int × (List ((Int × (Int × (Int × UInt8)))) × (List (UInt8) × Int))))))))))))))))) (
      bif (!(r3.2.2.2.2.2.2.2.1 == 0)) then
        (byte? r3.2.2.1).bind fun c1 =>
        (low_SameAsk fu (r3.1, (r3.2.1, (c1, (r3.2.2.2.1, (r3.2.2.2.2.1, (r3.2.2.2.2.2.1, r3.2.2.2.2.2.2.1)))))) (0, (0, ((UInt8.ofNat 0), (0, (0, (0, []))))))).bind fun r5 =>
        bif (!r5) then
          some (true, (r4.2.2.2.2.2.2.2.2, (r3.1, (r3.2.1, (r3.2.2.1, (r3.2.2.2.1, (r3.2.2.2.2.1, (r3.2.2.2.2.2.1, (r3.2.2.2.2.2.2.1, (r4.1, (r4.2.1, (r4.2.2.1, (r4.2.2.2.1, (r4.2.2.2.2.1, (r4.2.2.2.2.2.1, r4.2.2.2.2.2.2.1)))))))))))))))
        else
          bif (!(r4.2.2.2.2.2.2.2.1 == 0)) then
            (byte? r4.2.2.1).bind fun c2 =>
            (low_SameTell fu (r4.1, (r4.2.1, (c2, (r4.2.2.2.1, (r4.2.2.2.2.1, (r4.2.2.2.2.2.1, r4.2.2.2.2.2.2.1)))))) (0, (0, ((UInt8.ofNat 0), (0, ([], ([], 0))))))).bind fun r6 =>
            bif (!r6) then
              some (true, (r4.2.2.2.2.2.2.2.2, (r3.1, (r3.2.1, (r3.2.2.1, (r3.2.2.2.1, (r3.2.2.2.2.1, (r3.2.2.2.2.2.1, (r3.2.2.2.2.2.2.1, (r4.1, (r4.2.1, (r4.2.2.1, (r4.2.2.2.1, (r4.2.2.2.2.1, (r4.2.2.2.2.2.1, r4.2.2.2.2.2.2.1)))))))))))))))
            else
              bif (r3.2.2.2.2.2.2.2.1 == 0) then
                bif tell then
                  some (true, (r4.2.2.2.2.2.2.2.2, (r3.1, (r3.2.1, (r3.2.2.1, (r3.2.2.2.1, (r3.2.2.2.2.1, (r3.2.2.2.2.2.1, (r3.2.2.2.2.2.2.1, (r4.1, (r4.2.1, (r4.2.2.1, (r4.2.2.2.1, (r4.2.2.2.2.1, (r4.2.2.2.2.2.1, r4.2.2.2.2.2.2.1)))))))))))))))
                else
                  bif (r4.2.2.2.2.2.2.2.1 == 0) then
                    some ((!tell), (r4.2.2.2.2.2.2.2.2, (r3.1, (r3.2.1, (r3.2.2.1, (r3.2.2.2.1, (r3.2.2.2.2.1, (r3.2.2.2.2.2.1, (r3.2.2.2.2.2.2.1, (r4.1, (r4.2.1, (r4.2.2.1, (r4.2.2.2.1, (r4.2.2.2.2.1, (r4.2.2.2.2.2.1, r4.2.2.2.2.2.2.1)))))))))))))))
                  else
                    some (false, (r4.2.2.2.2.2.2.2.2, (r3.1, (r3.2.1, (r3.2.2.1, (r3.2.2.2.1, (r3.2.2.2.2.1, (r3.2.2.2.2.2.1, (r3.2.2.2.2.2.2.1, (r4.1, (r4.2.1, (r4.2.2.1, (r4.2.2.2.1, (r4.2.2.2.2.1, (r4.2.2.2.2.2.1, r4.2.2.2.2.2.2.1)))))))))))))))
              else
                bif (r4.2.2.2.2.2.2.2.1 == 0) then
                  some ((!tell), (r4.2.2.2.2.2.2.2.2, (r3.1, (r3.2.1, (r3.2.2.1, (r3.2.2.2.1, (r3.2.2.2.2.1, (r3.2.2.2.2.2.1, (r3.2.2.2.2.2.2.1, (r4.1, (r4.2.1, (r4.2.2.1, (r4.2.2.2.1, (r4.2.2.2.2.1, (r4.2.2.2.2.2.1, r4.2.2.2.2.2.2.1)))))))))))))))
                else
                  some (false, (r4.2.2.2.2.2.2.2.2, (r3.1, (r3.2.1, (r3.2.2.1, (r3.2.2.2.1, (r3.2.2.2.2.1, (r3.2.2.2.2.2.1, (r3.2.2.2.2.2.2.1, (r4.1, (r4.2.1, (r4.2.2.1, (r4.2.2.2.1, (r4.2.2.2.2.1, (r4.2.2.2.2.2.1, r4.2.2.2.2.2.2.1)))))))))))))))
          else
            bif (r3.2.2.2.2.2.2.2.1 == 0) then
              bif tell then
                some (true, (r4.2.2.2.2.2.2.2.2, (r3.1, (r3.2.1, (r3.2.2.1, (r3.2.2.2.1, (r3.2.2.2.2.1, (r3.2.2.2.2.2.1, (r3.2.2.2.2.2.2.1, (r4.1, (r4.2.1, (r4.2.2.1, (r4.2.2.2.1, (r4.2.2.2.2.1, (r4.2.2.2.2.2.1, r4.2.2.2.2.2.2.1)))))))))))))))
              else
                bif (r4.2.2.2.2.2.2.2.1 == 0) then
                  some ((!tell), (r4.2.2.2.2.2.2.2.2, (r3.1, (r3.2.1, (r3.2.2.1, (r3.2.2.2.1, (r3.2.2.2.2.1, (r3.2.2.2.2.2.1, (r3.2.2.2.2.2.2.1, (r4.1, (r4.2.1, (r4.2.2.1, (r4.2.2.2.1, (r4.2.2.2.2.1, (r4.2.2.2.2.2.1, r4.2.2.2.2.2.2.1)))))))))))))))
                else
                  some (false, (r4.2.2.2.2.2.2.2.2, (r3.1, (r3.2.1, (r3.2.2.1, (r3.2.2.2.1, (r3.2.2.2.2.1, (r3.2.2.2.2.2.1, (r3.2.2.2.2.2.2.1, (r4.1, (r4.2.1, (r4.2.2.1, (r4.2.2.2.1, (r4.2.2.2.2.1, (r4.2.2.2.2.2.1, r4.2.2.2.2.2.2.1)))))))))))))))
            else
              bif (r4.2.2.2.2.2.2.2.1 == 0) then
                some ((!tell), (r4.2.2.2.2.2.2.2.2, (r3.1, (r3.2.1, (r3.2.2.1, (r3.2.2.2.1, (r3.2.2.2.2.1, (r3.2.2.2.2.2.1, (r3.2.2.2.2.2.2.1, (r4.1, (r4.2.1, (r4.2.2.1, (r4.2.2.2.1, (r4.2.2.2.2.1, (r4.2.2.2.2.2.1, r4.2.2.2.2.2.2.1)))))))))))))))
              else
                some (false, (r4.2.2.2.2.2.2.2.2, (r3.1, (r3.2.1, (r3.2.2.1, (r3.2.2.2.1, (r3.2.2.2.2.1, (r3.2.2.2.2.2.1, (r3.2.2.2.2.2.2.1, (r4.1, (r4.2.1, (r4.2.2.1, (r4.2.2.2.1, (r4.2.2.2.2.1, (r4.2.2.2.2.2.1, r4.2.2.2.2.2.2.1)))))))))))))))
      else
        bif (!(r4.2.2.2.2.2.2.2.1 == 0)) then
          (byte? r4.2.2.1).bind fun c3 =>
          (low_SameTell fu (r4.1, (r4.2.1, (c3, (r4.2.2.2.1, (r4.2.2.2.2.1, (r4.2.2.2.2.2.1, r4.2.2.2.2.2.2.1)))))) (0, (0, ((UInt8.ofNat 0), (0, ([], ([], 0))))))).bind fun r7 =>
          bif (!r7) then
            some (true, (r4.2.2.2.2.2.2.2.2, (r3.1, (r3.2.1, (r3.2.2.1, (r3.2.2.2.1, (r3.2.2.2.2.1, (r3.2.2.2.2.2.1, (r3.2.2.2.2.2.2.1, (r4.1, (r4.2.1, (r4.2.2.1, (r4.2.2.2.1, (r4.2.2.2.2.1, (r4.2.2.2.2.2.1, r4.2.2.2.2.2.2.1)))))))))))))))
          else
            bif (r3.2.2.2.2.2.2.2.1 == 0) then
              bif tell then
                some (true, (r4.2.2.2.2.2.2.2.2, (r3.1, (r3.2.1, (r3.2.2.1, (r3.2.2.2.1, (r3.2.2.2.2.1, (r3.2.2.2.2.2.1, (r3.2.2.2.2.2.2.1, (r4.1, (r4.2.1, (r4.2.2.1, (r4.2.2.2.1, (r4.2.2.2.2.1, (r4.2.2.2.2.2.1, r4.2.2.2.2.2.2.1)))))))))))))))
              else
                bif (r4.2.2.2.2.2.2.2.1 == 0) then
                  some ((!tell), (r4.2.2.2.2.2.2.2.2, (r3.1, (r3.2.1, (r3.2.2.1, (r3.2.2.2.1, (r3.2.2.2.2.1, (r3.2.2.2.2.2.1, (r3.2.2.2.2.2.2.1, (r4.1, (r4.2.1, (r4.2.2.1, (r4.2.2.2.1, (r4.2.2.2.2.1, (r4.2.2.2.2.2.1, r4.2.2.2.2.2.2.1)))))))))))))))
                else
                  some (false, (r4.2.2.2.2.2.2.2.2, (r3.1, (r3.2.1, (r3.2.2.1, (r3.2.2.2.1, (r3.2.2.2.2.1, (r3.2.2.2.2.2.1, (r3.2.2.2.2.2.2.1, (r4.1, (r4.2.1, (r4.2.2.1, (r4.2.2.2.1, (r4.2.2.2.2.1, (r4.2.2.2.2.2.1, r4.2.2.2.2.2.2.1)))))))))))))))
            else
              bif (r4.2.2.2.2.2.2.2.1 == 0) then
                some ((!tell), (r4.2.2.2.2.2.2.2.2, (r3.1, (r3.2.1, (r3.2.2.1, (r3.2.2.2.1, (r3.2.2.2.2.1, (r3.2.2.2.2.2.1, (r3.2.2.2.2.2.2.1, (r4.1, (r4.2.1, (r4.2.2.1, (r4.2.2.2.1, (r4.2.2.2.2.1, (r4.2.2.2.2.2.1, r4.2.2.2.2.2.2.1)))))))))))))))
              else
                some (false, (r4.2.2.2.2.2.2.2.2, (r3.1, (r3.2.1, (r3.2.2.1, (r3.2.2.2.1, (r3.2.2.2.2.1, (r3.2.2.2.2.2.1, (r3.2.2.2.2.2.2.1, (r4.1, (r4.2.1, (r4.2.2.1, (r4.2.2.2.1, (r4.2.2.2.2.1, (r4.2.2.2.2.2.1, r4.2.2.2.2.2.2.1)))))))))))))))
        else
          bif (r3.2.2.2.2.2.2.2.1 == 0) then
            bif tell then
              some (true, (r4.2.2.2.2.2.2.2.2, (r3.1, (r3.2.1, (r3.2.2.1, (r3.2.2.2.1, (r3.2.2.2.2.1, (r3.2.2.2.2.2.1, (r3.2.2.2.2.2.2.1, (r4.1, (r4.2.1, (r4.2.2.1, (r4.2.2.2.1, (r4.2.2.2.2.1, (r4.2.2.2.2.2.1, r4.2.2.2.2.2.2.1)))))))))))))))
            else
              bif (r4.2.2.2.2.2.2.2.1 == 0) then
                some ((!tell), (r4.2.2.2.2.2.2.2.2, (r3.1, (r3.2.1, (r3.2.2.1, (r3.2.2.2.1, (r3.2.2.2.2.1, (r3.2.2.2.2.2.1, (r3.2.2.2.2.2.2.1, (r4.1, (r4.2.1, (r4.2.2.1, (r4.2.2.2.1, (r4.2.2.2.2.1, (r4.2.2.2.2.2.1, r4.2.2.2.2.2.2.1)))))))))))))))
              else
                some (false, (r4.2.2.2.2.2.2.2.2, (r3.1, (r3.2.1, (r3.2.2.1, (r3.2.2.2.1, (r3.2.2.2.2.1, (r3.2.2.2.2.2.1, (r3.2.2.2.2.2.2.1, (r4.1, (r4.2.1, (r4.2.2.1, (r4.2.2.2.1, (r4.2.2.2.2.1, (r4.2.2.2.2.2.1, r4.2.2.2.2.2.2.1)))))))))))))))
          else
            bif (r4.2.2.2.2.2.2.2.1 == 0) then
              some ((!tell), (r4.2.2.2.2.2.2.2.2, (r3.1, (r3.2.1, (r3.2.2.1, (r3.2.2.2.1, (r3.2.2.2.2.1, (r3.2.2.2.2.2.1, (r3.2.2.2.2.2.2.1, (r4.1, (r4.2.1, (r4.2.2.1, (r4.2.2.2.1, (r4.2.2.2.2.1, (r4.2.2.2.2.2.1, r4.2.2.2.2.2.2.1)))))))))))))))
            else
              some (false, (r4.2.2.2.2.2.2.2.2, (r3.1, (r3.2.1, (r3.2.2.1, (r3.2.2.2.1, (r3.2.2.2.2.1, (r3.2.2.2.2.2.1, (r3.2.2.2.2.2.2.1, (r4.1, (r4.2.1, (r4.2.2.1, (r4.2.2.2.1, (r4.2.2.2.2.1, (r4.2.2.2.2.2.1, r4.2.2.2.2.2.2.1)))))))))))))))) fun o1 =>
    bif o1.1 then
      some false
    else
      (low_CopyBytes fu o1.2.2.2.2.2.2.2.2.1).bind fun r8 =>
      (low_CopyBytes fu o1.2.2.2.2.2.2.2.2.2.2.2.2.2.2.1).bind fun r9 =>
      (law10_WireAny_l0_it fu o1 (0, (o1.2.1, (o1.2.2.1, (o1.2.2.2.1, (o1.2.2.2.2.1, (o1.2.2.2.2.2.1, (o1.2.2.2.2.2.2.1, (o1.2.2.2.2.2.2.2.1, (o1.2.2.2.2.2.2.2.2.1, (o1.2.2.2.2.2.2.2.2.2.1, (o1.2.2.2.2.2.2.2.2.2.2.1, (o1.2.2.2.2.2.2.2.2.2.2.2.1, (o1.2.2.2.2.2.2.2.2.2.2.2.2.1, (o1.2.2.2.2.2.2.2.2.2.2.2.2.2.1, (o1.2.2.2.2.2.2.2.2.2.2.2.2.2.2.1, (o1.2.2.2.2.2.2.2.2.2.2.2.2.2.2.2, (r8, r9)))))))))))))))))).bind fun o2 =>
      (low_SameBytes fu o2.2.2.2.2.2.2.1 o2.2.2.2.2.2.2.2.2.2.2.2.2.2.2.1).bind fun r12 =>
      bif r12 then
        (low_SameBytes fu o2.2.2.2.2.2.2.2.2.2.2.2.2.1 o2.2.2.2.2.2.2.2.2.2.2.2.2.2.2.2).bind fun r13 =>
        bif r13 then
          (law10_awake fu).bind fun r14 =>
          some r14
        else
          some false
      else
        some false
def law10_WireAny_fa : FnA := ⟨.two (.leaf) (.two (.two (.leaf) (.two (.two (.reg [(0, {  })]) (.leaf)) (.leaf))) (.two (.reg [(0, { fn := 1 }), (1, { ids := [100] })]) (.two (.leaf) (.two (.two (.leaf) (.join ⟨[5, 6], ⟨(.cons (.own 1 100 0 0) (.cons (.p (.int .u8)) .nil)), [(100, false, (.rows 39 (.int .u32)))]⟩⟩ false [] (.leaf))) (.two (.reg [(1, { ids := [101] }), (3, { ids := [102] }), (4, { ids := [103], md := [1, 1], fn := 2 })]) (.two (.reg [(1, { sh := [103], md := [1, 0], fn := 3 }), (5, { ids := [104] })]) (.two (.reg [(1, { sh := [103], md := [1, 0], fn := 4 }), (5, { ids := [105] })]) (.two (.two (.join ⟨[7, 8, 10, 68], ⟨(.cons (.slf 1 103) (.cons (.own 0 104 0 0) (.cons (.own 0 105 0 0) (.cons (.p .bool) .nil)))), [(103, false, (.rows 5 .byte)), (104, false, (.vars (.cons (.p (.int .i64)) (.cons (.p (.int .i64)) (.cons (.p (.int .u8)) (.cons (.p (.int .i64)) (.cons (.p (.int .i64)) (.cons (.p (.int .i64)) (.cons (.p (.sl .byte)) .nil))))))))), (105, false, (.vars (.cons (.p (.int .i64)) (.cons (.p (.int .i64)) (.cons (.p (.int .u8)) (.cons (.p (.int .i64)) (.cons (.p (.sl (.pair (.int .i64) (.pair (.int .i64) (.pair (.int .i64) .byte))))) (.cons (.p (.sl .byte)) (.cons (.p (.int .i64)) .nil)))))))))]⟩⟩ false [] (.reg [(5, { fn := 5 }), (14, { fn := 6 })])) (.two (.leaf) (.leaf))) (.two (.reg [(2, { ids := [106], fn := 7 }), (5, { ids := [107], fn := 7 })]) (.two (.two (.leaf) (.one (.loop ⟨[7, 8, 10, 12, 13, 77], ⟨(.cons (.slf 1 103) (.cons (.own 0 104 0 0) (.cons (.own 0 105 0 0) (.cons (.slf 1 106) (.cons (.slf 1 107) (.cons (.p (.int .i64)) .nil)))))), [(103, false, (.rows 5 .byte)), (104, false, (.vars (.cons (.p (.int .i64)) (.cons (.p (.int .i64)) (.cons (.p (.int .u8)) (.cons (.p (.int .i64)) (.cons (.p (.int .i64)) (.cons (.p (.int .i64)) (.cons (.p (.sl .byte)) .nil))))))))), (105, false, (.vars (.cons (.p (.int .i64)) (.cons (.p (.int .i64)) (.cons (.p (.int .u8)) (.cons (.p (.int .i64)) (.cons (.p (.sl (.pair (.int .i64) (.pair (.int .i64) (.pair (.int .i64) .byte))))) (.cons (.p (.sl .byte)) (.cons (.p (.int .i64)) .nil))))))))), (106, false, (.rows 5 .byte)), (107, false, (.rows 5 .byte))]⟩⟩ false [(0, ⟨[8, 10, 12, 13], ⟨(.cons (.own 0 104 0 0) (.cons (.own 0 105 0 0) (.cons (.slf 1 106) (.cons (.slf 1 107) .nil)))), [(104, false, (.vars (.cons (.p (.int .i64)) (.cons (.p (.int .i64)) (.cons (.p (.int .u8)) (.cons (.p (.int .i64)) (.cons (.p (.int .i64)) (.cons (.p (.int .i64)) (.cons (.p (.sl .byte)) .nil))))))))), (105, false, (.vars (.cons (.p (.int .i64)) (.cons (.p (.int .i64)) (.cons (.p (.int .u8)) (.cons (.p (.int .i64)) (.cons (.p (.sl (.pair (.int .i64) (.pair (.int .i64) (.pair (.int .i64) .byte))))) (.cons (.p (.sl .byte)) (.cons (.p (.int .i64)) .nil))))))))), (106, false, (.rows 5 .byte)), (107, false, (.rows 5 .byte))]⟩⟩)] (.two (.leaf) (.two (.leaf) (.two (.one (.leaf)) (.leaf))))))) (.two (.reg [(3, { md := [0, 2], fn := 8 }), (8, { md := [0, 2], fn := 8 }), (11, {  })]) (.leaf)))))))))))), ⟨(.cons (.p (.sl .byte)) (.cons (.p .bool) .nil)), []⟩, [⟨(.cons (.p .bool) .nil), []⟩], [0]⟩
def law10_WireAny_ft (fu : Nat) : FnT := ⟨8, ⟨(.cons (.p (.sl .byte)) (.cons (.p .bool) .nil)), []⟩, [⟨(.cons (.p .bool) .nil), []⟩], fun t => law10_WireAny fu t.1 t.2⟩
theorem law10_WireAny_eq (fu : Nat) : ∀ t, evF Go.Proofs.Try.prog [law10_awake_ft fu, bytes_Table_ft fu, bytes_Seal_ft fu, wire_GetAsk_o1_ft fu, wire_GetTell_o1_ft fu, low_SameAsk_ft fu, low_SameTell_ft fu, low_CopyBytes_ft fu, low_SameBytes_ft fu] fu Go.Proofs.Try.f8 law10_WireAny_fa t = (law10_WireAny_ft fu).spec t := fun t => by kernel_rfl
theorem law10_WireAny_told (fu : Nat) : Told Go.Proofs.Try.prog (law10_WireAny_ft fu) := told_of (allT_cons (law10_awake_told fu) (allT_cons (bytes_Table_told fu) (allT_cons (bytes_Seal_told fu) (allT_cons (wire_GetAsk_o1_told fu) (allT_cons (wire_GetTell_o1_told fu) (allT_cons (low_SameAsk_told fu) (allT_cons (low_SameTell_told fu) (allT_cons (low_CopyBytes_told fu) (allT_cons (low_SameBytes_told fu) allT_nil))))))))) mixed Go.Proofs.Try.func8 (by kernel_rfl) (by kernel_rfl) (law10_WireAny_eq fu)
end
end Go.Ab.D
