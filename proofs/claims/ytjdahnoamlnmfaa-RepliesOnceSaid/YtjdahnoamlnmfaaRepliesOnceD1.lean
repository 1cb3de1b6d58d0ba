/- Functions of the program as plain Lean functions: each equation is checked by the kernel; what is told of a function follows from it. -/
import Derived.Test.YtjdahnoamlnmfaaE4
import Derived.Test.YtjdahnoamlnmfaaProg
import Derived.KernelRfl
namespace Go.Proofs
open Go.Shelf
def Try.ins28_ren : Go.Shelf.Ren := ⟨fun | 22 => 28 | 29 => 44 | 30 => 45 | 36 => 51 | 17 => 54 | n => n, fun | 24 => 22 | 9 => 58 | 3 => 3 | 4 => 4 | 0 => 0 | n => n, fun | n => n⟩
theorem Try.ins28 : Go.Proofs.InsLay Try.prog Try.ins28_ren := {
  mixed := by kernel_rfl
  f22 := ⟨Try.f28.name, by decide, Try.func28.trans (congrArg some (by kernel_rfl))⟩
  x29 := by kernel_rfl
  t0 := Try.underlying0
  a0 := Try.isAgg0
  z0 := Try.sizeOf0
  v0 := Try.zeroValue0
  t3 := Try.underlying3
  a3 := Try.isAgg3
  z3 := Try.sizeOf3
  v3 := Try.zeroValue3
  t4 := Try.underlying4
  a4 := Try.isAgg4
  z4 := Try.sizeOf4
  v4 := Try.zeroValue4
  t24 := Try.underlying22
  a24 := Try.isAgg22
  z24 := Try.sizeOf22
  v24 := Try.zeroValue22 }
end Go.Proofs
namespace Go.Proofs
open Go.Shelf
def Try.ins29_ren : Go.Shelf.Ren := ⟨fun | 22 => 29 | 29 => 46 | 30 => 47 | 36 => 52 | 17 => 55 | n => n, fun | 24 => 56 | 9 => 31 | 3 => 3 | 4 => 4 | 0 => 0 | n => n, fun | n => n⟩
theorem Try.ins29 : Go.Proofs.InsLay Try.prog Try.ins29_ren := {
  mixed := by kernel_rfl
  f22 := ⟨Try.f29.name, by decide, Try.func29.trans (congrArg some (by kernel_rfl))⟩
  x29 := by kernel_rfl
  t0 := Try.underlying0
  a0 := Try.isAgg0
  z0 := Try.sizeOf0
  v0 := Try.zeroValue0
  t3 := Try.underlying3
  a3 := Try.isAgg3
  z3 := Try.sizeOf3
  v3 := Try.zeroValue3
  t4 := Try.underlying4
  a4 := Try.isAgg4
  z4 := Try.sizeOf4
  v4 := Try.zeroValue4
  t24 := Try.underlying56
  a24 := Try.isAgg56
  z24 := Try.sizeOf56
  v24 := Try.zeroValue56 }
end Go.Proofs
namespace Go.Proofs
open Go.Shelf
def Try.del30_ren : Go.Shelf.Ren := ⟨fun | 24 => 30 | n => n, fun | 24 => 56 | 9 => 31 | 3 => 3 | 4 => 4 | 0 => 0 | n => n, fun | n => n⟩
theorem Try.del30 : Go.Proofs.DelLay Try.prog Try.del30_ren := {
  mixed := by kernel_rfl
  f24 := ⟨Try.f30.name, by decide, Try.func30.trans (congrArg some (by kernel_rfl))⟩
  t0 := Try.underlying0
  a0 := Try.isAgg0
  z0 := Try.sizeOf0
  v0 := Try.zeroValue0
  t3 := Try.underlying3
  a3 := Try.isAgg3
  z3 := Try.sizeOf3
  v3 := Try.zeroValue3
  t4 := Try.underlying4
  a4 := Try.isAgg4
  z4 := Try.sizeOf4
  v4 := Try.zeroValue4
  t24 := Try.underlying56
  a24 := Try.isAgg56
  z24 := Try.sizeOf56
  v24 := Try.zeroValue56 }
end Go.Proofs
set_option linter.all false
set_option maxRecDepth 100000
set_option maxHeartbeats 4000000
namespace Go.Ab.D
open Go Go.Ab
noncomputable section
theorem mixed : Go.Proofs.Try.prog.follows .mixedOrders = true := by kernel_rfl
def law21_Huge_l0 (fu : Nat) (o : (Bool × (Int × (Int × (Int × (Int × (Int × (Bool × (Int × (List (UInt8) × (List ((List UInt8 × Int)) × (Bool × Int)))))))))))) (x : Int) (h : Int) (h1 : Int) (h2 : Int) (h3 : Int) (h4 : Int) (h5 : Bool) (h6 : Int) (h7 : List (UInt8)) (h8 : List ((List UInt8 × Int))) (h9 : Bool) (h10 : Int) : Option ((Int × (Int × (Int × (Int × (Int × (Int × (Bool × (Int × (List (UInt8) × (List ((List UInt8 × Int)) × (Bool × Int))))))))))) ⊕ (Unit ⊕ Bool)) :=
  bif (decide (x < ((o.2.2.2.2.2.2.2.2.2.1.length : Nat) : Int))) then
    (idx? x h8.length).bind fun q =>
    (h8)[q]?.bind fun r1 =>
    bif (decide (((r1.1.length : Nat) : Int) > 3000)) then
      some (.inr (.inr true))
    else
      some (.inl ((IntKind.wrap .i64 (x + 1)), (h, (h1, (h2, (h3, (h4, (h5, (h6, (h7, (h8, (h9, h10))))))))))))
  else
    some (.inr (.inl ()))
def law21_Huge_l0_it (fu : Nat) (o : (Bool × (Int × (Int × (Int × (Int × (Int × (Bool × (Int × (List (UInt8) × (List ((List UInt8 × Int)) × (Bool × Int)))))))))))) (tt : (Int × (Int × (Int × (Int × (Int × (Int × (Bool × (Int × (List (UInt8) × (List ((List UInt8 × Int)) × (Bool × Int)))))))))))) : Option (Unit ⊕ Bool) :=
  iter fu (fun tt => law21_Huge_l0 fu o tt.1 tt.2.1 tt.2.2.1 tt.2.2.2.1 tt.2.2.2.2.1 tt.2.2.2.2.2.1 tt.2.2.2.2.2.2.1 tt.2.2.2.2.2.2.2.1 tt.2.2.2.2.2.2.2.2.1 tt.2.2.2.2.2.2.2.2.2.1 tt.2.2.2.2.2.2.2.2.2.2.1 tt.2.2.2.2.2.2.2.2.2.2.2) tt
def law21_Huge (fu : Nat) (c : (Int × (Int × (UInt8 × ((Int × Int) × (List UInt8 × ((Int × Int) × (List UInt8 × (Int × (Int × List (UInt8))))))))))) (r : (Int × (Int × (Int × ((Int × Int) × (Bool × (Int × (List (UInt8) × (List ((List UInt8 × Int)) × (Bool × Int)))))))))) : Option (Bool) :=
  Option.bind (α := ((Bool × (Int × (Int × (Int × (Int × (Int × (Bool × (Int × (List (UInt8) × (List ((List UInt8 × Int)) × (Bool × Int))))))))))))) (
    bif (decide (((c.2.2.2.2.1.length : Nat) : Int) > 3000)) then
      some (true, (r.1, (r.2.1, (r.2.2.1, (r.2.2.2.1.1, (r.2.2.2.1.2, (r.2.2.2.2.1, (r.2.2.2.2.2.1, (r.2.2.2.2.2.2.1, (r.2.2.2.2.2.2.2.1, (r.2.2.2.2.2.2.2.2.1, r.2.2.2.2.2.2.2.2.2)))))))))))
    else
      bif (decide (((c.2.2.2.2.2.2.1.length : Nat) : Int) > 3000)) then
        some (true, (r.1, (r.2.1, (r.2.2.1, (r.2.2.2.1.1, (r.2.2.2.1.2, (r.2.2.2.2.1, (r.2.2.2.2.2.1, (r.2.2.2.2.2.2.1, (r.2.2.2.2.2.2.2.1, (r.2.2.2.2.2.2.2.2.1, r.2.2.2.2.2.2.2.2.2)))))))))))
      else
        bif (decide (((c.2.2.2.2.2.2.2.2.2.length : Nat) : Int) > 5000)) then
          some (true, (r.1, (r.2.1, (r.2.2.1, (r.2.2.2.1.1, (r.2.2.2.1.2, (r.2.2.2.2.1, (r.2.2.2.2.2.1, (r.2.2.2.2.2.2.1, (r.2.2.2.2.2.2.2.1, (r.2.2.2.2.2.2.2.2.1, r.2.2.2.2.2.2.2.2.2)))))))))))
        else
          bif (decide (((r.2.2.2.2.2.2.1.length : Nat) : Int) > 5000)) then
            some (true, (r.1, (r.2.1, (r.2.2.1, (r.2.2.2.1.1, (r.2.2.2.1.2, (r.2.2.2.2.1, (r.2.2.2.2.2.1, (r.2.2.2.2.2.2.1, (r.2.2.2.2.2.2.2.1, (r.2.2.2.2.2.2.2.2.1, r.2.2.2.2.2.2.2.2.2)))))))))))
          else
            some ((decide (((r.2.2.2.2.2.2.2.1.length : Nat) : Int) > 120)), (r.1, (r.2.1, (r.2.2.1, (r.2.2.2.1.1, (r.2.2.2.1.2, (r.2.2.2.2.1, (r.2.2.2.2.2.1, (r.2.2.2.2.2.2.1, (r.2.2.2.2.2.2.2.1, (r.2.2.2.2.2.2.2.2.1, r.2.2.2.2.2.2.2.2.2)))))))))))) fun o =>
  bif o.1 then
    some true
  else
    (law21_Huge_l0_it fu o (0, (o.2.1, (o.2.2.1, (o.2.2.2.1, (o.2.2.2.2.1, (o.2.2.2.2.2.1, (o.2.2.2.2.2.2.1, (o.2.2.2.2.2.2.2.1, (o.2.2.2.2.2.2.2.2.1, (o.2.2.2.2.2.2.2.2.2.1, (o.2.2.2.2.2.2.2.2.2.2.1, o.2.2.2.2.2.2.2.2.2.2.2)))))))))))).bind fun o1 =>
    match o1 with
    | .inl s =>
      some false
    | .inr o2 =>
      some o2
def law21_Huge_fa : FnA := ⟨.two (.reg [(0, { ids := [100] }), (1, { ids := [101] })]) (.two (.two (.join ⟨[3, 33], ⟨(.cons (.own 0 101 0 0) (.cons (.p .bool) .nil)), [(101, false, (.vars (.cons (.p (.int .i64)) (.cons (.p (.int .i64)) (.cons (.p (.int .i64)) (.cons (.p (.int .i64)) (.cons (.p (.int .i64)) (.cons (.p .bool) (.cons (.p (.int .i64)) (.cons (.p (.sl .byte)) (.cons (.p (.sl (.pair .str (.int .i64)))) (.cons (.p .bool) (.cons (.p (.int .i64)) .nil)))))))))))))]⟩⟩ false [] (.leaf)) (.two (.leaf) (.leaf))) (.two (.two (.leaf) (.one (.loop ⟨[3, 37], ⟨(.cons (.own 0 101 0 0) (.cons (.p (.int .i64)) .nil)), [(101, false, (.vars (.cons (.p (.int .i64)) (.cons (.p (.int .i64)) (.cons (.p (.int .i64)) (.cons (.p (.int .i64)) (.cons (.p (.int .i64)) (.cons (.p .bool) (.cons (.p (.int .i64)) (.cons (.p (.sl .byte)) (.cons (.p (.sl (.pair .str (.int .i64)))) (.cons (.p .bool) (.cons (.p (.int .i64)) .nil)))))))))))))]⟩⟩ true [(0, ⟨[], ⟨.nil, []⟩⟩)] (.two (.leaf) (.two (.leaf) (.two (.one (.two (.leaf) (.two (.leaf) (.two (.leaf) (.leaf))))) (.leaf))))))) (.leaf))), ⟨(.cons (.p (.pair (.int .i64) (.pair (.int .i64) (.pair .byte (.pair (.pair (.int .i64) (.int .i64)) (.pair .str (.pair (.pair (.int .i64) (.int .i64)) (.pair .str (.pair (.int .i64) (.pair (.int .i64) (.sl .byte))))))))))) (.cons (.p (.pair (.int .i64) (.pair (.int .i64) (.pair (.int .i64) (.pair (.pair (.int .i64) (.int .i64)) (.pair .bool (.pair (.int .i64) (.pair (.sl .byte) (.pair (.sl (.pair .str (.int .i64))) (.pair .bool (.int .i64))))))))))) .nil)), []⟩, [⟨(.cons (.p .bool) .nil), []⟩], [0]⟩
def law21_Huge_ft (fu : Nat) : FnT := ⟨7, ⟨(.cons (.p (.pair (.int .i64) (.pair (.int .i64) (.pair .byte (.pair (.pair (.int .i64) (.int .i64)) (.pair .str (.pair (.pair (.int .i64) (.int .i64)) (.pair .str (.pair (.int .i64) (.pair (.int .i64) (.sl .byte))))))))))) (.cons (.p (.pair (.int .i64) (.pair (.int .i64) (.pair (.int .i64) (.pair (.pair (.int .i64) (.int .i64)) (.pair .bool (.pair (.int .i64) (.pair (.sl .byte) (.pair (.sl (.pair .str (.int .i64))) (.pair .bool (.int .i64))))))))))) .nil)), []⟩, [⟨(.cons (.p .bool) .nil), []⟩], fun t => law21_Huge fu t.1 t.2⟩
theorem law21_Huge_eq (fu : Nat) : ∀ t, evF Go.Proofs.Try.prog [] fu Go.Proofs.Try.f7 law21_Huge_fa t = (law21_Huge_ft fu).spec t := fun t => by kernel_rfl
theorem law21_Huge_told (fu : Nat) : Told Go.Proofs.Try.prog (law21_Huge_ft fu) := told_of allT_nil mixed Go.Proofs.Try.func7 (by kernel_rfl) (by kernel_rfl) (law21_Huge_eq fu)

def replies_New (fu : Nat) (window : Int) : Option ((Int × Int)) :=
  Option.bind (α := ((Bool × Int))) (
    bif (decide (window < 1)) then
      some (true, 0)
    else
      some ((decide (window > 100)), 0)) fun o =>
  bif o.1 then
    some (0, 2)
  else
    some (window, 0)
def replies_New_fa : FnA := ⟨.two (.reg [(0, { ids := [100] })]) (.two (.two (.join ⟨[2, 9], ⟨(.cons (.own 0 100 0 0) (.cons (.p .bool) .nil)), [(100, false, (.vars (.cons (.p (.int .i64)) (.cons (.nilp (.slice none 0 0)) .nil))))]⟩⟩ false [] (.leaf)) (.two (.leaf) (.leaf))) (.leaf)), ⟨(.cons (.p (.int .i64)) .nil), []⟩, [⟨(.cons (.agg (.cons (.p (.int .i64)) (.cons (.nilp (.slice none 0 0)) .nil))) (.cons (.p (.int .i64)) .nil)), []⟩], [0, 0]⟩
def replies_New_ft (fu : Nat) : FnT := ⟨9, ⟨(.cons (.p (.int .i64)) .nil), []⟩, [⟨(.cons (.agg (.cons (.p (.int .i64)) (.cons (.nilp (.slice none 0 0)) .nil))) (.cons (.p (.int .i64)) .nil)), []⟩], fun t => replies_New fu t⟩
theorem replies_New_eq (fu : Nat) : ∀ t, evF Go.Proofs.Try.prog [] fu Go.Proofs.Try.f9 replies_New_fa t = (replies_New_ft fu).spec t := fun t => by kernel_rfl
theorem replies_New_told (fu : Nat) : Told Go.Proofs.Try.prog (replies_New_ft fu) := told_of allT_nil mixed Go.Proofs.Try.func9 (by kernel_rfl) (by kernel_rfl) (replies_New_eq fu)

def call_whose (fu : Nat) (client : Int) (xid : Int) : Option (Bool) :=
  bif (decide (client ≥ 0)) then
    bif (decide (client < 16)) then
      bif (decide (xid ≥ 1)) then
        some (decide (xid ≤ 1099511627776))
      else
        some false
    else
      some false
  else
    some false
def call_whose_fa : FnA := ⟨.two (.leaf) (.leaf), ⟨(.cons (.p (.int .i64)) (.cons (.p (.int .i64)) .nil)), []⟩, [⟨(.cons (.p .bool) .nil), []⟩], [0]⟩
def call_whose_ft (fu : Nat) : FnT := ⟨42, ⟨(.cons (.p (.int .i64)) (.cons (.p (.int .i64)) .nil)), []⟩, [⟨(.cons (.p .bool) .nil), []⟩], fun t => call_whose fu t.1 t.2⟩
theorem call_whose_eq (fu : Nat) : ∀ t, evF Go.Proofs.Try.prog [] fu Go.Proofs.Try.f42 call_whose_fa t = (call_whose_ft fu).spec t := fun t => by kernel_rfl
theorem call_whose_told (fu : Nat) : Told Go.Proofs.Try.prog (call_whose_ft fu) := told_of allT_nil mixed Go.Proofs.Try.func42 (by kernel_rfl) (by kernel_rfl) (call_whose_eq fu)

def handle_Right (fu : Nat) (h : (Int × Int)) : Option (Bool) :=
  bif (decide (h.1 ≥ 1)) then
    bif (decide (h.1 ≤ 500)) then
      bif (decide (h.2 ≥ 1)) then
        some (decide (h.2 ≤ 1099511627776))
      else
        some false
    else
      some false
  else
    some false
def handle_Right_fa : FnA := ⟨.two (.reg [(0, { ids := [100] })]) (.leaf), ⟨(.cons (.p (.pair (.int .i64) (.int .i64))) .nil), []⟩, [⟨(.cons (.p .bool) .nil), []⟩], [0]⟩
def handle_Right_ft (fu : Nat) : FnT := ⟨43, ⟨(.cons (.p (.pair (.int .i64) (.int .i64))) .nil), []⟩, [⟨(.cons (.p .bool) .nil), []⟩], fun t => handle_Right fu t⟩
theorem handle_Right_eq (fu : Nat) : ∀ t, evF Go.Proofs.Try.prog [] fu Go.Proofs.Try.f43 handle_Right_fa t = (handle_Right_ft fu).spec t := fun t => by kernel_rfl
theorem handle_Right_told (fu : Nat) : Told Go.Proofs.Try.prog (handle_Right_ft fu) := told_of allT_nil mixed Go.Proofs.Try.func43 (by kernel_rfl) (by kernel_rfl) (handle_Right_eq fu)

def call_RightReply_l0 (fu : Nat) (o2 : (Bool × (Int × (Int × (Int × (Int × (Int × (Bool × (Int × (List (UInt8) × (List ((List UInt8 × Int)) × (Bool × Int)))))))))))) (x : Int) (h : Int) (h1 : Int) (h2 : Int) (h3 : Int) (h4 : Int) (h5 : Bool) (h6 : Int) (h7 : List (UInt8)) (h8 : List ((List UInt8 × Int))) (h9 : Bool) (h10 : Int) : Option ((Int × (Int × (Int × (Int × (Int × (Int × (Bool × (Int × (List (UInt8) × (List ((List UInt8 × Int)) × (Bool × Int))))))))))) ⊕ ((Int × (Int × (Int × (Int × (Int × (Bool × (Int × (List (UInt8) × (List ((List UInt8 × Int)) × (Bool × Int)))))))))) ⊕ Bool)) :=
  bif (decide (x < ((o2.2.2.2.2.2.2.2.2.2.1.length : Nat) : Int))) then
    (idx? x o2.2.2.2.2.2.2.2.2.2.1.length).bind fun q =>
    (o2.2.2.2.2.2.2.2.2.2.1)[q]?.bind fun r3 =>
    Option.bind (α := ((Bool × (Int × (Int × (Int × (Int × (Int × (Bool × (Int × (List (UInt8) × (List ((List UInt8 × Int)) × (Bool × Int))))))))))))) (
      bif (decide (((r3.1.length : Nat) : Int) < 1)) then
        some (true, (h, (h1, (h2, (h3, (h4, (h5, (h6, (h7, (h8, (h9, h10)))))))))))
      else
        bif (decide (((r3.1.length : Nat) : Int) > 100)) then
          some (true, (h, (h1, (h2, (h3, (h4, (h5, (h6, (h7, (h8, (h9, h10)))))))))))
        else
          bif (decide (r3.2 < 1)) then
            some (true, (h, (h1, (h2, (h3, (h4, (h5, (h6, (h7, (h8, (h9, h10)))))))))))
          else
            some ((decide (r3.2 > 500)), (h, (h1, (h2, (h3, (h4, (h5, (h6, (h7, (h8, (h9, h10)))))))))))) fun o3 =>
    bif o3.1 then
      some (.inr (.inr false))
    else
      some (.inl ((IntKind.wrap .i64 (x + 1)), (o3.2.1, (o3.2.2.1, (o3.2.2.2.1, (o3.2.2.2.2.1, (o3.2.2.2.2.2.1, (o3.2.2.2.2.2.2.1, (o3.2.2.2.2.2.2.2.1, (o3.2.2.2.2.2.2.2.2.1, (o3.2.2.2.2.2.2.2.2.2.1, (o3.2.2.2.2.2.2.2.2.2.2.1, o3.2.2.2.2.2.2.2.2.2.2.2))))))))))))
  else
    some (.inr (.inl (h, (h1, (h2, (h3, (h4, (h5, (h6, (h7, (h8, (h9, h10))))))))))))
def call_RightReply_l0_it (fu : Nat) (o2 : (Bool × (Int × (Int × (Int × (Int × (Int × (Bool × (Int × (List (UInt8) × (List ((List UInt8 × Int)) × (Bool × Int)))))))))))) (tt : (Int × (Int × (Int × (Int × (Int × (Int × (Bool × (Int × (List (UInt8) × (List ((List UInt8 × Int)) × (Bool × Int)))))))))))) : Option ((Int × (Int × (Int × (Int × (Int × (Bool × (Int × (List (UInt8) × (List ((List UInt8 × Int)) × (Bool × Int)))))))))) ⊕ Bool) :=
  iter fu (fun tt => call_RightReply_l0 fu o2 tt.1 tt.2.1 tt.2.2.1 tt.2.2.2.1 tt.2.2.2.2.1 tt.2.2.2.2.2.1 tt.2.2.2.2.2.2.1 tt.2.2.2.2.2.2.2.1 tt.2.2.2.2.2.2.2.2.1 tt.2.2.2.2.2.2.2.2.2.1 tt.2.2.2.2.2.2.2.2.2.2.1 tt.2.2.2.2.2.2.2.2.2.2.2) tt
def call_RightReply (fu : Nat) (r : (Int × (Int × (Int × ((Int × Int) × (Bool × (Int × (List (UInt8) × (List ((List UInt8 × Int)) × (Bool × Int)))))))))) : Option (Bool) :=
  Option.bind (α := ((Bool × (Int × (Int × (Int × (Int × (Int × (Bool × (Int × (List (UInt8) × (List ((List UInt8 × Int)) × (Bool × Int))))))))))))) (
    (call_whose fu r.1 r.2.1).bind fun r1 =>
    bif (!r1) then
      some (true, (r.1, (r.2.1, (r.2.2.1, (r.2.2.2.1.1, (r.2.2.2.1.2, (r.2.2.2.2.1, (r.2.2.2.2.2.1, (r.2.2.2.2.2.2.1, (r.2.2.2.2.2.2.2.1, (r.2.2.2.2.2.2.2.2.1, r.2.2.2.2.2.2.2.2.2)))))))))))
    else
      bif (decide (r.2.2.1 < 0)) then
        some (true, (r.1, (r.2.1, (r.2.2.1, (r.2.2.2.1.1, (r.2.2.2.1.2, (r.2.2.2.2.1, (r.2.2.2.2.2.1, (r.2.2.2.2.2.2.1, (r.2.2.2.2.2.2.2.1, (r.2.2.2.2.2.2.2.2.1, r.2.2.2.2.2.2.2.2.2)))))))))))
      else
        some ((decide (r.2.2.1 > 1000)), (r.1, (r.2.1, (r.2.2.1, (r.2.2.2.1.1, (r.2.2.2.1.2, (r.2.2.2.2.1, (r.2.2.2.2.2.1, (r.2.2.2.2.2.2.1, (r.2.2.2.2.2.2.2.1, (r.2.2.2.2.2.2.2.2.1, r.2.2.2.2.2.2.2.2.2)))))))))))) fun o =>
  bif o.1 then
    some false
  else
    bif (!(o.2.2.2.1 == 0)) then
      Option.bind (α := (Bool)) (
        bif ((r.2.2.2.1.1 == 0) && (r.2.2.2.1.2 == 0)) then
          bif (!o.2.2.2.2.2.2.1) then
            bif (!o.2.2.2.2.2.2.2.2.2.2.1) then
              bif (o.2.2.2.2.2.2.2.1 == 0) then
                bif (o.2.2.2.2.2.2.2.2.2.2.2 == 0) then
                  some ((IntKind.wrap .i64 (((o.2.2.2.2.2.2.2.2.1.length : Nat) : Int) + ((o.2.2.2.2.2.2.2.2.2.1.length : Nat) : Int))) == 0)
                else
                  some false
              else
                some false
            else
              some false
          else
            some false
        else
          some false) fun o1 =>
      some o1
    else
      Option.bind (α := ((Bool × (Int × (Int × (Int × (Int × (Int × (Bool × (Int × (List (UInt8) × (List ((List UInt8 × Int)) × (Bool × Int))))))))))))) (
        bif (!((r.2.2.2.1.1 == 0) && (r.2.2.2.1.2 == 0))) then
          (handle_Right fu (o.2.2.2.2.1, o.2.2.2.2.2.1)).bind fun r2 =>
          bif (!r2) then
            some (true, (o.2.1, (o.2.2.1, (o.2.2.2.1, (o.2.2.2.2.1, (o.2.2.2.2.2.1, (o.2.2.2.2.2.2.1, (o.2.2.2.2.2.2.2.1, (o.2.2.2.2.2.2.2.2.1, (o.2.2.2.2.2.2.2.2.2.1, (o.2.2.2.2.2.2.2.2.2.2.1, o.2.2.2.2.2.2.2.2.2.2.2)))))))))))
          else
            bif (decide (o.2.2.2.2.2.2.2.1 < 0)) then
              some (true, (o.2.1, (o.2.2.1, (o.2.2.2.1, (o.2.2.2.2.1, (o.2.2.2.2.2.1, (o.2.2.2.2.2.2.1, (o.2.2.2.2.2.2.2.1, (o.2.2.2.2.2.2.2.2.1, (o.2.2.2.2.2.2.2.2.2.1, (o.2.2.2.2.2.2.2.2.2.2.1, o.2.2.2.2.2.2.2.2.2.2.2)))))))))))
            else
              bif (decide (o.2.2.2.2.2.2.2.1 > 65536)) then
                some (true, (o.2.1, (o.2.2.1, (o.2.2.2.1, (o.2.2.2.2.1, (o.2.2.2.2.2.1, (o.2.2.2.2.2.2.1, (o.2.2.2.2.2.2.2.1, (o.2.2.2.2.2.2.2.2.1, (o.2.2.2.2.2.2.2.2.2.1, (o.2.2.2.2.2.2.2.2.2.2.1, o.2.2.2.2.2.2.2.2.2.2.2)))))))))))
              else
                bif (decide (o.2.2.2.2.2.2.2.2.2.2.2 < 0)) then
                  some (true, (o.2.1, (o.2.2.1, (o.2.2.2.1, (o.2.2.2.2.1, (o.2.2.2.2.2.1, (o.2.2.2.2.2.2.1, (o.2.2.2.2.2.2.2.1, (o.2.2.2.2.2.2.2.2.1, (o.2.2.2.2.2.2.2.2.2.1, (o.2.2.2.2.2.2.2.2.2.2.1, o.2.2.2.2.2.2.2.2.2.2.2)))))))))))
                else
                  some ((decide (o.2.2.2.2.2.2.2.2.2.2.2 > 1099511627776)), (o.2.1, (o.2.2.1, (o.2.2.2.1, (o.2.2.2.2.1, (o.2.2.2.2.2.1, (o.2.2.2.2.2.2.1, (o.2.2.2.2.2.2.2.1, (o.2.2.2.2.2.2.2.2.1, (o.2.2.2.2.2.2.2.2.2.1, (o.2.2.2.2.2.2.2.2.2.2.1, o.2.2.2.2.2.2.2.2.2.2.2)))))))))))
        else
          bif (decide (o.2.2.2.2.2.2.2.1 < 0)) then
            some (true, (o.2.1, (o.2.2.1, (o.2.2.2.1, (o.2.2.2.2.1, (o.2.2.2.2.2.1, (o.2.2.2.2.2.2.1, (o.2.2.2.2.2.2.2.1, (o.2.2.2.2.2.2.2.2.1, (o.2.2.2.2.2.2.2.2.2.1, (o.2.2.2.2.2.2.2.2.2.2.1, o.2.2.2.2.2.2.2.2.2.2.2)))))))))))
          else
            bif (decide (o.2.2.2.2.2.2.2.1 > 65536)) then
              some (true, (o.2.1, (o.2.2.1, (o.2.2.2.1, (o.2.2.2.2.1, (o.2.2.2.2.2.1, (o.2.2.2.2.2.2.1, (o.2.2.2.2.2.2.2.1, (o.2.2.2.2.2.2.2.2.1, (o.2.2.2.2.2.2.2.2.2.1, (o.2.2.2.2.2.2.2.2.2.2.1, o.2.2.2.2.2.2.2.2.2.2.2)))))))))))
            else
              bif (decide (o.2.2.2.2.2.2.2.2.2.2.2 < 0)) then
                some (true, (o.2.1, (o.2.2.1, (o.2.2.2.1, (o.2.2.2.2.1, (o.2.2.2.2.2.1, (o.2.2.2.2.2.2.1, (o.2.2.2.2.2.2.2.1, (o.2.2.2.2.2.2.2.2.1, (o.2.2.2.2.2.2.2.2.2.1, (o.2.2.2.2.2.2.2.2.2.2.1, o.2.2.2.2.2.2.2.2.2.2.2)))))))))))
              else
                some ((decide (o.2.2.2.2.2.2.2.2.2.2.2 > 1099511627776)), (o.2.1, (o.2.2.1, (o.2.2.2.1, (o.2.2.2.2.1, (o.2.2.2.2.2.1, (o.2.2.2.2.2.2.1, (o.2.2.2.2.2.2.2.1, (o.2.2.2.2.2.2.2.2.1, (o.2.2.2.2.2.2.2.2.2.1, (o.2.2.2.2.2.2.2.2.2.2.1, o.2.2.2.2.2.2.2.2.2.2.2)))))))))))) fun o2 =>
      bif o2.1 then
        some false
      else
        (call_RightReply_l0_it fu o2 (0, (o2.2.1, (o2.2.2.1, (o2.2.2.2.1, (o2.2.2.2.2.1, (o2.2.2.2.2.2.1, (o2.2.2.2.2.2.2.1, (o2.2.2.2.2.2.2.2.1, (o2.2.2.2.2.2.2.2.2.1, (o2.2.2.2.2.2.2.2.2.2.1, (o2.2.2.2.2.2.2.2.2.2.2.1, o2.2.2.2.2.2.2.2.2.2.2.2)))))))))))).bind fun o4 =>
        match o4 with
        | .inl s =>
          bif (decide (((s.2.2.2.2.2.2.2.1.length : Nat) : Int) ≤ 4096)) then
            some (decide (((s.2.2.2.2.2.2.2.2.1.length : Nat) : Int) ≤ 100))
          else
            some false
        | .inr o5 =>
          some o5
def call_RightReply_fa : FnA := ⟨.two (.reg [(0, { ids := [100] })]) (.two (.leaf) (.two (.one (.two (.join ⟨[1, 10], ⟨(.cons (.own 0 100 0 0) (.cons (.p .bool) .nil)), [(100, false, (.vars (.cons (.p (.int .i64)) (.cons (.p (.int .i64)) (.cons (.p (.int .i64)) (.cons (.p (.int .i64)) (.cons (.p (.int .i64)) (.cons (.p .bool) (.cons (.p (.int .i64)) (.cons (.p (.sl .byte)) (.cons (.p (.sl (.pair .str (.int .i64)))) (.cons (.p .bool) (.cons (.p (.int .i64)) .nil)))))))))))))]⟩⟩ false [] (.reg [(4, {  })])) (.two (.leaf) (.two (.leaf) (.two (.two (.join ⟨[2], ⟨(.cons (.p .bool) .nil), []⟩⟩ false [] (.leaf)) (.leaf)) (.two (.join ⟨[1, 62], ⟨(.cons (.own 0 100 0 0) (.cons (.p .bool) .nil)), [(100, false, (.vars (.cons (.p (.int .i64)) (.cons (.p (.int .i64)) (.cons (.p (.int .i64)) (.cons (.p (.int .i64)) (.cons (.p (.int .i64)) (.cons (.p .bool) (.cons (.p (.int .i64)) (.cons (.p (.sl .byte)) (.cons (.p (.sl (.pair .str (.int .i64)))) (.cons (.p .bool) (.cons (.p (.int .i64)) .nil)))))))))))))]⟩⟩ false [] (.reg [(5, { fn := 1 })])) (.two (.leaf) (.leaf)))))))) (.two (.two (.leaf) (.one (.loop ⟨[1, 94], ⟨(.cons (.own 0 100 0 0) (.cons (.p (.int .i64)) .nil)), [(100, false, (.vars (.cons (.p (.int .i64)) (.cons (.p (.int .i64)) (.cons (.p (.int .i64)) (.cons (.p (.int .i64)) (.cons (.p (.int .i64)) (.cons (.p .bool) (.cons (.p (.int .i64)) (.cons (.p (.sl .byte)) (.cons (.p (.sl (.pair .str (.int .i64)))) (.cons (.p .bool) (.cons (.p (.int .i64)) .nil)))))))))))))]⟩⟩ true [(1, ⟨[1], ⟨(.cons (.own 0 100 0 0) .nil), [(100, false, (.vars (.cons (.p (.int .i64)) (.cons (.p (.int .i64)) (.cons (.p (.int .i64)) (.cons (.p (.int .i64)) (.cons (.p (.int .i64)) (.cons (.p .bool) (.cons (.p (.int .i64)) (.cons (.p (.sl .byte)) (.cons (.p (.sl (.pair .str (.int .i64)))) (.cons (.p .bool) (.cons (.p (.int .i64)) .nil)))))))))))))]⟩⟩)] (.two (.leaf) (.two (.leaf) (.two (.one (.two (.reg [(2, { ids := [101] })]) (.two (.join ⟨[1, 117], ⟨(.cons (.own 0 100 0 0) (.cons (.p .bool) .nil)), [(100, false, (.vars (.cons (.p (.int .i64)) (.cons (.p (.int .i64)) (.cons (.p (.int .i64)) (.cons (.p (.int .i64)) (.cons (.p (.int .i64)) (.cons (.p .bool) (.cons (.p (.int .i64)) (.cons (.p (.sl .byte)) (.cons (.p (.sl (.pair .str (.int .i64)))) (.cons (.p .bool) (.cons (.p (.int .i64)) .nil)))))))))))))]⟩⟩ false [] (.leaf)) (.two (.leaf) (.leaf))))) (.leaf))))))) (.leaf)))), ⟨(.cons (.p (.pair (.int .i64) (.pair (.int .i64) (.pair (.int .i64) (.pair (.pair (.int .i64) (.int .i64)) (.pair .bool (.pair (.int .i64) (.pair (.sl .byte) (.pair (.sl (.pair .str (.int .i64))) (.pair .bool (.int .i64))))))))))) .nil), []⟩, [⟨(.cons (.p .bool) .nil), []⟩], [0]⟩
def call_RightReply_ft (fu : Nat) : FnT := ⟨27, ⟨(.cons (.p (.pair (.int .i64) (.pair (.int .i64) (.pair (.int .i64) (.pair (.pair (.int .i64) (.int .i64)) (.pair .bool (.pair (.int .i64) (.pair (.sl .byte) (.pair (.sl (.pair .str (.int .i64))) (.pair .bool (.int .i64))))))))))) .nil), []⟩, [⟨(.cons (.p .bool) .nil), []⟩], fun t => call_RightReply fu t⟩
theorem call_RightReply_eq (fu : Nat) : ∀ t, evF Go.Proofs.Try.prog [call_whose_ft fu, handle_Right_ft fu] fu Go.Proofs.Try.f27 call_RightReply_fa t = (call_RightReply_ft fu).spec t := fun t => by kernel_rfl
theorem call_RightReply_told (fu : Nat) : Told Go.Proofs.Try.prog (call_RightReply_ft fu) := told_of (allT_cons (call_whose_told fu) (allT_cons (handle_Right_told fu) allT_nil)) mixed Go.Proofs.Try.func27 (by kernel_rfl) (by kernel_rfl) (call_RightReply_eq fu)

def replies_kept_1 (fu : Nat) (r : (Int × (Int × (Int × ((Int × Int) × (Bool × (Int × (List (UInt8) × (List ((List UInt8 × Int)) × (Bool × Int)))))))))) (h : Int) (h1 : Int) (h2 : Int) (h3 : List ((Int × (Int × (Int × ((Int × Int) × (Bool × (Int × (List (UInt8) × (List ((List UInt8 × Int)) × (Bool × Int))))))))))) : Option ((Bool × (Int × (Int × (Int × List ((Int × (Int × (Int × ((Int × Int) × (Bool × (Int × (List (UInt8) × (List ((List UInt8 × Int)) × (Bool × Int))))))))))))))) :=
  bif (!(r.1 == h1)) then
    some (true, (r.2.1, (h1, (h2, h3))))
  else
    bif (decide (r.2.1 ≤ h)) then
      some (true, (r.2.1, (h1, (h2, h3))))
    else
      (call_RightReply fu (r.1, (r.2.1, (r.2.2.1, ((r.2.2.2.1.1, r.2.2.2.1.2), (r.2.2.2.2.1, (r.2.2.2.2.2.1, (r.2.2.2.2.2.2.1, (r.2.2.2.2.2.2.2.1, (r.2.2.2.2.2.2.2.2.1, r.2.2.2.2.2.2.2.2.2)))))))))).bind fun r1 =>
      some ((!r1), (r.2.1, (h1, (h2, h3))))
def replies_kept_1_fa : FnA := ⟨.two (.reg [(0, { ids := [100] })]) (.two (.leaf) (.two (.leaf) (.two (.reg [(13, {  })]) (.leaf)))), ⟨(.cons (.p (.pair (.int .i64) (.pair (.int .i64) (.pair (.int .i64) (.pair (.pair (.int .i64) (.int .i64)) (.pair .bool (.pair (.int .i64) (.pair (.sl .byte) (.pair (.sl (.pair .str (.int .i64))) (.pair .bool (.int .i64))))))))))) (.cons (.own 0 0 0 0) (.cons (.own 0 1 0 0) .nil))), [(0, false, (.vars (.cons (.p (.int .i64)) .nil))), (1, false, (.vars (.cons (.p (.int .i64)) (.cons (.p (.int .i64)) (.cons (.p (.sl (.pair (.int .i64) (.pair (.int .i64) (.pair (.int .i64) (.pair (.pair (.int .i64) (.int .i64)) (.pair .bool (.pair (.int .i64) (.pair (.sl .byte) (.pair (.sl (.pair .str (.int .i64))) (.pair .bool (.int .i64)))))))))))) .nil)))))]⟩, [⟨(.cons (.p .bool) .nil), [(0, false, (.vars (.cons (.p (.int .i64)) .nil))), (1, false, (.vars (.cons (.p (.int .i64)) (.cons (.p (.int .i64)) (.cons (.p (.sl (.pair (.int .i64) (.pair (.int .i64) (.pair (.int .i64) (.pair (.pair (.int .i64) (.int .i64)) (.pair .bool (.pair (.int .i64) (.pair (.sl .byte) (.pair (.sl (.pair .str (.int .i64))) (.pair .bool (.int .i64)))))))))))) .nil)))))]⟩], [0]⟩
def replies_kept_1_ft (fu : Nat) : FnT := ⟨49, ⟨(.cons (.p (.pair (.int .i64) (.pair (.int .i64) (.pair (.int .i64) (.pair (.pair (.int .i64) (.int .i64)) (.pair .bool (.pair (.int .i64) (.pair (.sl .byte) (.pair (.sl (.pair .str (.int .i64))) (.pair .bool (.int .i64))))))))))) (.cons (.own 0 0 0 0) (.cons (.own 0 1 0 0) .nil))), [(0, false, (.vars (.cons (.p (.int .i64)) .nil))), (1, false, (.vars (.cons (.p (.int .i64)) (.cons (.p (.int .i64)) (.cons (.p (.sl (.pair (.int .i64) (.pair (.int .i64) (.pair (.int .i64) (.pair (.pair (.int .i64) (.int .i64)) (.pair .bool (.pair (.int .i64) (.pair (.sl .byte) (.pair (.sl (.pair .str (.int .i64))) (.pair .bool (.int .i64)))))))))))) .nil)))))]⟩, [⟨(.cons (.p .bool) .nil), [(0, false, (.vars (.cons (.p (.int .i64)) .nil))), (1, false, (.vars (.cons (.p (.int .i64)) (.cons (.p (.int .i64)) (.cons (.p (.sl (.pair (.int .i64) (.pair (.int .i64) (.pair (.int .i64) (.pair (.pair (.int .i64) (.int .i64)) (.pair .bool (.pair (.int .i64) (.pair (.sl .byte) (.pair (.sl (.pair .str (.int .i64))) (.pair .bool (.int .i64)))))))))))) .nil)))))]⟩], fun t => replies_kept_1 fu t.1 t.2.1 t.2.2.1 t.2.2.2.1 t.2.2.2.2⟩
theorem replies_kept_1_eq (fu : Nat) : ∀ t, evF Go.Proofs.Try.prog [call_RightReply_ft fu] fu Go.Proofs.Try.f49 replies_kept_1_fa t = (replies_kept_1_ft fu).spec t := fun t => by kernel_rfl
theorem replies_kept_1_told (fu : Nat) : Told Go.Proofs.Try.prog (replies_kept_1_ft fu) := told_of (allT_cons (call_RightReply_told fu) allT_nil) mixed Go.Proofs.Try.func49 (by kernel_rfl) (by kernel_rfl) (replies_kept_1_eq fu)

def slices_IndexFunc__api_Reply_api_Reply_f11_l0 (fu : Nat) (s : List ((Int × (Int × (Int × ((Int × Int) × (Bool × (Int × (List (UInt8) × (List ((List UInt8 × Int)) × (Bool × Int))))))))))) (x : Int) (h4 : Int) (h5 : Int) (h6 : Int) (h7 : List ((Int × (Int × (Int × ((Int × Int) × (Bool × (Int × (List (UInt8) × (List ((List UInt8 × Int)) × (Bool × Int))))))))))) : Option ((Int × (Int × (Int × (Int × List ((Int × (Int × (Int × ((Int × Int) × (Bool × (Int × (List (UInt8) × (List ((List UInt8 × Int)) × (Bool × Int)))))))))))))) ⊕ ((Int × (Int × (Int × List ((Int × (Int × (Int × ((Int × Int) × (Bool × (Int × (List (UInt8) × (List ((List UInt8 × Int)) × (Bool × Int))))))))))))) ⊕ (Int × (Int × (Int × (Int × List ((Int × (Int × (Int × ((Int × Int) × (Bool × (Int × (List (UInt8) × (List ((List UInt8 × Int)) × (Bool × Int)))))))))))))))) :=
  bif (decide (x < ((s.length : Nat) : Int))) then
    (idx? x s.length).bind fun q =>
    (s)[q]?.bind fun r =>
    (replies_kept_1 fu r h4 h5 h6 h7).bind fun r1 =>
    bif r1.1 then
      some (.inr (.inr (x, (r1.2.1, (r1.2.2.1, (r1.2.2.2.1, r1.2.2.2.2))))))
    else
      some (.inl ((IntKind.wrap .i64 (x + 1)), (r1.2.1, (r1.2.2.1, (r1.2.2.2.1, r1.2.2.2.2)))))
  else
    some (.inr (.inl (h4, (h5, (h6, h7)))))
def slices_IndexFunc__api_Reply_api_Reply_f11_l0_it (fu : Nat) (s : List ((Int × (Int × (Int × ((Int × Int) × (Bool × (Int × (List (UInt8) × (List ((List UInt8 × Int)) × (Bool × Int))))))))))) (tt : (Int × (Int × (Int × (Int × List ((Int × (Int × (Int × ((Int × Int) × (Bool × (Int × (List (UInt8) × (List ((List UInt8 × Int)) × (Bool × Int))))))))))))))) : Option ((Int × (Int × (Int × List ((Int × (Int × (Int × ((Int × Int) × (Bool × (Int × (List (UInt8) × (List ((List UInt8 × Int)) × (Bool × Int))))))))))))) ⊕ (Int × (Int × (Int × (Int × List ((Int × (Int × (Int × ((Int × Int) × (Bool × (Int × (List (UInt8) × (List ((List UInt8 × Int)) × (Bool × Int))))))))))))))) :=
  iter fu (fun tt => slices_IndexFunc__api_Reply_api_Reply_f11_l0 fu s tt.1 tt.2.1 tt.2.2.1 tt.2.2.2.1 tt.2.2.2.2) tt
def slices_IndexFunc__api_Reply_api_Reply_f11 (fu : Nat) (s : List ((Int × (Int × (Int × ((Int × Int) × (Bool × (Int × (List (UInt8) × (List ((List UInt8 × Int)) × (Bool × Int))))))))))) (h : Int) (h1 : Int) (h2 : Int) (h3 : List ((Int × (Int × (Int × ((Int × Int) × (Bool × (Int × (List (UInt8) × (List ((List UInt8 × Int)) × (Bool × Int))))))))))) : Option ((Int × (Int × (Int × (Int × List ((Int × (Int × (Int × ((Int × Int) × (Bool × (Int × (List (UInt8) × (List ((List UInt8 × Int)) × (Bool × Int))))))))))))))) :=
  (slices_IndexFunc__api_Reply_api_Reply_f11_l0_it fu s (0, (h, (h1, (h2, h3))))).bind fun o =>
  match o with
  | .inl s1 =>
    some ((-1), (s1.1, (s1.2.1, (s1.2.2.1, s1.2.2.2))))
  | .inr o1 =>
    some o1
def slices_IndexFunc__api_Reply_api_Reply_f11_fa : FnA := ⟨.two (.leaf) (.two (.two (.leaf) (.one (.loop ⟨[1, 8], ⟨(.cons (.fn 49 .nil (.cons (.own 0 0 0 0) (.cons (.own 0 1 0 0) .nil))) (.cons (.p (.int .i64)) .nil)), [(0, false, (.vars (.cons (.p (.int .i64)) .nil))), (1, false, (.vars (.cons (.p (.int .i64)) (.cons (.p (.int .i64)) (.cons (.p (.sl (.pair (.int .i64) (.pair (.int .i64) (.pair (.int .i64) (.pair (.pair (.int .i64) (.int .i64)) (.pair .bool (.pair (.int .i64) (.pair (.sl .byte) (.pair (.sl (.pair .str (.int .i64))) (.pair .bool (.int .i64)))))))))))) .nil)))))]⟩⟩ true [(0, ⟨[1], ⟨(.cons (.fn 49 .nil (.cons (.own 0 0 0 0) (.cons (.own 0 1 0 0) .nil))) .nil), [(0, false, (.vars (.cons (.p (.int .i64)) .nil))), (1, false, (.vars (.cons (.p (.int .i64)) (.cons (.p (.int .i64)) (.cons (.p (.sl (.pair (.int .i64) (.pair (.int .i64) (.pair (.int .i64) (.pair (.pair (.int .i64) (.int .i64)) (.pair .bool (.pair (.int .i64) (.pair (.sl .byte) (.pair (.sl (.pair .str (.int .i64))) (.pair .bool (.int .i64)))))))))))) .nil)))))]⟩⟩)] (.two (.leaf) (.two (.leaf) (.two (.one (.two (.leaf) (.two (.reg [(5, { sh := [0, 1] })]) (.two (.leaf) (.leaf))))) (.leaf))))))) (.leaf)), ⟨(.cons (.p (.sl (.pair (.int .i64) (.pair (.int .i64) (.pair (.int .i64) (.pair (.pair (.int .i64) (.int .i64)) (.pair .bool (.pair (.int .i64) (.pair (.sl .byte) (.pair (.sl (.pair .str (.int .i64))) (.pair .bool (.int .i64)))))))))))) (.cons (.fn 49 .nil (.cons (.own 0 0 0 0) (.cons (.own 0 1 0 0) .nil))) .nil)), [(0, false, (.vars (.cons (.p (.int .i64)) .nil))), (1, false, (.vars (.cons (.p (.int .i64)) (.cons (.p (.int .i64)) (.cons (.p (.sl (.pair (.int .i64) (.pair (.int .i64) (.pair (.int .i64) (.pair (.pair (.int .i64) (.int .i64)) (.pair .bool (.pair (.int .i64) (.pair (.sl .byte) (.pair (.sl (.pair .str (.int .i64))) (.pair .bool (.int .i64)))))))))))) .nil)))))]⟩, [⟨(.cons (.p (.int .i64)) .nil), [(0, false, (.vars (.cons (.p (.int .i64)) .nil))), (1, false, (.vars (.cons (.p (.int .i64)) (.cons (.p (.int .i64)) (.cons (.p (.sl (.pair (.int .i64) (.pair (.int .i64) (.pair (.int .i64) (.pair (.pair (.int .i64) (.int .i64)) (.pair .bool (.pair (.int .i64) (.pair (.sl .byte) (.pair (.sl (.pair .str (.int .i64))) (.pair .bool (.int .i64)))))))))))) .nil)))))]⟩], [0]⟩
def slices_IndexFunc__api_Reply_api_Reply_f11_ft (fu : Nat) : FnT := ⟨53, ⟨(.cons (.p (.sl (.pair (.int .i64) (.pair (.int .i64) (.pair (.int .i64) (.pair (.pair (.int .i64) (.int .i64)) (.pair .bool (.pair (.int .i64) (.pair (.sl .byte) (.pair (.sl (.pair .str (.int .i64))) (.pair .bool (.int .i64)))))))))))) (.cons (.fn 49 .nil (.cons (.own 0 0 0 0) (.cons (.own 0 1 0 0) .nil))) .nil)), [(0, false, (.vars (.cons (.p (.int .i64)) .nil))), (1, false, (.vars (.cons (.p (.int .i64)) (.cons (.p (.int .i64)) (.cons (.p (.sl (.pair (.int .i64) (.pair (.int .i64) (.pair (.int .i64) (.pair (.pair (.int .i64) (.int .i64)) (.pair .bool (.pair (.int .i64) (.pair (.sl .byte) (.pair (.sl (.pair .str (.int .i64))) (.pair .bool (.int .i64)))))))))))) .nil)))))]⟩, [⟨(.cons (.p (.int .i64)) .nil), [(0, false, (.vars (.cons (.p (.int .i64)) .nil))), (1, false, (.vars (.cons (.p (.int .i64)) (.cons (.p (.int .i64)) (.cons (.p (.sl (.pair (.int .i64) (.pair (.int .i64) (.pair (.int .i64) (.pair (.pair (.int .i64) (.int .i64)) (.pair .bool (.pair (.int .i64) (.pair (.sl .byte) (.pair (.sl (.pair .str (.int .i64))) (.pair .bool (.int .i64)))))))))))) .nil)))))]⟩], fun t => slices_IndexFunc__api_Reply_api_Reply_f11 fu t.1 t.2.1 t.2.2.1 t.2.2.2.1 t.2.2.2.2⟩
theorem slices_IndexFunc__api_Reply_api_Reply_f11_eq (fu : Nat) : ∀ t, evF Go.Proofs.Try.prog [replies_kept_1_ft fu] fu Go.Proofs.Try.f53 slices_IndexFunc__api_Reply_api_Reply_f11_fa t = (slices_IndexFunc__api_Reply_api_Reply_f11_ft fu).spec t := fun t => by kernel_rfl
theorem slices_IndexFunc__api_Reply_api_Reply_f11_told (fu : Nat) : Told Go.Proofs.Try.prog (slices_IndexFunc__api_Reply_api_Reply_f11_ft fu) := told_of (allT_cons (replies_kept_1_told fu) allT_nil) mixed Go.Proofs.Try.func53 (by kernel_rfl) (by kernel_rfl) (slices_IndexFunc__api_Reply_api_Reply_f11_eq fu)

def slices_ContainsFunc__api_Reply_api_Reply_f11 (fu : Nat) (s : List ((Int × (Int × (Int × ((Int × Int) × (Bool × (Int × (List (UInt8) × (List ((List UInt8 × Int)) × (Bool × Int))))))))))) (h : Int) (h1 : Int) (h2 : Int) (h3 : List ((Int × (Int × (Int × ((Int × Int) × (Bool × (Int × (List (UInt8) × (List ((List UInt8 × Int)) × (Bool × Int))))))))))) : Option ((Bool × (Int × (Int × (Int × List ((Int × (Int × (Int × ((Int × Int) × (Bool × (Int × (List (UInt8) × (List ((List UInt8 × Int)) × (Bool × Int))))))))))))))) :=
  (slices_IndexFunc__api_Reply_api_Reply_f11 fu s h h1 h2 h3).bind fun r =>
  some ((decide (r.1 ≥ 0)), (r.2.1, (r.2.2.1, (r.2.2.2.1, r.2.2.2.2))))
def slices_ContainsFunc__api_Reply_api_Reply_f11_fa : FnA := ⟨.two (.leaf) (.two (.reg [(2, { sh := [0, 1] })]) (.leaf)), ⟨(.cons (.p (.sl (.pair (.int .i64) (.pair (.int .i64) (.pair (.int .i64) (.pair (.pair (.int .i64) (.int .i64)) (.pair .bool (.pair (.int .i64) (.pair (.sl .byte) (.pair (.sl (.pair .str (.int .i64))) (.pair .bool (.int .i64)))))))))))) (.cons (.fn 49 .nil (.cons (.own 0 0 0 0) (.cons (.own 0 1 0 0) .nil))) .nil)), [(0, false, (.vars (.cons (.p (.int .i64)) .nil))), (1, false, (.vars (.cons (.p (.int .i64)) (.cons (.p (.int .i64)) (.cons (.p (.sl (.pair (.int .i64) (.pair (.int .i64) (.pair (.int .i64) (.pair (.pair (.int .i64) (.int .i64)) (.pair .bool (.pair (.int .i64) (.pair (.sl .byte) (.pair (.sl (.pair .str (.int .i64))) (.pair .bool (.int .i64)))))))))))) .nil)))))]⟩, [⟨(.cons (.p .bool) .nil), [(0, false, (.vars (.cons (.p (.int .i64)) .nil))), (1, false, (.vars (.cons (.p (.int .i64)) (.cons (.p (.int .i64)) (.cons (.p (.sl (.pair (.int .i64) (.pair (.int .i64) (.pair (.int .i64) (.pair (.pair (.int .i64) (.int .i64)) (.pair .bool (.pair (.int .i64) (.pair (.sl .byte) (.pair (.sl (.pair .str (.int .i64))) (.pair .bool (.int .i64)))))))))))) .nil)))))]⟩], [0]⟩
def slices_ContainsFunc__api_Reply_api_Reply_f11_ft (fu : Nat) : FnT := ⟨50, ⟨(.cons (.p (.sl (.pair (.int .i64) (.pair (.int .i64) (.pair (.int .i64) (.pair (.pair (.int .i64) (.int .i64)) (.pair .bool (.pair (.int .i64) (.pair (.sl .byte) (.pair (.sl (.pair .str (.int .i64))) (.pair .bool (.int .i64)))))))))))) (.cons (.fn 49 .nil (.cons (.own 0 0 0 0) (.cons (.own 0 1 0 0) .nil))) .nil)), [(0, false, (.vars (.cons (.p (.int .i64)) .nil))), (1, false, (.vars (.cons (.p (.int .i64)) (.cons (.p (.int .i64)) (.cons (.p (.sl (.pair (.int .i64) (.pair (.int .i64) (.pair (.int .i64) (.pair (.pair (.int .i64) (.int .i64)) (.pair .bool (.pair (.int .i64) (.pair (.sl .byte) (.pair (.sl (.pair .str (.int .i64))) (.pair .bool (.int .i64)))))))))))) .nil)))))]⟩, [⟨(.cons (.p .bool) .nil), [(0, false, (.vars (.cons (.p (.int .i64)) .nil))), (1, false, (.vars (.cons (.p (.int .i64)) (.cons (.p (.int .i64)) (.cons (.p (.sl (.pair (.int .i64) (.pair (.int .i64) (.pair (.int .i64) (.pair (.pair (.int .i64) (.int .i64)) (.pair .bool (.pair (.int .i64) (.pair (.sl .byte) (.pair (.sl (.pair .str (.int .i64))) (.pair .bool (.int .i64)))))))))))) .nil)))))]⟩], fun t => slices_ContainsFunc__api_Reply_api_Reply_f11 fu t.1 t.2.1 t.2.2.1 t.2.2.2.1 t.2.2.2.2⟩
theorem slices_ContainsFunc__api_Reply_api_Reply_f11_eq (fu : Nat) : ∀ t, evF Go.Proofs.Try.prog [slices_IndexFunc__api_Reply_api_Reply_f11_ft fu] fu Go.Proofs.Try.f50 slices_ContainsFunc__api_Reply_api_Reply_f11_fa t = (slices_ContainsFunc__api_Reply_api_Reply_f11_ft fu).spec t := fun t => by kernel_rfl
theorem slices_ContainsFunc__api_Reply_api_Reply_f11_told (fu : Nat) : Told Go.Proofs.Try.prog (slices_ContainsFunc__api_Reply_api_Reply_f11_ft fu) := told_of (allT_cons (slices_IndexFunc__api_Reply_api_Reply_f11_told fu) allT_nil) mixed Go.Proofs.Try.func50 (by kernel_rfl) (by kernel_rfl) (slices_ContainsFunc__api_Reply_api_Reply_f11_eq fu)

def replies_kept (fu : Nat) (k : (Int × (Int × List ((Int × (Int × (Int × ((Int × Int) × (Bool × (Int × (List (UInt8) × (List ((List UInt8 × Int)) × (Bool × Int))))))))))))) (window : Int) : Option (Bool) :=
  bif (decide (k.2.1 ≥ 0)) then
    bif (decide (k.2.1 ≤ 1099511627776)) then
      bif (decide (((k.2.2.length : Nat) : Int) ≤ window)) then
        (slices_ContainsFunc__api_Reply_api_Reply_f11 fu k.2.2 k.2.1 k.1 k.2.1 k.2.2).bind fun r =>
        some (!r.1)
      else
        some false
    else
      some false
  else
    some false
def replies_kept_fa : FnA := ⟨.two (.reg [(0, { ids := [100] })]) (.two (.reg [(2, { ids := [101] })]) (.two (.leaf) (.two (.reg [(19, { sh := [101, 100] })]) (.leaf)))), ⟨(.cons (.p (.pair (.int .i64) (.pair (.int .i64) (.sl (.pair (.int .i64) (.pair (.int .i64) (.pair (.int .i64) (.pair (.pair (.int .i64) (.int .i64)) (.pair .bool (.pair (.int .i64) (.pair (.sl .byte) (.pair (.sl (.pair .str (.int .i64))) (.pair .bool (.int .i64)))))))))))))) (.cons (.p (.int .i64)) .nil)), []⟩, [⟨(.cons (.p .bool) .nil), []⟩], [0]⟩
def replies_kept_ft (fu : Nat) : FnT := ⟨35, ⟨(.cons (.p (.pair (.int .i64) (.pair (.int .i64) (.sl (.pair (.int .i64) (.pair (.int .i64) (.pair (.int .i64) (.pair (.pair (.int .i64) (.int .i64)) (.pair .bool (.pair (.int .i64) (.pair (.sl .byte) (.pair (.sl (.pair .str (.int .i64))) (.pair .bool (.int .i64)))))))))))))) (.cons (.p (.int .i64)) .nil)), []⟩, [⟨(.cons (.p .bool) .nil), []⟩], fun t => replies_kept fu t.1 t.2⟩
theorem replies_kept_eq (fu : Nat) : ∀ t, evF Go.Proofs.Try.prog [slices_ContainsFunc__api_Reply_api_Reply_f11_ft fu] fu Go.Proofs.Try.f35 replies_kept_fa t = (replies_kept_ft fu).spec t := fun t => by kernel_rfl
theorem replies_kept_told (fu : Nat) : Told Go.Proofs.Try.prog (replies_kept_ft fu) := told_of (allT_cons (slices_ContainsFunc__api_Reply_api_Reply_f11_told fu) allT_nil) mixed Go.Proofs.Try.func35 (by kernel_rfl) (by kernel_rfl) (replies_kept_eq fu)

def replies_Right_l0 (fu : Nat) (c : (Int × List ((Int × (Int × List ((Int × (Int × (Int × ((Int × Int) × (Bool × (Int × (List (UInt8) × (List ((List UInt8 × Int)) × (Bool × Int))))))))))))))) (last : Int) (x : Int) (h : Int) (h1 : List ((Int × (Int × List ((Int × (Int × (Int × ((Int × Int) × (Bool × (Int × (List (UInt8) × (List ((List UInt8 × Int)) × (Bool × Int)))))))))))))) : Option ((Int × (Int × (Int × List ((Int × (Int × List ((Int × (Int × (Int × ((Int × Int) × (Bool × (Int × (List (UInt8) × (List ((List UInt8 × Int)) × (Bool × Int)))))))))))))))) ⊕ ((Int × List ((Int × (Int × List ((Int × (Int × (Int × ((Int × Int) × (Bool × (Int × (List (UInt8) × (List ((List UInt8 × Int)) × (Bool × Int)))))))))))))) ⊕ Bool)) :=
  bif (decide (x < ((c.2.length : Nat) : Int))) then
    (idx? x c.2.length).bind fun q =>
    (c.2)[q]?.bind fun r =>
    Option.bind (α := ((Bool × (Int × (List ((Int × (Int × List ((Int × (Int × (Int × ((Int × Int) × (Bool × (Int × (List (UInt8) × (List ((List UInt8 × Int)) × (Bool × Int))))))))))))) × (Int × (Int × List ((Int × (Int × (Int × ((Int × Int) × (Bool × (Int × (List (UInt8) × (List ((List UInt8 × Int)) × (Bool × Int))))))))))))))))) (
      bif (decide (r.1 ≤ last)) then
        some (true, (h, (h1, (r.1, (r.2.1, r.2.2)))))
      else
        bif (decide (r.1 ≥ 16)) then
          some (true, (h, (h1, (r.1, (r.2.1, r.2.2)))))
        else
          (replies_kept fu (r.1, (r.2.1, r.2.2)) h).bind fun r1 =>
          some ((!r1), (h, (h1, (r.1, (r.2.1, r.2.2)))))) fun o =>
    bif o.1 then
      some (.inr (.inr false))
    else
      some (.inl (o.2.2.2.1, ((IntKind.wrap .i64 (x + 1)), (o.2.1, o.2.2.1))))
  else
    some (.inr (.inl (h, h1)))
def replies_Right_l0_it (fu : Nat) (c : (Int × List ((Int × (Int × List ((Int × (Int × (Int × ((Int × Int) × (Bool × (Int × (List (UInt8) × (List ((List UInt8 × Int)) × (Bool × Int))))))))))))))) (tt : (Int × (Int × (Int × List ((Int × (Int × List ((Int × (Int × (Int × ((Int × Int) × (Bool × (Int × (List (UInt8) × (List ((List UInt8 × Int)) × (Bool × Int))))))))))))))))) : Option ((Int × List ((Int × (Int × List ((Int × (Int × (Int × ((Int × Int) × (Bool × (Int × (List (UInt8) × (List ((List UInt8 × Int)) × (Bool × Int)))))))))))))) ⊕ Bool) :=
  iter fu (fun tt => replies_Right_l0 fu c tt.1 tt.2.1 tt.2.2.1 tt.2.2.2) tt
def replies_Right (fu : Nat) (c : (Int × List ((Int × (Int × List ((Int × (Int × (Int × ((Int × Int) × (Bool × (Int × (List (UInt8) × (List ((List UInt8 × Int)) × (Bool × Int))))))))))))))) : Option (Bool) :=
  (replies_Right_l0_it fu c ((-1), (0, (c.1, c.2)))).bind fun o1 =>
  match o1 with
  | .inl s =>
    bif (decide (s.1 ≥ 1)) then
      some (decide (s.1 ≤ 100))
    else
      some false
  | .inr o2 =>
    some o2
def replies_Right_fa : FnA := ⟨.two (.reg [(0, { ids := [100] })]) (.two (.leaf) (.two (.two (.leaf) (.one (.loop ⟨[1, 3, 9], ⟨(.cons (.own 0 100 0 0) (.cons (.p (.int .i64)) (.cons (.p (.int .i64)) .nil))), [(100, false, (.vars (.cons (.p (.int .i64)) (.cons (.p (.sl (.pair (.int .i64) (.pair (.int .i64) (.sl (.pair (.int .i64) (.pair (.int .i64) (.pair (.int .i64) (.pair (.pair (.int .i64) (.int .i64)) (.pair .bool (.pair (.int .i64) (.pair (.sl .byte) (.pair (.sl (.pair .str (.int .i64))) (.pair .bool (.int .i64))))))))))))))) .nil))))]⟩⟩ true [(0, ⟨[1], ⟨(.cons (.own 0 100 0 0) .nil), [(100, false, (.vars (.cons (.p (.int .i64)) (.cons (.p (.sl (.pair (.int .i64) (.pair (.int .i64) (.sl (.pair (.int .i64) (.pair (.int .i64) (.pair (.int .i64) (.pair (.pair (.int .i64) (.int .i64)) (.pair .bool (.pair (.int .i64) (.pair (.sl .byte) (.pair (.sl (.pair .str (.int .i64))) (.pair .bool (.int .i64))))))))))))))) .nil))))]⟩⟩)] (.two (.leaf) (.two (.leaf) (.two (.one (.two (.reg [(2, { ids := [101] })]) (.two (.two (.join ⟨[1, 5, 28], ⟨(.cons (.own 0 100 0 0) (.cons (.own 0 101 0 0) (.cons (.p .bool) .nil))), [(100, false, (.vars (.cons (.p (.int .i64)) (.cons (.p (.sl (.pair (.int .i64) (.pair (.int .i64) (.sl (.pair (.int .i64) (.pair (.int .i64) (.pair (.int .i64) (.pair (.pair (.int .i64) (.int .i64)) (.pair .bool (.pair (.int .i64) (.pair (.sl .byte) (.pair (.sl (.pair .str (.int .i64))) (.pair .bool (.int .i64))))))))))))))) .nil)))), (101, false, (.vars (.cons (.p (.int .i64)) (.cons (.p (.int .i64)) (.cons (.p (.sl (.pair (.int .i64) (.pair (.int .i64) (.pair (.int .i64) (.pair (.pair (.int .i64) (.int .i64)) (.pair .bool (.pair (.int .i64) (.pair (.sl .byte) (.pair (.sl (.pair .str (.int .i64))) (.pair .bool (.int .i64)))))))))))) .nil)))))]⟩⟩ false [] (.reg [(13, {  })])) (.two (.leaf) (.leaf))) (.leaf)))) (.leaf))))))) (.leaf))), ⟨(.cons (.p (.pair (.int .i64) (.sl (.pair (.int .i64) (.pair (.int .i64) (.sl (.pair (.int .i64) (.pair (.int .i64) (.pair (.int .i64) (.pair (.pair (.int .i64) (.int .i64)) (.pair .bool (.pair (.int .i64) (.pair (.sl .byte) (.pair (.sl (.pair .str (.int .i64))) (.pair .bool (.int .i64)))))))))))))))) .nil), []⟩, [⟨(.cons (.p .bool) .nil), []⟩], [0]⟩
def replies_Right_ft (fu : Nat) : FnT := ⟨17, ⟨(.cons (.p (.pair (.int .i64) (.sl (.pair (.int .i64) (.pair (.int .i64) (.sl (.pair (.int .i64) (.pair (.int .i64) (.pair (.int .i64) (.pair (.pair (.int .i64) (.int .i64)) (.pair .bool (.pair (.int .i64) (.pair (.sl .byte) (.pair (.sl (.pair .str (.int .i64))) (.pair .bool (.int .i64)))))))))))))))) .nil), []⟩, [⟨(.cons (.p .bool) .nil), []⟩], fun t => replies_Right fu t⟩
theorem replies_Right_eq (fu : Nat) : ∀ t, evF Go.Proofs.Try.prog [replies_kept_ft fu] fu Go.Proofs.Try.f17 replies_Right_fa t = (replies_Right_ft fu).spec t := fun t => by kernel_rfl
theorem replies_Right_told (fu : Nat) : Told Go.Proofs.Try.prog (replies_Right_ft fu) := told_of (allT_cons (replies_kept_told fu) allT_nil) mixed Go.Proofs.Try.func17 (by kernel_rfl) (by kernel_rfl) (replies_Right_eq fu)

def replies_of_1 (fu : Nat) (k : (Int × (Int × List ((Int × (Int × (Int × ((Int × Int) × (Bool × (Int × (List (UInt8) × (List ((List UInt8 × Int)) × (Bool × Int))))))))))))) (client : Int) : Option (Int) :=
  some (IntKind.wrap .i64 (k.1 - client))
def replies_of_1_fa : FnA := ⟨.two (.reg [(0, { ids := [100] })]) (.leaf), ⟨(.cons (.p (.pair (.int .i64) (.pair (.int .i64) (.sl (.pair (.int .i64) (.pair (.int .i64) (.pair (.int .i64) (.pair (.pair (.int .i64) (.int .i64)) (.pair .bool (.pair (.int .i64) (.pair (.sl .byte) (.pair (.sl (.pair .str (.int .i64))) (.pair .bool (.int .i64)))))))))))))) (.cons (.p (.int .i64)) .nil)), []⟩, [⟨(.cons (.p (.int .i64)) .nil), []⟩], [0]⟩
def replies_of_1_ft (fu : Nat) : FnT := ⟨37, ⟨(.cons (.p (.pair (.int .i64) (.pair (.int .i64) (.sl (.pair (.int .i64) (.pair (.int .i64) (.pair (.int .i64) (.pair (.pair (.int .i64) (.int .i64)) (.pair .bool (.pair (.int .i64) (.pair (.sl .byte) (.pair (.sl (.pair .str (.int .i64))) (.pair .bool (.int .i64)))))))))))))) (.cons (.p (.int .i64)) .nil)), []⟩, [⟨(.cons (.p (.int .i64)) .nil), []⟩], fun t => replies_of_1 fu t.1 t.2⟩
theorem replies_of_1_eq (fu : Nat) : ∀ t, evF Go.Proofs.Try.prog [] fu Go.Proofs.Try.f37 replies_of_1_fa t = (replies_of_1_ft fu).spec t := fun t => by kernel_rfl
theorem replies_of_1_told (fu : Nat) : Told Go.Proofs.Try.prog (replies_of_1_ft fu) := told_of allT_nil mixed Go.Proofs.Try.func37 (by kernel_rfl) (by kernel_rfl) (replies_of_1_eq fu)

def slices_BinarySearchFunc__api_Kept_api_Kept_int_f12_l0 (fu : Nat) (x : List ((Int × (Int × List ((Int × (Int × (Int × ((Int × Int) × (Bool × (Int × (List (UInt8) × (List ((List UInt8 × Int)) × (Bool × Int)))))))))))))) (target : Int) (i : Int) (j : Int) : Option ((Int × Int) ⊕ (Int)) :=
  bif (decide (i < j)) then
    (idx? (IntKind.wrap .i64 (Int.fdiv (IntKind.wrap .u64 (IntKind.wrap .i64 (i + j))) 2)) x.length).bind fun q =>
    (x)[q]?.bind fun r =>
    (replies_of_1 fu r target).bind fun r1 =>
    Option.bind (α := ((Int × Int))) (
      bif (decide (r1 < 0)) then
        some ((IntKind.wrap .i64 ((IntKind.wrap .i64 (Int.fdiv (IntKind.wrap .u64 (IntKind.wrap .i64 (i + j))) 2)) + 1)), j)
      else
        some (i, (IntKind.wrap .i64 (Int.fdiv (IntKind.wrap .u64 (IntKind.wrap .i64 (i + j))) 2)))) fun o =>
    some (.inl (o.1, o.2))
  else
    some (.inr i)
def slices_BinarySearchFunc__api_Kept_api_Kept_int_f12_l0_it (fu : Nat) (x : List ((Int × (Int × List ((Int × (Int × (Int × ((Int × Int) × (Bool × (Int × (List (UInt8) × (List ((List UInt8 × Int)) × (Bool × Int)))))))))))))) (target : Int) (tt : (Int × Int)) : Option (Int) :=
  iter fu (fun tt => slices_BinarySearchFunc__api_Kept_api_Kept_int_f12_l0 fu x target tt.1 tt.2) tt
def slices_BinarySearchFunc__api_Kept_api_Kept_int_f12 (fu : Nat) (x : List ((Int × (Int × List ((Int × (Int × (Int × ((Int × Int) × (Bool × (Int × (List (UInt8) × (List ((List UInt8 × Int)) × (Bool × Int)))))))))))))) (target : Int) : Option ((Int × Bool)) :=
  (slices_BinarySearchFunc__api_Kept_api_Kept_int_f12_l0_it fu x target (0, ((x.length : Nat) : Int))).bind fun o1 =>
  bif (decide (o1 < ((x.length : Nat) : Int))) then
    (idx? o1 x.length).bind fun q1 =>
    (x)[q1]?.bind fun r2 =>
    (replies_of_1 fu r2 target).bind fun r3 =>
    some (o1, (r3 == 0))
  else
    some (o1, false)
def slices_BinarySearchFunc__api_Kept_api_Kept_int_f12_fa : FnA := ⟨.two (.leaf) (.two (.leaf) (.two (.leaf) (.two (.one (.loop ⟨[9, 10], ⟨(.cons (.p (.int .i64)) (.cons (.p (.int .i64)) .nil)), []⟩⟩ false [(0, ⟨[9], ⟨(.cons (.p (.int .i64)) .nil), []⟩⟩)] (.two (.two (.leaf) (.leaf)) (.one (.two (.leaf) (.two (.reg [(6, {  })]) (.join ⟨[9, 10], ⟨(.cons (.p (.int .i64)) (.cons (.p (.int .i64)) .nil)), []⟩⟩ false [] (.leaf)))))))) (.two (.reg [(11, {  })]) (.leaf))))), ⟨(.cons (.p (.sl (.pair (.int .i64) (.pair (.int .i64) (.sl (.pair (.int .i64) (.pair (.int .i64) (.pair (.int .i64) (.pair (.pair (.int .i64) (.int .i64)) (.pair .bool (.pair (.int .i64) (.pair (.sl .byte) (.pair (.sl (.pair .str (.int .i64))) (.pair .bool (.int .i64))))))))))))))) (.cons (.p (.int .i64)) (.cons (.fn 37 .nil .nil) .nil))), []⟩, [⟨(.cons (.p (.int .i64)) (.cons (.p .bool) .nil)), []⟩], [0, 0]⟩
def slices_BinarySearchFunc__api_Kept_api_Kept_int_f12_ft (fu : Nat) : FnT := ⟨36, ⟨(.cons (.p (.sl (.pair (.int .i64) (.pair (.int .i64) (.sl (.pair (.int .i64) (.pair (.int .i64) (.pair (.int .i64) (.pair (.pair (.int .i64) (.int .i64)) (.pair .bool (.pair (.int .i64) (.pair (.sl .byte) (.pair (.sl (.pair .str (.int .i64))) (.pair .bool (.int .i64))))))))))))))) (.cons (.p (.int .i64)) (.cons (.fn 37 .nil .nil) .nil))), []⟩, [⟨(.cons (.p (.int .i64)) (.cons (.p .bool) .nil)), []⟩], fun t => slices_BinarySearchFunc__api_Kept_api_Kept_int_f12 fu t.1 t.2⟩
theorem slices_BinarySearchFunc__api_Kept_api_Kept_int_f12_eq (fu : Nat) : ∀ t, evF Go.Proofs.Try.prog [replies_of_1_ft fu] fu Go.Proofs.Try.f36 slices_BinarySearchFunc__api_Kept_api_Kept_int_f12_fa t = (slices_BinarySearchFunc__api_Kept_api_Kept_int_f12_ft fu).spec t := fun t => by kernel_rfl
theorem slices_BinarySearchFunc__api_Kept_api_Kept_int_f12_told (fu : Nat) : Told Go.Proofs.Try.prog (slices_BinarySearchFunc__api_Kept_api_Kept_int_f12_ft fu) := told_of (allT_cons (replies_of_1_told fu) allT_nil) mixed Go.Proofs.Try.func36 (by kernel_rfl) (by kernel_rfl) (slices_BinarySearchFunc__api_Kept_api_Kept_int_f12_eq fu)

def replies_of (fu : Nat) (c : (Int × List ((Int × (Int × List ((Int × (Int × (Int × ((Int × Int) × (Bool × (Int × (List (UInt8) × (List ((List UInt8 × Int)) × (Bool × Int))))))))))))))) (client : Int) : Option ((Int × Bool)) :=
  (slices_BinarySearchFunc__api_Kept_api_Kept_int_f12 fu c.2 client).bind fun r =>
  some (r.1, r.2)
def replies_of_fa : FnA := ⟨.two (.reg [(0, { ids := [100] })]) (.two (.reg [(3, {  })]) (.leaf)), ⟨(.cons (.p (.pair (.int .i64) (.sl (.pair (.int .i64) (.pair (.int .i64) (.sl (.pair (.int .i64) (.pair (.int .i64) (.pair (.int .i64) (.pair (.pair (.int .i64) (.int .i64)) (.pair .bool (.pair (.int .i64) (.pair (.sl .byte) (.pair (.sl (.pair .str (.int .i64))) (.pair .bool (.int .i64)))))))))))))))) (.cons (.p (.int .i64)) .nil)), []⟩, [⟨(.cons (.p (.int .i64)) (.cons (.p .bool) .nil)), []⟩], [0, 0]⟩
def replies_of_ft (fu : Nat) : FnT := ⟨21, ⟨(.cons (.p (.pair (.int .i64) (.sl (.pair (.int .i64) (.pair (.int .i64) (.sl (.pair (.int .i64) (.pair (.int .i64) (.pair (.int .i64) (.pair (.pair (.int .i64) (.int .i64)) (.pair .bool (.pair (.int .i64) (.pair (.sl .byte) (.pair (.sl (.pair .str (.int .i64))) (.pair .bool (.int .i64)))))))))))))))) (.cons (.p (.int .i64)) .nil)), []⟩, [⟨(.cons (.p (.int .i64)) (.cons (.p .bool) .nil)), []⟩], fun t => replies_of fu t.1 t.2⟩
theorem replies_of_eq (fu : Nat) : ∀ t, evF Go.Proofs.Try.prog [slices_BinarySearchFunc__api_Kept_api_Kept_int_f12_ft fu] fu Go.Proofs.Try.f21 replies_of_fa t = (replies_of_ft fu).spec t := fun t => by kernel_rfl
theorem replies_of_told (fu : Nat) : Told Go.Proofs.Try.prog (replies_of_ft fu) := told_of (allT_cons (slices_BinarySearchFunc__api_Kept_api_Kept_int_f12_told fu) allT_nil) mixed Go.Proofs.Try.func21 (by kernel_rfl) (by kernel_rfl) (replies_of_eq fu)

def replies_compare (fu : Nat) (r : (Int × (Int × (Int × ((Int × Int) × (Bool × (Int × (List (UInt8) × (List ((List UInt8 × Int)) × (Bool × Int)))))))))) (xid : Int) : Option (Int) :=
  bif (decide (r.2.1 < xid)) then
    some (-1)
  else
    bif (decide (r.2.1 > xid)) then
      some 1
    else
      some 0
def replies_compare_fa : FnA := ⟨.two (.reg [(0, { ids := [100] })]) (.two (.one (.two (.leaf) (.two (.leaf) (.two (.leaf) (.two (.leaf) (.leaf)))))) (.leaf)), ⟨(.cons (.p (.pair (.int .i64) (.pair (.int .i64) (.pair (.int .i64) (.pair (.pair (.int .i64) (.int .i64)) (.pair .bool (.pair (.int .i64) (.pair (.sl .byte) (.pair (.sl (.pair .str (.int .i64))) (.pair .bool (.int .i64))))))))))) (.cons (.p (.int .i64)) .nil)), []⟩, [⟨(.cons (.p (.int .i64)) .nil), []⟩], [0]⟩
def replies_compare_ft (fu : Nat) : FnT := ⟨23, ⟨(.cons (.p (.pair (.int .i64) (.pair (.int .i64) (.pair (.int .i64) (.pair (.pair (.int .i64) (.int .i64)) (.pair .bool (.pair (.int .i64) (.pair (.sl .byte) (.pair (.sl (.pair .str (.int .i64))) (.pair .bool (.int .i64))))))))))) (.cons (.p (.int .i64)) .nil)), []⟩, [⟨(.cons (.p (.int .i64)) .nil), []⟩], fun t => replies_compare fu t.1 t.2⟩
theorem replies_compare_eq (fu : Nat) : ∀ t, evF Go.Proofs.Try.prog [] fu Go.Proofs.Try.f23 replies_compare_fa t = (replies_compare_ft fu).spec t := fun t => by kernel_rfl
theorem replies_compare_told (fu : Nat) : Told Go.Proofs.Try.prog (replies_compare_ft fu) := told_of allT_nil mixed Go.Proofs.Try.func23 (by kernel_rfl) (by kernel_rfl) (replies_compare_eq fu)

def slices_BinarySearchFunc__api_Reply_api_Reply_int_fcompare2_l0 (fu : Nat) (x : List ((Int × (Int × (Int × ((Int × Int) × (Bool × (Int × (List (UInt8) × (List ((List UInt8 × Int)) × (Bool × Int))))))))))) (target : Int) (i : Int) (j : Int) : Option ((Int × Int) ⊕ (Int)) :=
  bif (decide (i < j)) then
    (idx? (IntKind.wrap .i64 (Int.fdiv (IntKind.wrap .u64 (IntKind.wrap .i64 (i + j))) 2)) x.length).bind fun q =>
    (x)[q]?.bind fun r =>
    (replies_compare fu r target).bind fun r1 =>
    Option.bind (α := ((Int × Int))) (
      bif (decide (r1 < 0)) then
        some ((IntKind.wrap .i64 ((IntKind.wrap .i64 (Int.fdiv (IntKind.wrap .u64 (IntKind.wrap .i64 (i + j))) 2)) + 1)), j)
      else
        some (i, (IntKind.wrap .i64 (Int.fdiv (IntKind.wrap .u64 (IntKind.wrap .i64 (i + j))) 2)))) fun o =>
    some (.inl (o.1, o.2))
  else
    some (.inr i)
def slices_BinarySearchFunc__api_Reply_api_Reply_int_fcompare2_l0_it (fu : Nat) (x : List ((Int × (Int × (Int × ((Int × Int) × (Bool × (Int × (List (UInt8) × (List ((List UInt8 × Int)) × (Bool × Int))))))))))) (target : Int) (tt : (Int × Int)) : Option (Int) :=
  iter fu (fun tt => slices_BinarySearchFunc__api_Reply_api_Reply_int_fcompare2_l0 fu x target tt.1 tt.2) tt
def slices_BinarySearchFunc__api_Reply_api_Reply_int_fcompare2 (fu : Nat) (x : List ((Int × (Int × (Int × ((Int × Int) × (Bool × (Int × (List (UInt8) × (List ((List UInt8 × Int)) × (Bool × Int))))))))))) (target : Int) : Option ((Int × Bool)) :=
  (slices_BinarySearchFunc__api_Reply_api_Reply_int_fcompare2_l0_it fu x target (0, ((x.length : Nat) : Int))).bind fun o1 =>
  bif (decide (o1 < ((x.length : Nat) : Int))) then
    (idx? o1 x.length).bind fun q1 =>
    (x)[q1]?.bind fun r2 =>
    (replies_compare fu r2 target).bind fun r3 =>
    some (o1, (r3 == 0))
  else
    some (o1, false)
def slices_BinarySearchFunc__api_Reply_api_Reply_int_fcompare2_fa : FnA := ⟨.two (.leaf) (.two (.leaf) (.two (.leaf) (.two (.one (.loop ⟨[9, 10], ⟨(.cons (.p (.int .i64)) (.cons (.p (.int .i64)) .nil)), []⟩⟩ false [(0, ⟨[9], ⟨(.cons (.p (.int .i64)) .nil), []⟩⟩)] (.two (.two (.leaf) (.leaf)) (.one (.two (.leaf) (.two (.reg [(6, {  })]) (.join ⟨[9, 10], ⟨(.cons (.p (.int .i64)) (.cons (.p (.int .i64)) .nil)), []⟩⟩ false [] (.leaf)))))))) (.two (.reg [(11, {  })]) (.leaf))))), ⟨(.cons (.p (.sl (.pair (.int .i64) (.pair (.int .i64) (.pair (.int .i64) (.pair (.pair (.int .i64) (.int .i64)) (.pair .bool (.pair (.int .i64) (.pair (.sl .byte) (.pair (.sl (.pair .str (.int .i64))) (.pair .bool (.int .i64)))))))))))) (.cons (.p (.int .i64)) (.cons (.fn 23 .nil .nil) .nil))), []⟩, [⟨(.cons (.p (.int .i64)) (.cons (.p .bool) .nil)), []⟩], [0, 0]⟩
def slices_BinarySearchFunc__api_Reply_api_Reply_int_fcompare2_ft (fu : Nat) : FnT := ⟨22, ⟨(.cons (.p (.sl (.pair (.int .i64) (.pair (.int .i64) (.pair (.int .i64) (.pair (.pair (.int .i64) (.int .i64)) (.pair .bool (.pair (.int .i64) (.pair (.sl .byte) (.pair (.sl (.pair .str (.int .i64))) (.pair .bool (.int .i64)))))))))))) (.cons (.p (.int .i64)) (.cons (.fn 23 .nil .nil) .nil))), []⟩, [⟨(.cons (.p (.int .i64)) (.cons (.p .bool) .nil)), []⟩], fun t => slices_BinarySearchFunc__api_Reply_api_Reply_int_fcompare2 fu t.1 t.2⟩
theorem slices_BinarySearchFunc__api_Reply_api_Reply_int_fcompare2_eq (fu : Nat) : ∀ t, evF Go.Proofs.Try.prog [replies_compare_ft fu] fu Go.Proofs.Try.f22 slices_BinarySearchFunc__api_Reply_api_Reply_int_fcompare2_fa t = (slices_BinarySearchFunc__api_Reply_api_Reply_int_fcompare2_ft fu).spec t := fun t => by kernel_rfl
theorem slices_BinarySearchFunc__api_Reply_api_Reply_int_fcompare2_told (fu : Nat) : Told Go.Proofs.Try.prog (slices_BinarySearchFunc__api_Reply_api_Reply_int_fcompare2_ft fu) := told_of (allT_cons (replies_compare_told fu) allT_nil) mixed Go.Proofs.Try.func22 (by kernel_rfl) (by kernel_rfl) (slices_BinarySearchFunc__api_Reply_api_Reply_int_fcompare2_eq fu)

def slices_Clone__byte_byte (fu : Nat) (s : List (UInt8)) : Option (List (UInt8)) :=
  nilQ s.length fun isNil =>
  bif isNil then
    some []
  else
    need ((Nat.ble ((0 + s.length) * 1) room) && (Nat.ble (0 + s.length) room)) <|
    some s
def slices_Clone__byte_byte_fa : FnA := ⟨.two (.leaf) (.two (.two (.leaf) (.two (.leaf) (.leaf))) (.two (.reg [(0, { ids := [100] }), (2, { ids := [101] })]) (.leaf))), ⟨(.cons (.p (.sl .byte)) .nil), []⟩, [⟨(.cons (.slf 1 0) .nil), [(0, false, (.rows 5 .byte))]⟩], [15]⟩
def slices_Clone__byte_byte_ft (fu : Nat) : FnT := ⟨38, ⟨(.cons (.p (.sl .byte)) .nil), []⟩, [⟨(.cons (.slf 1 0) .nil), [(0, false, (.rows 5 .byte))]⟩], fun t => slices_Clone__byte_byte fu t⟩
theorem slices_Clone__byte_byte_eq (fu : Nat) : ∀ t, evF Go.Proofs.Try.prog [] fu Go.Proofs.Try.f38 slices_Clone__byte_byte_fa t = (slices_Clone__byte_byte_ft fu).spec t := fun t => by kernel_rfl
theorem slices_Clone__byte_byte_told (fu : Nat) : Told Go.Proofs.Try.prog (slices_Clone__byte_byte_ft fu) := told_of allT_nil mixed Go.Proofs.Try.func38 (by kernel_rfl) (by kernel_rfl) (slices_Clone__byte_byte_eq fu)

def slices_Clone__api_Entry_api_Entry (fu : Nat) (s : List ((List UInt8 × Int))) : Option (List ((List UInt8 × Int))) :=
  nilQ s.length fun isNil =>
  bif isNil then
    some []
  else
    need ((Nat.ble ((0 + s.length) * 24) room) && (Nat.ble (0 + s.length) room)) <|
    some s
def slices_Clone__api_Entry_api_Entry_fa : FnA := ⟨.two (.leaf) (.two (.two (.leaf) (.two (.leaf) (.leaf))) (.two (.reg [(0, { ids := [100] }), (2, { ids := [101] })]) (.leaf))), ⟨(.cons (.p (.sl (.pair .str (.int .i64)))) .nil), []⟩, [⟨(.cons (.slf 2 0) .nil), [(0, false, (.rows 60 (.pair .str (.int .i64))))]⟩], [70]⟩
def slices_Clone__api_Entry_api_Entry_ft (fu : Nat) : FnT := ⟨39, ⟨(.cons (.p (.sl (.pair .str (.int .i64)))) .nil), []⟩, [⟨(.cons (.slf 2 0) .nil), [(0, false, (.rows 60 (.pair .str (.int .i64))))]⟩], fun t => slices_Clone__api_Entry_api_Entry fu t⟩
theorem slices_Clone__api_Entry_api_Entry_eq (fu : Nat) : ∀ t, evF Go.Proofs.Try.prog [] fu Go.Proofs.Try.f39 slices_Clone__api_Entry_api_Entry_fa t = (slices_Clone__api_Entry_api_Entry_ft fu).spec t := fun t => by kernel_rfl
theorem slices_Clone__api_Entry_api_Entry_told (fu : Nat) : Told Go.Proofs.Try.prog (slices_Clone__api_Entry_api_Entry_ft fu) := told_of allT_nil mixed Go.Proofs.Try.func39 (by kernel_rfl) (by kernel_rfl) (slices_Clone__api_Entry_api_Entry_eq fu)

def replies_own (fu : Nat) (r : (Int × (Int × (Int × ((Int × Int) × (Bool × (Int × (List (UInt8) × (List ((List UInt8 × Int)) × (Bool × Int)))))))))) : Option ((Int × (Int × (Int × (Int × (Int × (Bool × (Int × (Bool × (Int × (List (UInt8) × List ((List UInt8 × Int))))))))))))) :=
  (slices_Clone__byte_byte fu r.2.2.2.2.2.2.1).bind fun r1 =>
  (slices_Clone__api_Entry_api_Entry fu r.2.2.2.2.2.2.2.1).bind fun r2 =>
  some (r.1, (r.2.1, (r.2.2.1, (r.2.2.2.1.1, (r.2.2.2.1.2, (r.2.2.2.2.1, (r.2.2.2.2.2.1, (r.2.2.2.2.2.2.2.2.1, (r.2.2.2.2.2.2.2.2.2, (r1, r2))))))))))
def replies_own_fa : FnA := ⟨.two (.reg [(0, { ids := [100] }), (1, { ids := [101] })]) (.two (.reg [(2, { ids := [102] }), (5, { ids := [103], fn := 1 })]) (.leaf)), ⟨(.cons (.p (.pair (.int .i64) (.pair (.int .i64) (.pair (.int .i64) (.pair (.pair (.int .i64) (.int .i64)) (.pair .bool (.pair (.int .i64) (.pair (.sl .byte) (.pair (.sl (.pair .str (.int .i64))) (.pair .bool (.int .i64))))))))))) .nil), []⟩, [⟨(.cons (.agg (.cons (.p (.int .i64)) (.cons (.p (.int .i64)) (.cons (.p (.int .i64)) (.cons (.p (.int .i64)) (.cons (.p (.int .i64)) (.cons (.p .bool) (.cons (.p (.int .i64)) (.cons (.slf 1 0) (.cons (.slf 2 1) (.cons (.p .bool) (.cons (.p (.int .i64)) .nil)))))))))))) .nil), [(0, false, (.rows 5 .byte)), (1, false, (.rows 60 (.pair .str (.int .i64))))]⟩], [0]⟩
def replies_own_ft (fu : Nat) : FnT := ⟨24, ⟨(.cons (.p (.pair (.int .i64) (.pair (.int .i64) (.pair (.int .i64) (.pair (.pair (.int .i64) (.int .i64)) (.pair .bool (.pair (.int .i64) (.pair (.sl .byte) (.pair (.sl (.pair .str (.int .i64))) (.pair .bool (.int .i64))))))))))) .nil), []⟩, [⟨(.cons (.agg (.cons (.p (.int .i64)) (.cons (.p (.int .i64)) (.cons (.p (.int .i64)) (.cons (.p (.int .i64)) (.cons (.p (.int .i64)) (.cons (.p .bool) (.cons (.p (.int .i64)) (.cons (.slf 1 0) (.cons (.slf 2 1) (.cons (.p .bool) (.cons (.p (.int .i64)) .nil)))))))))))) .nil), [(0, false, (.rows 5 .byte)), (1, false, (.rows 60 (.pair .str (.int .i64))))]⟩], fun t => replies_own fu t⟩
theorem replies_own_eq (fu : Nat) : ∀ t, evF Go.Proofs.Try.prog [slices_Clone__byte_byte_ft fu, slices_Clone__api_Entry_api_Entry_ft fu] fu Go.Proofs.Try.f24 replies_own_fa t = (replies_own_ft fu).spec t := fun t => by kernel_rfl
theorem replies_own_told (fu : Nat) : Told Go.Proofs.Try.prog (replies_own_ft fu) := told_of (allT_cons (slices_Clone__byte_byte_told fu) (allT_cons (slices_Clone__api_Entry_api_Entry_told fu) allT_nil)) mixed Go.Proofs.Try.func24 (by kernel_rfl) (by kernel_rfl) (replies_own_eq fu)

def replies_Look (fu : Nat) (c : (Int × List ((Int × (Int × List ((Int × (Int × (Int × ((Int × Int) × (Bool × (Int × (List (UInt8) × (List ((List UInt8 × Int)) × (Bool × Int))))))))))))))) (client : Int) (xid : Int) : Option ((Int × (Int × (Int × (Int × (Int × (Bool × (Int × (List (UInt8) × (List ((List UInt8 × Int)) × (Bool × (Int × Int)))))))))))) :=
  (replies_Right fu (c.1, c.2)).bind fun r =>
  Option.bind (α := ((Bool × (Int × (List ((Int × (Int × List ((Int × (Int × (Int × ((Int × Int) × (Bool × (Int × (List (UInt8) × (List ((List UInt8 × Int)) × (Bool × Int))))))))))))) × (Int × (Int × (Int × (Int × (Int × (Bool × (Int × (Bool × Int))))))))))))) (
    bif r then
      bif (decide (client ≥ 0)) then
        some ((decide (client < 16)), (c.1, (c.2, (0, (0, (0, (0, (0, (false, (0, (false, 0)))))))))))
      else
        some (false, (c.1, (c.2, (0, (0, (0, (0, (0, (false, (0, (false, 0)))))))))))
    else
      some (false, (c.1, (c.2, (0, (0, (0, (0, (0, (false, (0, (false, 0)))))))))))) fun o =>
  Option.bind (α := ((Int × (Bool × (Int × (List ((Int × (Int × List ((Int × (Int × (Int × ((Int × Int) × (Bool × (Int × (List (UInt8) × (List ((List UInt8 × Int)) × (Bool × Int))))))))))))) × (Int × (Int × (Int × (Int × (Int × (Bool × (Int × (Bool × Int)))))))))))))) (
    bif o.1 then
      (replies_of fu (o.2.1, o.2.2.1) client).bind fun r1 =>
      some (r1.1, (r1.2, (o.2.1, (o.2.2.1, (o.2.2.2.1, (o.2.2.2.2.1, (o.2.2.2.2.2.1, (o.2.2.2.2.2.2.1, (o.2.2.2.2.2.2.2.1, (o.2.2.2.2.2.2.2.2.1, (o.2.2.2.2.2.2.2.2.2.1, (o.2.2.2.2.2.2.2.2.2.2.1, o.2.2.2.2.2.2.2.2.2.2.2))))))))))))
    else
      some ((-1), (r, (o.2.1, (o.2.2.1, (o.2.2.2.1, (o.2.2.2.2.1, (o.2.2.2.2.2.1, (o.2.2.2.2.2.2.1, (o.2.2.2.2.2.2.2.1, (o.2.2.2.2.2.2.2.2.1, (o.2.2.2.2.2.2.2.2.2.1, (o.2.2.2.2.2.2.2.2.2.2.1, o.2.2.2.2.2.2.2.2.2.2.2))))))))))))) fun o1 =>
  Option.bind (α := ((Bool × (Int × (List ((Int × (Int × List ((Int × (Int × (Int × ((Int × Int) × (Bool × (Int × (List (UInt8) × (List ((List UInt8 × Int)) × (Bool × Int))))))))))))) × (Int × (Int × (Int × (Int × (Int × (Bool × (Int × (Bool × Int))))))))))))) (
    bif (!o1.2.1) then
      some (true, (o1.2.2.1, (o1.2.2.2.1, (o1.2.2.2.2.1, (o1.2.2.2.2.2.1, (o1.2.2.2.2.2.2.1, (o1.2.2.2.2.2.2.2.1, (o1.2.2.2.2.2.2.2.2.1, (o1.2.2.2.2.2.2.2.2.2.1, (o1.2.2.2.2.2.2.2.2.2.2.1, (o1.2.2.2.2.2.2.2.2.2.2.2.1, o1.2.2.2.2.2.2.2.2.2.2.2.2)))))))))))
    else
      some ((decide (o1.1 < 0)), (o1.2.2.1, (o1.2.2.2.1, (o1.2.2.2.2.1, (o1.2.2.2.2.2.1, (o1.2.2.2.2.2.2.1, (o1.2.2.2.2.2.2.2.1, (o1.2.2.2.2.2.2.2.2.1, (o1.2.2.2.2.2.2.2.2.2.1, (o1.2.2.2.2.2.2.2.2.2.2.1, (o1.2.2.2.2.2.2.2.2.2.2.2.1, o1.2.2.2.2.2.2.2.2.2.2.2.2)))))))))))) fun o2 =>
  bif o2.1 then
    some (0, (0, (0, (0, (0, (false, (0, ([], ([], (false, (0, 0)))))))))))
  else
    (idx? o1.1 o2.2.2.1.length).bind fun q =>
    (o2.2.2.1)[q]?.bind fun r2 =>
    bif (decide (xid ≤ r2.2.1)) then
      some (0, (0, (0, (0, (0, (false, (0, ([], ([], (false, (0, 2)))))))))))
    else
      (slices_BinarySearchFunc__api_Reply_api_Reply_int_fcompare2 fu r2.2.2 xid).bind fun r3 =>
      bif r3.2 then
        (idx? r3.1 r2.2.2.length).bind fun q1 =>
        (r2.2.2)[q1]?.bind fun r4 =>
        (replies_own fu r4).bind fun r5 =>
        some (r5.1, (r5.2.1, (r5.2.2.1, (r5.2.2.2.1, (r5.2.2.2.2.1, (r5.2.2.2.2.2.1, (r5.2.2.2.2.2.2.1, (r5.2.2.2.2.2.2.2.2.2.1, (r5.2.2.2.2.2.2.2.2.2.2, (r5.2.2.2.2.2.2.2.1, (r5.2.2.2.2.2.2.2.2.1, 1)))))))))))
      else
        some (0, (0, (0, (0, (0, (false, (0, ([], ([], (false, (0, 0)))))))))))
def replies_Look_fa : FnA := ⟨.two (.reg [(0, { ids := [100] }), (1, { ids := [101] })]) (.two (.reg [(1, {  })]) (.two (.two (.join ⟨[3, 6, 23], ⟨(.cons (.own 0 100 0 0) (.cons (.own 0 101 0 0) (.cons (.p .bool) .nil))), [(100, false, (.vars (.cons (.p (.int .i64)) (.cons (.p (.sl (.pair (.int .i64) (.pair (.int .i64) (.sl (.pair (.int .i64) (.pair (.int .i64) (.pair (.int .i64) (.pair (.pair (.int .i64) (.int .i64)) (.pair .bool (.pair (.int .i64) (.pair (.sl .byte) (.pair (.sl (.pair .str (.int .i64))) (.pair .bool (.int .i64))))))))))))))) .nil)))), (101, false, (.vars (.cons (.p (.int .i64)) (.cons (.p (.int .i64)) (.cons (.p (.int .i64)) (.cons (.p (.int .i64)) (.cons (.p (.int .i64)) (.cons (.p .bool) (.cons (.p (.int .i64)) (.cons (.nilp (.slice none 0 0)) (.cons (.nilp (.slice none 0 0)) (.cons (.p .bool) (.cons (.p (.int .i64)) .nil)))))))))))))]⟩⟩ false [] (.leaf)) (.join ⟨[3, 6, 8, 9], ⟨(.cons (.own 0 100 0 0) (.cons (.own 0 101 0 0) (.cons (.p (.int .i64)) (.cons (.p .bool) .nil)))), [(100, false, (.vars (.cons (.p (.int .i64)) (.cons (.p (.sl (.pair (.int .i64) (.pair (.int .i64) (.sl (.pair (.int .i64) (.pair (.int .i64) (.pair (.int .i64) (.pair (.pair (.int .i64) (.int .i64)) (.pair .bool (.pair (.int .i64) (.pair (.sl .byte) (.pair (.sl (.pair .str (.int .i64))) (.pair .bool (.int .i64))))))))))))))) .nil)))), (101, false, (.vars (.cons (.p (.int .i64)) (.cons (.p (.int .i64)) (.cons (.p (.int .i64)) (.cons (.p (.int .i64)) (.cons (.p (.int .i64)) (.cons (.p .bool) (.cons (.p (.int .i64)) (.cons (.nilp (.slice none 0 0)) (.cons (.nilp (.slice none 0 0)) (.cons (.p .bool) (.cons (.p (.int .i64)) .nil)))))))))))))]⟩⟩ false [] (.two (.reg [(2, { fn := 1 })]) (.leaf)))) (.two (.two (.join ⟨[3, 6, 35], ⟨(.cons (.own 0 100 0 0) (.cons (.own 0 101 0 0) (.cons (.p .bool) .nil))), [(100, false, (.vars (.cons (.p (.int .i64)) (.cons (.p (.sl (.pair (.int .i64) (.pair (.int .i64) (.sl (.pair (.int .i64) (.pair (.int .i64) (.pair (.int .i64) (.pair (.pair (.int .i64) (.int .i64)) (.pair .bool (.pair (.int .i64) (.pair (.sl .byte) (.pair (.sl (.pair .str (.int .i64))) (.pair .bool (.int .i64))))))))))))))) .nil)))), (101, false, (.vars (.cons (.p (.int .i64)) (.cons (.p (.int .i64)) (.cons (.p (.int .i64)) (.cons (.p (.int .i64)) (.cons (.p (.int .i64)) (.cons (.p .bool) (.cons (.p (.int .i64)) (.cons (.nilp (.slice none 0 0)) (.cons (.nilp (.slice none 0 0)) (.cons (.p .bool) (.cons (.p (.int .i64)) .nil)))))))))))))]⟩⟩ false [] (.leaf)) (.two (.leaf) (.leaf))) (.two (.reg [(5, { ids := [102] })]) (.two (.two (.leaf) (.two (.leaf) (.leaf))) (.two (.two (.reg [(3, { fn := 2 })]) (.two (.leaf) (.two (.two (.reg [(5, { ids := [103, 104], fn := 3 })]) (.leaf)) (.leaf)))) (.leaf))))))), ⟨(.cons (.p (.pair (.int .i64) (.sl (.pair (.int .i64) (.pair (.int .i64) (.sl (.pair (.int .i64) (.pair (.int .i64) (.pair (.int .i64) (.pair (.pair (.int .i64) (.int .i64)) (.pair .bool (.pair (.int .i64) (.pair (.sl .byte) (.pair (.sl (.pair .str (.int .i64))) (.pair .bool (.int .i64)))))))))))))))) (.cons (.p (.int .i64)) (.cons (.p (.int .i64)) .nil))), []⟩, [⟨(.cons (.agg (.cons (.p (.int .i64)) (.cons (.p (.int .i64)) (.cons (.p (.int .i64)) (.cons (.p (.int .i64)) (.cons (.p (.int .i64)) (.cons (.p .bool) (.cons (.p (.int .i64)) (.cons (.p (.sl .byte)) (.cons (.p (.sl (.pair .str (.int .i64)))) (.cons (.p .bool) (.cons (.p (.int .i64)) .nil)))))))))))) (.cons (.p (.int .i64)) .nil)), []⟩], [1, 0]⟩
def replies_Look_ft (fu : Nat) : FnT := ⟨11, ⟨(.cons (.p (.pair (.int .i64) (.sl (.pair (.int .i64) (.pair (.int .i64) (.sl (.pair (.int .i64) (.pair (.int .i64) (.pair (.int .i64) (.pair (.pair (.int .i64) (.int .i64)) (.pair .bool (.pair (.int .i64) (.pair (.sl .byte) (.pair (.sl (.pair .str (.int .i64))) (.pair .bool (.int .i64)))))))))))))))) (.cons (.p (.int .i64)) (.cons (.p (.int .i64)) .nil))), []⟩, [⟨(.cons (.agg (.cons (.p (.int .i64)) (.cons (.p (.int .i64)) (.cons (.p (.int .i64)) (.cons (.p (.int .i64)) (.cons (.p (.int .i64)) (.cons (.p .bool) (.cons (.p (.int .i64)) (.cons (.p (.sl .byte)) (.cons (.p (.sl (.pair .str (.int .i64)))) (.cons (.p .bool) (.cons (.p (.int .i64)) .nil)))))))))))) (.cons (.p (.int .i64)) .nil)), []⟩], fun t => replies_Look fu t.1 t.2.1 t.2.2⟩
theorem replies_Look_eq (fu : Nat) : ∀ t, evF Go.Proofs.Try.prog [replies_Right_ft fu, replies_of_ft fu, slices_BinarySearchFunc__api_Reply_api_Reply_int_fcompare2_ft fu, replies_own_ft fu] fu Go.Proofs.Try.f11 replies_Look_fa t = (replies_Look_ft fu).spec t := fun t => by kernel_rfl
theorem replies_Look_told (fu : Nat) : Told Go.Proofs.Try.prog (replies_Look_ft fu) := told_of (allT_cons (replies_Right_told fu) (allT_cons (replies_of_told fu) (allT_cons (slices_BinarySearchFunc__api_Reply_api_Reply_int_fcompare2_told fu) (allT_cons (replies_own_told fu) allT_nil)))) mixed Go.Proofs.Try.func11 (by kernel_rfl) (by kernel_rfl) (replies_Look_eq fu)

def slices_Clone__api_Kept_api_Kept (fu : Nat) (s : List ((Int × (Int × List ((Int × (Int × (Int × ((Int × Int) × (Bool × (Int × (List (UInt8) × (List ((List UInt8 × Int)) × (Bool × Int)))))))))))))) : Option (List ((Int × (Int × List ((Int × (Int × (Int × ((Int × Int) × (Bool × (Int × (List (UInt8) × (List ((List UInt8 × Int)) × (Bool × Int)))))))))))))) :=
  nilQ s.length fun isNil =>
  bif isNil then
    some []
  else
    need ((Nat.ble ((0 + s.length) * 40) room) && (Nat.ble (0 + s.length) room)) <|
    some s
def slices_Clone__api_Kept_api_Kept_fa : FnA := ⟨.two (.leaf) (.two (.two (.leaf) (.two (.leaf) (.leaf))) (.two (.reg [(0, { ids := [100] }), (2, { ids := [101] })]) (.leaf))), ⟨(.cons (.p (.sl (.pair (.int .i64) (.pair (.int .i64) (.sl (.pair (.int .i64) (.pair (.int .i64) (.pair (.int .i64) (.pair (.pair (.int .i64) (.int .i64)) (.pair .bool (.pair (.int .i64) (.pair (.sl .byte) (.pair (.sl (.pair .str (.int .i64))) (.pair .bool (.int .i64))))))))))))))) .nil), []⟩, [⟨(.cons (.slf 3 0) .nil), [(0, false, (.rows 58 (.pair (.int .i64) (.pair (.int .i64) (.sl (.pair (.int .i64) (.pair (.int .i64) (.pair (.int .i64) (.pair (.pair (.int .i64) (.int .i64)) (.pair .bool (.pair (.int .i64) (.pair (.sl .byte) (.pair (.sl (.pair .str (.int .i64))) (.pair .bool (.int .i64)))))))))))))))]⟩], [68]⟩
def slices_Clone__api_Kept_api_Kept_ft (fu : Nat) : FnT := ⟨40, ⟨(.cons (.p (.sl (.pair (.int .i64) (.pair (.int .i64) (.sl (.pair (.int .i64) (.pair (.int .i64) (.pair (.int .i64) (.pair (.pair (.int .i64) (.int .i64)) (.pair .bool (.pair (.int .i64) (.pair (.sl .byte) (.pair (.sl (.pair .str (.int .i64))) (.pair .bool (.int .i64))))))))))))))) .nil), []⟩, [⟨(.cons (.slf 3 0) .nil), [(0, false, (.rows 58 (.pair (.int .i64) (.pair (.int .i64) (.sl (.pair (.int .i64) (.pair (.int .i64) (.pair (.int .i64) (.pair (.pair (.int .i64) (.int .i64)) (.pair .bool (.pair (.int .i64) (.pair (.sl .byte) (.pair (.sl (.pair .str (.int .i64))) (.pair .bool (.int .i64)))))))))))))))]⟩], fun t => slices_Clone__api_Kept_api_Kept fu t⟩
theorem slices_Clone__api_Kept_api_Kept_eq (fu : Nat) : ∀ t, evF Go.Proofs.Try.prog [] fu Go.Proofs.Try.f40 slices_Clone__api_Kept_api_Kept_fa t = (slices_Clone__api_Kept_api_Kept_ft fu).spec t := fun t => by kernel_rfl
theorem slices_Clone__api_Kept_api_Kept_told (fu : Nat) : Told Go.Proofs.Try.prog (slices_Clone__api_Kept_api_Kept_ft fu) := told_of allT_nil mixed Go.Proofs.Try.func40 (by kernel_rfl) (by kernel_rfl) (slices_Clone__api_Kept_api_Kept_eq fu)

def slices_Clone__api_Reply_api_Reply (fu : Nat) (s : List ((Int × (Int × (Int × ((Int × Int) × (Bool × (Int × (List (UInt8) × (List ((List UInt8 × Int)) × (Bool × Int))))))))))) : Option (List ((Int × (Int × (Int × ((Int × Int) × (Bool × (Int × (List (UInt8) × (List ((List UInt8 × Int)) × (Bool × Int))))))))))) :=
  nilQ s.length fun isNil =>
  bif isNil then
    some []
  else
    need ((Nat.ble ((0 + s.length) * 120) room) && (Nat.ble (0 + s.length) room)) <|
    some s
def slices_Clone__api_Reply_api_Reply_fa : FnA := ⟨.two (.leaf) (.two (.two (.leaf) (.two (.leaf) (.leaf))) (.two (.reg [(0, { ids := [100] }), (2, { ids := [101] })]) (.leaf))), ⟨(.cons (.p (.sl (.pair (.int .i64) (.pair (.int .i64) (.pair (.int .i64) (.pair (.pair (.int .i64) (.int .i64)) (.pair .bool (.pair (.int .i64) (.pair (.sl .byte) (.pair (.sl (.pair .str (.int .i64))) (.pair .bool (.int .i64)))))))))))) .nil), []⟩, [⟨(.cons (.slf 11 0) .nil), [(0, false, (.rows 31 (.pair (.int .i64) (.pair (.int .i64) (.pair (.int .i64) (.pair (.pair (.int .i64) (.int .i64)) (.pair .bool (.pair (.int .i64) (.pair (.sl .byte) (.pair (.sl (.pair .str (.int .i64))) (.pair .bool (.int .i64))))))))))))]⟩], [41]⟩
def slices_Clone__api_Reply_api_Reply_ft (fu : Nat) : FnT := ⟨41, ⟨(.cons (.p (.sl (.pair (.int .i64) (.pair (.int .i64) (.pair (.int .i64) (.pair (.pair (.int .i64) (.int .i64)) (.pair .bool (.pair (.int .i64) (.pair (.sl .byte) (.pair (.sl (.pair .str (.int .i64))) (.pair .bool (.int .i64)))))))))))) .nil), []⟩, [⟨(.cons (.slf 11 0) .nil), [(0, false, (.rows 31 (.pair (.int .i64) (.pair (.int .i64) (.pair (.int .i64) (.pair (.pair (.int .i64) (.int .i64)) (.pair .bool (.pair (.int .i64) (.pair (.sl .byte) (.pair (.sl (.pair .str (.int .i64))) (.pair .bool (.int .i64))))))))))))]⟩], fun t => slices_Clone__api_Reply_api_Reply fu t⟩
theorem slices_Clone__api_Reply_api_Reply_eq (fu : Nat) : ∀ t, evF Go.Proofs.Try.prog [] fu Go.Proofs.Try.f41 slices_Clone__api_Reply_api_Reply_fa t = (slices_Clone__api_Reply_api_Reply_ft fu).spec t := fun t => by kernel_rfl
theorem slices_Clone__api_Reply_api_Reply_told (fu : Nat) : Told Go.Proofs.Try.prog (slices_Clone__api_Reply_api_Reply_ft fu) := told_of allT_nil mixed Go.Proofs.Try.func41 (by kernel_rfl) (by kernel_rfl) (slices_Clone__api_Reply_api_Reply_eq fu)

def replies_copied_l0 (fu : Nat) (r4 : (Int × (Int × (List ((Int × (Int × (Int × ((Int × Int) × (Bool × (Int × (List (UInt8) × (List ((List UInt8 × Int)) × (Bool × Int)))))))))) ⊕ Option (Nat × (Nat × Nat)))))) (k : Nat) (x2 : Int) (h4 : Int) (h5 : List ((Int × (Int × (List ((Int × (Int × (Int × ((Int × Int) × (Bool × (Int × (List (UInt8) × (List ((List UInt8 × Int)) × (Bool × Int)))))))))) ⊕ Option (Nat × (Nat × Nat))))))) (h6 : Int) (h7 : List ((Nat × List ((Int × (Int × (Int × ((Int × Int) × (Bool × (Int × (List (UInt8) × (List ((List UInt8 × Int)) × (Bool × Int))))))))))))) : Option ((Nat × (Int × (Int × (List ((Int × (Int × (List ((Int × (Int × (Int × ((Int × Int) × (Bool × (Int × (List (UInt8) × (List ((List UInt8 × Int)) × (Bool × Int)))))))))) ⊕ Option (Nat × (Nat × Nat)))))) × (Int × List ((Nat × List ((Int × (Int × (Int × ((Int × Int) × (Bool × (Int × (List (UInt8) × (List ((List UInt8 × Int)) × (Bool × Int))))))))))))))))) ⊕ ((Int × (List ((Int × (Int × (List ((Int × (Int × (Int × ((Int × Int) × (Bool × (Int × (List (UInt8) × (List ((List UInt8 × Int)) × (Bool × Int)))))))))) ⊕ Option (Nat × (Nat × Nat)))))) × (Int × List ((Nat × List ((Int × (Int × (Int × ((Int × Int) × (Bool × (Int × (List (UInt8) × (List ((List UInt8 × Int)) × (Bool × Int))))))))))))))))) :=
  bif (decide (x2 < (((refLen (s := (.pair (.int .i64) (.pair (.int .i64) (.pair (.int .i64) (.pair (.pair (.int .i64) (.int .i64)) (.pair .bool (.pair (.int .i64) (.pair (.sl .byte) (.pair (.sl (.pair .str (.int .i64))) (.pair .bool (.int .i64))))))))))) r4.2.2) : Nat) : Int))) then
    (h5)[k]?.bind fun r5 =>
    (h5)[k]?.bind fun r6 =>
    (refO r6.2.2).bind fun m =>
    (idx? x2 m.2.2).bind fun q1 =>
    (h7)[m.1]?.bind fun m1 =>
    need ((Nat.blt 0 m1.1) && true) <|
    (m1.2)[(m.2.1 + q1)]?.bind fun r7 =>
    (replies_own fu r7).bind fun r8 =>
    (refO r5.2.2).bind fun m2 =>
    (idx? x2 m2.2.2).bind fun q2 =>
    (h7)[m2.1]?.bind fun m3 =>
    need (((Nat.beq m3.1 1) && true) && true) <|
    (m3.2)[(m2.2.1 + q2)]?.bind fun r9 =>
    some (.inl (k, ((IntKind.wrap .i64 (x2 + 1)), (h4, (h5, (h6, (List.set h7 m2.1 (1, (List.set m3.2 (m2.2.1 + q2) (r8.1, (r8.2.1, (r8.2.2.1, ((r8.2.2.2.1, r8.2.2.2.2.1), (r8.2.2.2.2.2.1, (r8.2.2.2.2.2.2.1, (r8.2.2.2.2.2.2.2.2.2.1, (r8.2.2.2.2.2.2.2.2.2.2, (r8.2.2.2.2.2.2.2.1, r8.2.2.2.2.2.2.2.2.1))))))))))))))))))
  else
    some (.inr (h4, (h5, (h6, h7))))
def replies_copied_l0_it (fu : Nat) (r4 : (Int × (Int × (List ((Int × (Int × (Int × ((Int × Int) × (Bool × (Int × (List (UInt8) × (List ((List UInt8 × Int)) × (Bool × Int)))))))))) ⊕ Option (Nat × (Nat × Nat)))))) (tt : (Nat × (Int × (Int × (List ((Int × (Int × (List ((Int × (Int × (Int × ((Int × Int) × (Bool × (Int × (List (UInt8) × (List ((List UInt8 × Int)) × (Bool × Int)))))))))) ⊕ Option (Nat × (Nat × Nat)))))) × (Int × List ((Nat × List ((Int × (Int × (Int × ((Int × Int) × (Bool × (Int × (List (UInt8) × (List ((List UInt8 × Int)) × (Bool × Int)))))))))))))))))) : Option ((Int × (List ((Int × (Int × (List ((Int × (Int × (Int × ((Int × Int) × (Bool × (Int × (List (UInt8) × (List ((List UInt8 × Int)) × (Bool × Int)))))))))) ⊕ Option (Nat × (Nat × Nat)))))) × (Int × List ((Nat × List ((Int × (Int × (Int × ((Int × Int) × (Bool × (Int × (List (UInt8) × (List ((List UInt8 × Int)) × (Bool × Int)))))))))))))))) :=
  iter fu (fun tt => replies_copied_l0 fu r4 tt.1 tt.2.1 tt.2.2.1 tt.2.2.2.1 tt.2.2.2.2.1 tt.2.2.2.2.2) tt
def replies_copied_l1 (fu : Nat) (r : List ((Int × (Int × List ((Int × (Int × (Int × ((Int × Int) × (Bool × (Int × (List (UInt8) × (List ((List UInt8 × Int)) × (Bool × Int)))))))))))))) (x : Int) (h : Int) (h1 : List ((Int × (Int × (List ((Int × (Int × (Int × ((Int × Int) × (Bool × (Int × (List (UInt8) × (List ((List UInt8 × Int)) × (Bool × Int)))))))))) ⊕ Option (Nat × (Nat × Nat))))))) (h2 : Int) (h3 : List ((Nat × List ((Int × (Int × (Int × ((Int × Int) × (Bool × (Int × (List (UInt8) × (List ((List UInt8 × Int)) × (Bool × Int))))))))))))) : Option ((Int × (Int × (List ((Int × (Int × (List ((Int × (Int × (Int × ((Int × Int) × (Bool × (Int × (List (UInt8) × (List ((List UInt8 × Int)) × (Bool × Int)))))))))) ⊕ Option (Nat × (Nat × Nat)))))) × (Int × List ((Nat × List ((Int × (Int × (Int × ((Int × Int) × (Bool × (Int × (List (UInt8) × (List ((List UInt8 × Int)) × (Bool × Int)))))))))))))))) ⊕ ((Int × (List ((Int × (Int × (List ((Int × (Int × (Int × ((Int × Int) × (Bool × (Int × (List (UInt8) × (List ((List UInt8 × Int)) × (Bool × Int)))))))))) ⊕ Option (Nat × (Nat × Nat)))))) × (Int × List ((Nat × List ((Int × (Int × (Int × ((Int × Int) × (Bool × (Int × (List (UInt8) × (List ((List UInt8 × Int)) × (Bool × Int))))))))))))))))) :=
  bif (decide (x < ((r.length : Nat) : Int))) then
    (idx? x h1.length).bind fun q =>
    (h1)[q]?.bind fun r1 =>
    (lowD (.ref 1 (.pair (.int .i64) (.pair (.int .i64) (.pair (.int .i64) (.pair (.pair (.int .i64) (.int .i64)) (.pair .bool (.pair (.int .i64) (.pair (.sl .byte) (.pair (.sl (.pair .str (.int .i64))) (.pair .bool (.int .i64))))))))))) r1.2.2).bind fun x1 =>
    (slices_Clone__api_Reply_api_Reply fu x1).bind fun r2 =>
    (h1)[q]?.bind fun r3 =>
    ((List.set h1 q (r3.1, (r3.2.1, (.inr (some (h3.length, (0, r2.length))))))))[q]?.bind fun r4 =>
    (replies_copied_l0_it fu r4 (q, (0, (h, ((List.set h1 q (r3.1, (r3.2.1, (.inr (some (h3.length, (0, r2.length))))))), (h2, (h3 ++ [(1, r2)]))))))).bind fun o =>
    some (.inl ((IntKind.wrap .i64 (x + 1)), (o.1, (o.2.1, (o.2.2.1, o.2.2.2)))))
  else
    some (.inr (h, (h1, (h2, h3))))
def replies_copied_l1_it (fu : Nat) (r : List ((Int × (Int × List ((Int × (Int × (Int × ((Int × Int) × (Bool × (Int × (List (UInt8) × (List ((List UInt8 × Int)) × (Bool × Int)))))))))))))) (tt : (Int × (Int × (List ((Int × (Int × (List ((Int × (Int × (Int × ((Int × Int) × (Bool × (Int × (List (UInt8) × (List ((List UInt8 × Int)) × (Bool × Int)))))))))) ⊕ Option (Nat × (Nat × Nat)))))) × (Int × List ((Nat × List ((Int × (Int × (Int × ((Int × Int) × (Bool × (Int × (List (UInt8) × (List ((List UInt8 × Int)) × (Bool × Int))))))))))))))))) : Option ((Int × (List ((Int × (Int × (List ((Int × (Int × (Int × ((Int × Int) × (Bool × (Int × (List (UInt8) × (List ((List UInt8 × Int)) × (Bool × Int)))))))))) ⊕ Option (Nat × (Nat × Nat)))))) × (Int × List ((Nat × List ((Int × (Int × (Int × ((Int × Int) × (Bool × (Int × (List (UInt8) × (List ((List UInt8 × Int)) × (Bool × Int)))))))))))))))) :=
  iter fu (fun tt => replies_copied_l1 fu r tt.1 tt.2.1 tt.2.2.1 tt.2.2.2.1 tt.2.2.2.2) tt
def replies_copied (fu : Nat) (c : (Int × List ((Int × (Int × List ((Int × (Int × (Int × ((Int × Int) × (Bool × (Int × (List (UInt8) × (List ((List UInt8 × Int)) × (Bool × Int))))))))))))))) : Option ((Int × (List ((Int × (Int × (List ((Int × (Int × (Int × ((Int × Int) × (Bool × (Int × (List (UInt8) × (List ((List UInt8 × Int)) × (Bool × Int)))))))))) ⊕ Option (Nat × (Nat × Nat)))))) × List ((Nat × List ((Int × (Int × (Int × ((Int × Int) × (Bool × (Int × (List (UInt8) × (List ((List UInt8 × Int)) × (Bool × Int))))))))))))))) :=
  (slices_Clone__api_Kept_api_Kept fu c.2).bind fun r =>
  (replies_copied_l1_it fu r (0, (c.1, ((List.map (liftT (.pair (.int .i64) (.pair (.int .i64) (.ref 1 (.pair (.int .i64) (.pair (.int .i64) (.pair (.int .i64) (.pair (.pair (.int .i64) (.int .i64)) (.pair .bool (.pair (.int .i64) (.pair (.sl .byte) (.pair (.sl (.pair .str (.int .i64))) (.pair .bool (.int .i64)))))))))))))) r), (0, []))))).bind fun o1 =>
  some (o1.1, (o1.2.1, o1.2.2.2))
def replies_copied_fa : FnA := ⟨.two (.reg [(0, { ids := [100] }), (1, { ids := [101] })]) (.two (.reg [(2, { ids := [102] })]) (.two (.two (.leaf) (.one (.pre (.newFam 1 31 (.pair (.int .i64) (.pair (.int .i64) (.pair (.int .i64) (.pair (.pair (.int .i64) (.int .i64)) (.pair .bool (.pair (.int .i64) (.pair (.sl .byte) (.pair (.sl (.pair .str (.int .i64))) (.pair .bool (.int .i64))))))))))) (.pre (.toRef 102 (.pair (.int .i64) (.pair (.int .i64) (.ref 1 (.pair (.int .i64) (.pair (.int .i64) (.pair (.int .i64) (.pair (.pair (.int .i64) (.int .i64)) (.pair .bool (.pair (.int .i64) (.pair (.sl .byte) (.pair (.sl (.pair .str (.int .i64))) (.pair .bool (.int .i64)))))))))))))) (.loop ⟨[1, 2, 13], ⟨(.cons (.own 0 100 0 0) (.cons (.own 0 101 0 0) (.cons (.p (.int .i64)) .nil))), [(100, false, (.vars (.cons (.p (.int .i64)) (.cons (.slf 3 102) .nil)))), (102, false, (.rows 58 (.pair (.int .i64) (.pair (.int .i64) (.ref 1 (.pair (.int .i64) (.pair (.int .i64) (.pair (.int .i64) (.pair (.pair (.int .i64) (.int .i64)) (.pair .bool (.pair (.int .i64) (.pair (.sl .byte) (.pair (.sl (.pair .str (.int .i64))) (.pair .bool (.int .i64))))))))))))))), (101, false, (.vars (.cons (.p (.int .i64)) (.cons (.nilp (.slice none 0 0)) .nil)))), (999985, false, (.fam 31 (.pair (.int .i64) (.pair (.int .i64) (.pair (.int .i64) (.pair (.pair (.int .i64) (.int .i64)) (.pair .bool (.pair (.int .i64) (.pair (.sl .byte) (.pair (.sl (.pair .str (.int .i64))) (.pair .bool (.int .i64))))))))))))]⟩⟩ false [(0, ⟨[1, 2], ⟨(.cons (.own 0 100 0 0) (.cons (.own 0 101 0 0) .nil)), [(100, false, (.vars (.cons (.p (.int .i64)) (.cons (.slf 3 102) .nil)))), (102, false, (.rows 58 (.pair (.int .i64) (.pair (.int .i64) (.ref 1 (.pair (.int .i64) (.pair (.int .i64) (.pair (.int .i64) (.pair (.pair (.int .i64) (.int .i64)) (.pair .bool (.pair (.int .i64) (.pair (.sl .byte) (.pair (.sl (.pair .str (.int .i64))) (.pair .bool (.int .i64))))))))))))))), (101, false, (.vars (.cons (.p (.int .i64)) (.cons (.nilp (.slice none 0 0)) .nil)))), (999985, false, (.fam 31 (.pair (.int .i64) (.pair (.int .i64) (.pair (.int .i64) (.pair (.pair (.int .i64) (.int .i64)) (.pair .bool (.pair (.int .i64) (.pair (.sl .byte) (.pair (.sl (.pair .str (.int .i64))) (.pair .bool (.int .i64))))))))))))]⟩⟩)] (.two (.leaf) (.two (.leaf) (.two (.one (.two (.leaf) (.two (.leaf) (.two (.reg [(5, { ids := [103], md := [3], fn := 1 }), (8, { sh := [103, 999985] })]) (.two (.leaf) (.one (.loop ⟨[1, 2, 4, 33], ⟨(.cons (.own 0 100 0 0) (.cons (.own 0 101 0 0) (.cons (.ownx 3 102 0) (.cons (.p (.int .i64)) .nil)))), [(100, false, (.vars (.cons (.p (.int .i64)) (.cons (.slf 3 102) .nil)))), (102, false, (.rows 58 (.pair (.int .i64) (.pair (.int .i64) (.ref 1 (.pair (.int .i64) (.pair (.int .i64) (.pair (.int .i64) (.pair (.pair (.int .i64) (.int .i64)) (.pair .bool (.pair (.int .i64) (.pair (.sl .byte) (.pair (.sl (.pair .str (.int .i64))) (.pair .bool (.int .i64))))))))))))))), (101, false, (.vars (.cons (.p (.int .i64)) (.cons (.nilp (.slice none 0 0)) .nil)))), (999985, false, (.fam 31 (.pair (.int .i64) (.pair (.int .i64) (.pair (.int .i64) (.pair (.pair (.int .i64) (.int .i64)) (.pair .bool (.pair (.int .i64) (.pair (.sl .byte) (.pair (.sl (.pair .str (.int .i64))) (.pair .bool (.int .i64))))))))))))]⟩⟩ false [(2, ⟨[1, 2], ⟨(.cons (.own 0 100 0 0) (.cons (.own 0 101 0 0) .nil)), [(100, false, (.vars (.cons (.p (.int .i64)) (.cons (.slf 3 102) .nil)))), (102, false, (.rows 58 (.pair (.int .i64) (.pair (.int .i64) (.ref 1 (.pair (.int .i64) (.pair (.int .i64) (.pair (.int .i64) (.pair (.pair (.int .i64) (.int .i64)) (.pair .bool (.pair (.int .i64) (.pair (.sl .byte) (.pair (.sl (.pair .str (.int .i64))) (.pair .bool (.int .i64))))))))))))))), (101, false, (.vars (.cons (.p (.int .i64)) (.cons (.nilp (.slice none 0 0)) .nil)))), (999985, false, (.fam 31 (.pair (.int .i64) (.pair (.int .i64) (.pair (.int .i64) (.pair (.pair (.int .i64) (.int .i64)) (.pair .bool (.pair (.int .i64) (.pair (.sl .byte) (.pair (.sl (.pair .str (.int .i64))) (.pair .bool (.int .i64))))))))))))]⟩⟩)] (.two (.leaf) (.two (.leaf) (.two (.one (.two (.leaf) (.reg [(11, { sh := [999985] }), (12, { ids := [104, 105], fn := 2 }), (14, { sh := [999985] })]))) (.leaf))))))))))) (.leaf))))))))) (.leaf))), ⟨(.cons (.p (.pair (.int .i64) (.sl (.pair (.int .i64) (.pair (.int .i64) (.sl (.pair (.int .i64) (.pair (.int .i64) (.pair (.int .i64) (.pair (.pair (.int .i64) (.int .i64)) (.pair .bool (.pair (.int .i64) (.pair (.sl .byte) (.pair (.sl (.pair .str (.int .i64))) (.pair .bool (.int .i64)))))))))))))))) .nil), []⟩, [⟨(.cons (.agg (.cons (.p (.int .i64)) (.cons (.slf 3 0) .nil))) .nil), [(0, false, (.rows 58 (.pair (.int .i64) (.pair (.int .i64) (.ref 1 (.pair (.int .i64) (.pair (.int .i64) (.pair (.int .i64) (.pair (.pair (.int .i64) (.int .i64)) (.pair .bool (.pair (.int .i64) (.pair (.sl .byte) (.pair (.sl (.pair .str (.int .i64))) (.pair .bool (.int .i64))))))))))))))), (999985, false, (.fam 31 (.pair (.int .i64) (.pair (.int .i64) (.pair (.int .i64) (.pair (.pair (.int .i64) (.int .i64)) (.pair .bool (.pair (.int .i64) (.pair (.sl .byte) (.pair (.sl (.pair .str (.int .i64))) (.pair .bool (.int .i64))))))))))))]⟩], [0]⟩
def replies_copied_ft (fu : Nat) : FnT := ⟨26, ⟨(.cons (.p (.pair (.int .i64) (.sl (.pair (.int .i64) (.pair (.int .i64) (.sl (.pair (.int .i64) (.pair (.int .i64) (.pair (.int .i64) (.pair (.pair (.int .i64) (.int .i64)) (.pair .bool (.pair (.int .i64) (.pair (.sl .byte) (.pair (.sl (.pair .str (.int .i64))) (.pair .bool (.int .i64)))))))))))))))) .nil), []⟩, [⟨(.cons (.agg (.cons (.p (.int .i64)) (.cons (.slf 3 0) .nil))) .nil), [(0, false, (.rows 58 (.pair (.int .i64) (.pair (.int .i64) (.ref 1 (.pair (.int .i64) (.pair (.int .i64) (.pair (.int .i64) (.pair (.pair (.int .i64) (.int .i64)) (.pair .bool (.pair (.int .i64) (.pair (.sl .byte) (.pair (.sl (.pair .str (.int .i64))) (.pair .bool (.int .i64))))))))))))))), (999985, false, (.fam 31 (.pair (.int .i64) (.pair (.int .i64) (.pair (.int .i64) (.pair (.pair (.int .i64) (.int .i64)) (.pair .bool (.pair (.int .i64) (.pair (.sl .byte) (.pair (.sl (.pair .str (.int .i64))) (.pair .bool (.int .i64))))))))))))]⟩], fun t => replies_copied fu t⟩
theorem replies_copied_eq (fu : Nat) : ∀ t, evF Go.Proofs.Try.prog [slices_Clone__api_Kept_api_Kept_ft fu, slices_Clone__api_Reply_api_Reply_ft fu, replies_own_ft fu] fu Go.Proofs.Try.f26 replies_copied_fa t = (replies_copied_ft fu).spec t := fun t => by kernel_rfl
theorem replies_copied_told (fu : Nat) : Told Go.Proofs.Try.prog (replies_copied_ft fu) := told_of (allT_cons (slices_Clone__api_Kept_api_Kept_told fu) (allT_cons (slices_Clone__api_Reply_api_Reply_told fu) (allT_cons (replies_own_told fu) allT_nil))) mixed Go.Proofs.Try.func26 (by kernel_rfl) (by kernel_rfl) (replies_copied_eq fu)

def slices_Insert__api_Kept_api_Kept_o0o2_RR (fu : Nat) (i : Int) (l v : List ((Int × (Int × (List ((Int × (Int × (Int × ((Int × Int) × (Bool × (Int × (List (UInt8) × (List ((List UInt8 × Int)) × (Bool × Int)))))))))) ⊕ Option (Nat × (Nat × Nat))))))) (ms : List (Nat × List ((Int × (Int × (Int × ((Int × Int) × (Bool × (Int × (List (UInt8) × (List ((List UInt8 × Int)) × (Bool × Int)))))))))))) : Option (List ((Int × (Int × (List ((Int × (Int × (Int × ((Int × Int) × (Bool × (Int × (List (UInt8) × (List ((List UInt8 × Int)) × (Bool × Int)))))))))) ⊕ Option (Nat × (Nat × Nat)))))) × (List ((Int × (Int × (List ((Int × (Int × (Int × ((Int × Int) × (Bool × (Int × (List (UInt8) × (List ((List UInt8 × Int)) × (Bool × Int)))))))))) ⊕ Option (Nat × (Nat × Nat)))))) × List (Nat × List ((Int × (Int × (Int × ((Int × Int) × (Bool × (Int × (List (UInt8) × (List ((List UInt8 × Int)) × (Bool × Int))))))))))))) :=
  (upto? i l.length).bind fun q => need (Nat.blt 0 v.length && Nat.ble ((l.length + v.length) * 40) room && Nat.ble (l.length + v.length) room) (some (v, (l.take q ++ v ++ l.drop q, ms)))
def slices_Insert__api_Kept_api_Kept_o0o2_RR_ft (fu : Nat) : FnT := ⟨28, ⟨(.cons (.slf 3 0) (.cons (.p (.int .i64)) (.cons (.slf 3 1) .nil))), [(0, false, (.rows 58 (.pair (.int .i64) (.pair (.int .i64) (.ref 1 (.pair (.int .i64) (.pair (.int .i64) (.pair (.int .i64) (.pair (.pair (.int .i64) (.int .i64)) (.pair .bool (.pair (.int .i64) (.pair (.sl .byte) (.pair (.sl (.pair .str (.int .i64))) (.pair .bool (.int .i64))))))))))))))), (1, false, (.rows 58 (.pair (.int .i64) (.pair (.int .i64) (.ref 1 (.pair (.int .i64) (.pair (.int .i64) (.pair (.int .i64) (.pair (.pair (.int .i64) (.int .i64)) (.pair .bool (.pair (.int .i64) (.pair (.sl .byte) (.pair (.sl (.pair .str (.int .i64))) (.pair .bool (.int .i64))))))))))))))), (999985, false, (.fam 31 (.pair (.int .i64) (.pair (.int .i64) (.pair (.int .i64) (.pair (.pair (.int .i64) (.int .i64)) (.pair .bool (.pair (.int .i64) (.pair (.sl .byte) (.pair (.sl (.pair .str (.int .i64))) (.pair .bool (.int .i64))))))))))))]⟩, [⟨(.cons (.slf 3 2) .nil), [(1, false, (.rows 58 (.pair (.int .i64) (.pair (.int .i64) (.ref 1 (.pair (.int .i64) (.pair (.int .i64) (.pair (.int .i64) (.pair (.pair (.int .i64) (.int .i64)) (.pair .bool (.pair (.int .i64) (.pair (.sl .byte) (.pair (.sl (.pair .str (.int .i64))) (.pair .bool (.int .i64))))))))))))))), (2, false, (.rows 58 (.pair (.int .i64) (.pair (.int .i64) (.ref 1 (.pair (.int .i64) (.pair (.int .i64) (.pair (.int .i64) (.pair (.pair (.int .i64) (.int .i64)) (.pair .bool (.pair (.int .i64) (.pair (.sl .byte) (.pair (.sl (.pair .str (.int .i64))) (.pair .bool (.int .i64))))))))))))))), (999985, false, (.fam 31 (.pair (.int .i64) (.pair (.int .i64) (.pair (.int .i64) (.pair (.pair (.int .i64) (.int .i64)) (.pair .bool (.pair (.int .i64) (.pair (.sl .byte) (.pair (.sl (.pair .str (.int .i64))) (.pair .bool (.int .i64))))))))))))]⟩], fun t => slices_Insert__api_Kept_api_Kept_o0o2_RR fu t.1 t.2.1 t.2.2.1 t.2.2.2⟩
theorem slices_Insert__api_Kept_api_Kept_o0o2_RR_told (fu : Nat) : Told Go.Proofs.Try.prog (slices_Insert__api_Kept_api_Kept_o0o2_RR_ft fu) :=
  told_insert_fam (u := (.pair (.int .i64) (.pair (.int .i64) (.ref 1 (.pair (.int .i64) (.pair (.int .i64) (.pair (.int .i64) (.pair (.pair (.int .i64) (.int .i64)) (.pair .bool (.pair (.int .i64) (.pair (.sl .byte) (.pair (.sl (.pair .str (.int .i64))) (.pair .bool (.int .i64)))))))))))))) (f := 1) Go.Proofs.Try.ins28 (by decide) (by intro h; cases h) Go.Proofs.Try.sizeOf58 Go.Proofs.Try.isAgg58 (by kernel_rfl) ⟨_, _, Go.Proofs.Try.func28, rfl, by kernel_rfl⟩

def slices_Insert__api_Reply_api_Reply_o0o2 (fu : Nat) (i : Int) (l v : List ((Int × (Int × (Int × ((Int × Int) × (Bool × (Int × (List (UInt8) × (List ((List UInt8 × Int)) × (Bool × Int))))))))))) : Option (List ((Int × (Int × (Int × ((Int × Int) × (Bool × (Int × (List (UInt8) × (List ((List UInt8 × Int)) × (Bool × Int)))))))))) × List ((Int × (Int × (Int × ((Int × Int) × (Bool × (Int × (List (UInt8) × (List ((List UInt8 × Int)) × (Bool × Int))))))))))) :=
  (upto? i l.length).bind fun q => need (Nat.blt 0 v.length && Nat.ble ((l.length + v.length) * 120) room && Nat.ble (l.length + v.length) room) (some (v, l.take q ++ v ++ l.drop q))
def slices_Insert__api_Reply_api_Reply_o0o2_ft (fu : Nat) : FnT := ⟨29, ⟨(.cons (.slf 11 0) (.cons (.p (.int .i64)) (.cons (.slf 11 1) .nil))), [(0, false, (.rows 31 (.pair (.int .i64) (.pair (.int .i64) (.pair (.int .i64) (.pair (.pair (.int .i64) (.int .i64)) (.pair .bool (.pair (.int .i64) (.pair (.sl .byte) (.pair (.sl (.pair .str (.int .i64))) (.pair .bool (.int .i64)))))))))))), (1, false, (.rows 31 (.pair (.int .i64) (.pair (.int .i64) (.pair (.int .i64) (.pair (.pair (.int .i64) (.int .i64)) (.pair .bool (.pair (.int .i64) (.pair (.sl .byte) (.pair (.sl (.pair .str (.int .i64))) (.pair .bool (.int .i64))))))))))))]⟩, [⟨(.cons (.slf 11 2) .nil), [(1, false, (.rows 31 (.pair (.int .i64) (.pair (.int .i64) (.pair (.int .i64) (.pair (.pair (.int .i64) (.int .i64)) (.pair .bool (.pair (.int .i64) (.pair (.sl .byte) (.pair (.sl (.pair .str (.int .i64))) (.pair .bool (.int .i64)))))))))))), (2, false, (.rows 31 (.pair (.int .i64) (.pair (.int .i64) (.pair (.int .i64) (.pair (.pair (.int .i64) (.int .i64)) (.pair .bool (.pair (.int .i64) (.pair (.sl .byte) (.pair (.sl (.pair .str (.int .i64))) (.pair .bool (.int .i64))))))))))))]⟩], fun t => slices_Insert__api_Reply_api_Reply_o0o2 fu t.1 t.2.1 t.2.2⟩
theorem slices_Insert__api_Reply_api_Reply_o0o2_told (fu : Nat) : Told Go.Proofs.Try.prog (slices_Insert__api_Reply_api_Reply_o0o2_ft fu) :=
  told_insert (u := (.pair (.int .i64) (.pair (.int .i64) (.pair (.int .i64) (.pair (.pair (.int .i64) (.int .i64)) (.pair .bool (.pair (.int .i64) (.pair (.sl .byte) (.pair (.sl (.pair .str (.int .i64))) (.pair .bool (.int .i64))))))))))) Go.Proofs.Try.ins29 (by decide) (by intro h; cases h) Go.Proofs.Try.sizeOf31 Go.Proofs.Try.isAgg31 (by kernel_rfl) ⟨_, _, Go.Proofs.Try.func29, rfl, by kernel_rfl⟩

def slices_Delete__api_Reply_api_Reply_o0 (fu : Nat) (i j : Int) (l : List ((Int × (Int × (Int × ((Int × Int) × (Bool × (Int × (List (UInt8) × (List ((List UInt8 × Int)) × (Bool × Int))))))))))) : Option (List ((Int × (Int × (Int × ((Int × Int) × (Bool × (Int × (List (UInt8) × (List ((List UInt8 × Int)) × (Bool × Int))))))))))) :=
  (upto? j l.length).bind fun jq => (upto? i jq).bind fun iq => need (Nat.blt iq jq) (some (l.take iq ++ l.drop jq))
def slices_Delete__api_Reply_api_Reply_o0_ft (fu : Nat) : FnT := ⟨30, ⟨(.cons (.slf 11 0) (.cons (.p (.int .i64)) (.cons (.p (.int .i64)) .nil))), [(0, false, (.rows 31 (.pair (.int .i64) (.pair (.int .i64) (.pair (.int .i64) (.pair (.pair (.int .i64) (.int .i64)) (.pair .bool (.pair (.int .i64) (.pair (.sl .byte) (.pair (.sl (.pair .str (.int .i64))) (.pair .bool (.int .i64))))))))))))]⟩, [⟨(.cons (.slf 11 1) .nil), [(1, false, (.rows 31 (.pair (.int .i64) (.pair (.int .i64) (.pair (.int .i64) (.pair (.pair (.int .i64) (.int .i64)) (.pair .bool (.pair (.int .i64) (.pair (.sl .byte) (.pair (.sl (.pair .str (.int .i64))) (.pair .bool (.int .i64))))))))))))]⟩], fun t => slices_Delete__api_Reply_api_Reply_o0 fu t.1 t.2.1 t.2.2⟩
theorem slices_Delete__api_Reply_api_Reply_o0_told (fu : Nat) : Told Go.Proofs.Try.prog (slices_Delete__api_Reply_api_Reply_o0_ft fu) :=
  told_delete (u := (.pair (.int .i64) (.pair (.int .i64) (.pair (.int .i64) (.pair (.pair (.int .i64) (.int .i64)) (.pair .bool (.pair (.int .i64) (.pair (.sl .byte) (.pair (.sl (.pair .str (.int .i64))) (.pair .bool (.int .i64))))))))))) Go.Proofs.Try.del30 (by decide) Go.Proofs.Try.sizeOf31 Go.Proofs.Try.isAgg31 Go.Proofs.Try.zeroValue31 (by kernel_rfl) (by decide) (by kernel_rfl) ⟨_, _, Go.Proofs.Try.func30, rfl, by kernel_rfl⟩

def replies_Put (fu : Nat) (c : (Int × List ((Int × (Int × List ((Int × (Int × (Int × ((Int × Int) × (Bool × (Int × (List (UInt8) × (List ((List UInt8 × Int)) × (Bool × Int))))))))))))))) (r : (Int × (Int × (Int × ((Int × Int) × (Bool × (Int × (List (UInt8) × (List ((List UInt8 × Int)) × (Bool × Int)))))))))) : Option ((Int × (List ((Int × (Int × List ((Int × (Int × (Int × ((Int × Int) × (Bool × (Int × (List (UInt8) × (List ((List UInt8 × Int)) × (Bool × Int))))))))))))) × Int))) :=
  (replies_copied fu (c.1, c.2)).bind fun r1 =>
  Option.bind (α := ((Bool × (Int × (List ((Int × (Int × List ((Int × (Int × (Int × ((Int × Int) × (Bool × (Int × (List (UInt8) × (List ((List UInt8 × Int)) × (Bool × Int))))))))))))) × (Int × (Int × (Int × (Int × (Int × (Bool × (Int × (List (UInt8) × (List ((List UInt8 × Int)) × (Bool × (Int × (Int × (Int × (List ((Int × (Int × (List ((Int × (Int × (Int × ((Int × Int) × (Bool × (Int × (List (UInt8) × (List ((List UInt8 × Int)) × (Bool × Int)))))))))) ⊕ Option (Nat × (Nat × Nat)))))) × List ((Nat × List ((Int × (Int × (Int × ((Int × Int) × (Bool × (Int × (List (UInt8) × (List ((List UInt8 × Int)) × (Bool × Int))))))))))))))))))))))))))))))) (
    (replies_Right fu (c.1, c.2)).bind fun r2 =>
    bif (!r2) then
      some (true, (c.1, (c.2, (r.1, (r.2.1, (r.2.2.1, (r.2.2.2.1.1, (r.2.2.2.1.2, (r.2.2.2.2.1, (r.2.2.2.2.2.1, (r.2.2.2.2.2.2.1, (r.2.2.2.2.2.2.2.1, (r.2.2.2.2.2.2.2.2.1, (r.2.2.2.2.2.2.2.2.2, (0, (r1.1, (r1.2.1, r1.2.2)))))))))))))))))
    else
      (call_RightReply fu (r.1, (r.2.1, (r.2.2.1, ((r.2.2.2.1.1, r.2.2.2.1.2), (r.2.2.2.2.1, (r.2.2.2.2.2.1, (r.2.2.2.2.2.2.1, (r.2.2.2.2.2.2.2.1, (r.2.2.2.2.2.2.2.2.1, r.2.2.2.2.2.2.2.2.2)))))))))).bind fun r3 =>
      some ((!r3), (c.1, (c.2, (r.1, (r.2.1, (r.2.2.1, (r.2.2.2.1.1, (r.2.2.2.1.2, (r.2.2.2.2.1, (r.2.2.2.2.2.1, (r.2.2.2.2.2.2.1, (r.2.2.2.2.2.2.2.1, (r.2.2.2.2.2.2.2.2.1, (r.2.2.2.2.2.2.2.2.2, (0, (r1.1, (r1.2.1, r1.2.2)))))))))))))))))) fun o =>
  bif o.1 then
    (unrefL (unrefD [⟨1, (.pair (.int .i64) (.pair (.int .i64) (.pair (.int .i64) (.pair (.pair (.int .i64) (.int .i64)) (.pair .bool (.pair (.int .i64) (.pair (.sl .byte) (.pair (.sl (.pair .str (.int .i64))) (.pair .bool (.int .i64)))))))))), (List.map frz1 o.2.2.2.2.2.2.2.2.2.2.2.2.2.2.2.2.2)⟩] (.pair (.int .i64) (.pair (.int .i64) (.ref 1 (.pair (.int .i64) (.pair (.int .i64) (.pair (.int .i64) (.pair (.pair (.int .i64) (.int .i64)) (.pair .bool (.pair (.int .i64) (.pair (.sl .byte) (.pair (.sl (.pair .str (.int .i64))) (.pair .bool (.int .i64)))))))))))))) o.2.2.2.2.2.2.2.2.2.2.2.2.2.2.2.2.1).bind fun l5 =>
    some (o.2.2.2.2.2.2.2.2.2.2.2.2.2.2.2.1, (l5, 2))
  else
    (replies_Look fu (o.2.1, o.2.2.1) o.2.2.2.1 o.2.2.2.2.1).bind fun r4 =>
    bif (!(r4.2.2.2.2.2.2.2.2.2.2.2 == 0)) then
      (unrefL (unrefD [⟨1, (.pair (.int .i64) (.pair (.int .i64) (.pair (.int .i64) (.pair (.pair (.int .i64) (.int .i64)) (.pair .bool (.pair (.int .i64) (.pair (.sl .byte) (.pair (.sl (.pair .str (.int .i64))) (.pair .bool (.int .i64)))))))))), (List.map frz1 o.2.2.2.2.2.2.2.2.2.2.2.2.2.2.2.2.2)⟩] (.pair (.int .i64) (.pair (.int .i64) (.ref 1 (.pair (.int .i64) (.pair (.int .i64) (.pair (.int .i64) (.pair (.pair (.int .i64) (.int .i64)) (.pair .bool (.pair (.int .i64) (.pair (.sl .byte) (.pair (.sl (.pair .str (.int .i64))) (.pair .bool (.int .i64)))))))))))))) o.2.2.2.2.2.2.2.2.2.2.2.2.2.2.2.2.1).bind fun l6 =>
      some (o.2.2.2.2.2.2.2.2.2.2.2.2.2.2.2.1, (l6, 2))
    else
      (unrefL (unrefD [⟨1, (.pair (.int .i64) (.pair (.int .i64) (.pair (.int .i64) (.pair (.pair (.int .i64) (.int .i64)) (.pair .bool (.pair (.int .i64) (.pair (.sl .byte) (.pair (.sl (.pair .str (.int .i64))) (.pair .bool (.int .i64)))))))))), (List.map frz1 o.2.2.2.2.2.2.2.2.2.2.2.2.2.2.2.2.2)⟩] (.pair (.int .i64) (.pair (.int .i64) (.ref 1 (.pair (.int .i64) (.pair (.int .i64) (.pair (.int .i64) (.pair (.pair (.int .i64) (.int .i64)) (.pair .bool (.pair (.int .i64) (.pair (.sl .byte) (.pair (.sl (.pair .str (.int .i64))) (.pair .bool (.int .i64)))))))))))))) o.2.2.2.2.2.2.2.2.2.2.2.2.2.2.2.2.1).bind fun l =>
      (replies_of fu (o.2.2.2.2.2.2.2.2.2.2.2.2.2.2.2.1, l) o.2.2.2.1).bind fun r5 =>
      Option.bind (α := ((Int × (List ((Int × (Int × List ((Int × (Int × (Int × ((Int × Int) × (Bool × (Int × (List (UInt8) × (List ((List UInt8 × Int)) × (Bool × Int))))))))))))) × (Int × (Int × (Int × (Int × (Int × (Bool × (Int × (List (UInt8) × (List ((List UInt8 × Int)) × (Bool × (Int × (Int × (Int × (List ((Int × (Int × (List ((Int × (Int × (Int × ((Int × Int) × (Bool × (Int × (List (UInt8) × (List ((List UInt8 × Int)) × (Bool × Int)))))))))) ⊕ Option (Nat × (Nat × Nat)))))) × List ((Nat × List ((Int × (Int × (Int × ((Int × Int) × (Bool × (Int × (List (UInt8) × (List ((List UInt8 × Int)) × (Bool × Int)))))))))))))))))))))))))))))) (
        bif (!r5.2) then
          (slices_Insert__api_Kept_api_Kept_o0o2_RR fu r5.1 o.2.2.2.2.2.2.2.2.2.2.2.2.2.2.2.2.1 [(o.2.2.2.1, (0, (.inr none)))] o.2.2.2.2.2.2.2.2.2.2.2.2.2.2.2.2.2).bind fun r6 =>
          some (o.2.1, (o.2.2.1, (o.2.2.2.1, (o.2.2.2.2.1, (o.2.2.2.2.2.1, (o.2.2.2.2.2.2.1, (o.2.2.2.2.2.2.2.1, (o.2.2.2.2.2.2.2.2.1, (o.2.2.2.2.2.2.2.2.2.1, (o.2.2.2.2.2.2.2.2.2.2.1, (o.2.2.2.2.2.2.2.2.2.2.2.1, (o.2.2.2.2.2.2.2.2.2.2.2.2.1, (o.2.2.2.2.2.2.2.2.2.2.2.2.2.1, (o.2.2.2.2.2.2.2.2.2.2.2.2.2.2.1, (o.2.2.2.2.2.2.2.2.2.2.2.2.2.2.2.1, (r6.2.1, r6.2.2))))))))))))))))
        else
          some (o.2.1, (o.2.2.1, (o.2.2.2.1, (o.2.2.2.2.1, (o.2.2.2.2.2.1, (o.2.2.2.2.2.2.1, (o.2.2.2.2.2.2.2.1, (o.2.2.2.2.2.2.2.2.1, (o.2.2.2.2.2.2.2.2.2.1, (o.2.2.2.2.2.2.2.2.2.2.1, (o.2.2.2.2.2.2.2.2.2.2.2.1, (o.2.2.2.2.2.2.2.2.2.2.2.2.1, (o.2.2.2.2.2.2.2.2.2.2.2.2.2.1, (o.2.2.2.2.2.2.2.2.2.2.2.2.2.2.1, (o.2.2.2.2.2.2.2.2.2.2.2.2.2.2.2.1, (o.2.2.2.2.2.2.2.2.2.2.2.2.2.2.2.2.1, o.2.2.2.2.2.2.2.2.2.2.2.2.2.2.2.2.2))))))))))))))))) fun o1 =>
      (idx? r5.1 o1.2.2.2.2.2.2.2.2.2.2.2.2.2.2.2.1.length).bind fun q =>
      (o1.2.2.2.2.2.2.2.2.2.2.2.2.2.2.2.1)[q]?.bind fun r7 =>
      (unrefD [⟨1, (.pair (.int .i64) (.pair (.int .i64) (.pair (.int .i64) (.pair (.pair (.int .i64) (.int .i64)) (.pair .bool (.pair (.int .i64) (.pair (.sl .byte) (.pair (.sl (.pair .str (.int .i64))) (.pair .bool (.int .i64)))))))))), (List.map frz1 o1.2.2.2.2.2.2.2.2.2.2.2.2.2.2.2.2)⟩] (.ref 1 (.pair (.int .i64) (.pair (.int .i64) (.pair (.int .i64) (.pair (.pair (.int .i64) (.int .i64)) (.pair .bool (.pair (.int .i64) (.pair (.sl .byte) (.pair (.sl (.pair .str (.int .i64))) (.pair .bool (.int .i64))))))))))) r7.2.2).bind fun x =>
      (slices_BinarySearchFunc__api_Reply_api_Reply_int_fcompare2 fu x o1.2.2.2.1).bind fun r8 =>
      (o1.2.2.2.2.2.2.2.2.2.2.2.2.2.2.2.1)[q]?.bind fun r9 =>
      (replies_own fu (o1.2.2.1, (o1.2.2.2.1, (o1.2.2.2.2.1, ((o1.2.2.2.2.2.1, o1.2.2.2.2.2.2.1), (o1.2.2.2.2.2.2.2.1, (o1.2.2.2.2.2.2.2.2.1, (o1.2.2.2.2.2.2.2.2.2.1, (o1.2.2.2.2.2.2.2.2.2.2.1, (o1.2.2.2.2.2.2.2.2.2.2.2.1, o1.2.2.2.2.2.2.2.2.2.2.2.2.1)))))))))).bind fun r10 =>
      (openM o1.2.2.2.2.2.2.2.2.2.2.2.2.2.2.2.2 r9.2.2).bind fun m =>
      (slices_Insert__api_Reply_api_Reply_o0o2 fu r8.1 m.1 [(r10.1, (r10.2.1, (r10.2.2.1, ((r10.2.2.2.1, r10.2.2.2.2.1), (r10.2.2.2.2.2.1, (r10.2.2.2.2.2.2.1, (r10.2.2.2.2.2.2.2.2.2.1, (r10.2.2.2.2.2.2.2.2.2.2, (r10.2.2.2.2.2.2.2.1, r10.2.2.2.2.2.2.2.2.1)))))))))]).bind fun r11 =>
      (o1.2.2.2.2.2.2.2.2.2.2.2.2.2.2.2.1)[q]?.bind fun r12 =>
      ((List.set o1.2.2.2.2.2.2.2.2.2.2.2.2.2.2.2.1 q (r12.1, (r12.2.1, (.inr (some (m.2.length, (0, r11.2.length))))))))[q]?.bind fun r13 =>
      bif (decide ((((refLen (s := (.pair (.int .i64) (.pair (.int .i64) (.pair (.int .i64) (.pair (.pair (.int .i64) (.int .i64)) (.pair .bool (.pair (.int .i64) (.pair (.sl .byte) (.pair (.sl (.pair .str (.int .i64))) (.pair .bool (.int .i64))))))))))) r13.2.2) : Nat) : Int) > o1.1)) then
        ((List.set o1.2.2.2.2.2.2.2.2.2.2.2.2.2.2.2.1 q (r12.1, (r12.2.1, (.inr (some (m.2.length, (0, r11.2.length))))))))[q]?.bind fun r14 =>
        (refO r14.2.2).bind fun m1 =>
        (idx? 0 m1.2.2).bind fun q1 =>
        ((m.2 ++ [(1, r11.2)]))[m1.1]?.bind fun m2 =>
        need ((Nat.blt 0 m2.1) && true) <|
        (m2.2)[(m1.2.1 + q1)]?.bind fun r15 =>
        ((List.set o1.2.2.2.2.2.2.2.2.2.2.2.2.2.2.2.1 q (r12.1, (r12.2.1, (.inr (some (m.2.length, (0, r11.2.length))))))))[q]?.bind fun r16 =>
        ((List.set (List.set o1.2.2.2.2.2.2.2.2.2.2.2.2.2.2.2.1 q (r12.1, (r12.2.1, (.inr (some (m.2.length, (0, r11.2.length))))))) q (r16.1, (r15.2.1, r16.2.2))))[q]?.bind fun r17 =>
        (openM (m.2 ++ [(1, r11.2)]) r17.2.2).bind fun m3 =>
        (slices_Delete__api_Reply_api_Reply_o0 fu 0 1 m3.1).bind fun r18 =>
        ((List.set (List.set o1.2.2.2.2.2.2.2.2.2.2.2.2.2.2.2.1 q (r12.1, (r12.2.1, (.inr (some (m.2.length, (0, r11.2.length))))))) q (r16.1, (r15.2.1, r16.2.2))))[q]?.bind fun r19 =>
        (unrefL (unrefD [⟨1, (.pair (.int .i64) (.pair (.int .i64) (.pair (.int .i64) (.pair (.pair (.int .i64) (.int .i64)) (.pair .bool (.pair (.int .i64) (.pair (.sl .byte) (.pair (.sl (.pair .str (.int .i64))) (.pair .bool (.int .i64)))))))))), (List.map frz1 (m3.2 ++ [(1, r18)]))⟩] (.pair (.int .i64) (.pair (.int .i64) (.ref 1 (.pair (.int .i64) (.pair (.int .i64) (.pair (.int .i64) (.pair (.pair (.int .i64) (.int .i64)) (.pair .bool (.pair (.int .i64) (.pair (.sl .byte) (.pair (.sl (.pair .str (.int .i64))) (.pair .bool (.int .i64)))))))))))))) (List.set (List.set (List.set o1.2.2.2.2.2.2.2.2.2.2.2.2.2.2.2.1 q (r12.1, (r12.2.1, (.inr (some (m.2.length, (0, r11.2.length))))))) q (r16.1, (r15.2.1, r16.2.2))) q (r19.1, (r19.2.1, (.inr (some (m3.2.length, (0, r18.length)))))))).bind fun l7 =>
        some (o1.2.2.2.2.2.2.2.2.2.2.2.2.2.2.1, (l7, 0))
      else
        (unrefL (unrefD [⟨1, (.pair (.int .i64) (.pair (.int .i64) (.pair (.int .i64) (.pair (.pair (.int .i64) (.int .i64)) (.pair .bool (.pair (.int .i64) (.pair (.sl .byte) (.pair (.sl (.pair .str (.int .i64))) (.pair .bool (.int .i64)))))))))), (List.map frz1 (m.2 ++ [(1, r11.2)]))⟩] (.pair (.int .i64) (.pair (.int .i64) (.ref 1 (.pair (.int .i64) (.pair (.int .i64) (.pair (.int .i64) (.pair (.pair (.int .i64) (.int .i64)) (.pair .bool (.pair (.int .i64) (.pair (.sl .byte) (.pair (.sl (.pair .str (.int .i64))) (.pair .bool (.int .i64)))))))))))))) (List.set o1.2.2.2.2.2.2.2.2.2.2.2.2.2.2.2.1 q (r12.1, (r12.2.1, (.inr (some (m.2.length, (0, r11.2.length)))))))).bind fun l8 =>
        some (o1.2.2.2.2.2.2.2.2.2.2.2.2.2.2.1, (l8, 0))
def replies_Put_fa : FnA := ⟨.two (.reg [(0, { ids := [100] }), (1, { ids := [101] }), (2, { ids := [102] })]) (.two (.reg [(1, { ids := [103, 999985] }), (2, { ids := [104] })]) (.two (.two (.join ⟨[2, 3, 4, 6, 23], ⟨(.cons (.own 0 100 0 0) (.cons (.own 0 101 0 0) (.cons (.own 0 102 0 0) (.cons (.own 0 104 0 0) (.cons (.p .bool) .nil))))), [(100, false, (.vars (.cons (.p (.int .i64)) (.cons (.p (.sl (.pair (.int .i64) (.pair (.int .i64) (.sl (.pair (.int .i64) (.pair (.int .i64) (.pair (.int .i64) (.pair (.pair (.int .i64) (.int .i64)) (.pair .bool (.pair (.int .i64) (.pair (.sl .byte) (.pair (.sl (.pair .str (.int .i64))) (.pair .bool (.int .i64))))))))))))))) .nil)))), (101, false, (.vars (.cons (.p (.int .i64)) (.cons (.p (.int .i64)) (.cons (.p (.int .i64)) (.cons (.p (.int .i64)) (.cons (.p (.int .i64)) (.cons (.p .bool) (.cons (.p (.int .i64)) (.cons (.p (.sl .byte)) (.cons (.p (.sl (.pair .str (.int .i64)))) (.cons (.p .bool) (.cons (.p (.int .i64)) .nil))))))))))))), (102, false, (.vars (.cons (.p (.int .i64)) (.cons (.nilp (.slice none 0 0)) .nil)))), (104, false, (.vars (.cons (.p (.int .i64)) (.cons (.slf 3 103) .nil)))), (103, false, (.rows 58 (.pair (.int .i64) (.pair (.int .i64) (.ref 1 (.pair (.int .i64) (.pair (.int .i64) (.pair (.int .i64) (.pair (.pair (.int .i64) (.int .i64)) (.pair .bool (.pair (.int .i64) (.pair (.sl .byte) (.pair (.sl (.pair .str (.int .i64))) (.pair .bool (.int .i64))))))))))))))), (999985, false, (.fam 31 (.pair (.int .i64) (.pair (.int .i64) (.pair (.int .i64) (.pair (.pair (.int .i64) (.int .i64)) (.pair .bool (.pair (.int .i64) (.pair (.sl .byte) (.pair (.sl (.pair .str (.int .i64))) (.pair .bool (.int .i64))))))))))))]⟩⟩ false [] (.reg [(1, { fn := 1 }), (5, { fn := 2 })])) (.two (.leaf) (.leaf))) (.two (.two (.reg [(5, { fn := 3 }), (9, { ids := [105] })]) (.two (.leaf) (.two (.leaf) (.leaf)))) (.two (.reg [(3, { md := [2, 0], fn := 4 })]) (.two (.two (.leaf) (.join ⟨[2, 3, 4, 6], ⟨(.cons (.own 0 100 0 0) (.cons (.own 0 101 0 0) (.cons (.own 0 102 0 0) (.cons (.own 0 104 0 0) .nil)))), [(100, false, (.vars (.cons (.p (.int .i64)) (.cons (.p (.sl (.pair (.int .i64) (.pair (.int .i64) (.sl (.pair (.int .i64) (.pair (.int .i64) (.pair (.int .i64) (.pair (.pair (.int .i64) (.int .i64)) (.pair .bool (.pair (.int .i64) (.pair (.sl .byte) (.pair (.sl (.pair .str (.int .i64))) (.pair .bool (.int .i64))))))))))))))) .nil)))), (101, false, (.vars (.cons (.p (.int .i64)) (.cons (.p (.int .i64)) (.cons (.p (.int .i64)) (.cons (.p (.int .i64)) (.cons (.p (.int .i64)) (.cons (.p .bool) (.cons (.p (.int .i64)) (.cons (.p (.sl .byte)) (.cons (.p (.sl (.pair .str (.int .i64)))) (.cons (.p .bool) (.cons (.p (.int .i64)) .nil))))))))))))), (102, false, (.vars (.cons (.p (.int .i64)) (.cons (.nilp (.slice none 0 0)) .nil)))), (104, false, (.vars (.cons (.p (.int .i64)) (.cons (.slf 3 107) .nil)))), (107, false, (.rows 58 (.pair (.int .i64) (.pair (.int .i64) (.ref 1 (.pair (.int .i64) (.pair (.int .i64) (.pair (.int .i64) (.pair (.pair (.int .i64) (.int .i64)) (.pair .bool (.pair (.int .i64) (.pair (.sl .byte) (.pair (.sl (.pair .str (.int .i64))) (.pair .bool (.int .i64))))))))))))))), (999985, false, (.fam 31 (.pair (.int .i64) (.pair (.int .i64) (.pair (.int .i64) (.pair (.pair (.int .i64) (.int .i64)) (.pair .bool (.pair (.int .i64) (.pair (.sl .byte) (.pair (.sl (.pair .str (.int .i64))) (.pair .bool (.int .i64))))))))))))]⟩⟩ false [] (.two (.reg [(6, { ids := [106], sh := [103] }), (7, { ids := [107], sh := [103, 106, 999985], fn := 5 })]) (.leaf)))) (.two (.leaf) (.two (.reg [(6, { md := [2, 0, 0], fn := 6 })]) (.two (.reg [(7, { ids := [108, 109], fn := 7 }), (8, { ids := [110] }), (9, { ids := [111], sh := [655041, 110], md := [555041, 0, 0], fn := 8 }), (12, { sh := [111, 999985] })]) (.two (.two (.leaf) (.two (.two (.reg [(7, { sh := [999985] })]) (.reg [(5, { ids := [112], sh := [660041], md := [560041, 0, 0], fn := 9 }), (8, { sh := [112, 999985] })])) (.leaf))) (.leaf)))))))))), ⟨(.cons (.p (.pair (.int .i64) (.sl (.pair (.int .i64) (.pair (.int .i64) (.sl (.pair (.int .i64) (.pair (.int .i64) (.pair (.int .i64) (.pair (.pair (.int .i64) (.int .i64)) (.pair .bool (.pair (.int .i64) (.pair (.sl .byte) (.pair (.sl (.pair .str (.int .i64))) (.pair .bool (.int .i64)))))))))))))))) (.cons (.p (.pair (.int .i64) (.pair (.int .i64) (.pair (.int .i64) (.pair (.pair (.int .i64) (.int .i64)) (.pair .bool (.pair (.int .i64) (.pair (.sl .byte) (.pair (.sl (.pair .str (.int .i64))) (.pair .bool (.int .i64))))))))))) .nil)), []⟩, [⟨(.cons (.agg (.cons (.p (.int .i64)) (.cons (.p (.sl (.pair (.int .i64) (.pair (.int .i64) (.sl (.pair (.int .i64) (.pair (.int .i64) (.pair (.int .i64) (.pair (.pair (.int .i64) (.int .i64)) (.pair .bool (.pair (.int .i64) (.pair (.sl .byte) (.pair (.sl (.pair .str (.int .i64))) (.pair .bool (.int .i64))))))))))))))) .nil))) (.cons (.p (.int .i64)) .nil)), []⟩], [1, 0]⟩
def replies_Put_ft (fu : Nat) : FnT := ⟨13, ⟨(.cons (.p (.pair (.int .i64) (.sl (.pair (.int .i64) (.pair (.int .i64) (.sl (.pair (.int .i64) (.pair (.int .i64) (.pair (.int .i64) (.pair (.pair (.int .i64) (.int .i64)) (.pair .bool (.pair (.int .i64) (.pair (.sl .byte) (.pair (.sl (.pair .str (.int .i64))) (.pair .bool (.int .i64)))))))))))))))) (.cons (.p (.pair (.int .i64) (.pair (.int .i64) (.pair (.int .i64) (.pair (.pair (.int .i64) (.int .i64)) (.pair .bool (.pair (.int .i64) (.pair (.sl .byte) (.pair (.sl (.pair .str (.int .i64))) (.pair .bool (.int .i64))))))))))) .nil)), []⟩, [⟨(.cons (.agg (.cons (.p (.int .i64)) (.cons (.p (.sl (.pair (.int .i64) (.pair (.int .i64) (.sl (.pair (.int .i64) (.pair (.int .i64) (.pair (.int .i64) (.pair (.pair (.int .i64) (.int .i64)) (.pair .bool (.pair (.int .i64) (.pair (.sl .byte) (.pair (.sl (.pair .str (.int .i64))) (.pair .bool (.int .i64))))))))))))))) .nil))) (.cons (.p (.int .i64)) .nil)), []⟩], fun t => replies_Put fu t.1 t.2⟩
theorem replies_Put_eq (fu : Nat) : ∀ t, evF Go.Proofs.Try.prog [replies_copied_ft fu, replies_Right_ft fu, call_RightReply_ft fu, replies_Look_ft fu, replies_of_ft fu, slices_Insert__api_Kept_api_Kept_o0o2_RR_ft fu, slices_BinarySearchFunc__api_Reply_api_Reply_int_fcompare2_ft fu, replies_own_ft fu, slices_Insert__api_Reply_api_Reply_o0o2_ft fu, slices_Delete__api_Reply_api_Reply_o0_ft fu] fu Go.Proofs.Try.f13 replies_Put_fa t = (replies_Put_ft fu).spec t := fun t => by kernel_rfl
theorem replies_Put_told (fu : Nat) : Told Go.Proofs.Try.prog (replies_Put_ft fu) := told_of (allT_cons (replies_copied_told fu) (allT_cons (replies_Right_told fu) (allT_cons (call_RightReply_told fu) (allT_cons (replies_Look_told fu) (allT_cons (replies_of_told fu) (allT_cons (slices_Insert__api_Kept_api_Kept_o0o2_RR_told fu) (allT_cons (slices_BinarySearchFunc__api_Reply_api_Reply_int_fcompare2_told fu) (allT_cons (replies_own_told fu) (allT_cons (slices_Insert__api_Reply_api_Reply_o0o2_told fu) (allT_cons (slices_Delete__api_Reply_api_Reply_o0_told fu) allT_nil)))))))))) mixed Go.Proofs.Try.func13 (by kernel_rfl) (by kernel_rfl) (replies_Put_eq fu)

def law23_awake_l0 (fu : Nat) (x : Int) (h : Int) (h1 : List ((Int × (Int × List ((Int × (Int × (Int × ((Int × Int) × (Bool × (Int × (List (UInt8) × (List ((List UInt8 × Int)) × (Bool × Int)))))))))))))) : Option ((Int × (Int × List ((Int × (Int × List ((Int × (Int × (Int × ((Int × Int) × (Bool × (Int × (List (UInt8) × (List ((List UInt8 × Int)) × (Bool × Int))))))))))))))) ⊕ ((Int × List ((Int × (Int × List ((Int × (Int × (Int × ((Int × Int) × (Bool × (Int × (List (UInt8) × (List ((List UInt8 × Int)) × (Bool × Int)))))))))))))) ⊕ Bool)) :=
  bif (decide (x < 3)) then
    (idx? x 3).bind fun q =>
    ([3, 5, 4])[q]?.bind fun x1 =>
    (replies_Look fu (h, h1) 0 3).bind fun r1 =>
    Option.bind (α := ((Bool × (Int × List ((Int × (Int × List ((Int × (Int × (Int × ((Int × Int) × (Bool × (Int × (List (UInt8) × (List ((List UInt8 × Int)) × (Bool × Int))))))))))))))))) (
      bif (x1 == 4) then
        some ((!(r1.2.2.2.2.2.2.2.2.2.2.2 == 1)), (h, h1))
      else
        some (false, (h, h1))) fun o =>
    bif o.1 then
      some (.inr (.inr false))
    else
      (replies_Put fu (o.2.1, o.2.2) (0, (x1, (0, ((0, 0), (false, (0, ([], ([], (false, 0)))))))))).bind fun r2 =>
      bif (!(r2.2.2 == 0)) then
        some (.inr (.inr false))
      else
        some (.inl ((IntKind.wrap .i64 (x + 1)), (r2.1, r2.2.1)))
  else
    some (.inr (.inl (h, h1)))
def law23_awake_l0_it (fu : Nat)  (tt : (Int × (Int × List ((Int × (Int × List ((Int × (Int × (Int × ((Int × Int) × (Bool × (Int × (List (UInt8) × (List ((List UInt8 × Int)) × (Bool × Int)))))))))))))))) : Option ((Int × List ((Int × (Int × List ((Int × (Int × (Int × ((Int × Int) × (Bool × (Int × (List (UInt8) × (List ((List UInt8 × Int)) × (Bool × Int)))))))))))))) ⊕ Bool) :=
  iter fu (fun tt => law23_awake_l0 fu tt.1 tt.2.1 tt.2.2) tt
def law23_awake (fu : Nat)  : Option (Bool) :=
  (replies_New fu 2).bind fun r =>
  (law23_awake_l0_it fu  (0, (r.1, []))).bind fun o1 =>
  match o1 with
  | .inl s =>
    (replies_Look fu (s.1, s.2) 0 3).bind fun r3 =>
    (replies_Look fu (s.1, s.2) 0 1).bind fun r4 =>
    (replies_Look fu (s.1, s.2) 0 6).bind fun r5 =>
    (replies_Put fu (s.1, s.2) (0, (2, (0, ((0, 0), (false, (0, ([], ([], (false, 0)))))))))).bind fun r6 =>
    bif (r.2 == 0) then
      bif (r3.2.2.2.2.2.2.2.2.2.2.2 == 2) then
        bif (r4.2.2.2.2.2.2.2.2.2.2.2 == 2) then
          bif (r5.2.2.2.2.2.2.2.2.2.2.2 == 0) then
            some (r6.2.2 == 2)
          else
            some false
        else
          some false
      else
        some false
    else
      some false
  | .inr o2 =>
    some o2
def law23_awake_fa : FnA := ⟨.two (.leaf) (.two (.reg [(0, {  }), (4, { ids := [100] })]) (.two (.two (.leaf) (.one (.loop ⟨[1, 22], ⟨(.cons (.own 0 100 0 0) (.cons (.p (.int .i64)) .nil)), [(100, false, (.vars (.cons (.p (.int .i64)) (.cons (.p (.sl (.pair (.int .i64) (.pair (.int .i64) (.sl (.pair (.int .i64) (.pair (.int .i64) (.pair (.int .i64) (.pair (.pair (.int .i64) (.int .i64)) (.pair .bool (.pair (.int .i64) (.pair (.sl .byte) (.pair (.sl (.pair .str (.int .i64))) (.pair .bool (.int .i64))))))))))))))) .nil))))]⟩⟩ true [(0, ⟨[1], ⟨(.cons (.own 0 100 0 0) .nil), [(100, false, (.vars (.cons (.p (.int .i64)) (.cons (.p (.sl (.pair (.int .i64) (.pair (.int .i64) (.sl (.pair (.int .i64) (.pair (.int .i64) (.pair (.int .i64) (.pair (.pair (.int .i64) (.int .i64)) (.pair .bool (.pair (.int .i64) (.pair (.sl .byte) (.pair (.sl (.pair .str (.int .i64))) (.pair .bool (.int .i64))))))))))))))) .nil))))]⟩⟩)] (.two (.leaf) (.two (.leaf) (.two (.one (.two (.leaf) (.two (.two (.reg [(1, { fn := 1 }), (5, { ids := [101] })]) (.two (.join ⟨[1, 35], ⟨(.cons (.own 0 100 0 0) (.cons (.p .bool) .nil)), [(100, false, (.vars (.cons (.p (.int .i64)) (.cons (.p (.sl (.pair (.int .i64) (.pair (.int .i64) (.sl (.pair (.int .i64) (.pair (.int .i64) (.pair (.int .i64) (.pair (.pair (.int .i64) (.int .i64)) (.pair .bool (.pair (.int .i64) (.pair (.sl .byte) (.pair (.sl (.pair .str (.int .i64))) (.pair .bool (.int .i64))))))))))))))) .nil))))]⟩⟩ false [] (.leaf)) (.two (.leaf) (.leaf)))) (.two (.reg [(3, { fn := 2 }), (7, { ids := [102] })]) (.two (.two (.leaf) (.two (.leaf) (.leaf))) (.leaf)))))) (.leaf))))))) (.two (.reg [(1, { fn := 1 }), (5, { ids := [103] })]) (.two (.reg [(1, { fn := 1 }), (5, { ids := [104] })]) (.two (.reg [(1, { fn := 1 }), (5, { ids := [105] })]) (.two (.reg [(2, { fn := 2 }), (6, { ids := [106] })]) (.leaf))))))), ⟨.nil, []⟩, [⟨(.cons (.p .bool) .nil), []⟩], [0]⟩
def law23_awake_ft (fu : Nat) : FnT := ⟨8, ⟨.nil, []⟩, [⟨(.cons (.p .bool) .nil), []⟩], fun t => law23_awake fu ⟩
theorem law23_awake_eq (fu : Nat) : ∀ t, evF Go.Proofs.Try.prog [replies_New_ft fu, replies_Look_ft fu, replies_Put_ft fu] fu Go.Proofs.Try.f8 law23_awake_fa t = (law23_awake_ft fu).spec t := fun t => by kernel_rfl
theorem law23_awake_told (fu : Nat) : Told Go.Proofs.Try.prog (law23_awake_ft fu) := told_of (allT_cons (replies_New_told fu) (allT_cons (replies_Look_told fu) (allT_cons (replies_Put_told fu) allT_nil))) mixed Go.Proofs.Try.func8 (by kernel_rfl) (by kernel_rfl) (law23_awake_eq fu)

def ref20_Right (fu : Nat) (h : (Int × Int)) : Option (Bool) :=
  bif (decide (h.1 ≥ 1)) then
    bif (decide (h.1 ≤ 500)) then
      bif (decide (h.2 ≥ 1)) then
        some (decide (h.2 ≤ 1099511627776))
      else
        some false
    else
      some false
  else
    some false
def ref20_Right_fa : FnA := ⟨.two (.reg [(0, { ids := [100] })]) (.leaf), ⟨(.cons (.p (.pair (.int .i64) (.int .i64))) .nil), []⟩, [⟨(.cons (.p .bool) .nil), []⟩], [0]⟩
def ref20_Right_ft (fu : Nat) : FnT := ⟨48, ⟨(.cons (.p (.pair (.int .i64) (.int .i64))) .nil), []⟩, [⟨(.cons (.p .bool) .nil), []⟩], fun t => ref20_Right fu t⟩
theorem ref20_Right_eq (fu : Nat) : ∀ t, evF Go.Proofs.Try.prog [] fu Go.Proofs.Try.f48 ref20_Right_fa t = (ref20_Right_ft fu).spec t := fun t => by kernel_rfl
theorem ref20_Right_told (fu : Nat) : Told Go.Proofs.Try.prog (ref20_Right_ft fu) := told_of allT_nil mixed Go.Proofs.Try.func48 (by kernel_rfl) (by kernel_rfl) (ref20_Right_eq fu)

def ref21_RightReply_l0 (fu : Nat) (i : Int) (h : Int) (h1 : Int) (h2 : Int) (h3 : Int) (h4 : Int) (h5 : Bool) (h6 : Int) (h7 : List (UInt8)) (h8 : List ((List UInt8 × Int))) (h9 : Bool) (h10 : Int) : Option ((Int × (Int × (Int × (Int × (Int × (Int × (Bool × (Int × (List (UInt8) × (List ((List UInt8 × Int)) × (Bool × Int))))))))))) ⊕ (Unit ⊕ Bool)) :=
  bif (decide (i < ((h8.length : Nat) : Int))) then
    (idx? i h8.length).bind fun q =>
    (h8)[q]?.bind fun r2 =>
    Option.bind (α := ((Bool × (Int × (Int × (Int × (Int × (Int × (Bool × (Int × (List (UInt8) × (List ((List UInt8 × Int)) × (Bool × Int))))))))))))) (
      bif (decide (((r2.1.length : Nat) : Int) < 1)) then
        some (true, (h, (h1, (h2, (h3, (h4, (h5, (h6, (h7, (h8, (h9, h10)))))))))))
      else
        bif (decide (((r2.1.length : Nat) : Int) > 100)) then
          some (true, (h, (h1, (h2, (h3, (h4, (h5, (h6, (h7, (h8, (h9, h10)))))))))))
        else
          bif (decide (r2.2 < 1)) then
            some (true, (h, (h1, (h2, (h3, (h4, (h5, (h6, (h7, (h8, (h9, h10)))))))))))
          else
            some ((decide (r2.2 > 500)), (h, (h1, (h2, (h3, (h4, (h5, (h6, (h7, (h8, (h9, h10)))))))))))) fun o3 =>
    bif o3.1 then
      some (.inr (.inr false))
    else
      some (.inl ((IntKind.wrap .i64 (i + 1)), (o3.2.1, (o3.2.2.1, (o3.2.2.2.1, (o3.2.2.2.2.1, (o3.2.2.2.2.2.1, (o3.2.2.2.2.2.2.1, (o3.2.2.2.2.2.2.2.1, (o3.2.2.2.2.2.2.2.2.1, (o3.2.2.2.2.2.2.2.2.2.1, (o3.2.2.2.2.2.2.2.2.2.2.1, o3.2.2.2.2.2.2.2.2.2.2.2))))))))))))
  else
    some (.inr (.inl ()))
def ref21_RightReply_l0_it (fu : Nat)  (tt : (Int × (Int × (Int × (Int × (Int × (Int × (Bool × (Int × (List (UInt8) × (List ((List UInt8 × Int)) × (Bool × Int)))))))))))) : Option (Unit ⊕ Bool) :=
  iter fu (fun tt => ref21_RightReply_l0 fu tt.1 tt.2.1 tt.2.2.1 tt.2.2.2.1 tt.2.2.2.2.1 tt.2.2.2.2.2.1 tt.2.2.2.2.2.2.1 tt.2.2.2.2.2.2.2.1 tt.2.2.2.2.2.2.2.2.1 tt.2.2.2.2.2.2.2.2.2.1 tt.2.2.2.2.2.2.2.2.2.2.1 tt.2.2.2.2.2.2.2.2.2.2.2) tt
def ref21_RightReply (fu : Nat) (r : (Int × (Int × (Int × ((Int × Int) × (Bool × (Int × (List (UInt8) × (List ((List UInt8 × Int)) × (Bool × Int)))))))))) : Option (Bool) :=
  Option.bind (α := ((Bool × (Int × (Int × (Int × (Int × (Int × (Bool × (Int × (List (UInt8) × (List ((List UInt8 × Int)) × (Bool × Int))))))))))))) (
    bif (decide (r.1 < 0)) then
      some (true, (r.1, (r.2.1, (r.2.2.1, (r.2.2.2.1.1, (r.2.2.2.1.2, (r.2.2.2.2.1, (r.2.2.2.2.2.1, (r.2.2.2.2.2.2.1, (r.2.2.2.2.2.2.2.1, (r.2.2.2.2.2.2.2.2.1, r.2.2.2.2.2.2.2.2.2)))))))))))
    else
      bif (decide (r.1 ≥ 16)) then
        some (true, (r.1, (r.2.1, (r.2.2.1, (r.2.2.2.1.1, (r.2.2.2.1.2, (r.2.2.2.2.1, (r.2.2.2.2.2.1, (r.2.2.2.2.2.2.1, (r.2.2.2.2.2.2.2.1, (r.2.2.2.2.2.2.2.2.1, r.2.2.2.2.2.2.2.2.2)))))))))))
      else
        bif (decide (r.2.1 < 1)) then
          some (true, (r.1, (r.2.1, (r.2.2.1, (r.2.2.2.1.1, (r.2.2.2.1.2, (r.2.2.2.2.1, (r.2.2.2.2.2.1, (r.2.2.2.2.2.2.1, (r.2.2.2.2.2.2.2.1, (r.2.2.2.2.2.2.2.2.1, r.2.2.2.2.2.2.2.2.2)))))))))))
        else
          bif (decide (r.2.1 > 1099511627776)) then
            some (true, (r.1, (r.2.1, (r.2.2.1, (r.2.2.2.1.1, (r.2.2.2.1.2, (r.2.2.2.2.1, (r.2.2.2.2.2.1, (r.2.2.2.2.2.2.1, (r.2.2.2.2.2.2.2.1, (r.2.2.2.2.2.2.2.2.1, r.2.2.2.2.2.2.2.2.2)))))))))))
          else
            bif (decide (r.2.2.1 < 0)) then
              some (true, (r.1, (r.2.1, (r.2.2.1, (r.2.2.2.1.1, (r.2.2.2.1.2, (r.2.2.2.2.1, (r.2.2.2.2.2.1, (r.2.2.2.2.2.2.1, (r.2.2.2.2.2.2.2.1, (r.2.2.2.2.2.2.2.2.1, r.2.2.2.2.2.2.2.2.2)))))))))))
            else
              some ((decide (r.2.2.1 > 1000)), (r.1, (r.2.1, (r.2.2.1, (r.2.2.2.1.1, (r.2.2.2.1.2, (r.2.2.2.2.1, (r.2.2.2.2.2.1, (r.2.2.2.2.2.2.1, (r.2.2.2.2.2.2.2.1, (r.2.2.2.2.2.2.2.2.1, r.2.2.2.2.2.2.2.2.2)))))))))))) fun o =>
  bif o.1 then
    some false
  else
    bif (!(o.2.2.2.1 == 0)) then
      Option.bind (α := (Bool)) (
        bif ((o.2.2.2.2.1 == 0) && (o.2.2.2.2.2.1 == 0)) then
          bif (!o.2.2.2.2.2.2.1) then
            bif (o.2.2.2.2.2.2.2.1 == 0) then
              bif (((o.2.2.2.2.2.2.2.2.1.length : Nat) : Int) == 0) then
                bif (((o.2.2.2.2.2.2.2.2.2.1.length : Nat) : Int) == 0) then
                  bif (!o.2.2.2.2.2.2.2.2.2.2.1) then
                    some (o.2.2.2.2.2.2.2.2.2.2.2 == 0)
                  else
                    some false
                else
                  some false
              else
                some false
            else
              some false
          else
            some false
        else
          some false) fun o1 =>
      some o1
    else
      Option.bind (α := ((Bool × (Int × (Int × (Int × (Int × (Int × (Bool × (Int × (List (UInt8) × (List ((List UInt8 × Int)) × (Bool × Int))))))))))))) (
        bif (!((o.2.2.2.2.1 == 0) && (o.2.2.2.2.2.1 == 0))) then
          (ref20_Right fu (o.2.2.2.2.1, o.2.2.2.2.2.1)).bind fun r1 =>
          bif (!r1) then
            some (true, (o.2.1, (o.2.2.1, (o.2.2.2.1, (o.2.2.2.2.1, (o.2.2.2.2.2.1, (o.2.2.2.2.2.2.1, (o.2.2.2.2.2.2.2.1, (o.2.2.2.2.2.2.2.2.1, (o.2.2.2.2.2.2.2.2.2.1, (o.2.2.2.2.2.2.2.2.2.2.1, o.2.2.2.2.2.2.2.2.2.2.2)))))))))))
          else
            bif (decide (o.2.2.2.2.2.2.2.1 < 0)) then
              some (true, (o.2.1, (o.2.2.1, (o.2.2.2.1, (o.2.2.2.2.1, (o.2.2.2.2.2.1, (o.2.2.2.2.2.2.1, (o.2.2.2.2.2.2.2.1, (o.2.2.2.2.2.2.2.2.1, (o.2.2.2.2.2.2.2.2.2.1, (o.2.2.2.2.2.2.2.2.2.2.1, o.2.2.2.2.2.2.2.2.2.2.2)))))))))))
            else
              bif (decide (o.2.2.2.2.2.2.2.1 > 65536)) then
                some (true, (o.2.1, (o.2.2.1, (o.2.2.2.1, (o.2.2.2.2.1, (o.2.2.2.2.2.1, (o.2.2.2.2.2.2.1, (o.2.2.2.2.2.2.2.1, (o.2.2.2.2.2.2.2.2.1, (o.2.2.2.2.2.2.2.2.2.1, (o.2.2.2.2.2.2.2.2.2.2.1, o.2.2.2.2.2.2.2.2.2.2.2)))))))))))
              else
                bif (decide (((o.2.2.2.2.2.2.2.2.1.length : Nat) : Int) > 4096)) then
                  some (true, (o.2.1, (o.2.2.1, (o.2.2.2.1, (o.2.2.2.2.1, (o.2.2.2.2.2.1, (o.2.2.2.2.2.2.1, (o.2.2.2.2.2.2.2.1, (o.2.2.2.2.2.2.2.2.1, (o.2.2.2.2.2.2.2.2.2.1, (o.2.2.2.2.2.2.2.2.2.2.1, o.2.2.2.2.2.2.2.2.2.2.2)))))))))))
                else
                  bif (decide (((o.2.2.2.2.2.2.2.2.2.1.length : Nat) : Int) > 100)) then
                    some (true, (o.2.1, (o.2.2.1, (o.2.2.2.1, (o.2.2.2.2.1, (o.2.2.2.2.2.1, (o.2.2.2.2.2.2.1, (o.2.2.2.2.2.2.2.1, (o.2.2.2.2.2.2.2.2.1, (o.2.2.2.2.2.2.2.2.2.1, (o.2.2.2.2.2.2.2.2.2.2.1, o.2.2.2.2.2.2.2.2.2.2.2)))))))))))
                  else
                    bif (decide (o.2.2.2.2.2.2.2.2.2.2.2 < 0)) then
                      some (true, (o.2.1, (o.2.2.1, (o.2.2.2.1, (o.2.2.2.2.1, (o.2.2.2.2.2.1, (o.2.2.2.2.2.2.1, (o.2.2.2.2.2.2.2.1, (o.2.2.2.2.2.2.2.2.1, (o.2.2.2.2.2.2.2.2.2.1, (o.2.2.2.2.2.2.2.2.2.2.1, o.2.2.2.2.2.2.2.2.2.2.2)))))))))))
                    else
                      some ((decide (o.2.2.2.2.2.2.2.2.2.2.2 > 1099511627776)), (o.2.1, (o.2.2.1, (o.2.2.2.1, (o.2.2.2.2.1, (o.2.2.2.2.2.1, (o.2.2.2.2.2.2.1, (o.2.2.2.2.2.2.2.1, (o.2.2.2.2.2.2.2.2.1, (o.2.2.2.2.2.2.2.2.2.1, (o.2.2.2.2.2.2.2.2.2.2.1, o.2.2.2.2.2.2.2.2.2.2.2)))))))))))
        else
          bif (decide (o.2.2.2.2.2.2.2.1 < 0)) then
            some (true, (o.2.1, (o.2.2.1, (o.2.2.2.1, (o.2.2.2.2.1, (o.2.2.2.2.2.1, (o.2.2.2.2.2.2.1, (o.2.2.2.2.2.2.2.1, (o.2.2.2.2.2.2.2.2.1, (o.2.2.2.2.2.2.2.2.2.1, (o.2.2.2.2.2.2.2.2.2.2.1, o.2.2.2.2.2.2.2.2.2.2.2)))))))))))
          else
            bif (decide (o.2.2.2.2.2.2.2.1 > 65536)) then
              some (true, (o.2.1, (o.2.2.1, (o.2.2.2.1, (o.2.2.2.2.1, (o.2.2.2.2.2.1, (o.2.2.2.2.2.2.1, (o.2.2.2.2.2.2.2.1, (o.2.2.2.2.2.2.2.2.1, (o.2.2.2.2.2.2.2.2.2.1, (o.2.2.2.2.2.2.2.2.2.2.1, o.2.2.2.2.2.2.2.2.2.2.2)))))))))))
            else
              bif (decide (((o.2.2.2.2.2.2.2.2.1.length : Nat) : Int) > 4096)) then
                some (true, (o.2.1, (o.2.2.1, (o.2.2.2.1, (o.2.2.2.2.1, (o.2.2.2.2.2.1, (o.2.2.2.2.2.2.1, (o.2.2.2.2.2.2.2.1, (o.2.2.2.2.2.2.2.2.1, (o.2.2.2.2.2.2.2.2.2.1, (o.2.2.2.2.2.2.2.2.2.2.1, o.2.2.2.2.2.2.2.2.2.2.2)))))))))))
              else
                bif (decide (((o.2.2.2.2.2.2.2.2.2.1.length : Nat) : Int) > 100)) then
                  some (true, (o.2.1, (o.2.2.1, (o.2.2.2.1, (o.2.2.2.2.1, (o.2.2.2.2.2.1, (o.2.2.2.2.2.2.1, (o.2.2.2.2.2.2.2.1, (o.2.2.2.2.2.2.2.2.1, (o.2.2.2.2.2.2.2.2.2.1, (o.2.2.2.2.2.2.2.2.2.2.1, o.2.2.2.2.2.2.2.2.2.2.2)))))))))))
                else
                  bif (decide (o.2.2.2.2.2.2.2.2.2.2.2 < 0)) then
                    some (true, (o.2.1, (o.2.2.1, (o.2.2.2.1, (o.2.2.2.2.1, (o.2.2.2.2.2.1, (o.2.2.2.2.2.2.1, (o.2.2.2.2.2.2.2.1, (o.2.2.2.2.2.2.2.2.1, (o.2.2.2.2.2.2.2.2.2.1, (o.2.2.2.2.2.2.2.2.2.2.1, o.2.2.2.2.2.2.2.2.2.2.2)))))))))))
                  else
                    some ((decide (o.2.2.2.2.2.2.2.2.2.2.2 > 1099511627776)), (o.2.1, (o.2.2.1, (o.2.2.2.1, (o.2.2.2.2.1, (o.2.2.2.2.2.1, (o.2.2.2.2.2.2.1, (o.2.2.2.2.2.2.2.1, (o.2.2.2.2.2.2.2.2.1, (o.2.2.2.2.2.2.2.2.2.1, (o.2.2.2.2.2.2.2.2.2.2.1, o.2.2.2.2.2.2.2.2.2.2.2)))))))))))) fun o2 =>
      bif o2.1 then
        some false
      else
        (ref21_RightReply_l0_it fu  (0, (o2.2.1, (o2.2.2.1, (o2.2.2.2.1, (o2.2.2.2.2.1, (o2.2.2.2.2.2.1, (o2.2.2.2.2.2.2.1, (o2.2.2.2.2.2.2.2.1, (o2.2.2.2.2.2.2.2.2.1, (o2.2.2.2.2.2.2.2.2.2.1, (o2.2.2.2.2.2.2.2.2.2.2.1, o2.2.2.2.2.2.2.2.2.2.2.2)))))))))))).bind fun o4 =>
        match o4 with
        | .inl s =>
          some true
        | .inr o5 =>
          some o5
def ref21_RightReply_fa : FnA := ⟨.two (.reg [(0, { ids := [100] })]) (.two (.two (.join ⟨[1, 33], ⟨(.cons (.own 0 100 0 0) (.cons (.p .bool) .nil)), [(100, false, (.vars (.cons (.p (.int .i64)) (.cons (.p (.int .i64)) (.cons (.p (.int .i64)) (.cons (.p (.int .i64)) (.cons (.p (.int .i64)) (.cons (.p .bool) (.cons (.p (.int .i64)) (.cons (.p (.sl .byte)) (.cons (.p (.sl (.pair .str (.int .i64)))) (.cons (.p .bool) (.cons (.p (.int .i64)) .nil)))))))))))))]⟩⟩ false [] (.leaf)) (.two (.leaf) (.leaf))) (.two (.leaf) (.two (.two (.leaf) (.two (.two (.join ⟨[2], ⟨(.cons (.p .bool) .nil), []⟩⟩ false [] (.leaf)) (.leaf)) (.leaf))) (.two (.two (.join ⟨[1, 113], ⟨(.cons (.own 0 100 0 0) (.cons (.p .bool) .nil)), [(100, false, (.vars (.cons (.p (.int .i64)) (.cons (.p (.int .i64)) (.cons (.p (.int .i64)) (.cons (.p (.int .i64)) (.cons (.p (.int .i64)) (.cons (.p .bool) (.cons (.p (.int .i64)) (.cons (.p (.sl .byte)) (.cons (.p (.sl (.pair .str (.int .i64)))) (.cons (.p .bool) (.cons (.p (.int .i64)) .nil)))))))))))))]⟩⟩ false [] (.reg [(5, {  })])) (.two (.leaf) (.leaf))) (.two (.two (.leaf) (.one (.loop ⟨[1, 4], ⟨(.cons (.own 0 100 0 0) (.cons (.p (.int .i64)) .nil)), [(100, false, (.vars (.cons (.p (.int .i64)) (.cons (.p (.int .i64)) (.cons (.p (.int .i64)) (.cons (.p (.int .i64)) (.cons (.p (.int .i64)) (.cons (.p .bool) (.cons (.p (.int .i64)) (.cons (.p (.sl .byte)) (.cons (.p (.sl (.pair .str (.int .i64)))) (.cons (.p .bool) (.cons (.p (.int .i64)) .nil)))))))))))))]⟩⟩ true [(0, ⟨[], ⟨.nil, []⟩⟩)] (.two (.two (.leaf) (.leaf)) (.two (.one (.two (.reg [(5, { ids := [101] })]) (.two (.join ⟨[1, 145], ⟨(.cons (.own 0 100 0 0) (.cons (.p .bool) .nil)), [(100, false, (.vars (.cons (.p (.int .i64)) (.cons (.p (.int .i64)) (.cons (.p (.int .i64)) (.cons (.p (.int .i64)) (.cons (.p (.int .i64)) (.cons (.p .bool) (.cons (.p (.int .i64)) (.cons (.p (.sl .byte)) (.cons (.p (.sl (.pair .str (.int .i64)))) (.cons (.p .bool) (.cons (.p (.int .i64)) .nil)))))))))))))]⟩⟩ false [] (.leaf)) (.two (.leaf) (.leaf))))) (.leaf)))))) (.leaf)))))), ⟨(.cons (.p (.pair (.int .i64) (.pair (.int .i64) (.pair (.int .i64) (.pair (.pair (.int .i64) (.int .i64)) (.pair .bool (.pair (.int .i64) (.pair (.sl .byte) (.pair (.sl (.pair .str (.int .i64))) (.pair .bool (.int .i64))))))))))) .nil), []⟩, [⟨(.cons (.p .bool) .nil), []⟩], [0]⟩
def ref21_RightReply_ft (fu : Nat) : FnT := ⟨32, ⟨(.cons (.p (.pair (.int .i64) (.pair (.int .i64) (.pair (.int .i64) (.pair (.pair (.int .i64) (.int .i64)) (.pair .bool (.pair (.int .i64) (.pair (.sl .byte) (.pair (.sl (.pair .str (.int .i64))) (.pair .bool (.int .i64))))))))))) .nil), []⟩, [⟨(.cons (.p .bool) .nil), []⟩], fun t => ref21_RightReply fu t⟩
theorem ref21_RightReply_eq (fu : Nat) : ∀ t, evF Go.Proofs.Try.prog [ref20_Right_ft fu] fu Go.Proofs.Try.f32 ref21_RightReply_fa t = (ref21_RightReply_ft fu).spec t := fun t => by kernel_rfl
theorem ref21_RightReply_told (fu : Nat) : Told Go.Proofs.Try.prog (ref21_RightReply_ft fu) := told_of (allT_cons (ref20_Right_told fu) allT_nil) mixed Go.Proofs.Try.func32 (by kernel_rfl) (by kernel_rfl) (ref21_RightReply_eq fu)

def low_SameBytes (fu : Nat) (a : List (UInt8)) (b : List (UInt8)) : Option (Bool) :=
  some (a == b)
def low_SameBytes_fa : FnA := ⟨.two (.leaf) (.leaf), ⟨(.cons (.p (.sl .byte)) (.cons (.p (.sl .byte)) .nil)), []⟩, [⟨(.cons (.p .bool) .nil), []⟩], [0]⟩
def low_SameBytes_ft (fu : Nat) : FnT := ⟨33, ⟨(.cons (.p (.sl .byte)) (.cons (.p (.sl .byte)) .nil)), []⟩, [⟨(.cons (.p .bool) .nil), []⟩], fun t => low_SameBytes fu t.1 t.2⟩
theorem low_SameBytes_eq (fu : Nat) : ∀ t, evF Go.Proofs.Try.prog [] fu Go.Proofs.Try.f33 low_SameBytes_fa t = (low_SameBytes_ft fu).spec t := fun t => by kernel_rfl
theorem low_SameBytes_told (fu : Nat) : Told Go.Proofs.Try.prog (low_SameBytes_ft fu) := told_of allT_nil mixed Go.Proofs.Try.func33 (by kernel_rfl) (by kernel_rfl) (low_SameBytes_eq fu)

def kit_SameEntries_l0 (fu : Nat) (a : List ((List UInt8 × Int))) (b : List ((List UInt8 × Int))) (i : Int) : Option (Int ⊕ (Unit ⊕ Bool)) :=
  bif (decide (i < ((a.length : Nat) : Int))) then
    (idx? i a.length).bind fun q =>
    (a)[q]?.bind fun r =>
    (idx? i b.length).bind fun q1 =>
    (b)[q1]?.bind fun r1 =>
    bif (!((r.1 == r1.1) && (r.2 == r1.2))) then
      some (.inr (.inr false))
    else
      some (.inl (IntKind.wrap .i64 (i + 1)))
  else
    some (.inr (.inl ()))
def kit_SameEntries_l0_it (fu : Nat) (a : List ((List UInt8 × Int))) (b : List ((List UInt8 × Int))) (tt : Int) : Option (Unit ⊕ Bool) :=
  iter fu (fun tt => kit_SameEntries_l0 fu a b tt) tt
def kit_SameEntries (fu : Nat) (a : List ((List UInt8 × Int))) (b : List ((List UInt8 × Int))) : Option (Bool) :=
  bif (!(((a.length : Nat) : Int) == ((b.length : Nat) : Int))) then
    some false
  else
    (kit_SameEntries_l0_it fu a b 0).bind fun o =>
    match o with
    | .inl s =>
      some true
    | .inr o1 =>
      some o1
def kit_SameEntries_fa : FnA := ⟨.two (.leaf) (.two (.two (.leaf) (.two (.leaf) (.leaf))) (.two (.two (.leaf) (.one (.loop ⟨[5], ⟨(.cons (.p (.int .i64)) .nil), []⟩⟩ true [(0, ⟨[], ⟨.nil, []⟩⟩)] (.two (.two (.leaf) (.leaf)) (.two (.one (.two (.leaf) (.two (.leaf) (.leaf)))) (.leaf)))))) (.leaf))), ⟨(.cons (.p (.sl (.pair .str (.int .i64)))) (.cons (.p (.sl (.pair .str (.int .i64)))) .nil)), []⟩, [⟨(.cons (.p .bool) .nil), []⟩], [0]⟩
def kit_SameEntries_ft (fu : Nat) : FnT := ⟨34, ⟨(.cons (.p (.sl (.pair .str (.int .i64)))) (.cons (.p (.sl (.pair .str (.int .i64)))) .nil)), []⟩, [⟨(.cons (.p .bool) .nil), []⟩], fun t => kit_SameEntries fu t.1 t.2⟩
theorem kit_SameEntries_eq (fu : Nat) : ∀ t, evF Go.Proofs.Try.prog [] fu Go.Proofs.Try.f34 kit_SameEntries_fa t = (kit_SameEntries_ft fu).spec t := fun t => by kernel_rfl
theorem kit_SameEntries_told (fu : Nat) : Told Go.Proofs.Try.prog (kit_SameEntries_ft fu) := told_of allT_nil mixed Go.Proofs.Try.func34 (by kernel_rfl) (by kernel_rfl) (kit_SameEntries_eq fu)

def law21_SameReply (fu : Nat) (a : (Int × (Int × (Int × ((Int × Int) × (Bool × (Int × (List (UInt8) × (List ((List UInt8 × Int)) × (Bool × Int)))))))))) (b : (Int × (Int × (Int × ((Int × Int) × (Bool × (Int × (List (UInt8) × (List ((List UInt8 × Int)) × (Bool × Int)))))))))) : Option (Bool) :=
  bif (a.1 == b.1) then
    bif (a.2.1 == b.2.1) then
      bif (a.2.2.1 == b.2.2.1) then
        bif ((a.2.2.2.1.1 == b.2.2.2.1.1) && (a.2.2.2.1.2 == b.2.2.2.1.2)) then
          bif (a.2.2.2.2.1 == b.2.2.2.2.1) then
            bif (a.2.2.2.2.2.1 == b.2.2.2.2.2.1) then
              (low_SameBytes fu a.2.2.2.2.2.2.1 b.2.2.2.2.2.2.1).bind fun r =>
              bif r then
                (kit_SameEntries fu a.2.2.2.2.2.2.2.1 b.2.2.2.2.2.2.2.1).bind fun r1 =>
                bif r1 then
                  bif (a.2.2.2.2.2.2.2.2.1 == b.2.2.2.2.2.2.2.2.1) then
                    some (a.2.2.2.2.2.2.2.2.2 == b.2.2.2.2.2.2.2.2.2)
                  else
                    some false
                else
                  some false
              else
                some false
            else
              some false
          else
            some false
        else
          some false
      else
        some false
    else
      some false
  else
    some false
def law21_SameReply_fa : FnA := ⟨.two (.reg [(0, { ids := [100] }), (1, { ids := [101] })]) (.two (.reg [(45, {  }), (52, { fn := 1 })]) (.leaf)), ⟨(.cons (.p (.pair (.int .i64) (.pair (.int .i64) (.pair (.int .i64) (.pair (.pair (.int .i64) (.int .i64)) (.pair .bool (.pair (.int .i64) (.pair (.sl .byte) (.pair (.sl (.pair .str (.int .i64))) (.pair .bool (.int .i64))))))))))) (.cons (.p (.pair (.int .i64) (.pair (.int .i64) (.pair (.int .i64) (.pair (.pair (.int .i64) (.int .i64)) (.pair .bool (.pair (.int .i64) (.pair (.sl .byte) (.pair (.sl (.pair .str (.int .i64))) (.pair .bool (.int .i64))))))))))) .nil)), []⟩, [⟨(.cons (.p .bool) .nil), []⟩], [0]⟩
def law21_SameReply_ft (fu : Nat) : FnT := ⟨16, ⟨(.cons (.p (.pair (.int .i64) (.pair (.int .i64) (.pair (.int .i64) (.pair (.pair (.int .i64) (.int .i64)) (.pair .bool (.pair (.int .i64) (.pair (.sl .byte) (.pair (.sl (.pair .str (.int .i64))) (.pair .bool (.int .i64))))))))))) (.cons (.p (.pair (.int .i64) (.pair (.int .i64) (.pair (.int .i64) (.pair (.pair (.int .i64) (.int .i64)) (.pair .bool (.pair (.int .i64) (.pair (.sl .byte) (.pair (.sl (.pair .str (.int .i64))) (.pair .bool (.int .i64))))))))))) .nil)), []⟩, [⟨(.cons (.p .bool) .nil), []⟩], fun t => law21_SameReply fu t.1 t.2⟩
theorem law21_SameReply_eq (fu : Nat) : ∀ t, evF Go.Proofs.Try.prog [low_SameBytes_ft fu, kit_SameEntries_ft fu] fu Go.Proofs.Try.f16 law21_SameReply_fa t = (law21_SameReply_ft fu).spec t := fun t => by kernel_rfl
theorem law21_SameReply_told (fu : Nat) : Told Go.Proofs.Try.prog (law21_SameReply_ft fu) := told_of (allT_cons (low_SameBytes_told fu) (allT_cons (kit_SameEntries_told fu) allT_nil)) mixed Go.Proofs.Try.func16 (by kernel_rfl) (by kernel_rfl) (law21_SameReply_eq fu)

def law23_Same_l0 (fu : Nat) (o1 : (Bool × (Int × (List ((Int × (Int × List ((Int × (Int × (Int × ((Int × Int) × (Bool × (Int × (List (UInt8) × (List ((List UInt8 × Int)) × (Bool × Int))))))))))))) × (Int × (List ((Int × (Int × List ((Int × (Int × (Int × ((Int × Int) × (Bool × (Int × (List (UInt8) × (List ((List UInt8 × Int)) × (Bool × Int))))))))))))) × (Int × (Int × (List ((Int × (Int × (Int × ((Int × Int) × (Bool × (Int × (List (UInt8) × (List ((List UInt8 × Int)) × (Bool × Int)))))))))) × (Int × (Int × List ((Int × (Int × (Int × ((Int × Int) × (Bool × (Int × (List (UInt8) × (List ((List UInt8 × Int)) × (Bool × Int))))))))))))))))))))) (x1 : Int) (h4 : Int) (h5 : List ((Int × (Int × List ((Int × (Int × (Int × ((Int × Int) × (Bool × (Int × (List (UInt8) × (List ((List UInt8 × Int)) × (Bool × Int)))))))))))))) (h6 : Int) (h7 : List ((Int × (Int × List ((Int × (Int × (Int × ((Int × Int) × (Bool × (Int × (List (UInt8) × (List ((List UInt8 × Int)) × (Bool × Int)))))))))))))) (h8 : Int) (h9 : Int) (h10 : List ((Int × (Int × (Int × ((Int × Int) × (Bool × (Int × (List (UInt8) × (List ((List UInt8 × Int)) × (Bool × Int))))))))))) (h11 : Int) (h12 : Int) (h13 : List ((Int × (Int × (Int × ((Int × Int) × (Bool × (Int × (List (UInt8) × (List ((List UInt8 × Int)) × (Bool × Int))))))))))) : Option ((Int × (Int × (List ((Int × (Int × List ((Int × (Int × (Int × ((Int × Int) × (Bool × (Int × (List (UInt8) × (List ((List UInt8 × Int)) × (Bool × Int))))))))))))) × (Int × (List ((Int × (Int × List ((Int × (Int × (Int × ((Int × Int) × (Bool × (Int × (List (UInt8) × (List ((List UInt8 × Int)) × (Bool × Int))))))))))))) × (Int × (Int × (List ((Int × (Int × (Int × ((Int × Int) × (Bool × (Int × (List (UInt8) × (List ((List UInt8 × Int)) × (Bool × Int)))))))))) × (Int × (Int × List ((Int × (Int × (Int × ((Int × Int) × (Bool × (Int × (List (UInt8) × (List ((List UInt8 × Int)) × (Bool × Int)))))))))))))))))))) ⊕ ((Int × (List ((Int × (Int × List ((Int × (Int × (Int × ((Int × Int) × (Bool × (Int × (List (UInt8) × (List ((List UInt8 × Int)) × (Bool × Int))))))))))))) × (Int × List ((Int × (Int × List ((Int × (Int × (Int × ((Int × Int) × (Bool × (Int × (List (UInt8) × (List ((List UInt8 × Int)) × (Bool × Int)))))))))))))))) ⊕ ((Int × (Int × (List ((Int × (Int × List ((Int × (Int × (Int × ((Int × Int) × (Bool × (Int × (List (UInt8) × (List ((List UInt8 × Int)) × (Bool × Int))))))))))))) × (Int × List ((Int × (Int × List ((Int × (Int × (Int × ((Int × Int) × (Bool × (Int × (List (UInt8) × (List ((List UInt8 × Int)) × (Bool × Int))))))))))))))))) ⊕ (Unit ⊕ Bool)))) :=
  bif (decide (x1 < ((o1.2.2.2.2.2.2.2.1.length : Nat) : Int))) then
    (idx? x1 h10.length).bind fun q2 =>
    (h10)[q2]?.bind fun r2 =>
    (idx? x1 h13.length).bind fun q3 =>
    (h13)[q3]?.bind fun r3 =>
    (law21_SameReply fu r2 r3).bind fun r4 =>
    bif (!r4) then
      some (.inr (.inr (.inr (.inr false))))
    else
      some (.inl ((IntKind.wrap .i64 (x1 + 1)), (h4, (h5, (h6, (h7, (h8, (h9, (h10, (h11, (h12, h13)))))))))))
  else
    some (.inr (.inl (h4, (h5, (h6, h7)))))
def law23_Same_l0_it (fu : Nat) (o1 : (Bool × (Int × (List ((Int × (Int × List ((Int × (Int × (Int × ((Int × Int) × (Bool × (Int × (List (UInt8) × (List ((List UInt8 × Int)) × (Bool × Int))))))))))))) × (Int × (List ((Int × (Int × List ((Int × (Int × (Int × ((Int × Int) × (Bool × (Int × (List (UInt8) × (List ((List UInt8 × Int)) × (Bool × Int))))))))))))) × (Int × (Int × (List ((Int × (Int × (Int × ((Int × Int) × (Bool × (Int × (List (UInt8) × (List ((List UInt8 × Int)) × (Bool × Int)))))))))) × (Int × (Int × List ((Int × (Int × (Int × ((Int × Int) × (Bool × (Int × (List (UInt8) × (List ((List UInt8 × Int)) × (Bool × Int))))))))))))))))))))) (tt : (Int × (Int × (List ((Int × (Int × List ((Int × (Int × (Int × ((Int × Int) × (Bool × (Int × (List (UInt8) × (List ((List UInt8 × Int)) × (Bool × Int))))))))))))) × (Int × (List ((Int × (Int × List ((Int × (Int × (Int × ((Int × Int) × (Bool × (Int × (List (UInt8) × (List ((List UInt8 × Int)) × (Bool × Int))))))))))))) × (Int × (Int × (List ((Int × (Int × (Int × ((Int × Int) × (Bool × (Int × (List (UInt8) × (List ((List UInt8 × Int)) × (Bool × Int)))))))))) × (Int × (Int × List ((Int × (Int × (Int × ((Int × Int) × (Bool × (Int × (List (UInt8) × (List ((List UInt8 × Int)) × (Bool × Int))))))))))))))))))))) : Option ((Int × (List ((Int × (Int × List ((Int × (Int × (Int × ((Int × Int) × (Bool × (Int × (List (UInt8) × (List ((List UInt8 × Int)) × (Bool × Int))))))))))))) × (Int × List ((Int × (Int × List ((Int × (Int × (Int × ((Int × Int) × (Bool × (Int × (List (UInt8) × (List ((List UInt8 × Int)) × (Bool × Int)))))))))))))))) ⊕ ((Int × (Int × (List ((Int × (Int × List ((Int × (Int × (Int × ((Int × Int) × (Bool × (Int × (List (UInt8) × (List ((List UInt8 × Int)) × (Bool × Int))))))))))))) × (Int × List ((Int × (Int × List ((Int × (Int × (Int × ((Int × Int) × (Bool × (Int × (List (UInt8) × (List ((List UInt8 × Int)) × (Bool × Int))))))))))))))))) ⊕ (Unit ⊕ Bool))) :=
  iter fu (fun tt => law23_Same_l0 fu o1 tt.1 tt.2.1 tt.2.2.1 tt.2.2.2.1 tt.2.2.2.2.1 tt.2.2.2.2.2.1 tt.2.2.2.2.2.2.1 tt.2.2.2.2.2.2.2.1 tt.2.2.2.2.2.2.2.2.1 tt.2.2.2.2.2.2.2.2.2.1 tt.2.2.2.2.2.2.2.2.2.2) tt
def law23_Same_l1 (fu : Nat) (o : (Bool × (Int × (List ((Int × (Int × List ((Int × (Int × (Int × ((Int × Int) × (Bool × (Int × (List (UInt8) × (List ((List UInt8 × Int)) × (Bool × Int))))))))))))) × (Int × List ((Int × (Int × List ((Int × (Int × (Int × ((Int × Int) × (Bool × (Int × (List (UInt8) × (List ((List UInt8 × Int)) × (Bool × Int)))))))))))))))))) (x : Int) (h : Int) (h1 : List ((Int × (Int × List ((Int × (Int × (Int × ((Int × Int) × (Bool × (Int × (List (UInt8) × (List ((List UInt8 × Int)) × (Bool × Int)))))))))))))) (h2 : Int) (h3 : List ((Int × (Int × List ((Int × (Int × (Int × ((Int × Int) × (Bool × (Int × (List (UInt8) × (List ((List UInt8 × Int)) × (Bool × Int)))))))))))))) : Option ((Int × (Int × (List ((Int × (Int × List ((Int × (Int × (Int × ((Int × Int) × (Bool × (Int × (List (UInt8) × (List ((List UInt8 × Int)) × (Bool × Int))))))))))))) × (Int × List ((Int × (Int × List ((Int × (Int × (Int × ((Int × Int) × (Bool × (Int × (List (UInt8) × (List ((List UInt8 × Int)) × (Bool × Int))))))))))))))))) ⊕ (Unit ⊕ Bool)) :=
  bif (decide (x < ((o.2.2.1.length : Nat) : Int))) then
    (idx? x h1.length).bind fun q =>
    (h1)[q]?.bind fun r =>
    (idx? x h3.length).bind fun q1 =>
    (h3)[q1]?.bind fun r1 =>
    Option.bind (α := ((Bool × (Int × (List ((Int × (Int × List ((Int × (Int × (Int × ((Int × Int) × (Bool × (Int × (List (UInt8) × (List ((List UInt8 × Int)) × (Bool × Int))))))))))))) × (Int × (List ((Int × (Int × List ((Int × (Int × (Int × ((Int × Int) × (Bool × (Int × (List (UInt8) × (List ((List UInt8 × Int)) × (Bool × Int))))))))))))) × (Int × (Int × (List ((Int × (Int × (Int × ((Int × Int) × (Bool × (Int × (List (UInt8) × (List ((List UInt8 × Int)) × (Bool × Int)))))))))) × (Int × (Int × List ((Int × (Int × (Int × ((Int × Int) × (Bool × (Int × (List (UInt8) × (List ((List UInt8 × Int)) × (Bool × Int)))))))))))))))))))))) (
      bif (!(r.1 == r1.1)) then
        some (true, (h, (h1, (h2, (h3, (r.1, (r.2.1, (r.2.2, (r1.1, (r1.2.1, r1.2.2))))))))))
      else
        bif (!(r.2.1 == r1.2.1)) then
          some (true, (h, (h1, (h2, (h3, (r.1, (r.2.1, (r.2.2, (r1.1, (r1.2.1, r1.2.2))))))))))
        else
          some ((!(((r.2.2.length : Nat) : Int) == ((r1.2.2.length : Nat) : Int))), (h, (h1, (h2, (h3, (r.1, (r.2.1, (r.2.2, (r1.1, (r1.2.1, r1.2.2))))))))))) fun o1 =>
    bif o1.1 then
      some (.inr (.inr false))
    else
      (law23_Same_l0_it fu o1 (0, (o1.2.1, (o1.2.2.1, (o1.2.2.2.1, (o1.2.2.2.2.1, (o1.2.2.2.2.2.1, (o1.2.2.2.2.2.2.1, (o1.2.2.2.2.2.2.2.1, (o1.2.2.2.2.2.2.2.2.1, (o1.2.2.2.2.2.2.2.2.2.1, o1.2.2.2.2.2.2.2.2.2.2))))))))))).bind fun o2 =>
      match o2 with
      | .inl s =>
        some (.inl ((IntKind.wrap .i64 (x + 1)), (s.1, (s.2.1, (s.2.2.1, s.2.2.2)))))
      | .inr o3 =>
        some o3
  else
    some (.inr (.inl ()))
def law23_Same_l1_it (fu : Nat) (o : (Bool × (Int × (List ((Int × (Int × List ((Int × (Int × (Int × ((Int × Int) × (Bool × (Int × (List (UInt8) × (List ((List UInt8 × Int)) × (Bool × Int))))))))))))) × (Int × List ((Int × (Int × List ((Int × (Int × (Int × ((Int × Int) × (Bool × (Int × (List (UInt8) × (List ((List UInt8 × Int)) × (Bool × Int)))))))))))))))))) (tt : (Int × (Int × (List ((Int × (Int × List ((Int × (Int × (Int × ((Int × Int) × (Bool × (Int × (List (UInt8) × (List ((List UInt8 × Int)) × (Bool × Int))))))))))))) × (Int × List ((Int × (Int × List ((Int × (Int × (Int × ((Int × Int) × (Bool × (Int × (List (UInt8) × (List ((List UInt8 × Int)) × (Bool × Int)))))))))))))))))) : Option (Unit ⊕ Bool) :=
  iter fu (fun tt => law23_Same_l1 fu o tt.1 tt.2.1 tt.2.2.1 tt.2.2.2.1 tt.2.2.2.2) tt
def law23_Same (fu : Nat) (a : (Int × List ((Int × (Int × List ((Int × (Int × (Int × ((Int × Int) × (Bool × (Int × (List (UInt8) × (List ((List UInt8 × Int)) × (Bool × Int))))))))))))))) (b : (Int × List ((Int × (Int × List ((Int × (Int × (Int × ((Int × Int) × (Bool × (Int × (List (UInt8) × (List ((List UInt8 × Int)) × (Bool × Int))))))))))))))) : Option (Bool) :=
  Option.bind (α := ((Bool × (Int × (List ((Int × (Int × List ((Int × (Int × (Int × ((Int × Int) × (Bool × (Int × (List (UInt8) × (List ((List UInt8 × Int)) × (Bool × Int))))))))))))) × (Int × List ((Int × (Int × List ((Int × (Int × (Int × ((Int × Int) × (Bool × (Int × (List (UInt8) × (List ((List UInt8 × Int)) × (Bool × Int))))))))))))))))))) (
    bif (!(a.1 == b.1)) then
      some (true, (a.1, (a.2, (b.1, b.2))))
    else
      some ((!(((a.2.length : Nat) : Int) == ((b.2.length : Nat) : Int))), (a.1, (a.2, (b.1, b.2))))) fun o =>
  bif o.1 then
    some false
  else
    (law23_Same_l1_it fu o (0, (o.2.1, (o.2.2.1, (o.2.2.2.1, o.2.2.2.2))))).bind fun o4 =>
    match o4 with
    | .inl s1 =>
      some true
    | .inr o5 =>
      some o5
def law23_Same_fa : FnA := ⟨.two (.reg [(0, { ids := [100] }), (1, { ids := [101] })]) (.two (.two (.join ⟨[2, 3, 22], ⟨(.cons (.own 0 100 0 0) (.cons (.own 0 101 0 0) (.cons (.p .bool) .nil))), [(100, false, (.vars (.cons (.p (.int .i64)) (.cons (.p (.sl (.pair (.int .i64) (.pair (.int .i64) (.sl (.pair (.int .i64) (.pair (.int .i64) (.pair (.int .i64) (.pair (.pair (.int .i64) (.int .i64)) (.pair .bool (.pair (.int .i64) (.pair (.sl .byte) (.pair (.sl (.pair .str (.int .i64))) (.pair .bool (.int .i64))))))))))))))) .nil)))), (101, false, (.vars (.cons (.p (.int .i64)) (.cons (.p (.sl (.pair (.int .i64) (.pair (.int .i64) (.sl (.pair (.int .i64) (.pair (.int .i64) (.pair (.int .i64) (.pair (.pair (.int .i64) (.int .i64)) (.pair .bool (.pair (.int .i64) (.pair (.sl .byte) (.pair (.sl (.pair .str (.int .i64))) (.pair .bool (.int .i64))))))))))))))) .nil))))]⟩⟩ false [] (.leaf)) (.two (.leaf) (.leaf))) (.two (.two (.leaf) (.one (.loop ⟨[2, 3, 26], ⟨(.cons (.own 0 100 0 0) (.cons (.own 0 101 0 0) (.cons (.p (.int .i64)) .nil))), [(100, false, (.vars (.cons (.p (.int .i64)) (.cons (.p (.sl (.pair (.int .i64) (.pair (.int .i64) (.sl (.pair (.int .i64) (.pair (.int .i64) (.pair (.int .i64) (.pair (.pair (.int .i64) (.int .i64)) (.pair .bool (.pair (.int .i64) (.pair (.sl .byte) (.pair (.sl (.pair .str (.int .i64))) (.pair .bool (.int .i64))))))))))))))) .nil)))), (101, false, (.vars (.cons (.p (.int .i64)) (.cons (.p (.sl (.pair (.int .i64) (.pair (.int .i64) (.sl (.pair (.int .i64) (.pair (.int .i64) (.pair (.int .i64) (.pair (.pair (.int .i64) (.int .i64)) (.pair .bool (.pair (.int .i64) (.pair (.sl .byte) (.pair (.sl (.pair .str (.int .i64))) (.pair .bool (.int .i64))))))))))))))) .nil))))]⟩⟩ true [(0, ⟨[], ⟨.nil, []⟩⟩)] (.two (.leaf) (.two (.leaf) (.two (.one (.two (.leaf) (.two (.reg [(10, { ids := [102] }), (11, { ids := [103] })]) (.two (.two (.join ⟨[2, 3, 6, 7, 59], ⟨(.cons (.own 0 100 0 0) (.cons (.own 0 101 0 0) (.cons (.own 0 102 0 0) (.cons (.own 0 103 0 0) (.cons (.p .bool) .nil))))), [(100, false, (.vars (.cons (.p (.int .i64)) (.cons (.p (.sl (.pair (.int .i64) (.pair (.int .i64) (.sl (.pair (.int .i64) (.pair (.int .i64) (.pair (.int .i64) (.pair (.pair (.int .i64) (.int .i64)) (.pair .bool (.pair (.int .i64) (.pair (.sl .byte) (.pair (.sl (.pair .str (.int .i64))) (.pair .bool (.int .i64))))))))))))))) .nil)))), (101, false, (.vars (.cons (.p (.int .i64)) (.cons (.p (.sl (.pair (.int .i64) (.pair (.int .i64) (.sl (.pair (.int .i64) (.pair (.int .i64) (.pair (.int .i64) (.pair (.pair (.int .i64) (.int .i64)) (.pair .bool (.pair (.int .i64) (.pair (.sl .byte) (.pair (.sl (.pair .str (.int .i64))) (.pair .bool (.int .i64))))))))))))))) .nil)))), (102, false, (.vars (.cons (.p (.int .i64)) (.cons (.p (.int .i64)) (.cons (.p (.sl (.pair (.int .i64) (.pair (.int .i64) (.pair (.int .i64) (.pair (.pair (.int .i64) (.int .i64)) (.pair .bool (.pair (.int .i64) (.pair (.sl .byte) (.pair (.sl (.pair .str (.int .i64))) (.pair .bool (.int .i64)))))))))))) .nil))))), (103, false, (.vars (.cons (.p (.int .i64)) (.cons (.p (.int .i64)) (.cons (.p (.sl (.pair (.int .i64) (.pair (.int .i64) (.pair (.int .i64) (.pair (.pair (.int .i64) (.int .i64)) (.pair .bool (.pair (.int .i64) (.pair (.sl .byte) (.pair (.sl (.pair .str (.int .i64))) (.pair .bool (.int .i64)))))))))))) .nil)))))]⟩⟩ false [] (.leaf)) (.two (.leaf) (.leaf))) (.two (.leaf) (.one (.loop ⟨[2, 3, 6, 7, 63], ⟨(.cons (.own 0 100 0 0) (.cons (.own 0 101 0 0) (.cons (.own 0 102 0 0) (.cons (.own 0 103 0 0) (.cons (.p (.int .i64)) .nil))))), [(100, false, (.vars (.cons (.p (.int .i64)) (.cons (.p (.sl (.pair (.int .i64) (.pair (.int .i64) (.sl (.pair (.int .i64) (.pair (.int .i64) (.pair (.int .i64) (.pair (.pair (.int .i64) (.int .i64)) (.pair .bool (.pair (.int .i64) (.pair (.sl .byte) (.pair (.sl (.pair .str (.int .i64))) (.pair .bool (.int .i64))))))))))))))) .nil)))), (101, false, (.vars (.cons (.p (.int .i64)) (.cons (.p (.sl (.pair (.int .i64) (.pair (.int .i64) (.sl (.pair (.int .i64) (.pair (.int .i64) (.pair (.int .i64) (.pair (.pair (.int .i64) (.int .i64)) (.pair .bool (.pair (.int .i64) (.pair (.sl .byte) (.pair (.sl (.pair .str (.int .i64))) (.pair .bool (.int .i64))))))))))))))) .nil)))), (102, false, (.vars (.cons (.p (.int .i64)) (.cons (.p (.int .i64)) (.cons (.p (.sl (.pair (.int .i64) (.pair (.int .i64) (.pair (.int .i64) (.pair (.pair (.int .i64) (.int .i64)) (.pair .bool (.pair (.int .i64) (.pair (.sl .byte) (.pair (.sl (.pair .str (.int .i64))) (.pair .bool (.int .i64)))))))))))) .nil))))), (103, false, (.vars (.cons (.p (.int .i64)) (.cons (.p (.int .i64)) (.cons (.p (.sl (.pair (.int .i64) (.pair (.int .i64) (.pair (.int .i64) (.pair (.pair (.int .i64) (.int .i64)) (.pair .bool (.pair (.int .i64) (.pair (.sl .byte) (.pair (.sl (.pair .str (.int .i64))) (.pair .bool (.int .i64)))))))))))) .nil)))))]⟩⟩ true [(2, ⟨[2, 3], ⟨(.cons (.own 0 100 0 0) (.cons (.own 0 101 0 0) .nil)), [(100, false, (.vars (.cons (.p (.int .i64)) (.cons (.p (.sl (.pair (.int .i64) (.pair (.int .i64) (.sl (.pair (.int .i64) (.pair (.int .i64) (.pair (.int .i64) (.pair (.pair (.int .i64) (.int .i64)) (.pair .bool (.pair (.int .i64) (.pair (.sl .byte) (.pair (.sl (.pair .str (.int .i64))) (.pair .bool (.int .i64))))))))))))))) .nil)))), (101, false, (.vars (.cons (.p (.int .i64)) (.cons (.p (.sl (.pair (.int .i64) (.pair (.int .i64) (.sl (.pair (.int .i64) (.pair (.int .i64) (.pair (.int .i64) (.pair (.pair (.int .i64) (.int .i64)) (.pair .bool (.pair (.int .i64) (.pair (.sl .byte) (.pair (.sl (.pair .str (.int .i64))) (.pair .bool (.int .i64))))))))))))))) .nil))))]⟩⟩)] (.two (.leaf) (.two (.leaf) (.two (.one (.two (.leaf) (.two (.reg [(10, {  })]) (.two (.leaf) (.leaf))))) (.leaf))))))))))) (.leaf))))))) (.leaf))), ⟨(.cons (.p (.pair (.int .i64) (.sl (.pair (.int .i64) (.pair (.int .i64) (.sl (.pair (.int .i64) (.pair (.int .i64) (.pair (.int .i64) (.pair (.pair (.int .i64) (.int .i64)) (.pair .bool (.pair (.int .i64) (.pair (.sl .byte) (.pair (.sl (.pair .str (.int .i64))) (.pair .bool (.int .i64)))))))))))))))) (.cons (.p (.pair (.int .i64) (.sl (.pair (.int .i64) (.pair (.int .i64) (.sl (.pair (.int .i64) (.pair (.int .i64) (.pair (.int .i64) (.pair (.pair (.int .i64) (.int .i64)) (.pair .bool (.pair (.int .i64) (.pair (.sl .byte) (.pair (.sl (.pair .str (.int .i64))) (.pair .bool (.int .i64)))))))))))))))) .nil)), []⟩, [⟨(.cons (.p .bool) .nil), []⟩], [0]⟩
def law23_Same_ft (fu : Nat) : FnT := ⟨15, ⟨(.cons (.p (.pair (.int .i64) (.sl (.pair (.int .i64) (.pair (.int .i64) (.sl (.pair (.int .i64) (.pair (.int .i64) (.pair (.int .i64) (.pair (.pair (.int .i64) (.int .i64)) (.pair .bool (.pair (.int .i64) (.pair (.sl .byte) (.pair (.sl (.pair .str (.int .i64))) (.pair .bool (.int .i64)))))))))))))))) (.cons (.p (.pair (.int .i64) (.sl (.pair (.int .i64) (.pair (.int .i64) (.sl (.pair (.int .i64) (.pair (.int .i64) (.pair (.int .i64) (.pair (.pair (.int .i64) (.int .i64)) (.pair .bool (.pair (.int .i64) (.pair (.sl .byte) (.pair (.sl (.pair .str (.int .i64))) (.pair .bool (.int .i64)))))))))))))))) .nil)), []⟩, [⟨(.cons (.p .bool) .nil), []⟩], fun t => law23_Same fu t.1 t.2⟩
theorem law23_Same_eq (fu : Nat) : ∀ t, evF Go.Proofs.Try.prog [law21_SameReply_ft fu] fu Go.Proofs.Try.f15 law23_Same_fa t = (law23_Same_ft fu).spec t := fun t => by kernel_rfl
theorem law23_Same_told (fu : Nat) : Told Go.Proofs.Try.prog (law23_Same_ft fu) := told_of (allT_cons (law21_SameReply_told fu) allT_nil) mixed Go.Proofs.Try.func15 (by kernel_rfl) (by kernel_rfl) (law23_Same_eq fu)

def kit_Pick (fu : Nat) (x : Int) (n : Int) : Option (Int) :=
  bif (decide (n < 1)) then
    some 0
  else
    need (!(decide (n = 0))) <|
    bif (decide ((Int.tmod x n) < 0)) then
      some (IntKind.wrap .i64 ((Int.tmod x n) + n))
    else
      some (Int.tmod x n)
def kit_Pick_fa : FnA := ⟨.two (.leaf) (.two (.two (.leaf) (.two (.leaf) (.leaf))) (.two (.leaf) (.two (.two (.leaf) (.leaf)) (.leaf)))), ⟨(.cons (.p (.int .i64)) (.cons (.p (.int .i64)) .nil)), []⟩, [⟨(.cons (.p (.int .i64)) .nil), []⟩], [0]⟩
def kit_Pick_ft (fu : Nat) : FnT := ⟨19, ⟨(.cons (.p (.int .i64)) (.cons (.p (.int .i64)) .nil)), []⟩, [⟨(.cons (.p (.int .i64)) .nil), []⟩], fun t => kit_Pick fu t.1 t.2⟩
theorem kit_Pick_eq (fu : Nat) : ∀ t, evF Go.Proofs.Try.prog [] fu Go.Proofs.Try.f19 kit_Pick_fa t = (kit_Pick_ft fu).spec t := fun t => by kernel_rfl
theorem kit_Pick_told (fu : Nat) : Told Go.Proofs.Try.prog (kit_Pick_ft fu) := told_of allT_nil mixed Go.Proofs.Try.func19 (by kernel_rfl) (by kernel_rfl) (kit_Pick_eq fu)

def law23_windows_m1_l0 (fu : Nat) (greater : Int) (h4 : (List (((List (Int) × (Int × (Int × (Int × ((Int × Int) × (Bool × (Int × (List (UInt8) × (List ((List UInt8 × Int)) × (Bool × Int)))))))))) × Nat)) × Nat)) (h5 : Int) (h6 : List ((Int × (Int × List ((Int × (Int × (Int × ((Int × Int) × (Bool × (Int × (List (UInt8) × (List ((List UInt8 × Int)) × (Bool × Int)))))))))))))) (h7 : List (Int)) (h8 : Int) (h9 : Int) (h10 : Int) (h11 : Int) (h12 : Int) (h13 : Bool) (h14 : Int) (h15 : List (UInt8)) (h16 : List ((List UInt8 × Int))) (h17 : Bool) (h18 : Int) (en1 : ((List (Int) × (Int × (Int × (Int × ((Int × Int) × (Bool × (Int × (List (UInt8) × (List ((List UInt8 × Int)) × (Bool × Int)))))))))) × Nat)) : Option ((Int × ((List (((List (Int) × (Int × (Int × (Int × ((Int × Int) × (Bool × (Int × (List (UInt8) × (List ((List UInt8 × Int)) × (Bool × Int)))))))))) × Nat)) × Nat) × (Int × (List ((Int × (Int × List ((Int × (Int × (Int × ((Int × Int) × (Bool × (Int × (List (UInt8) × (List ((List UInt8 × Int)) × (Bool × Int))))))))))))) × (List (Int) × (Int × (Int × (Int × (Int × (Int × (Bool × (Int × (List (UInt8) × (List ((List UInt8 × Int)) × (Bool × Int))))))))))))))) ⊕ (Empty)) :=
  need (Nat.beq (List.replicate (α := Int) 2 0).length 2) <|
  need (Nat.beq en1.1.1.length 2) <|
  Option.bind (α := ((Bool × ((List (((List (Int) × (Int × (Int × (Int × ((Int × Int) × (Bool × (Int × (List (UInt8) × (List ((List UInt8 × Int)) × (Bool × Int)))))))))) × Nat)) × Nat) × (Int × (List ((Int × (Int × List ((Int × (Int × (Int × ((Int × Int) × (Bool × (Int × (List (UInt8) × (List ((List UInt8 × Int)) × (Bool × Int))))))))))))) × (List (Int) × (Int × (Int × (Int × (Int × (Int × (Bool × (Int × (List (UInt8) × (List ((List UInt8 × Int)) × (Bool × Int))))))))))))))))) (
    (en1.1.1)[0]?.bind fun r =>
    (h7)[0]?.bind fun r1 =>
    bif (r == r1) then
      (en1.1.1)[1]?.bind fun r2 =>
      (h7)[1]?.bind fun r3 =>
      some ((decide (r2 > r3)), (h4, (h5, (h6, (h7, (h8, (h9, (h10, (h11, (h12, (h13, (h14, (h15, (h16, (h17, h18)))))))))))))))
    else
      some (false, (h4, (h5, (h6, (h7, (h8, (h9, (h10, (h11, (h12, (h13, (h14, (h15, (h16, (h17, h18)))))))))))))))) fun o =>
  Option.bind (α := ((Int × ((List (((List (Int) × (Int × (Int × (Int × ((Int × Int) × (Bool × (Int × (List (UInt8) × (List ((List UInt8 × Int)) × (Bool × Int)))))))))) × Nat)) × Nat) × (Int × (List ((Int × (Int × List ((Int × (Int × (Int × ((Int × Int) × (Bool × (Int × (List (UInt8) × (List ((List UInt8 × Int)) × (Bool × Int))))))))))))) × (List (Int) × (Int × (Int × (Int × (Int × (Int × (Bool × (Int × (List (UInt8) × (List ((List UInt8 × Int)) × (Bool × Int))))))))))))))))) (
    bif o.1 then
      some ((IntKind.wrap .i64 (greater + 1)), (o.2.1, (o.2.2.1, (o.2.2.2.1, (o.2.2.2.2.1, (o.2.2.2.2.2.1, (o.2.2.2.2.2.2.1, (o.2.2.2.2.2.2.2.1, (o.2.2.2.2.2.2.2.2.1, (o.2.2.2.2.2.2.2.2.2.1, (o.2.2.2.2.2.2.2.2.2.2.1, (o.2.2.2.2.2.2.2.2.2.2.2.1, (o.2.2.2.2.2.2.2.2.2.2.2.2.1, (o.2.2.2.2.2.2.2.2.2.2.2.2.2.1, (o.2.2.2.2.2.2.2.2.2.2.2.2.2.2.1, o.2.2.2.2.2.2.2.2.2.2.2.2.2.2.2)))))))))))))))
    else
      some (greater, (o.2.1, (o.2.2.1, (o.2.2.2.1, (o.2.2.2.2.1, (o.2.2.2.2.2.1, (o.2.2.2.2.2.2.1, (o.2.2.2.2.2.2.2.1, (o.2.2.2.2.2.2.2.2.1, (o.2.2.2.2.2.2.2.2.2.1, (o.2.2.2.2.2.2.2.2.2.2.1, (o.2.2.2.2.2.2.2.2.2.2.2.1, (o.2.2.2.2.2.2.2.2.2.2.2.2.1, (o.2.2.2.2.2.2.2.2.2.2.2.2.2.1, (o.2.2.2.2.2.2.2.2.2.2.2.2.2.2.1, o.2.2.2.2.2.2.2.2.2.2.2.2.2.2.2)))))))))))))))) fun o1 =>
  some (.inl (o1.1, (o1.2.1, (o1.2.2.1, (o1.2.2.2.1, (o1.2.2.2.2.1, (o1.2.2.2.2.2.1, (o1.2.2.2.2.2.2.1, (o1.2.2.2.2.2.2.2.1, (o1.2.2.2.2.2.2.2.2.1, (o1.2.2.2.2.2.2.2.2.2.1, (o1.2.2.2.2.2.2.2.2.2.2.1, (o1.2.2.2.2.2.2.2.2.2.2.2.1, (o1.2.2.2.2.2.2.2.2.2.2.2.2.1, (o1.2.2.2.2.2.2.2.2.2.2.2.2.2.1, (o1.2.2.2.2.2.2.2.2.2.2.2.2.2.2.1, o1.2.2.2.2.2.2.2.2.2.2.2.2.2.2.2))))))))))))))))
def law23_windows_m1_l0_hd (h1 : (List (((List (Int) × (Int × (Int × (Int × ((Int × Int) × (Bool × (Int × (List (UInt8) × (List ((List UInt8 × Int)) × (Bool × Int)))))))))) × Nat)) × Nat)) (greater : Int) (h4 : (List (((List (Int) × (Int × (Int × (Int × ((Int × Int) × (Bool × (Int × (List (UInt8) × (List ((List UInt8 × Int)) × (Bool × Int)))))))))) × Nat)) × Nat)) (h5 : Int) (h6 : List ((Int × (Int × List ((Int × (Int × (Int × ((Int × Int) × (Bool × (Int × (List (UInt8) × (List ((List UInt8 × Int)) × (Bool × Int)))))))))))))) (h7 : List (Int)) (h8 : Int) (h9 : Int) (h10 : Int) (h11 : Int) (h12 : Int) (h13 : Bool) (h14 : Int) (h15 : List (UInt8)) (h16 : List ((List UInt8 × Int))) (h17 : Bool) (h18 : Int) : Option (List (((List (Int) × (Int × (Int × (Int × ((Int × Int) × (Bool × (Int × (List (UInt8) × (List ((List UInt8 × Int)) × (Bool × Int)))))))))) × Nat))) :=
  (need (Nat.beq h4.2 h1.2) (some h4.1))
def law23_windows_m1_l1 (fu : Nat) (w : Int) (h1 : (List (((List (Int) × (Int × (Int × (Int × ((Int × Int) × (Bool × (Int × (List (UInt8) × (List ((List UInt8 × Int)) × (Bool × Int)))))))))) × Nat)) × Nat)) (h2 : Int) (h3 : List ((Int × (Int × List ((Int × (Int × (Int × ((Int × Int) × (Bool × (Int × (List (UInt8) × (List ((List UInt8 × Int)) × (Bool × Int)))))))))))))) (en : ((List (Int) × (Int × (Int × (Int × ((Int × Int) × (Bool × (Int × (List (UInt8) × (List ((List UInt8 × Int)) × (Bool × Int)))))))))) × Nat)) : Option (((List (((List (Int) × (Int × (Int × (Int × ((Int × Int) × (Bool × (Int × (List (UInt8) × (List ((List UInt8 × Int)) × (Bool × Int)))))))))) × Nat)) × Nat) × (Int × List ((Int × (Int × List ((Int × (Int × (Int × ((Int × Int) × (Bool × (Int × (List (UInt8) × (List ((List UInt8 × Int)) × (Bool × Int))))))))))))))) ⊕ ((Bool × (List (((List (Int) × (Int × (Int × (Int × ((Int × Int) × (Bool × (Int × (List (UInt8) × (List ((List UInt8 × Int)) × (Bool × Int)))))))))) × Nat)) × Nat)))) :=
  need (Nat.beq (List.replicate (α := Int) 2 0).length 2) <|
  need (Nat.beq en.1.1.length 2) <|
  mAll (fun (tt : (Int × ((List (((List (Int) × (Int × (Int × (Int × ((Int × Int) × (Bool × (Int × (List (UInt8) × (List ((List UInt8 × Int)) × (Bool × Int)))))))))) × Nat)) × Nat) × (Int × (List ((Int × (Int × List ((Int × (Int × (Int × ((Int × Int) × (Bool × (Int × (List (UInt8) × (List ((List UInt8 × Int)) × (Bool × Int))))))))))))) × (List (Int) × (Int × (Int × (Int × (Int × (Int × (Bool × (Int × (List (UInt8) × (List ((List UInt8 × Int)) × (Bool × Int)))))))))))))))) => law23_windows_m1_l0_hd h1 tt.1 tt.2.1 tt.2.2.1 tt.2.2.2.1 tt.2.2.2.2.1 tt.2.2.2.2.2.1 tt.2.2.2.2.2.2.1 tt.2.2.2.2.2.2.2.1 tt.2.2.2.2.2.2.2.2.1 tt.2.2.2.2.2.2.2.2.2.1 tt.2.2.2.2.2.2.2.2.2.2.1 tt.2.2.2.2.2.2.2.2.2.2.2.1 tt.2.2.2.2.2.2.2.2.2.2.2.2.1 tt.2.2.2.2.2.2.2.2.2.2.2.2.2.1 tt.2.2.2.2.2.2.2.2.2.2.2.2.2.2.1 tt.2.2.2.2.2.2.2.2.2.2.2.2.2.2.2) (fun (tt : (Int × ((List (((List (Int) × (Int × (Int × (Int × ((Int × Int) × (Bool × (Int × (List (UInt8) × (List ((List UInt8 × Int)) × (Bool × Int)))))))))) × Nat)) × Nat) × (Int × (List ((Int × (Int × List ((Int × (Int × (Int × ((Int × Int) × (Bool × (Int × (List (UInt8) × (List ((List UInt8 × Int)) × (Bool × Int))))))))))))) × (List (Int) × (Int × (Int × (Int × (Int × (Int × (Bool × (Int × (List (UInt8) × (List ((List UInt8 × Int)) × (Bool × Int)))))))))))))))) (ee : ((List (Int) × (Int × (Int × (Int × ((Int × Int) × (Bool × (Int × (List (UInt8) × (List ((List UInt8 × Int)) × (Bool × Int)))))))))) × Nat)) => law23_windows_m1_l0 fu tt.1 tt.2.1 tt.2.2.1 tt.2.2.2.1 tt.2.2.2.2.1 tt.2.2.2.2.2.1 tt.2.2.2.2.2.2.1 tt.2.2.2.2.2.2.2.1 tt.2.2.2.2.2.2.2.2.1 tt.2.2.2.2.2.2.2.2.2.1 tt.2.2.2.2.2.2.2.2.2.2.1 tt.2.2.2.2.2.2.2.2.2.2.2.1 tt.2.2.2.2.2.2.2.2.2.2.2.2.1 tt.2.2.2.2.2.2.2.2.2.2.2.2.2.1 tt.2.2.2.2.2.2.2.2.2.2.2.2.2.2.1 tt.2.2.2.2.2.2.2.2.2.2.2.2.2.2.2 ee) (0, (h1, (h2, (h3, (en.1.1, (en.1.2.1, (en.1.2.2.1, (en.1.2.2.2.1, (en.1.2.2.2.2.1.1, (en.1.2.2.2.2.1.2, (en.1.2.2.2.2.2.1, (en.1.2.2.2.2.2.2.1, (en.1.2.2.2.2.2.2.2.1, (en.1.2.2.2.2.2.2.2.2.1, (en.1.2.2.2.2.2.2.2.2.2.1, en.1.2.2.2.2.2.2.2.2.2.2))))))))))))))) fun o2 =>
  match o2 with
  | .inl s =>
    (s.2.2.2.2.1)[0]?.bind fun r4 =>
    (s.2.2.2.2.1)[1]?.bind fun r5 =>
    (replies_Look fu (s.2.2.1, s.2.2.2.1) r4 r5).bind fun r6 =>
    Option.bind (α := ((Bool × ((List (((List (Int) × (Int × (Int × (Int × ((Int × Int) × (Bool × (Int × (List (UInt8) × (List ((List UInt8 × Int)) × (Bool × Int)))))))))) × Nat)) × Nat) × (Int × List ((Int × (Int × List ((Int × (Int × (Int × ((Int × Int) × (Bool × (Int × (List (UInt8) × (List ((List UInt8 × Int)) × (Bool × Int)))))))))))))))))) (
      bif (r6.2.2.2.2.2.2.2.2.2.2.2 == 0) then
        some (true, (s.2.1, (s.2.2.1, s.2.2.2.1)))
      else
        bif (r6.2.2.2.2.2.2.2.2.2.2.2 == 1) then
          (law21_SameReply fu (r6.1, (r6.2.1, (r6.2.2.1, ((r6.2.2.2.1, r6.2.2.2.2.1), (r6.2.2.2.2.2.1, (r6.2.2.2.2.2.2.1, (r6.2.2.2.2.2.2.2.1, (r6.2.2.2.2.2.2.2.2.1, (r6.2.2.2.2.2.2.2.2.2.1, r6.2.2.2.2.2.2.2.2.2.2.1))))))))) (s.2.2.2.2.2.1, (s.2.2.2.2.2.2.1, (s.2.2.2.2.2.2.2.1, ((s.2.2.2.2.2.2.2.2.1, s.2.2.2.2.2.2.2.2.2.1), (s.2.2.2.2.2.2.2.2.2.2.1, (s.2.2.2.2.2.2.2.2.2.2.2.1, (s.2.2.2.2.2.2.2.2.2.2.2.2.1, (s.2.2.2.2.2.2.2.2.2.2.2.2.2.1, (s.2.2.2.2.2.2.2.2.2.2.2.2.2.2.1, s.2.2.2.2.2.2.2.2.2.2.2.2.2.2.2)))))))))).bind fun r7 =>
          bif (!r7) then
            some (true, (s.2.1, (s.2.2.1, s.2.2.2.1)))
          else
            bif (decide (s.1 < w)) then
              some ((!(r6.2.2.2.2.2.2.2.2.2.2.2 == 1)), (s.2.1, (s.2.2.1, s.2.2.2.1)))
            else
              some (false, (s.2.1, (s.2.2.1, s.2.2.2.1)))
        else
          bif (decide (s.1 < w)) then
            some ((!(r6.2.2.2.2.2.2.2.2.2.2.2 == 1)), (s.2.1, (s.2.2.1, s.2.2.2.1)))
          else
            some (false, (s.2.1, (s.2.2.1, s.2.2.2.1)))) fun o4 =>
    bif o4.1 then
      some (.inr (false, o4.2.1))
    else
      some (.inl (o4.2.1, (o4.2.2.1, o4.2.2.2)))
  | .inr o3 =>
    Empty.elim o3
def law23_windows_m1_l1_hd (h : (List (((List (Int) × (Int × (Int × (Int × ((Int × Int) × (Bool × (Int × (List (UInt8) × (List ((List UInt8 × Int)) × (Bool × Int)))))))))) × Nat)) × Nat)) (h1 : (List (((List (Int) × (Int × (Int × (Int × ((Int × Int) × (Bool × (Int × (List (UInt8) × (List ((List UInt8 × Int)) × (Bool × Int)))))))))) × Nat)) × Nat)) (h2 : Int) (h3 : List ((Int × (Int × List ((Int × (Int × (Int × ((Int × Int) × (Bool × (Int × (List (UInt8) × (List ((List UInt8 × Int)) × (Bool × Int)))))))))))))) : Option (List (((List (Int) × (Int × (Int × (Int × ((Int × Int) × (Bool × (Int × (List (UInt8) × (List ((List UInt8 × Int)) × (Bool × Int)))))))))) × Nat))) :=
  (need (Nat.beq h1.2 h.2) (some h1.1))
def law23_windows_m1 (fu : Nat) (c : (Int × List ((Int × (Int × List ((Int × (Int × (Int × ((Int × Int) × (Bool × (Int × (List (UInt8) × (List ((List UInt8 × Int)) × (Bool × Int))))))))))))))) (w : Int) (h : (List (((List (Int) × (Int × (Int × (Int × ((Int × Int) × (Bool × (Int × (List (UInt8) × (List ((List UInt8 × Int)) × (Bool × Int)))))))))) × Nat)) × Nat)) : Option ((Bool × (List (((List (Int) × (Int × (Int × (Int × ((Int × Int) × (Bool × (Int × (List (UInt8) × (List ((List UInt8 × Int)) × (Bool × Int)))))))))) × Nat)) × Nat))) :=
  mAll (fun (tt : ((List (((List (Int) × (Int × (Int × (Int × ((Int × Int) × (Bool × (Int × (List (UInt8) × (List ((List UInt8 × Int)) × (Bool × Int)))))))))) × Nat)) × Nat) × (Int × List ((Int × (Int × List ((Int × (Int × (Int × ((Int × Int) × (Bool × (Int × (List (UInt8) × (List ((List UInt8 × Int)) × (Bool × Int)))))))))))))))) => law23_windows_m1_l1_hd h tt.1 tt.2.1 tt.2.2) (fun (tt : ((List (((List (Int) × (Int × (Int × (Int × ((Int × Int) × (Bool × (Int × (List (UInt8) × (List ((List UInt8 × Int)) × (Bool × Int)))))))))) × Nat)) × Nat) × (Int × List ((Int × (Int × List ((Int × (Int × (Int × ((Int × Int) × (Bool × (Int × (List (UInt8) × (List ((List UInt8 × Int)) × (Bool × Int)))))))))))))))) (ee : ((List (Int) × (Int × (Int × (Int × ((Int × Int) × (Bool × (Int × (List (UInt8) × (List ((List UInt8 × Int)) × (Bool × Int)))))))))) × Nat)) => law23_windows_m1_l1 fu w tt.1 tt.2.1 tt.2.2 ee) (h, (c.1, c.2)) fun o5 =>
  match o5 with
  | .inl s1 =>
    some (true, s1.1)
  | .inr o6 =>
    some o6
def law23_windows_m1_fa : FnA := ⟨.two (.reg [(0, { ids := [100] })]) (.two (.mr [] [(3, { ids := [101] }), (4, { ids := [102] })] (.arr 2 (.int .i64)) (.pair (.int .i64) (.pair (.int .i64) (.pair (.int .i64) (.pair (.pair (.int .i64) (.int .i64)) (.pair .bool (.pair (.int .i64) (.pair (.sl .byte) (.pair (.sl (.pair .str (.int .i64))) (.pair .bool (.int .i64)))))))))) 0 ⟨[1, 3, 13], ⟨(.cons (.mp 0) (.cons (.own 0 100 0 0) (.cons (.mp 0) .nil))), [(0, false, (.map (.arr 2 (.int .i64)) (.pair (.int .i64) (.pair (.int .i64) (.pair (.int .i64) (.pair (.pair (.int .i64) (.int .i64)) (.pair .bool (.pair (.int .i64) (.pair (.sl .byte) (.pair (.sl (.pair .str (.int .i64))) (.pair .bool (.int .i64)))))))))))), (100, false, (.vars (.cons (.p (.int .i64)) (.cons (.p (.sl (.pair (.int .i64) (.pair (.int .i64) (.sl (.pair (.int .i64) (.pair (.int .i64) (.pair (.int .i64) (.pair (.pair (.int .i64) (.int .i64)) (.pair .bool (.pair (.int .i64) (.pair (.sl .byte) (.pair (.sl (.pair .str (.int .i64))) (.pair .bool (.int .i64))))))))))))))) .nil))))]⟩⟩ true [] (.two (.leaf) (.two (.mr [] [(2, { ids := [103] })] (.arr 2 (.int .i64)) (.pair (.int .i64) (.pair (.int .i64) (.pair (.int .i64) (.pair (.pair (.int .i64) (.int .i64)) (.pair .bool (.pair (.int .i64) (.pair (.sl .byte) (.pair (.sl (.pair .str (.int .i64))) (.pair .bool (.int .i64)))))))))) 0 ⟨[1, 3, 7, 8, 9, 13, 20], ⟨(.cons (.mp 0) (.cons (.own 0 100 0 0) (.cons (.own 1 101 0 0) (.cons (.own 0 102 0 0) (.cons (.p (.int .i64)) (.cons (.mp 0) (.cons (.mp 0) .nil))))))), [(0, false, (.map (.arr 2 (.int .i64)) (.pair (.int .i64) (.pair (.int .i64) (.pair (.int .i64) (.pair (.pair (.int .i64) (.int .i64)) (.pair .bool (.pair (.int .i64) (.pair (.sl .byte) (.pair (.sl (.pair .str (.int .i64))) (.pair .bool (.int .i64)))))))))))), (100, false, (.vars (.cons (.p (.int .i64)) (.cons (.p (.sl (.pair (.int .i64) (.pair (.int .i64) (.sl (.pair (.int .i64) (.pair (.int .i64) (.pair (.int .i64) (.pair (.pair (.int .i64) (.int .i64)) (.pair .bool (.pair (.int .i64) (.pair (.sl .byte) (.pair (.sl (.pair .str (.int .i64))) (.pair .bool (.int .i64))))))))))))))) .nil)))), (101, false, (.rows 52 (.int .i64))), (102, false, (.vars (.cons (.p (.int .i64)) (.cons (.p (.int .i64)) (.cons (.p (.int .i64)) (.cons (.p (.int .i64)) (.cons (.p (.int .i64)) (.cons (.p .bool) (.cons (.p (.int .i64)) (.cons (.p (.sl .byte)) (.cons (.p (.sl (.pair .str (.int .i64)))) (.cons (.p .bool) (.cons (.p (.int .i64)) .nil)))))))))))))]⟩⟩ false [] (.two (.join ⟨[1, 3, 7, 8, 13, 20, 37], ⟨(.cons (.mp 0) (.cons (.own 0 100 0 0) (.cons (.own 1 101 0 0) (.cons (.own 0 102 0 0) (.cons (.mp 0) (.cons (.mp 0) (.cons (.p .bool) .nil))))))), [(0, false, (.map (.arr 2 (.int .i64)) (.pair (.int .i64) (.pair (.int .i64) (.pair (.int .i64) (.pair (.pair (.int .i64) (.int .i64)) (.pair .bool (.pair (.int .i64) (.pair (.sl .byte) (.pair (.sl (.pair .str (.int .i64))) (.pair .bool (.int .i64)))))))))))), (100, false, (.vars (.cons (.p (.int .i64)) (.cons (.p (.sl (.pair (.int .i64) (.pair (.int .i64) (.sl (.pair (.int .i64) (.pair (.int .i64) (.pair (.int .i64) (.pair (.pair (.int .i64) (.int .i64)) (.pair .bool (.pair (.int .i64) (.pair (.sl .byte) (.pair (.sl (.pair .str (.int .i64))) (.pair .bool (.int .i64))))))))))))))) .nil)))), (101, false, (.rows 52 (.int .i64))), (102, false, (.vars (.cons (.p (.int .i64)) (.cons (.p (.int .i64)) (.cons (.p (.int .i64)) (.cons (.p (.int .i64)) (.cons (.p (.int .i64)) (.cons (.p .bool) (.cons (.p (.int .i64)) (.cons (.p (.sl .byte)) (.cons (.p (.sl (.pair .str (.int .i64)))) (.cons (.p .bool) (.cons (.p (.int .i64)) .nil)))))))))))))]⟩⟩ false [] (.leaf)) (.join ⟨[1, 3, 7, 8, 9, 13, 20], ⟨(.cons (.mp 0) (.cons (.own 0 100 0 0) (.cons (.own 1 101 0 0) (.cons (.own 0 102 0 0) (.cons (.p (.int .i64)) (.cons (.mp 0) (.cons (.mp 0) .nil))))))), [(0, false, (.map (.arr 2 (.int .i64)) (.pair (.int .i64) (.pair (.int .i64) (.pair (.int .i64) (.pair (.pair (.int .i64) (.int .i64)) (.pair .bool (.pair (.int .i64) (.pair (.sl .byte) (.pair (.sl (.pair .str (.int .i64))) (.pair .bool (.int .i64)))))))))))), (100, false, (.vars (.cons (.p (.int .i64)) (.cons (.p (.sl (.pair (.int .i64) (.pair (.int .i64) (.sl (.pair (.int .i64) (.pair (.int .i64) (.pair (.int .i64) (.pair (.pair (.int .i64) (.int .i64)) (.pair .bool (.pair (.int .i64) (.pair (.sl .byte) (.pair (.sl (.pair .str (.int .i64))) (.pair .bool (.int .i64))))))))))))))) .nil)))), (101, false, (.rows 52 (.int .i64))), (102, false, (.vars (.cons (.p (.int .i64)) (.cons (.p (.int .i64)) (.cons (.p (.int .i64)) (.cons (.p (.int .i64)) (.cons (.p (.int .i64)) (.cons (.p .bool) (.cons (.p (.int .i64)) (.cons (.p (.sl .byte)) (.cons (.p (.sl (.pair .str (.int .i64)))) (.cons (.p .bool) (.cons (.p (.int .i64)) .nil)))))))))))))]⟩⟩ false [] (.leaf)))) (.two (.reg [(5, {  }), (9, { ids := [104] })]) (.two (.join ⟨[1, 3, 13, 69], ⟨(.cons (.mp 0) (.cons (.own 0 100 0 0) (.cons (.mp 0) (.cons (.p .bool) .nil)))), [(0, false, (.map (.arr 2 (.int .i64)) (.pair (.int .i64) (.pair (.int .i64) (.pair (.int .i64) (.pair (.pair (.int .i64) (.int .i64)) (.pair .bool (.pair (.int .i64) (.pair (.sl .byte) (.pair (.sl (.pair .str (.int .i64))) (.pair .bool (.int .i64)))))))))))), (100, false, (.vars (.cons (.p (.int .i64)) (.cons (.p (.sl (.pair (.int .i64) (.pair (.int .i64) (.sl (.pair (.int .i64) (.pair (.int .i64) (.pair (.int .i64) (.pair (.pair (.int .i64) (.int .i64)) (.pair .bool (.pair (.int .i64) (.pair (.sl .byte) (.pair (.sl (.pair .str (.int .i64))) (.pair .bool (.int .i64))))))))))))))) .nil))))]⟩⟩ false [] (.reg [(8, { fn := 1 })])) (.two (.leaf) (.leaf))))))) (.leaf)), ⟨(.cons (.p (.pair (.int .i64) (.sl (.pair (.int .i64) (.pair (.int .i64) (.sl (.pair (.int .i64) (.pair (.int .i64) (.pair (.int .i64) (.pair (.pair (.int .i64) (.int .i64)) (.pair .bool (.pair (.int .i64) (.pair (.sl .byte) (.pair (.sl (.pair .str (.int .i64))) (.pair .bool (.int .i64)))))))))))))))) (.cons (.mp 0) (.cons (.p (.int .i64)) .nil))), [(0, false, (.map (.arr 2 (.int .i64)) (.pair (.int .i64) (.pair (.int .i64) (.pair (.int .i64) (.pair (.pair (.int .i64) (.int .i64)) (.pair .bool (.pair (.int .i64) (.pair (.sl .byte) (.pair (.sl (.pair .str (.int .i64))) (.pair .bool (.int .i64))))))))))))]⟩, [⟨(.cons (.p .bool) .nil), [(0, false, (.map (.arr 2 (.int .i64)) (.pair (.int .i64) (.pair (.int .i64) (.pair (.int .i64) (.pair (.pair (.int .i64) (.int .i64)) (.pair .bool (.pair (.int .i64) (.pair (.sl .byte) (.pair (.sl (.pair .str (.int .i64))) (.pair .bool (.int .i64))))))))))))]⟩], [0]⟩
def law23_windows_m1_ft (fu : Nat) : FnT := ⟨20, ⟨(.cons (.p (.pair (.int .i64) (.sl (.pair (.int .i64) (.pair (.int .i64) (.sl (.pair (.int .i64) (.pair (.int .i64) (.pair (.int .i64) (.pair (.pair (.int .i64) (.int .i64)) (.pair .bool (.pair (.int .i64) (.pair (.sl .byte) (.pair (.sl (.pair .str (.int .i64))) (.pair .bool (.int .i64)))))))))))))))) (.cons (.mp 0) (.cons (.p (.int .i64)) .nil))), [(0, false, (.map (.arr 2 (.int .i64)) (.pair (.int .i64) (.pair (.int .i64) (.pair (.int .i64) (.pair (.pair (.int .i64) (.int .i64)) (.pair .bool (.pair (.int .i64) (.pair (.sl .byte) (.pair (.sl (.pair .str (.int .i64))) (.pair .bool (.int .i64))))))))))))]⟩, [⟨(.cons (.p .bool) .nil), [(0, false, (.map (.arr 2 (.int .i64)) (.pair (.int .i64) (.pair (.int .i64) (.pair (.int .i64) (.pair (.pair (.int .i64) (.int .i64)) (.pair .bool (.pair (.int .i64) (.pair (.sl .byte) (.pair (.sl (.pair .str (.int .i64))) (.pair .bool (.int .i64))))))))))))]⟩], fun t => law23_windows_m1 fu t.1 t.2.1 t.2.2⟩
theorem law23_windows_m1_eq (fu : Nat) : ∀ t, evF Go.Proofs.Try.prog [replies_Look_ft fu, law21_SameReply_ft fu] fu Go.Proofs.Try.f20 law23_windows_m1_fa t = (law23_windows_m1_ft fu).spec t := fun t => by kernel_rfl
theorem law23_windows_m1_told (fu : Nat) : Told Go.Proofs.Try.prog (law23_windows_m1_ft fu) := told_of (allT_cons (replies_Look_told fu) (allT_cons (law21_SameReply_told fu) allT_nil)) mixed Go.Proofs.Try.func20 (by kernel_rfl) (by kernel_rfl) (law23_windows_m1_eq fu)

def law23_RepliesOnce_l0 (fu : Nat) (l : List ((Int × (Int × Int)))) (window : Int) (i : Int) (h : Int) (h1 : List ((Int × (Int × List ((Int × (Int × (Int × ((Int × Int) × (Bool × (Int × (List (UInt8) × (List ((List UInt8 × Int)) × (Bool × Int)))))))))))))) (h2 : (List (((List (Int) × (Int × (Int × (Int × ((Int × Int) × (Bool × (Int × (List (UInt8) × (List ((List UInt8 × Int)) × (Bool × Int)))))))))) × Nat)) × Nat)) : Option ((Int × (Int × (List ((Int × (Int × List ((Int × (Int × (Int × ((Int × Int) × (Bool × (Int × (List (UInt8) × (List ((List UInt8 × Int)) × (Bool × Int))))))))))))) × (List (((List (Int) × (Int × (Int × (Int × ((Int × Int) × (Bool × (Int × (List (UInt8) × (List ((List UInt8 × Int)) × (Bool × Int)))))))))) × Nat)) × Nat)))) ⊕ (Unit ⊕ Bool)) :=
  Option.bind (α := ((Bool × (Int × (List ((Int × (Int × List ((Int × (Int × (Int × ((Int × Int) × (Bool × (Int × (List (UInt8) × (List ((List UInt8 × Int)) × (Bool × Int))))))))))))) × (List (((List (Int) × (Int × (Int × (Int × ((Int × Int) × (Bool × (Int × (List (UInt8) × (List ((List UInt8 × Int)) × (Bool × Int)))))))))) × Nat)) × Nat)))))) (
    bif (decide (i < ((l.length : Nat) : Int))) then
      some ((decide (i < 60)), (h, (h1, h2)))
    else
      some (false, (h, (h1, h2)))) fun o =>
  bif o.1 then
    (idx? i l.length).bind fun q =>
    (l)[q]?.bind fun r1 =>
    (kit_Pick fu r1.1 3).bind fun r2 =>
    (idx? i l.length).bind fun q1 =>
    (l)[q1]?.bind fun r3 =>
    (kit_Pick fu r3.2.1 30).bind fun r4 =>
    need (Nat.beq (List.replicate (α := Int) 2 0).length 2) <|
    (idx? i l.length).bind fun q2 =>
    (l)[q2]?.bind fun r5 =>
    (kit_Pick fu r5.2.2 100).bind fun r6 =>
    (replies_Look fu (o.2.1, o.2.2.1) r2 (IntKind.wrap .i64 (1 + r4))).bind fun r7 =>
    (replies_Put fu (o.2.1, o.2.2.1) (r2, ((IntKind.wrap .i64 (1 + r4)), (0, ((0, 0), (false, (r6, ([], ([], (false, 0)))))))))).bind fun r8 =>
    Option.bind (α := ((Bool × (Int × (List ((Int × (Int × List ((Int × (Int × (Int × ((Int × Int) × (Bool × (Int × (List (UInt8) × (List ((List UInt8 × Int)) × (Bool × Int))))))))))))) × ((List (((List (Int) × (Int × (Int × (Int × ((Int × Int) × (Bool × (Int × (List (UInt8) × (List ((List UInt8 × Int)) × (Bool × Int)))))))))) × Nat)) × Nat) × (List (Int) × (Int × (Int × (Int × (Int × (Int × (Bool × (Int × (Bool × (Int × (Int × (Int × (Int × (Int × (Int × (Bool × (Int × (List (UInt8) × (List ((List UInt8 × Int)) × (Bool × (Int × (Int × List ((Int × (Int × List ((Int × (Int × (Int × ((Int × Int) × (Bool × (Int × (List (UInt8) × (List ((List UInt8 × Int)) × (Bool × Int))))))))))))))))))))))))))))))))))))))))) (
      bif (!((r8.2.2 == 0) == (r7.2.2.2.2.2.2.2.2.2.2.2 == 0))) then
        some (true, (o.2.1, (o.2.2.1, (o.2.2.2, ([r2, (IntKind.wrap .i64 (1 + r4))], (r2, ((IntKind.wrap .i64 (1 + r4)), (0, (0, (0, (false, (r6, (false, (0, (r7.1, (r7.2.1, (r7.2.2.1, (r7.2.2.2.1, (r7.2.2.2.2.1, (r7.2.2.2.2.2.1, (r7.2.2.2.2.2.2.1, (r7.2.2.2.2.2.2.2.1, (r7.2.2.2.2.2.2.2.2.1, (r7.2.2.2.2.2.2.2.2.2.1, (r7.2.2.2.2.2.2.2.2.2.2.1, (r8.1, r8.2.1))))))))))))))))))))))))))
      else
        bif (!(r8.2.2 == 0)) then
          (law23_Same fu (o.2.1, o.2.2.1) (r8.1, r8.2.1)).bind fun r9 =>
          some ((!r9), (o.2.1, (o.2.2.1, (o.2.2.2, ([r2, (IntKind.wrap .i64 (1 + r4))], (r2, ((IntKind.wrap .i64 (1 + r4)), (0, (0, (0, (false, (r6, (false, (0, (r7.1, (r7.2.1, (r7.2.2.1, (r7.2.2.2.1, (r7.2.2.2.2.1, (r7.2.2.2.2.2.1, (r7.2.2.2.2.2.2.1, (r7.2.2.2.2.2.2.2.1, (r7.2.2.2.2.2.2.2.2.1, (r7.2.2.2.2.2.2.2.2.2.1, (r7.2.2.2.2.2.2.2.2.2.2.1, (r8.1, r8.2.1))))))))))))))))))))))))))
        else
          some (false, (o.2.1, (o.2.2.1, (o.2.2.2, ([r2, (IntKind.wrap .i64 (1 + r4))], (r2, ((IntKind.wrap .i64 (1 + r4)), (0, (0, (0, (false, (r6, (false, (0, (r7.1, (r7.2.1, (r7.2.2.1, (r7.2.2.2.1, (r7.2.2.2.2.1, (r7.2.2.2.2.2.1, (r7.2.2.2.2.2.2.1, (r7.2.2.2.2.2.2.2.1, (r7.2.2.2.2.2.2.2.2.1, (r7.2.2.2.2.2.2.2.2.2.1, (r7.2.2.2.2.2.2.2.2.2.2.1, (r8.1, r8.2.1))))))))))))))))))))))))))) fun o1 =>
    bif o1.1 then
      some (.inr (.inr false))
    else
      need (Nat.beq o1.2.2.2.2.1.length 2) <|
      Option.bind (α := ((Bool × (Int × (List ((Int × (Int × List ((Int × (Int × (Int × ((Int × Int) × (Bool × (Int × (List (UInt8) × (List ((List UInt8 × Int)) × (Bool × Int))))))))))))) × ((List (((List (Int) × (Int × (Int × (Int × ((Int × Int) × (Bool × (Int × (List (UInt8) × (List ((List UInt8 × Int)) × (Bool × Int)))))))))) × Nat)) × Nat) × (List (Int) × (Int × (Int × (Int × (Int × (Int × (Bool × (Int × (Bool × (Int × (Int × List ((Int × (Int × List ((Int × (Int × (Int × ((Int × Int) × (Bool × (Int × (List (UInt8) × (List ((List UInt8 × Int)) × (Bool × Int)))))))))))))))))))))))))))))) (
        bif (r7.2.2.2.2.2.2.2.2.2.2.2 == 1) then
          bif (!(Option.isSome (mget (k := (.arr 2 (.int .i64))) (v := (.pair (.int .i64) (.pair (.int .i64) (.pair (.int .i64) (.pair (.pair (.int .i64) (.int .i64)) (.pair .bool (.pair (.int .i64) (.pair (.sl .byte) (.pair (.sl (.pair .str (.int .i64))) (.pair .bool (.int .i64))))))))))) o1.2.2.2.1 o1.2.2.2.2.1))) then
            some (true, (o1.2.1, (o1.2.2.1, (o1.2.2.2.1, (o1.2.2.2.2.1, (o1.2.2.2.2.2.1, (o1.2.2.2.2.2.2.1, (o1.2.2.2.2.2.2.2.1, (o1.2.2.2.2.2.2.2.2.1, (o1.2.2.2.2.2.2.2.2.2.1, (o1.2.2.2.2.2.2.2.2.2.2.1, (o1.2.2.2.2.2.2.2.2.2.2.2.1, (o1.2.2.2.2.2.2.2.2.2.2.2.2.1, (o1.2.2.2.2.2.2.2.2.2.2.2.2.2.1, (o1.2.2.2.2.2.2.2.2.2.2.2.2.2.2.2.2.2.2.2.2.2.2.2.2.2.1, o1.2.2.2.2.2.2.2.2.2.2.2.2.2.2.2.2.2.2.2.2.2.2.2.2.2.2)))))))))))))))
          else
            (law21_SameReply fu (o1.2.2.2.2.2.2.2.2.2.2.2.2.2.2.1, (o1.2.2.2.2.2.2.2.2.2.2.2.2.2.2.2.1, (o1.2.2.2.2.2.2.2.2.2.2.2.2.2.2.2.2.1, ((o1.2.2.2.2.2.2.2.2.2.2.2.2.2.2.2.2.2.1, o1.2.2.2.2.2.2.2.2.2.2.2.2.2.2.2.2.2.2.1), (o1.2.2.2.2.2.2.2.2.2.2.2.2.2.2.2.2.2.2.2.1, (o1.2.2.2.2.2.2.2.2.2.2.2.2.2.2.2.2.2.2.2.2.1, (o1.2.2.2.2.2.2.2.2.2.2.2.2.2.2.2.2.2.2.2.2.2.1, (o1.2.2.2.2.2.2.2.2.2.2.2.2.2.2.2.2.2.2.2.2.2.2.1, (o1.2.2.2.2.2.2.2.2.2.2.2.2.2.2.2.2.2.2.2.2.2.2.2.1, o1.2.2.2.2.2.2.2.2.2.2.2.2.2.2.2.2.2.2.2.2.2.2.2.2.1))))))))) ((Option.getD (mget (k := (.arr 2 (.int .i64))) (v := (.pair (.int .i64) (.pair (.int .i64) (.pair (.int .i64) (.pair (.pair (.int .i64) (.int .i64)) (.pair .bool (.pair (.int .i64) (.pair (.sl .byte) (.pair (.sl (.pair .str (.int .i64))) (.pair .bool (.int .i64))))))))))) o1.2.2.2.1 o1.2.2.2.2.1) (0, (0, (0, ((0, 0), (false, (0, ([], ([], (false, 0)))))))))).1, ((Option.getD (mget (k := (.arr 2 (.int .i64))) (v := (.pair (.int .i64) (.pair (.int .i64) (.pair (.int .i64) (.pair (.pair (.int .i64) (.int .i64)) (.pair .bool (.pair (.int .i64) (.pair (.sl .byte) (.pair (.sl (.pair .str (.int .i64))) (.pair .bool (.int .i64))))))))))) o1.2.2.2.1 o1.2.2.2.2.1) (0, (0, (0, ((0, 0), (false, (0, ([], ([], (false, 0)))))))))).2.1, ((Option.getD (mget (k := (.arr 2 (.int .i64))) (v := (.pair (.int .i64) (.pair (.int .i64) (.pair (.int .i64) (.pair (.pair (.int .i64) (.int .i64)) (.pair .bool (.pair (.int .i64) (.pair (.sl .byte) (.pair (.sl (.pair .str (.int .i64))) (.pair .bool (.int .i64))))))))))) o1.2.2.2.1 o1.2.2.2.2.1) (0, (0, (0, ((0, 0), (false, (0, ([], ([], (false, 0)))))))))).2.2.1, (((Option.getD (mget (k := (.arr 2 (.int .i64))) (v := (.pair (.int .i64) (.pair (.int .i64) (.pair (.int .i64) (.pair (.pair (.int .i64) (.int .i64)) (.pair .bool (.pair (.int .i64) (.pair (.sl .byte) (.pair (.sl (.pair .str (.int .i64))) (.pair .bool (.int .i64))))))))))) o1.2.2.2.1 o1.2.2.2.2.1) (0, (0, (0, ((0, 0), (false, (0, ([], ([], (false, 0)))))))))).2.2.2.1.1, (Option.getD (mget (k := (.arr 2 (.int .i64))) (v := (.pair (.int .i64) (.pair (.int .i64) (.pair (.int .i64) (.pair (.pair (.int .i64) (.int .i64)) (.pair .bool (.pair (.int .i64) (.pair (.sl .byte) (.pair (.sl (.pair .str (.int .i64))) (.pair .bool (.int .i64))))))))))) o1.2.2.2.1 o1.2.2.2.2.1) (0, (0, (0, ((0, 0), (false, (0, ([], ([], (false, 0)))))))))).2.2.2.1.2), ((Option.getD (mget (k := (.arr 2 (.int .i64))) (v := (.pair (.int .i64) (.pair (.int .i64) (.pair (.int .i64) (.pair (.pair (.int .i64) (.int .i64)) (.pair .bool (.pair (.int .i64) (.pair (.sl .byte) (.pair (.sl (.pair .str (.int .i64))) (.pair .bool (.int .i64))))))))))) o1.2.2.2.1 o1.2.2.2.2.1) (0, (0, (0, ((0, 0), (false, (0, ([], ([], (false, 0)))))))))).2.2.2.2.1, ((Option.getD (mget (k := (.arr 2 (.int .i64))) (v := (.pair (.int .i64) (.pair (.int .i64) (.pair (.int .i64) (.pair (.pair (.int .i64) (.int .i64)) (.pair .bool (.pair (.int .i64) (.pair (.sl .byte) (.pair (.sl (.pair .str (.int .i64))) (.pair .bool (.int .i64))))))))))) o1.2.2.2.1 o1.2.2.2.2.1) (0, (0, (0, ((0, 0), (false, (0, ([], ([], (false, 0)))))))))).2.2.2.2.2.1, ((Option.getD (mget (k := (.arr 2 (.int .i64))) (v := (.pair (.int .i64) (.pair (.int .i64) (.pair (.int .i64) (.pair (.pair (.int .i64) (.int .i64)) (.pair .bool (.pair (.int .i64) (.pair (.sl .byte) (.pair (.sl (.pair .str (.int .i64))) (.pair .bool (.int .i64))))))))))) o1.2.2.2.1 o1.2.2.2.2.1) (0, (0, (0, ((0, 0), (false, (0, ([], ([], (false, 0)))))))))).2.2.2.2.2.2.1, ((Option.getD (mget (k := (.arr 2 (.int .i64))) (v := (.pair (.int .i64) (.pair (.int .i64) (.pair (.int .i64) (.pair (.pair (.int .i64) (.int .i64)) (.pair .bool (.pair (.int .i64) (.pair (.sl .byte) (.pair (.sl (.pair .str (.int .i64))) (.pair .bool (.int .i64))))))))))) o1.2.2.2.1 o1.2.2.2.2.1) (0, (0, (0, ((0, 0), (false, (0, ([], ([], (false, 0)))))))))).2.2.2.2.2.2.2.1, ((Option.getD (mget (k := (.arr 2 (.int .i64))) (v := (.pair (.int .i64) (.pair (.int .i64) (.pair (.int .i64) (.pair (.pair (.int .i64) (.int .i64)) (.pair .bool (.pair (.int .i64) (.pair (.sl .byte) (.pair (.sl (.pair .str (.int .i64))) (.pair .bool (.int .i64))))))))))) o1.2.2.2.1 o1.2.2.2.2.1) (0, (0, (0, ((0, 0), (false, (0, ([], ([], (false, 0)))))))))).2.2.2.2.2.2.2.2.1, (Option.getD (mget (k := (.arr 2 (.int .i64))) (v := (.pair (.int .i64) (.pair (.int .i64) (.pair (.int .i64) (.pair (.pair (.int .i64) (.int .i64)) (.pair .bool (.pair (.int .i64) (.pair (.sl .byte) (.pair (.sl (.pair .str (.int .i64))) (.pair .bool (.int .i64))))))))))) o1.2.2.2.1 o1.2.2.2.2.1) (0, (0, (0, ((0, 0), (false, (0, ([], ([], (false, 0)))))))))).2.2.2.2.2.2.2.2.2)))))))))).bind fun r10 =>
            bif (!r10) then
              some (true, (o1.2.1, (o1.2.2.1, (o1.2.2.2.1, (o1.2.2.2.2.1, (o1.2.2.2.2.2.1, (o1.2.2.2.2.2.2.1, (o1.2.2.2.2.2.2.2.1, (o1.2.2.2.2.2.2.2.2.1, (o1.2.2.2.2.2.2.2.2.2.1, (o1.2.2.2.2.2.2.2.2.2.2.1, (o1.2.2.2.2.2.2.2.2.2.2.2.1, (o1.2.2.2.2.2.2.2.2.2.2.2.2.1, (o1.2.2.2.2.2.2.2.2.2.2.2.2.2.1, (o1.2.2.2.2.2.2.2.2.2.2.2.2.2.2.2.2.2.2.2.2.2.2.2.2.2.1, o1.2.2.2.2.2.2.2.2.2.2.2.2.2.2.2.2.2.2.2.2.2.2.2.2.2.2)))))))))))))))
            else
              bif (r7.2.2.2.2.2.2.2.2.2.2.2 == 0) then
                some ((Option.isSome (mget (k := (.arr 2 (.int .i64))) (v := (.pair (.int .i64) (.pair (.int .i64) (.pair (.int .i64) (.pair (.pair (.int .i64) (.int .i64)) (.pair .bool (.pair (.int .i64) (.pair (.sl .byte) (.pair (.sl (.pair .str (.int .i64))) (.pair .bool (.int .i64))))))))))) o1.2.2.2.1 o1.2.2.2.2.1)), (o1.2.1, (o1.2.2.1, (o1.2.2.2.1, (o1.2.2.2.2.1, (o1.2.2.2.2.2.1, (o1.2.2.2.2.2.2.1, (o1.2.2.2.2.2.2.2.1, (o1.2.2.2.2.2.2.2.2.1, (o1.2.2.2.2.2.2.2.2.2.1, (o1.2.2.2.2.2.2.2.2.2.2.1, (o1.2.2.2.2.2.2.2.2.2.2.2.1, (o1.2.2.2.2.2.2.2.2.2.2.2.2.1, (o1.2.2.2.2.2.2.2.2.2.2.2.2.2.1, (o1.2.2.2.2.2.2.2.2.2.2.2.2.2.2.2.2.2.2.2.2.2.2.2.2.2.1, o1.2.2.2.2.2.2.2.2.2.2.2.2.2.2.2.2.2.2.2.2.2.2.2.2.2.2)))))))))))))))
              else
                some (false, (o1.2.1, (o1.2.2.1, (o1.2.2.2.1, (o1.2.2.2.2.1, (o1.2.2.2.2.2.1, (o1.2.2.2.2.2.2.1, (o1.2.2.2.2.2.2.2.1, (o1.2.2.2.2.2.2.2.2.1, (o1.2.2.2.2.2.2.2.2.2.1, (o1.2.2.2.2.2.2.2.2.2.2.1, (o1.2.2.2.2.2.2.2.2.2.2.2.1, (o1.2.2.2.2.2.2.2.2.2.2.2.2.1, (o1.2.2.2.2.2.2.2.2.2.2.2.2.2.1, (o1.2.2.2.2.2.2.2.2.2.2.2.2.2.2.2.2.2.2.2.2.2.2.2.2.2.1, o1.2.2.2.2.2.2.2.2.2.2.2.2.2.2.2.2.2.2.2.2.2.2.2.2.2.2)))))))))))))))
        else
          bif (r7.2.2.2.2.2.2.2.2.2.2.2 == 0) then
            some ((Option.isSome (mget (k := (.arr 2 (.int .i64))) (v := (.pair (.int .i64) (.pair (.int .i64) (.pair (.int .i64) (.pair (.pair (.int .i64) (.int .i64)) (.pair .bool (.pair (.int .i64) (.pair (.sl .byte) (.pair (.sl (.pair .str (.int .i64))) (.pair .bool (.int .i64))))))))))) o1.2.2.2.1 o1.2.2.2.2.1)), (o1.2.1, (o1.2.2.1, (o1.2.2.2.1, (o1.2.2.2.2.1, (o1.2.2.2.2.2.1, (o1.2.2.2.2.2.2.1, (o1.2.2.2.2.2.2.2.1, (o1.2.2.2.2.2.2.2.2.1, (o1.2.2.2.2.2.2.2.2.2.1, (o1.2.2.2.2.2.2.2.2.2.2.1, (o1.2.2.2.2.2.2.2.2.2.2.2.1, (o1.2.2.2.2.2.2.2.2.2.2.2.2.1, (o1.2.2.2.2.2.2.2.2.2.2.2.2.2.1, (o1.2.2.2.2.2.2.2.2.2.2.2.2.2.2.2.2.2.2.2.2.2.2.2.2.2.1, o1.2.2.2.2.2.2.2.2.2.2.2.2.2.2.2.2.2.2.2.2.2.2.2.2.2.2)))))))))))))))
          else
            some (false, (o1.2.1, (o1.2.2.1, (o1.2.2.2.1, (o1.2.2.2.2.1, (o1.2.2.2.2.2.1, (o1.2.2.2.2.2.2.1, (o1.2.2.2.2.2.2.2.1, (o1.2.2.2.2.2.2.2.2.1, (o1.2.2.2.2.2.2.2.2.2.1, (o1.2.2.2.2.2.2.2.2.2.2.1, (o1.2.2.2.2.2.2.2.2.2.2.2.1, (o1.2.2.2.2.2.2.2.2.2.2.2.2.1, (o1.2.2.2.2.2.2.2.2.2.2.2.2.2.1, (o1.2.2.2.2.2.2.2.2.2.2.2.2.2.2.2.2.2.2.2.2.2.2.2.2.2.1, o1.2.2.2.2.2.2.2.2.2.2.2.2.2.2.2.2.2.2.2.2.2.2.2.2.2.2)))))))))))))))) fun o2 =>
      bif o2.1 then
        some (.inr (.inr false))
      else
        Option.bind (α := ((Int × (List ((Int × (Int × List ((Int × (Int × (Int × ((Int × Int) × (Bool × (Int × (List (UInt8) × (List ((List UInt8 × Int)) × (Bool × Int))))))))))))) × ((List (((List (Int) × (Int × (Int × (Int × ((Int × Int) × (Bool × (Int × (List (UInt8) × (List ((List UInt8 × Int)) × (Bool × Int)))))))))) × Nat)) × Nat) × (Int × List ((Int × (Int × List ((Int × (Int × (Int × ((Int × Int) × (Bool × (Int × (List (UInt8) × (List ((List UInt8 × Int)) × (Bool × Int))))))))))))))))))) (
          bif (r8.2.2 == 0) then
            need (Nat.beq o2.2.2.2.2.1.length 2) <|
            some (o2.2.1, (o2.2.2.1, ((mput (k := (.arr 2 (.int .i64))) (v := (.pair (.int .i64) (.pair (.int .i64) (.pair (.int .i64) (.pair (.pair (.int .i64) (.int .i64)) (.pair .bool (.pair (.int .i64) (.pair (.sl .byte) (.pair (.sl (.pair .str (.int .i64))) (.pair .bool (.int .i64))))))))))) o2.2.2.2.1 o2.2.2.2.2.1 (o2.2.2.2.2.2.1, (o2.2.2.2.2.2.2.1, (o2.2.2.2.2.2.2.2.1, ((o2.2.2.2.2.2.2.2.2.1, o2.2.2.2.2.2.2.2.2.2.1), (o2.2.2.2.2.2.2.2.2.2.2.1, (o2.2.2.2.2.2.2.2.2.2.2.2.1, ([], ([], (o2.2.2.2.2.2.2.2.2.2.2.2.2.1, o2.2.2.2.2.2.2.2.2.2.2.2.2.2.1)))))))))), (o2.2.2.2.2.2.2.2.2.2.2.2.2.2.2.1, o2.2.2.2.2.2.2.2.2.2.2.2.2.2.2.2))))
          else
            some (o2.2.1, (o2.2.2.1, (o2.2.2.2.1, (o2.2.2.2.2.2.2.2.2.2.2.2.2.2.2.1, o2.2.2.2.2.2.2.2.2.2.2.2.2.2.2.2))))) fun o3 =>
        Option.bind (α := ((Bool × (Int × (List ((Int × (Int × List ((Int × (Int × (Int × ((Int × Int) × (Bool × (Int × (List (UInt8) × (List ((List UInt8 × Int)) × (Bool × Int))))))))))))) × (List (((List (Int) × (Int × (Int × (Int × ((Int × Int) × (Bool × (Int × (List (UInt8) × (List ((List UInt8 × Int)) × (Bool × Int)))))))))) × Nat)) × Nat)))))) (
          (replies_Right fu (o3.2.2.2.1, o3.2.2.2.2)).bind fun r11 =>
          bif (!r11) then
            some (true, (o3.2.2.2.1, (o3.2.2.2.2, o3.2.2.1)))
          else
            (law23_windows_m1 fu (o3.2.2.2.1, o3.2.2.2.2) (IntKind.wrap .i64 (1 + (IntKind.wrap .i64 (Int.tmod window 5)))) o3.2.2.1).bind fun r12 =>
            some ((!r12.1), (o3.2.2.2.1, (o3.2.2.2.2, r12.2)))) fun o4 =>
        bif o4.1 then
          some (.inr (.inr false))
        else
          some (.inl ((IntKind.wrap .i64 (i + 1)), (o4.2.1, (o4.2.2.1, o4.2.2.2))))
  else
    some (.inr (.inl ()))
def law23_RepliesOnce_l0_it (fu : Nat) (l : List ((Int × (Int × Int)))) (window : Int) (tt : (Int × (Int × (List ((Int × (Int × List ((Int × (Int × (Int × ((Int × Int) × (Bool × (Int × (List (UInt8) × (List ((List UInt8 × Int)) × (Bool × Int))))))))))))) × (List (((List (Int) × (Int × (Int × (Int × ((Int × Int) × (Bool × (Int × (List (UInt8) × (List ((List UInt8 × Int)) × (Bool × Int)))))))))) × Nat)) × Nat))))) : Option (Unit ⊕ Bool) :=
  iter fu (fun tt => law23_RepliesOnce_l0 fu l window tt.1 tt.2.1 tt.2.2.1 tt.2.2.2) tt
def law23_RepliesOnce (fu : Nat) (window : Int) (l : List ((Int × (Int × Int)))) : Option (Bool) :=
  (replies_New fu (IntKind.wrap .i64 (1 + (IntKind.wrap .i64 (Int.tmod window 5))))).bind fun r =>
  bif (!(r.2 == 0)) then
    some false
  else
    (law23_RepliesOnce_l0_it fu l window (0, (r.1, ([], ([], 0))))).bind fun o5 =>
    match o5 with
    | .inl s =>
      (law23_awake fu).bind fun r13 =>
      some r13
    | .inr o6 =>
      some o6
def law23_RepliesOnce_fa : FnA := ⟨.two (.leaf) (.two (.leaf) (.two (.reg [(1, {  }), (5, { ids := [100] })]) (.two (.two (.leaf) (.two (.leaf) (.leaf))) (.two (.reg [(0, { ids := [101] })]) (.two (.two (.leaf) (.one (.loop ⟨[6, 8, 9], ⟨(.cons (.own 0 100 0 0) (.cons (.mp 101) (.cons (.p (.int .i64)) .nil))), [(100, false, (.vars (.cons (.p (.int .i64)) (.cons (.p (.sl (.pair (.int .i64) (.pair (.int .i64) (.sl (.pair (.int .i64) (.pair (.int .i64) (.pair (.int .i64) (.pair (.pair (.int .i64) (.int .i64)) (.pair .bool (.pair (.int .i64) (.pair (.sl .byte) (.pair (.sl (.pair .str (.int .i64))) (.pair .bool (.int .i64))))))))))))))) .nil)))), (101, false, (.map (.arr 2 (.int .i64)) (.pair (.int .i64) (.pair (.int .i64) (.pair (.int .i64) (.pair (.pair (.int .i64) (.int .i64)) (.pair .bool (.pair (.int .i64) (.pair (.sl .byte) (.pair (.sl (.pair .str (.int .i64))) (.pair .bool (.int .i64))))))))))))]⟩⟩ true [(0, ⟨[], ⟨.nil, []⟩⟩)] (.two (.two (.join ⟨[6, 8, 37], ⟨(.cons (.own 0 100 0 0) (.cons (.mp 101) (.cons (.p .bool) .nil))), [(100, false, (.vars (.cons (.p (.int .i64)) (.cons (.p (.sl (.pair (.int .i64) (.pair (.int .i64) (.sl (.pair (.int .i64) (.pair (.int .i64) (.pair (.int .i64) (.pair (.pair (.int .i64) (.int .i64)) (.pair .bool (.pair (.int .i64) (.pair (.sl .byte) (.pair (.sl (.pair .str (.int .i64))) (.pair .bool (.int .i64))))))))))))))) .nil)))), (101, false, (.map (.arr 2 (.int .i64)) (.pair (.int .i64) (.pair (.int .i64) (.pair (.int .i64) (.pair (.pair (.int .i64) (.int .i64)) (.pair .bool (.pair (.int .i64) (.pair (.sl .byte) (.pair (.sl (.pair .str (.int .i64))) (.pair .bool (.int .i64))))))))))))]⟩⟩ false [] (.leaf)) (.leaf)) (.two (.one (.two (.reg [(5, { fn := 1 }), (11, { fn := 1 }), (14, { ids := [102] })]) (.two (.reg [(9, { fn := 1 }), (11, { ids := [103] })]) (.two (.reg [(5, { fn := 2 }), (9, { ids := [104] })]) (.two (.reg [(2, { fn := 3 }), (6, { ids := [105] })]) (.two (.two (.join ⟨[6, 8, 10, 11, 12, 14, 94], ⟨(.cons (.own 0 100 0 0) (.cons (.mp 101) (.cons (.own 1 102 0 0) (.cons (.own 0 103 0 0) (.cons (.own 0 104 0 0) (.cons (.own 0 105 0 0) (.cons (.p .bool) .nil))))))), [(100, false, (.vars (.cons (.p (.int .i64)) (.cons (.p (.sl (.pair (.int .i64) (.pair (.int .i64) (.sl (.pair (.int .i64) (.pair (.int .i64) (.pair (.int .i64) (.pair (.pair (.int .i64) (.int .i64)) (.pair .bool (.pair (.int .i64) (.pair (.sl .byte) (.pair (.sl (.pair .str (.int .i64))) (.pair .bool (.int .i64))))))))))))))) .nil)))), (101, false, (.map (.arr 2 (.int .i64)) (.pair (.int .i64) (.pair (.int .i64) (.pair (.int .i64) (.pair (.pair (.int .i64) (.int .i64)) (.pair .bool (.pair (.int .i64) (.pair (.sl .byte) (.pair (.sl (.pair .str (.int .i64))) (.pair .bool (.int .i64)))))))))))), (102, false, (.rows 52 (.int .i64))), (103, false, (.vars (.cons (.p (.int .i64)) (.cons (.p (.int .i64)) (.cons (.p (.int .i64)) (.cons (.p (.int .i64)) (.cons (.p (.int .i64)) (.cons (.p .bool) (.cons (.p (.int .i64)) (.cons (.nilp (.slice none 0 0)) (.cons (.nilp (.slice none 0 0)) (.cons (.p .bool) (.cons (.p (.int .i64)) .nil))))))))))))), (104, false, (.vars (.cons (.p (.int .i64)) (.cons (.p (.int .i64)) (.cons (.p (.int .i64)) (.cons (.p (.int .i64)) (.cons (.p (.int .i64)) (.cons (.p .bool) (.cons (.p (.int .i64)) (.cons (.p (.sl .byte)) (.cons (.p (.sl (.pair .str (.int .i64)))) (.cons (.p .bool) (.cons (.p (.int .i64)) .nil))))))))))))), (105, false, (.vars (.cons (.p (.int .i64)) (.cons (.p (.sl (.pair (.int .i64) (.pair (.int .i64) (.sl (.pair (.int .i64) (.pair (.int .i64) (.pair (.int .i64) (.pair (.pair (.int .i64) (.int .i64)) (.pair .bool (.pair (.int .i64) (.pair (.sl .byte) (.pair (.sl (.pair .str (.int .i64))) (.pair .bool (.int .i64))))))))))))))) .nil))))]⟩⟩ false [] (.reg [(11, { fn := 4 })])) (.two (.leaf) (.leaf))) (.two (.reg [(6, { ids := [106] })]) (.two (.two (.join ⟨[6, 8, 10, 11, 14, 119], ⟨(.cons (.own 0 100 0 0) (.cons (.mp 101) (.cons (.own 1 102 0 0) (.cons (.own 0 103 0 0) (.cons (.own 0 105 0 0) (.cons (.p .bool) .nil)))))), [(100, false, (.vars (.cons (.p (.int .i64)) (.cons (.p (.sl (.pair (.int .i64) (.pair (.int .i64) (.sl (.pair (.int .i64) (.pair (.int .i64) (.pair (.int .i64) (.pair (.pair (.int .i64) (.int .i64)) (.pair .bool (.pair (.int .i64) (.pair (.sl .byte) (.pair (.sl (.pair .str (.int .i64))) (.pair .bool (.int .i64))))))))))))))) .nil)))), (101, false, (.map (.arr 2 (.int .i64)) (.pair (.int .i64) (.pair (.int .i64) (.pair (.int .i64) (.pair (.pair (.int .i64) (.int .i64)) (.pair .bool (.pair (.int .i64) (.pair (.sl .byte) (.pair (.sl (.pair .str (.int .i64))) (.pair .bool (.int .i64)))))))))))), (102, false, (.rows 52 (.int .i64))), (103, false, (.vars (.cons (.p (.int .i64)) (.cons (.p (.int .i64)) (.cons (.p (.int .i64)) (.cons (.p (.int .i64)) (.cons (.p (.int .i64)) (.cons (.p .bool) (.cons (.p (.int .i64)) (.cons (.nilp (.slice none 0 0)) (.cons (.nilp (.slice none 0 0)) (.cons (.p .bool) (.cons (.p (.int .i64)) .nil))))))))))))), (105, false, (.vars (.cons (.p (.int .i64)) (.cons (.p (.sl (.pair (.int .i64) (.pair (.int .i64) (.sl (.pair (.int .i64) (.pair (.int .i64) (.pair (.int .i64) (.pair (.pair (.int .i64) (.int .i64)) (.pair .bool (.pair (.int .i64) (.pair (.sl .byte) (.pair (.sl (.pair .str (.int .i64))) (.pair .bool (.int .i64))))))))))))))) .nil))))]⟩⟩ false [] (.reg [(8, { fn := 5 })])) (.two (.leaf) (.leaf))) (.two (.two (.leaf) (.join ⟨[6, 8, 14], ⟨(.cons (.own 0 100 0 0) (.cons (.mp 101) (.cons (.own 0 105 0 0) .nil))), [(100, false, (.vars (.cons (.p (.int .i64)) (.cons (.p (.sl (.pair (.int .i64) (.pair (.int .i64) (.sl (.pair (.int .i64) (.pair (.int .i64) (.pair (.int .i64) (.pair (.pair (.int .i64) (.int .i64)) (.pair .bool (.pair (.int .i64) (.pair (.sl .byte) (.pair (.sl (.pair .str (.int .i64))) (.pair .bool (.int .i64))))))))))))))) .nil)))), (101, false, (.map (.arr 2 (.int .i64)) (.pair (.int .i64) (.pair (.int .i64) (.pair (.int .i64) (.pair (.pair (.int .i64) (.int .i64)) (.pair .bool (.pair (.int .i64) (.pair (.sl .byte) (.pair (.sl (.pair .str (.int .i64))) (.pair .bool (.int .i64)))))))))))), (105, false, (.vars (.cons (.p (.int .i64)) (.cons (.p (.sl (.pair (.int .i64) (.pair (.int .i64) (.sl (.pair (.int .i64) (.pair (.int .i64) (.pair (.int .i64) (.pair (.pair (.int .i64) (.int .i64)) (.pair .bool (.pair (.int .i64) (.pair (.sl .byte) (.pair (.sl (.pair .str (.int .i64))) (.pair .bool (.int .i64))))))))))))))) .nil))))]⟩⟩ false [] (.leaf))) (.two (.leaf) (.two (.join ⟨[6, 8, 135], ⟨(.cons (.own 0 100 0 0) (.cons (.mp 101) (.cons (.p .bool) .nil))), [(100, false, (.vars (.cons (.p (.int .i64)) (.cons (.p (.sl (.pair (.int .i64) (.pair (.int .i64) (.sl (.pair (.int .i64) (.pair (.int .i64) (.pair (.int .i64) (.pair (.pair (.int .i64) (.int .i64)) (.pair .bool (.pair (.int .i64) (.pair (.sl .byte) (.pair (.sl (.pair .str (.int .i64))) (.pair .bool (.int .i64))))))))))))))) .nil)))), (101, false, (.map (.arr 2 (.int .i64)) (.pair (.int .i64) (.pair (.int .i64) (.pair (.int .i64) (.pair (.pair (.int .i64) (.int .i64)) (.pair .bool (.pair (.int .i64) (.pair (.sl .byte) (.pair (.sl (.pair .str (.int .i64))) (.pair .bool (.int .i64))))))))))))]⟩⟩ false [] (.reg [(1, { fn := 6 }), (7, { sh := [101], fn := 7 })])) (.two (.leaf) (.leaf))))))))))))) (.leaf)))))) (.two (.reg [(0, { fn := 8 })]) (.leaf))))))), ⟨(.cons (.p (.int .u8)) (.cons (.p (.sl (.pair (.int .i64) (.pair (.int .i64) (.int .i64))))) .nil)), []⟩, [⟨(.cons (.p .bool) .nil), []⟩], [0]⟩
def law23_RepliesOnce_ft (fu : Nat) : FnT := ⟨4, ⟨(.cons (.p (.int .u8)) (.cons (.p (.sl (.pair (.int .i64) (.pair (.int .i64) (.int .i64))))) .nil)), []⟩, [⟨(.cons (.p .bool) .nil), []⟩], fun t => law23_RepliesOnce fu t.1 t.2⟩
theorem law23_RepliesOnce_eq (fu : Nat) : ∀ t, evF Go.Proofs.Try.prog [replies_New_ft fu, kit_Pick_ft fu, replies_Look_ft fu, replies_Put_ft fu, law23_Same_ft fu, law21_SameReply_ft fu, replies_Right_ft fu, law23_windows_m1_ft fu, law23_awake_ft fu] fu Go.Proofs.Try.f4 law23_RepliesOnce_fa t = (law23_RepliesOnce_ft fu).spec t := fun t => by kernel_rfl
theorem law23_RepliesOnce_told (fu : Nat) : Told Go.Proofs.Try.prog (law23_RepliesOnce_ft fu) := told_of (allT_cons (replies_New_told fu) (allT_cons (kit_Pick_told fu) (allT_cons (replies_Look_told fu) (allT_cons (replies_Put_told fu) (allT_cons (law23_Same_told fu) (allT_cons (law21_SameReply_told fu) (allT_cons (replies_Right_told fu) (allT_cons (law23_windows_m1_told fu) (allT_cons (law23_awake_told fu) allT_nil))))))))) mixed Go.Proofs.Try.func4 (by kernel_rfl) (by kernel_rfl) (law23_RepliesOnce_eq fu)
end
end Go.Ab.D
