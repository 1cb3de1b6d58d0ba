/- Functions of the program as plain Lean functions: each equation is checked by the kernel; what is told of a function follows from it. -/
import Derived.Test.YtnlofelalmefnaaE3
import Derived.Test.YtnlofelalmefnaaProg
import Derived.KernelRfl
set_option linter.all false
set_option maxRecDepth 100000
set_option maxHeartbeats 4000000
namespace Go.Ab.D
open Go Go.Ab
noncomputable section
theorem mixed : Go.Proofs.Try.prog.follows .mixedOrders = true := by kernel_rfl
def law21_Huge_l0 (fu : Nat) (o : (Bool × (Int × (Int × (Int × (Int × (Int × (Bool × (Int × (List (UInt8) × (List ((List UInt8 × Int)) × (Bool × Int)))))))))))) (x : Int) (h : Int) (h1 : Int) (h2 : Int) (h3 : Int) (h4 : Int) (h5 : Bool) (h6 : Int) (h7 : List (UInt8)) (h8 : List ((List UInt8 × Int))) (h9 : Bool) (h10 : Int) : Option ((Int × (Int × (Int × (Int × (Int × (Int × (Bool × (Int × (List (UInt8) × (List ((List UInt8 × Int)) × (Bool × Int))))))))))) ⊕ (Unit ⊕ Bool)) :=
  bif (decide (x < ((o.2.2.2.2.2.2.2.2.2.1.length : Nat) : Int))) then
    (idx? x h8.length).bind fun q =>
    (h8)[q]?.bind fun r1 =>
    bif (decide (((r1.1.length : Nat) : Int) > 3000)) then
      some (.inr (.inr true))
    else
      some (.inl ((IntKind.wrap .i64 (x + 1)), (h, (h1, (h2, (h3, (h4, (h5, (h6, (h7, (h8, (h9, h10))))))))))))
  else
    some (.inr (.inl ()))
def law21_Huge_l0_it (fu : Nat) (o : (Bool × (Int × (Int × (Int × (Int × (Int × (Bool × (Int × (List (UInt8) × (List ((List UInt8 × Int)) × (Bool × Int)))))))))))) (tt : (Int × (Int × (Int × (Int × (Int × (Int × (Bool × (Int × (List (UInt8) × (List ((List UInt8 × Int)) × (Bool × Int)))))))))))) : Option (Unit ⊕ Bool) :=
  iter fu (fun tt => law21_Huge_l0 fu o tt.1 tt.2.1 tt.2.2.1 tt.2.2.2.1 tt.2.2.2.2.1 tt.2.2.2.2.2.1 tt.2.2.2.2.2.2.1 tt.2.2.2.2.2.2.2.1 tt.2.2.2.2.2.2.2.2.1 tt.2.2.2.2.2.2.2.2.2.1 tt.2.2.2.2.2.2.2.2.2.2.1 tt.2.2.2.2.2.2.2.2.2.2.2) tt
def law21_Huge (fu : Nat) (c : (Int × (Int × (UInt8 × ((Int × Int) × (List UInt8 × ((Int × Int) × (List UInt8 × (Int × (Int × List (UInt8))))))))))) (r : (Int × (Int × (Int × ((Int × Int) × (Bool × (Int × (List (UInt8) × (List ((List UInt8 × Int)) × (Bool × Int)))))))))) : Option (Bool) :=
  Option.bind (α := ((Bool × (Int × (Int × (Int × (Int × (Int × (Bool × (Int × (List (UInt8) × (List ((List UInt8 × Int)) × (Bool × Int))))))))))))) (
    bif (decide (((c.2.2.2.2.1.length : Nat) : Int) > 3000)) then
      some (true, (r.1, (r.2.1, (r.2.2.1, (r.2.2.2.1.1, (r.2.2.2.1.2, (r.2.2.2.2.1, (r.2.2.2.2.2.1, (r.2.2.2.2.2.2.1, (r.2.2.2.2.2.2.2.1, (r.2.2.2.2.2.2.2.2.1, r.2.2.2.2.2.2.2.2.2)))))))))))
    else
      bif (decide (((c.2.2.2.2.2.2.1.length : Nat) : Int) > 3000)) then
        some (true, (r.1, (r.2.1, (r.2.2.1, (r.2.2.2.1.1, (r.2.2.2.1.2, (r.2.2.2.2.1, (r.2.2.2.2.2.1, (r.2.2.2.2.2.2.1, (r.2.2.2.2.2.2.2.1, (r.2.2.2.2.2.2.2.2.1, r.2.2.2.2.2.2.2.2.2)))))))))))
      else
        bif (decide (((c.2.2.2.2.2.2.2.2.2.length : Nat) : Int) > 5000)) then
          some (true, (r.1, (r.2.1, (r.2.2.1, (r.2.2.2.1.1, (r.2.2.2.1.2, (r.2.2.2.2.1, (r.2.2.2.2.2.1, (r.2.2.2.2.2.2.1, (r.2.2.2.2.2.2.2.1, (r.2.2.2.2.2.2.2.2.1, r.2.2.2.2.2.2.2.2.2)))))))))))
        else
          bif (decide (((r.2.2.2.2.2.2.1.length : Nat) : Int) > 5000)) then
            some (true, (r.1, (r.2.1, (r.2.2.1, (r.2.2.2.1.1, (r.2.2.2.1.2, (r.2.2.2.2.1, (r.2.2.2.2.2.1, (r.2.2.2.2.2.2.1, (r.2.2.2.2.2.2.2.1, (r.2.2.2.2.2.2.2.2.1, r.2.2.2.2.2.2.2.2.2)))))))))))
          else
            some ((decide (((r.2.2.2.2.2.2.2.1.length : Nat) : Int) > 120)), (r.1, (r.2.1, (r.2.2.1, (r.2.2.2.1.1, (r.2.2.2.1.2, (r.2.2.2.2.1, (r.2.2.2.2.2.1, (r.2.2.2.2.2.2.1, (r.2.2.2.2.2.2.2.1, (r.2.2.2.2.2.2.2.2.1, r.2.2.2.2.2.2.2.2.2)))))))))))) fun o =>
  bif o.1 then
    some true
  else
    (law21_Huge_l0_it fu o (0, (o.2.1, (o.2.2.1, (o.2.2.2.1, (o.2.2.2.2.1, (o.2.2.2.2.2.1, (o.2.2.2.2.2.2.1, (o.2.2.2.2.2.2.2.1, (o.2.2.2.2.2.2.2.2.1, (o.2.2.2.2.2.2.2.2.2.1, (o.2.2.2.2.2.2.2.2.2.2.1, o.2.2.2.2.2.2.2.2.2.2.2)))))))))))).bind fun o1 =>
    match o1 with
    | .inl s =>
      some false
    | .inr o2 =>
      some o2
def law21_Huge_fa : FnA := ⟨.two (.reg [(0, { ids := [100] }), (1, { ids := [101] })]) (.two (.two (.join ⟨[3, 33], ⟨(.cons (.own 0 101 0 0) (.cons (.p .bool) .nil)), [(101, false, (.vars (.cons (.p (.int .i64)) (.cons (.p (.int .i64)) (.cons (.p (.int .i64)) (.cons (.p (.int .i64)) (.cons (.p (.int .i64)) (.cons (.p .bool) (.cons (.p (.int .i64)) (.cons (.p (.sl .byte)) (.cons (.p (.sl (.pair .str (.int .i64)))) (.cons (.p .bool) (.cons (.p (.int .i64)) .nil)))))))))))))]⟩⟩ false [] (.leaf)) (.two (.leaf) (.leaf))) (.two (.two (.leaf) (.one (.loop ⟨[3, 37], ⟨(.cons (.own 0 101 0 0) (.cons (.p (.int .i64)) .nil)), [(101, false, (.vars (.cons (.p (.int .i64)) (.cons (.p (.int .i64)) (.cons (.p (.int .i64)) (.cons (.p (.int .i64)) (.cons (.p (.int .i64)) (.cons (.p .bool) (.cons (.p (.int .i64)) (.cons (.p (.sl .byte)) (.cons (.p (.sl (.pair .str (.int .i64)))) (.cons (.p .bool) (.cons (.p (.int .i64)) .nil)))))))))))))]⟩⟩ true [(0, ⟨[], ⟨.nil, []⟩⟩)] (.two (.leaf) (.two (.leaf) (.two (.one (.two (.leaf) (.two (.leaf) (.two (.leaf) (.leaf))))) (.leaf))))))) (.leaf))), ⟨(.cons (.p (.pair (.int .i64) (.pair (.int .i64) (.pair .byte (.pair (.pair (.int .i64) (.int .i64)) (.pair .str (.pair (.pair (.int .i64) (.int .i64)) (.pair .str (.pair (.int .i64) (.pair (.int .i64) (.sl .byte))))))))))) (.cons (.p (.pair (.int .i64) (.pair (.int .i64) (.pair (.int .i64) (.pair (.pair (.int .i64) (.int .i64)) (.pair .bool (.pair (.int .i64) (.pair (.sl .byte) (.pair (.sl (.pair .str (.int .i64))) (.pair .bool (.int .i64))))))))))) .nil)), []⟩, [⟨(.cons (.p .bool) .nil), []⟩], [0]⟩
def law21_Huge_ft (fu : Nat) : FnT := ⟨7, ⟨(.cons (.p (.pair (.int .i64) (.pair (.int .i64) (.pair .byte (.pair (.pair (.int .i64) (.int .i64)) (.pair .str (.pair (.pair (.int .i64) (.int .i64)) (.pair .str (.pair (.int .i64) (.pair (.int .i64) (.sl .byte))))))))))) (.cons (.p (.pair (.int .i64) (.pair (.int .i64) (.pair (.int .i64) (.pair (.pair (.int .i64) (.int .i64)) (.pair .bool (.pair (.int .i64) (.pair (.sl .byte) (.pair (.sl (.pair .str (.int .i64))) (.pair .bool (.int .i64))))))))))) .nil)), []⟩, [⟨(.cons (.p .bool) .nil), []⟩], fun t => law21_Huge fu t.1 t.2⟩
theorem law21_Huge_eq (fu : Nat) : ∀ t, evF Go.Proofs.Try.prog [] fu Go.Proofs.Try.f7 law21_Huge_fa t = (law21_Huge_ft fu).spec t := fun t => by kernel_rfl
theorem law21_Huge_told (fu : Nat) : Told Go.Proofs.Try.prog (law21_Huge_ft fu) := told_of allT_nil mixed Go.Proofs.Try.func7 (by kernel_rfl) (by kernel_rfl) (law21_Huge_eq fu)

def call_shape_1 (fu : Nat)  : Option ((Bool × (Bool × (Bool × (Bool × (Int × Bool)))))) :=
  some (true, (true, (false, (false, (0, false)))))
def call_shape_1_fa : FnA := ⟨.two (.reg [(0, { ids := [100] })]) (.leaf), ⟨.nil, []⟩, [⟨(.cons (.agg (.cons (.p .bool) (.cons (.p .bool) (.cons (.p .bool) (.cons (.p .bool) (.cons (.p (.int .i64)) (.cons (.p .bool) .nil))))))) .nil), []⟩], [0]⟩
def call_shape_1_ft (fu : Nat) : FnT := ⟨52, ⟨.nil, []⟩, [⟨(.cons (.agg (.cons (.p .bool) (.cons (.p .bool) (.cons (.p .bool) (.cons (.p .bool) (.cons (.p (.int .i64)) (.cons (.p .bool) .nil))))))) .nil), []⟩], fun t => call_shape_1 fu ⟩
theorem call_shape_1_eq (fu : Nat) : ∀ t, evF Go.Proofs.Try.prog [] fu Go.Proofs.Try.f52 call_shape_1_fa t = (call_shape_1_ft fu).spec t := fun t => by kernel_rfl
theorem call_shape_1_told (fu : Nat) : Told Go.Proofs.Try.prog (call_shape_1_ft fu) := told_of allT_nil mixed Go.Proofs.Try.func52 (by kernel_rfl) (by kernel_rfl) (call_shape_1_eq fu)

def call_shape_2 (fu : Nat)  : Option ((Bool × (Bool × (Bool × (Bool × (Int × Bool)))))) :=
  some (true, (false, (false, (true, (4096, false)))))
def call_shape_2_fa : FnA := ⟨.two (.reg [(0, { ids := [100] })]) (.leaf), ⟨.nil, []⟩, [⟨(.cons (.agg (.cons (.p .bool) (.cons (.p .bool) (.cons (.p .bool) (.cons (.p .bool) (.cons (.p (.int .i64)) (.cons (.p .bool) .nil))))))) .nil), []⟩], [0]⟩
def call_shape_2_ft (fu : Nat) : FnT := ⟨53, ⟨.nil, []⟩, [⟨(.cons (.agg (.cons (.p .bool) (.cons (.p .bool) (.cons (.p .bool) (.cons (.p .bool) (.cons (.p (.int .i64)) (.cons (.p .bool) .nil))))))) .nil), []⟩], fun t => call_shape_2 fu ⟩
theorem call_shape_2_eq (fu : Nat) : ∀ t, evF Go.Proofs.Try.prog [] fu Go.Proofs.Try.f53 call_shape_2_fa t = (call_shape_2_ft fu).spec t := fun t => by kernel_rfl
theorem call_shape_2_told (fu : Nat) : Told Go.Proofs.Try.prog (call_shape_2_ft fu) := told_of allT_nil mixed Go.Proofs.Try.func53 (by kernel_rfl) (by kernel_rfl) (call_shape_2_eq fu)

def call_shape_3 (fu : Nat)  : Option ((Bool × (Bool × (Bool × (Bool × (Int × Bool)))))) :=
  some (true, (false, (false, (true, (0, true)))))
def call_shape_3_fa : FnA := ⟨.two (.reg [(0, { ids := [100] })]) (.leaf), ⟨.nil, []⟩, [⟨(.cons (.agg (.cons (.p .bool) (.cons (.p .bool) (.cons (.p .bool) (.cons (.p .bool) (.cons (.p (.int .i64)) (.cons (.p .bool) .nil))))))) .nil), []⟩], [0]⟩
def call_shape_3_ft (fu : Nat) : FnT := ⟨54, ⟨.nil, []⟩, [⟨(.cons (.agg (.cons (.p .bool) (.cons (.p .bool) (.cons (.p .bool) (.cons (.p .bool) (.cons (.p (.int .i64)) (.cons (.p .bool) .nil))))))) .nil), []⟩], fun t => call_shape_3 fu ⟩
theorem call_shape_3_eq (fu : Nat) : ∀ t, evF Go.Proofs.Try.prog [] fu Go.Proofs.Try.f54 call_shape_3_fa t = (call_shape_3_ft fu).spec t := fun t => by kernel_rfl
theorem call_shape_3_told (fu : Nat) : Told Go.Proofs.Try.prog (call_shape_3_ft fu) := told_of allT_nil mixed Go.Proofs.Try.func54 (by kernel_rfl) (by kernel_rfl) (call_shape_3_eq fu)

def call_shape_4 (fu : Nat)  : Option ((Bool × (Bool × (Bool × (Bool × (Int × Bool)))))) :=
  some (true, (false, (false, (false, (2147483648, false)))))
def call_shape_4_fa : FnA := ⟨.two (.reg [(0, { ids := [100] })]) (.leaf), ⟨.nil, []⟩, [⟨(.cons (.agg (.cons (.p .bool) (.cons (.p .bool) (.cons (.p .bool) (.cons (.p .bool) (.cons (.p (.int .i64)) (.cons (.p .bool) .nil))))))) .nil), []⟩], [0]⟩
def call_shape_4_ft (fu : Nat) : FnT := ⟨55, ⟨.nil, []⟩, [⟨(.cons (.agg (.cons (.p .bool) (.cons (.p .bool) (.cons (.p .bool) (.cons (.p .bool) (.cons (.p (.int .i64)) (.cons (.p .bool) .nil))))))) .nil), []⟩], fun t => call_shape_4 fu ⟩
theorem call_shape_4_eq (fu : Nat) : ∀ t, evF Go.Proofs.Try.prog [] fu Go.Proofs.Try.f55 call_shape_4_fa t = (call_shape_4_ft fu).spec t := fun t => by kernel_rfl
theorem call_shape_4_told (fu : Nat) : Told Go.Proofs.Try.prog (call_shape_4_ft fu) := told_of allT_nil mixed Go.Proofs.Try.func55 (by kernel_rfl) (by kernel_rfl) (call_shape_4_eq fu)

def call_shape_5 (fu : Nat)  : Option ((Bool × (Bool × (Bool × (Bool × (Int × Bool)))))) :=
  some (true, (true, (true, (false, (0, false)))))
def call_shape_5_fa : FnA := ⟨.two (.reg [(0, { ids := [100] })]) (.leaf), ⟨.nil, []⟩, [⟨(.cons (.agg (.cons (.p .bool) (.cons (.p .bool) (.cons (.p .bool) (.cons (.p .bool) (.cons (.p (.int .i64)) (.cons (.p .bool) .nil))))))) .nil), []⟩], [0]⟩
def call_shape_5_ft (fu : Nat) : FnT := ⟨56, ⟨.nil, []⟩, [⟨(.cons (.agg (.cons (.p .bool) (.cons (.p .bool) (.cons (.p .bool) (.cons (.p .bool) (.cons (.p (.int .i64)) (.cons (.p .bool) .nil))))))) .nil), []⟩], fun t => call_shape_5 fu ⟩
theorem call_shape_5_eq (fu : Nat) : ∀ t, evF Go.Proofs.Try.prog [] fu Go.Proofs.Try.f56 call_shape_5_fa t = (call_shape_5_ft fu).spec t := fun t => by kernel_rfl
theorem call_shape_5_told (fu : Nat) : Told Go.Proofs.Try.prog (call_shape_5_ft fu) := told_of allT_nil mixed Go.Proofs.Try.func56 (by kernel_rfl) (by kernel_rfl) (call_shape_5_eq fu)

def call_shape_6 (fu : Nat)  : Option ((Bool × (Bool × (Bool × (Bool × (Int × Bool)))))) :=
  some (true, (true, (false, (false, (4096, false)))))
def call_shape_6_fa : FnA := ⟨.two (.reg [(0, { ids := [100] })]) (.leaf), ⟨.nil, []⟩, [⟨(.cons (.agg (.cons (.p .bool) (.cons (.p .bool) (.cons (.p .bool) (.cons (.p .bool) (.cons (.p (.int .i64)) (.cons (.p .bool) .nil))))))) .nil), []⟩], [0]⟩
def call_shape_6_ft (fu : Nat) : FnT := ⟨57, ⟨.nil, []⟩, [⟨(.cons (.agg (.cons (.p .bool) (.cons (.p .bool) (.cons (.p .bool) (.cons (.p .bool) (.cons (.p (.int .i64)) (.cons (.p .bool) .nil))))))) .nil), []⟩], fun t => call_shape_6 fu ⟩
theorem call_shape_6_eq (fu : Nat) : ∀ t, evF Go.Proofs.Try.prog [] fu Go.Proofs.Try.f57 call_shape_6_fa t = (call_shape_6_ft fu).spec t := fun t => by kernel_rfl
theorem call_shape_6_told (fu : Nat) : Told Go.Proofs.Try.prog (call_shape_6_ft fu) := told_of allT_nil mixed Go.Proofs.Try.func57 (by kernel_rfl) (by kernel_rfl) (call_shape_6_eq fu)

def call_shape_7 (fu : Nat)  : Option ((Bool × (Bool × (Bool × (Bool × (Int × Bool)))))) :=
  some (true, (false, (false, (false, (0, false)))))
def call_shape_7_fa : FnA := ⟨.two (.reg [(0, { ids := [100] })]) (.leaf), ⟨.nil, []⟩, [⟨(.cons (.agg (.cons (.p .bool) (.cons (.p .bool) (.cons (.p .bool) (.cons (.p .bool) (.cons (.p (.int .i64)) (.cons (.p .bool) .nil))))))) .nil), []⟩], [0]⟩
def call_shape_7_ft (fu : Nat) : FnT := ⟨58, ⟨.nil, []⟩, [⟨(.cons (.agg (.cons (.p .bool) (.cons (.p .bool) (.cons (.p .bool) (.cons (.p .bool) (.cons (.p (.int .i64)) (.cons (.p .bool) .nil))))))) .nil), []⟩], fun t => call_shape_7 fu ⟩
theorem call_shape_7_eq (fu : Nat) : ∀ t, evF Go.Proofs.Try.prog [] fu Go.Proofs.Try.f58 call_shape_7_fa t = (call_shape_7_ft fu).spec t := fun t => by kernel_rfl
theorem call_shape_7_told (fu : Nat) : Told Go.Proofs.Try.prog (call_shape_7_ft fu) := told_of allT_nil mixed Go.Proofs.Try.func58 (by kernel_rfl) (by kernel_rfl) (call_shape_7_eq fu)

def call_shape_8 (fu : Nat)  : Option ((Bool × (Bool × (Bool × (Bool × (Int × Bool)))))) :=
  some (false, (false, (false, (false, (0, false)))))
def call_shape_8_fa : FnA := ⟨.two (.reg [(0, { ids := [100] })]) (.leaf), ⟨.nil, []⟩, [⟨(.cons (.agg (.cons (.p .bool) (.cons (.p .bool) (.cons (.p .bool) (.cons (.p .bool) (.cons (.p (.int .i64)) (.cons (.p .bool) .nil))))))) .nil), []⟩], [0]⟩
def call_shape_8_ft (fu : Nat) : FnT := ⟨59, ⟨.nil, []⟩, [⟨(.cons (.agg (.cons (.p .bool) (.cons (.p .bool) (.cons (.p .bool) (.cons (.p .bool) (.cons (.p (.int .i64)) (.cons (.p .bool) .nil))))))) .nil), []⟩], fun t => call_shape_8 fu ⟩
theorem call_shape_8_eq (fu : Nat) : ∀ t, evF Go.Proofs.Try.prog [] fu Go.Proofs.Try.f59 call_shape_8_fa t = (call_shape_8_ft fu).spec t := fun t => by kernel_rfl
theorem call_shape_8_told (fu : Nat) : Told Go.Proofs.Try.prog (call_shape_8_ft fu) := told_of allT_nil mixed Go.Proofs.Try.func59 (by kernel_rfl) (by kernel_rfl) (call_shape_8_eq fu)

def call_shape (fu : Nat) (o : Int) : Option ((Bool × (Bool × (Bool × (Bool × (Int × (Bool × Bool))))))) :=
  need ((!((UInt8.ofNat 2) == (UInt8.ofNat 1))) && true) <|
  need ((!((UInt8.ofNat 3) == (UInt8.ofNat 1))) && ((!((UInt8.ofNat 3) == (UInt8.ofNat 2))) && true)) <|
  need ((!((UInt8.ofNat 7) == (UInt8.ofNat 1))) && ((!((UInt8.ofNat 7) == (UInt8.ofNat 2))) && ((!((UInt8.ofNat 7) == (UInt8.ofNat 3))) && true))) <|
  need ((!((UInt8.ofNat 8) == (UInt8.ofNat 1))) && ((!((UInt8.ofNat 8) == (UInt8.ofNat 2))) && ((!((UInt8.ofNat 8) == (UInt8.ofNat 3))) && ((!((UInt8.ofNat 8) == (UInt8.ofNat 7))) && true)))) <|
  need ((!((UInt8.ofNat 4) == (UInt8.ofNat 1))) && ((!((UInt8.ofNat 4) == (UInt8.ofNat 2))) && ((!((UInt8.ofNat 4) == (UInt8.ofNat 3))) && ((!((UInt8.ofNat 4) == (UInt8.ofNat 7))) && ((!((UInt8.ofNat 4) == (UInt8.ofNat 8))) && true))))) <|
  need ((!((UInt8.ofNat 5) == (UInt8.ofNat 1))) && ((!((UInt8.ofNat 5) == (UInt8.ofNat 2))) && ((!((UInt8.ofNat 5) == (UInt8.ofNat 3))) && ((!((UInt8.ofNat 5) == (UInt8.ofNat 7))) && ((!((UInt8.ofNat 5) == (UInt8.ofNat 8))) && ((!((UInt8.ofNat 5) == (UInt8.ofNat 4))) && true)))))) <|
  need ((!((UInt8.ofNat 6) == (UInt8.ofNat 1))) && ((!((UInt8.ofNat 6) == (UInt8.ofNat 2))) && ((!((UInt8.ofNat 6) == (UInt8.ofNat 3))) && ((!((UInt8.ofNat 6) == (UInt8.ofNat 7))) && ((!((UInt8.ofNat 6) == (UInt8.ofNat 8))) && ((!((UInt8.ofNat 6) == (UInt8.ofNat 4))) && ((!((UInt8.ofNat 6) == (UInt8.ofNat 5))) && true))))))) <|
  need ((!((UInt8.ofNat 9) == (UInt8.ofNat 1))) && ((!((UInt8.ofNat 9) == (UInt8.ofNat 2))) && ((!((UInt8.ofNat 9) == (UInt8.ofNat 3))) && ((!((UInt8.ofNat 9) == (UInt8.ofNat 7))) && ((!((UInt8.ofNat 9) == (UInt8.ofNat 8))) && ((!((UInt8.ofNat 9) == (UInt8.ofNat 4))) && ((!((UInt8.ofNat 9) == (UInt8.ofNat 5))) && ((!((UInt8.ofNat 9) == (UInt8.ofNat 6))) && true)))))))) <|
  need ((!((UInt8.ofNat 10) == (UInt8.ofNat 1))) && ((!((UInt8.ofNat 10) == (UInt8.ofNat 2))) && ((!((UInt8.ofNat 10) == (UInt8.ofNat 3))) && ((!((UInt8.ofNat 10) == (UInt8.ofNat 7))) && ((!((UInt8.ofNat 10) == (UInt8.ofNat 8))) && ((!((UInt8.ofNat 10) == (UInt8.ofNat 4))) && ((!((UInt8.ofNat 10) == (UInt8.ofNat 5))) && ((!((UInt8.ofNat 10) == (UInt8.ofNat 6))) && ((!((UInt8.ofNat 10) == (UInt8.ofNat 9))) && true))))))))) <|
  need ((!((UInt8.ofNat 11) == (UInt8.ofNat 1))) && ((!((UInt8.ofNat 11) == (UInt8.ofNat 2))) && ((!((UInt8.ofNat 11) == (UInt8.ofNat 3))) && ((!((UInt8.ofNat 11) == (UInt8.ofNat 7))) && ((!((UInt8.ofNat 11) == (UInt8.ofNat 8))) && ((!((UInt8.ofNat 11) == (UInt8.ofNat 4))) && ((!((UInt8.ofNat 11) == (UInt8.ofNat 5))) && ((!((UInt8.ofNat 11) == (UInt8.ofNat 6))) && ((!((UInt8.ofNat 11) == (UInt8.ofNat 9))) && ((!((UInt8.ofNat 11) == (UInt8.ofNat 10))) && true)))))))))) <|
  need ((!((UInt8.ofNat 12) == (UInt8.ofNat 1))) && ((!((UInt8.ofNat 12) == (UInt8.ofNat 2))) && ((!((UInt8.ofNat 12) == (UInt8.ofNat 3))) && ((!((UInt8.ofNat 12) == (UInt8.ofNat 7))) && ((!((UInt8.ofNat 12) == (UInt8.ofNat 8))) && ((!((UInt8.ofNat 12) == (UInt8.ofNat 4))) && ((!((UInt8.ofNat 12) == (UInt8.ofNat 5))) && ((!((UInt8.ofNat 12) == (UInt8.ofNat 6))) && ((!((UInt8.ofNat 12) == (UInt8.ofNat 9))) && ((!((UInt8.ofNat 12) == (UInt8.ofNat 10))) && ((!((UInt8.ofNat 12) == (UInt8.ofNat 11))) && true))))))))))) <|
  (byte? o).bind fun c =>
  bif (c == (UInt8.ofNat 1)) then
    (call_shape_1 fu).bind fun r =>
    some (r.1, (r.2.1, (r.2.2.1, (r.2.2.2.1, (r.2.2.2.2.1, (r.2.2.2.2.2, true))))))
  else
    bif (c == (UInt8.ofNat 2)) then
      (call_shape_1 fu).bind fun r1 =>
      some (r1.1, (r1.2.1, (r1.2.2.1, (r1.2.2.2.1, (r1.2.2.2.2.1, (r1.2.2.2.2.2, true))))))
    else
      bif (c == (UInt8.ofNat 3)) then
        (call_shape_1 fu).bind fun r2 =>
        some (r2.1, (r2.2.1, (r2.2.2.1, (r2.2.2.2.1, (r2.2.2.2.2.1, (r2.2.2.2.2.2, true))))))
      else
        bif (c == (UInt8.ofNat 7)) then
          (call_shape_1 fu).bind fun r3 =>
          some (r3.1, (r3.2.1, (r3.2.2.1, (r3.2.2.2.1, (r3.2.2.2.2.1, (r3.2.2.2.2.2, true))))))
        else
          bif (c == (UInt8.ofNat 8)) then
            (call_shape_1 fu).bind fun r4 =>
            some (r4.1, (r4.2.1, (r4.2.2.1, (r4.2.2.2.1, (r4.2.2.2.2.1, (r4.2.2.2.2.2, true))))))
          else
            bif (c == (UInt8.ofNat 4)) then
              (call_shape_2 fu).bind fun r5 =>
              some (r5.1, (r5.2.1, (r5.2.2.1, (r5.2.2.2.1, (r5.2.2.2.2.1, (r5.2.2.2.2.2, true))))))
            else
              bif (c == (UInt8.ofNat 5)) then
                (call_shape_3 fu).bind fun r6 =>
                some (r6.1, (r6.2.1, (r6.2.2.1, (r6.2.2.2.1, (r6.2.2.2.2.1, (r6.2.2.2.2.2, true))))))
              else
                bif (c == (UInt8.ofNat 6)) then
                  (call_shape_4 fu).bind fun r7 =>
                  some (r7.1, (r7.2.1, (r7.2.2.1, (r7.2.2.2.1, (r7.2.2.2.2.1, (r7.2.2.2.2.2, true))))))
                else
                  bif (c == (UInt8.ofNat 9)) then
                    (call_shape_5 fu).bind fun r8 =>
                    some (r8.1, (r8.2.1, (r8.2.2.1, (r8.2.2.2.1, (r8.2.2.2.2.1, (r8.2.2.2.2.2, true))))))
                  else
                    bif (c == (UInt8.ofNat 10)) then
                      (call_shape_6 fu).bind fun r9 =>
                      some (r9.1, (r9.2.1, (r9.2.2.1, (r9.2.2.2.1, (r9.2.2.2.2.1, (r9.2.2.2.2.2, true))))))
                    else
                      bif (c == (UInt8.ofNat 11)) then
                        (call_shape_7 fu).bind fun r10 =>
                        some (r10.1, (r10.2.1, (r10.2.2.1, (r10.2.2.2.1, (r10.2.2.2.2.1, (r10.2.2.2.2.2, true))))))
                      else
                        bif (c == (UInt8.ofNat 12)) then
                          (call_shape_8 fu).bind fun r11 =>
                          some (r11.1, (r11.2.1, (r11.2.2.1, (r11.2.2.2.1, (r11.2.2.2.2.1, (r11.2.2.2.2.2, true))))))
                        else
                          some (false, (false, (false, (false, (0, (false, false))))))
def call_shape_fa : FnA := ⟨.two (.reg [(0, { ids := [100] })]) (.two (.leaf) (.two (.reg [(0, { ids := [101] })]) (.two (.leaf) (.sel (.slot 6 (.fn 52 .nil .nil)) (.two (.two (.leaf) (.leaf)) (.two (.reg [(1, {  })]) (.leaf))) (.sel (.slot 6 (.fn 53 .nil .nil)) (.two (.two (.leaf) (.leaf)) (.two (.reg [(1, { fn := 1 })]) (.leaf))) (.sel (.slot 6 (.fn 54 .nil .nil)) (.two (.two (.leaf) (.leaf)) (.two (.reg [(1, { fn := 2 })]) (.leaf))) (.sel (.slot 6 (.fn 55 .nil .nil)) (.two (.two (.leaf) (.leaf)) (.two (.reg [(1, { fn := 3 })]) (.leaf))) (.sel (.slot 6 (.fn 56 .nil .nil)) (.two (.two (.leaf) (.leaf)) (.two (.reg [(1, { fn := 4 })]) (.leaf))) (.sel (.slot 6 (.fn 57 .nil .nil)) (.two (.two (.leaf) (.leaf)) (.two (.reg [(1, { fn := 5 })]) (.leaf))) (.sel (.slot 6 (.fn 58 .nil .nil)) (.two (.two (.leaf) (.leaf)) (.two (.reg [(1, { fn := 6 })]) (.leaf))) (.sel (.slot 6 (.fn 59 .nil .nil)) (.two (.two (.leaf) (.leaf)) (.two (.reg [(1, { fn := 7 })]) (.leaf))) (.two (.two (.leaf) (.two (.leaf) (.leaf))) (.leaf))))))))))))), ⟨(.cons (.p (.int .u8)) .nil), []⟩, [⟨(.cons (.agg (.cons (.p .bool) (.cons (.p .bool) (.cons (.p .bool) (.cons (.p .bool) (.cons (.p (.int .i64)) (.cons (.p .bool) .nil))))))) (.cons (.p .bool) .nil)), []⟩], [0, 0]⟩
def call_shape_ft (fu : Nat) : FnT := ⟨28, ⟨(.cons (.p (.int .u8)) .nil), []⟩, [⟨(.cons (.agg (.cons (.p .bool) (.cons (.p .bool) (.cons (.p .bool) (.cons (.p .bool) (.cons (.p (.int .i64)) (.cons (.p .bool) .nil))))))) (.cons (.p .bool) .nil)), []⟩], fun t => call_shape fu t⟩
theorem call_shape_eq (fu : Nat) : ∀ t, evF Go.Proofs.Try.prog [call_shape_1_ft fu, call_shape_2_ft fu, call_shape_3_ft fu, call_shape_4_ft fu, call_shape_5_ft fu, call_shape_6_ft fu, call_shape_7_ft fu, call_shape_8_ft fu] fu Go.Proofs.Try.f28 call_shape_fa t = (call_shape_ft fu).spec t := fun t => by kernel_rfl
theorem call_shape_told (fu : Nat) : Told Go.Proofs.Try.prog (call_shape_ft fu) := told_of (allT_cons (call_shape_1_told fu) (allT_cons (call_shape_2_told fu) (allT_cons (call_shape_3_told fu) (allT_cons (call_shape_4_told fu) (allT_cons (call_shape_5_told fu) (allT_cons (call_shape_6_told fu) (allT_cons (call_shape_7_told fu) (allT_cons (call_shape_8_told fu) allT_nil)))))))) mixed Go.Proofs.Try.func28 (by kernel_rfl) (by kernel_rfl) (call_shape_eq fu)

def call_whose (fu : Nat) (client : Int) (xid : Int) : Option (Bool) :=
  bif (decide (client ≥ 0)) then
    bif (decide (client < 16)) then
      bif (decide (xid ≥ 1)) then
        some (decide (xid ≤ 1099511627776))
      else
        some false
    else
      some false
  else
    some false
def call_whose_fa : FnA := ⟨.two (.leaf) (.leaf), ⟨(.cons (.p (.int .i64)) (.cons (.p (.int .i64)) .nil)), []⟩, [⟨(.cons (.p .bool) .nil), []⟩], [0]⟩
def call_whose_ft (fu : Nat) : FnT := ⟨29, ⟨(.cons (.p (.int .i64)) (.cons (.p (.int .i64)) .nil)), []⟩, [⟨(.cons (.p .bool) .nil), []⟩], fun t => call_whose fu t.1 t.2⟩
theorem call_whose_eq (fu : Nat) : ∀ t, evF Go.Proofs.Try.prog [] fu Go.Proofs.Try.f29 call_whose_fa t = (call_whose_ft fu).spec t := fun t => by kernel_rfl
theorem call_whose_told (fu : Nat) : Told Go.Proofs.Try.prog (call_whose_ft fu) := told_of allT_nil mixed Go.Proofs.Try.func29 (by kernel_rfl) (by kernel_rfl) (call_whose_eq fu)

def handle_Right (fu : Nat) (h : (Int × Int)) : Option (Bool) :=
  bif (decide (h.1 ≥ 1)) then
    bif (decide (h.1 ≤ 500)) then
      bif (decide (h.2 ≥ 1)) then
        some (decide (h.2 ≤ 1099511627776))
      else
        some false
    else
      some false
  else
    some false
def handle_Right_fa : FnA := ⟨.two (.reg [(0, { ids := [100] })]) (.leaf), ⟨(.cons (.p (.pair (.int .i64) (.int .i64))) .nil), []⟩, [⟨(.cons (.p .bool) .nil), []⟩], [0]⟩
def handle_Right_ft (fu : Nat) : FnT := ⟨31, ⟨(.cons (.p (.pair (.int .i64) (.int .i64))) .nil), []⟩, [⟨(.cons (.p .bool) .nil), []⟩], fun t => handle_Right fu t⟩
theorem handle_Right_eq (fu : Nat) : ∀ t, evF Go.Proofs.Try.prog [] fu Go.Proofs.Try.f31 handle_Right_fa t = (handle_Right_ft fu).spec t := fun t => by kernel_rfl
theorem handle_Right_told (fu : Nat) : Told Go.Proofs.Try.prog (handle_Right_ft fu) := told_of allT_nil mixed Go.Proofs.Try.func31 (by kernel_rfl) (by kernel_rfl) (handle_Right_eq fu)

def call_RightCall_1 (fu : Nat) (is_ : Bool) (h : (Int × Int)) : Option (Bool) :=
  bif is_ then
    (handle_Right fu (h.1, h.2)).bind fun r =>
    bif r then
      some true
    else
      bif (!is_) then
        some ((h.1 == 0) && (h.2 == 0))
      else
        some false
  else
    bif (!is_) then
      some ((h.1 == 0) && (h.2 == 0))
    else
      some false
def call_RightCall_1_fa : FnA := ⟨.two (.reg [(0, { ids := [100] })]) (.two (.reg [(3, {  })]) (.leaf)), ⟨(.cons (.p .bool) (.cons (.p (.pair (.int .i64) (.int .i64))) .nil)), []⟩, [⟨(.cons (.p .bool) .nil), []⟩], [0]⟩
def call_RightCall_1_ft (fu : Nat) : FnT := ⟨30, ⟨(.cons (.p .bool) (.cons (.p (.pair (.int .i64) (.int .i64))) .nil)), []⟩, [⟨(.cons (.p .bool) .nil), []⟩], fun t => call_RightCall_1 fu t.1 t.2⟩
theorem call_RightCall_1_eq (fu : Nat) : ∀ t, evF Go.Proofs.Try.prog [handle_Right_ft fu] fu Go.Proofs.Try.f30 call_RightCall_1_fa t = (call_RightCall_1_ft fu).spec t := fun t => by kernel_rfl
theorem call_RightCall_1_told (fu : Nat) : Told Go.Proofs.Try.prog (call_RightCall_1_ft fu) := told_of (allT_cons (handle_Right_told fu) allT_nil) mixed Go.Proofs.Try.func30 (by kernel_rfl) (by kernel_rfl) (call_RightCall_1_eq fu)

def call_RightCall_2 (fu : Nat) (is_ : Bool) (l : List UInt8) : Option (Bool) :=
  bif (l == []) then
    some true
  else
    bif is_ then
      some (decide (((l.length : Nat) : Int) ≤ 100))
    else
      some false
def call_RightCall_2_fa : FnA := ⟨.two (.leaf) (.leaf), ⟨(.cons (.p .bool) (.cons (.p .str) .nil)), []⟩, [⟨(.cons (.p .bool) .nil), []⟩], [0]⟩
def call_RightCall_2_ft (fu : Nat) : FnT := ⟨32, ⟨(.cons (.p .bool) (.cons (.p .str) .nil)), []⟩, [⟨(.cons (.p .bool) .nil), []⟩], fun t => call_RightCall_2 fu t.1 t.2⟩
theorem call_RightCall_2_eq (fu : Nat) : ∀ t, evF Go.Proofs.Try.prog [] fu Go.Proofs.Try.f32 call_RightCall_2_fa t = (call_RightCall_2_ft fu).spec t := fun t => by kernel_rfl
theorem call_RightCall_2_told (fu : Nat) : Told Go.Proofs.Try.prog (call_RightCall_2_ft fu) := told_of allT_nil mixed Go.Proofs.Try.func32 (by kernel_rfl) (by kernel_rfl) (call_RightCall_2_eq fu)

def call_RightCall (fu : Nat) (c : (Int × (Int × (UInt8 × ((Int × Int) × (List UInt8 × ((Int × Int) × (List UInt8 × (Int × (Int × List (UInt8))))))))))) : Option (Bool) :=
  (call_shape fu ((c.2.2.1.toNat : Nat) : Int)).bind fun r =>
  Option.bind (α := ((Bool × (Int × (Int × (Int × (Int × (Int × (List UInt8 × (Int × (Int × (List UInt8 × (Int × (Int × (List (UInt8) × (Bool × (Bool × (Bool × (Bool × (Int × Bool)))))))))))))))))))) (
    bif (!r.2.2.2.2.2.2) then
      some (true, (c.1, (c.2.1, (((c.2.2.1.toNat : Nat) : Int), (c.2.2.2.1.1, (c.2.2.2.1.2, (c.2.2.2.2.1, (c.2.2.2.2.2.1.1, (c.2.2.2.2.2.1.2, (c.2.2.2.2.2.2.1, (c.2.2.2.2.2.2.2.1, (c.2.2.2.2.2.2.2.2.1, (c.2.2.2.2.2.2.2.2.2, (r.1, (r.2.1, (r.2.2.1, (r.2.2.2.1, (r.2.2.2.2.1, r.2.2.2.2.2.1))))))))))))))))))
    else
      (call_whose fu c.1 c.2.1).bind fun r1 =>
      some ((!r1), (c.1, (c.2.1, (((c.2.2.1.toNat : Nat) : Int), (c.2.2.2.1.1, (c.2.2.2.1.2, (c.2.2.2.2.1, (c.2.2.2.2.2.1.1, (c.2.2.2.2.2.1.2, (c.2.2.2.2.2.2.1, (c.2.2.2.2.2.2.2.1, (c.2.2.2.2.2.2.2.2.1, (c.2.2.2.2.2.2.2.2.2, (r.1, (r.2.1, (r.2.2.1, (r.2.2.2.1, (r.2.2.2.2.1, r.2.2.2.2.2.1))))))))))))))))))) fun o =>
  bif o.1 then
    some false
  else
    Option.bind (α := ((Bool × (Int × (Int × (Int × (Int × (Int × (List UInt8 × (Int × (Int × (List UInt8 × (Int × (Int × (List (UInt8) × (Bool × (Bool × (Bool × (Bool × (Int × Bool)))))))))))))))))))) (
      (call_RightCall_1 fu o.2.2.2.2.2.2.2.2.2.2.2.2.2.1 (o.2.2.2.2.1, o.2.2.2.2.2.1)).bind fun r2 =>
      bif (!r2) then
        some (true, (o.2.1, (o.2.2.1, (o.2.2.2.1, (o.2.2.2.2.1, (o.2.2.2.2.2.1, (o.2.2.2.2.2.2.1, (o.2.2.2.2.2.2.2.1, (o.2.2.2.2.2.2.2.2.1, (o.2.2.2.2.2.2.2.2.2.1, (o.2.2.2.2.2.2.2.2.2.2.1, (o.2.2.2.2.2.2.2.2.2.2.2.1, (o.2.2.2.2.2.2.2.2.2.2.2.2.1, (o.2.2.2.2.2.2.2.2.2.2.2.2.2.1, (o.2.2.2.2.2.2.2.2.2.2.2.2.2.2.1, (o.2.2.2.2.2.2.2.2.2.2.2.2.2.2.2.1, (o.2.2.2.2.2.2.2.2.2.2.2.2.2.2.2.2.1, (o.2.2.2.2.2.2.2.2.2.2.2.2.2.2.2.2.2.1, o.2.2.2.2.2.2.2.2.2.2.2.2.2.2.2.2.2.2))))))))))))))))))
      else
        (call_RightCall_1 fu o.2.2.2.2.2.2.2.2.2.2.2.2.2.2.2.1 (o.2.2.2.2.2.2.2.1, o.2.2.2.2.2.2.2.2.1)).bind fun r3 =>
        bif (!r3) then
          some (true, (o.2.1, (o.2.2.1, (o.2.2.2.1, (o.2.2.2.2.1, (o.2.2.2.2.2.1, (o.2.2.2.2.2.2.1, (o.2.2.2.2.2.2.2.1, (o.2.2.2.2.2.2.2.2.1, (o.2.2.2.2.2.2.2.2.2.1, (o.2.2.2.2.2.2.2.2.2.2.1, (o.2.2.2.2.2.2.2.2.2.2.2.1, (o.2.2.2.2.2.2.2.2.2.2.2.2.1, (o.2.2.2.2.2.2.2.2.2.2.2.2.2.1, (o.2.2.2.2.2.2.2.2.2.2.2.2.2.2.1, (o.2.2.2.2.2.2.2.2.2.2.2.2.2.2.2.1, (o.2.2.2.2.2.2.2.2.2.2.2.2.2.2.2.2.1, (o.2.2.2.2.2.2.2.2.2.2.2.2.2.2.2.2.2.1, o.2.2.2.2.2.2.2.2.2.2.2.2.2.2.2.2.2.2))))))))))))))))))
        else
          (call_RightCall_2 fu o.2.2.2.2.2.2.2.2.2.2.2.2.2.2.1 o.2.2.2.2.2.2.1).bind fun r4 =>
          bif (!r4) then
            some (true, (o.2.1, (o.2.2.1, (o.2.2.2.1, (o.2.2.2.2.1, (o.2.2.2.2.2.1, (o.2.2.2.2.2.2.1, (o.2.2.2.2.2.2.2.1, (o.2.2.2.2.2.2.2.2.1, (o.2.2.2.2.2.2.2.2.2.1, (o.2.2.2.2.2.2.2.2.2.2.1, (o.2.2.2.2.2.2.2.2.2.2.2.1, (o.2.2.2.2.2.2.2.2.2.2.2.2.1, (o.2.2.2.2.2.2.2.2.2.2.2.2.2.1, (o.2.2.2.2.2.2.2.2.2.2.2.2.2.2.1, (o.2.2.2.2.2.2.2.2.2.2.2.2.2.2.2.1, (o.2.2.2.2.2.2.2.2.2.2.2.2.2.2.2.2.1, (o.2.2.2.2.2.2.2.2.2.2.2.2.2.2.2.2.2.1, o.2.2.2.2.2.2.2.2.2.2.2.2.2.2.2.2.2.2))))))))))))))))))
          else
            (call_RightCall_2 fu o.2.2.2.2.2.2.2.2.2.2.2.2.2.2.2.1 o.2.2.2.2.2.2.2.2.2.1).bind fun r5 =>
            some ((!r5), (o.2.1, (o.2.2.1, (o.2.2.2.1, (o.2.2.2.2.1, (o.2.2.2.2.2.1, (o.2.2.2.2.2.2.1, (o.2.2.2.2.2.2.2.1, (o.2.2.2.2.2.2.2.2.1, (o.2.2.2.2.2.2.2.2.2.1, (o.2.2.2.2.2.2.2.2.2.2.1, (o.2.2.2.2.2.2.2.2.2.2.2.1, (o.2.2.2.2.2.2.2.2.2.2.2.2.1, (o.2.2.2.2.2.2.2.2.2.2.2.2.2.1, (o.2.2.2.2.2.2.2.2.2.2.2.2.2.2.1, (o.2.2.2.2.2.2.2.2.2.2.2.2.2.2.2.1, (o.2.2.2.2.2.2.2.2.2.2.2.2.2.2.2.2.1, (o.2.2.2.2.2.2.2.2.2.2.2.2.2.2.2.2.2.1, o.2.2.2.2.2.2.2.2.2.2.2.2.2.2.2.2.2.2))))))))))))))))))) fun o1 =>
    bif o1.1 then
      some false
    else
      Option.bind (α := ((Bool × (Int × (Int × (Int × (Int × (Int × (List UInt8 × (Int × (Int × (List UInt8 × (Int × (Int × (List (UInt8) × (Bool × (Bool × (Bool × (Bool × (Int × Bool)))))))))))))))))))) (
        bif (decide (o1.2.2.2.2.2.2.2.2.2.2.1 < 0)) then
          some (true, (o1.2.1, (o1.2.2.1, (o1.2.2.2.1, (o1.2.2.2.2.1, (o1.2.2.2.2.2.1, (o1.2.2.2.2.2.2.1, (o1.2.2.2.2.2.2.2.1, (o1.2.2.2.2.2.2.2.2.1, (o1.2.2.2.2.2.2.2.2.2.1, (o1.2.2.2.2.2.2.2.2.2.2.1, (o1.2.2.2.2.2.2.2.2.2.2.2.1, (o1.2.2.2.2.2.2.2.2.2.2.2.2.1, (o1.2.2.2.2.2.2.2.2.2.2.2.2.2.1, (o1.2.2.2.2.2.2.2.2.2.2.2.2.2.2.1, (o1.2.2.2.2.2.2.2.2.2.2.2.2.2.2.2.1, (o1.2.2.2.2.2.2.2.2.2.2.2.2.2.2.2.2.1, (o1.2.2.2.2.2.2.2.2.2.2.2.2.2.2.2.2.2.1, o1.2.2.2.2.2.2.2.2.2.2.2.2.2.2.2.2.2.2))))))))))))))))))
        else
          bif (decide (o1.2.2.2.2.2.2.2.2.2.2.1 > 2147483648)) then
            some (true, (o1.2.1, (o1.2.2.1, (o1.2.2.2.1, (o1.2.2.2.2.1, (o1.2.2.2.2.2.1, (o1.2.2.2.2.2.2.1, (o1.2.2.2.2.2.2.2.1, (o1.2.2.2.2.2.2.2.2.1, (o1.2.2.2.2.2.2.2.2.2.1, (o1.2.2.2.2.2.2.2.2.2.2.1, (o1.2.2.2.2.2.2.2.2.2.2.2.1, (o1.2.2.2.2.2.2.2.2.2.2.2.2.1, (o1.2.2.2.2.2.2.2.2.2.2.2.2.2.1, (o1.2.2.2.2.2.2.2.2.2.2.2.2.2.2.1, (o1.2.2.2.2.2.2.2.2.2.2.2.2.2.2.2.1, (o1.2.2.2.2.2.2.2.2.2.2.2.2.2.2.2.2.1, (o1.2.2.2.2.2.2.2.2.2.2.2.2.2.2.2.2.2.1, o1.2.2.2.2.2.2.2.2.2.2.2.2.2.2.2.2.2.2))))))))))))))))))
          else
            bif (!o1.2.2.2.2.2.2.2.2.2.2.2.2.2.2.2.2.1) then
              bif (!(o1.2.2.2.2.2.2.2.2.2.2.1 == 0)) then
                some (true, (o1.2.1, (o1.2.2.1, (o1.2.2.2.1, (o1.2.2.2.2.1, (o1.2.2.2.2.2.1, (o1.2.2.2.2.2.2.1, (o1.2.2.2.2.2.2.2.1, (o1.2.2.2.2.2.2.2.2.1, (o1.2.2.2.2.2.2.2.2.2.1, (o1.2.2.2.2.2.2.2.2.2.2.1, (o1.2.2.2.2.2.2.2.2.2.2.2.1, (o1.2.2.2.2.2.2.2.2.2.2.2.2.1, (o1.2.2.2.2.2.2.2.2.2.2.2.2.2.1, (o1.2.2.2.2.2.2.2.2.2.2.2.2.2.2.1, (o1.2.2.2.2.2.2.2.2.2.2.2.2.2.2.2.1, (o1.2.2.2.2.2.2.2.2.2.2.2.2.2.2.2.2.1, (o1.2.2.2.2.2.2.2.2.2.2.2.2.2.2.2.2.2.1, o1.2.2.2.2.2.2.2.2.2.2.2.2.2.2.2.2.2.2))))))))))))))))))
              else
                bif (decide (o1.2.2.2.2.2.2.2.2.2.2.2.1 < 0)) then
                  some (true, (o1.2.1, (o1.2.2.1, (o1.2.2.2.1, (o1.2.2.2.2.1, (o1.2.2.2.2.2.1, (o1.2.2.2.2.2.2.1, (o1.2.2.2.2.2.2.2.1, (o1.2.2.2.2.2.2.2.2.1, (o1.2.2.2.2.2.2.2.2.2.1, (o1.2.2.2.2.2.2.2.2.2.2.1, (o1.2.2.2.2.2.2.2.2.2.2.2.1, (o1.2.2.2.2.2.2.2.2.2.2.2.2.1, (o1.2.2.2.2.2.2.2.2.2.2.2.2.2.1, (o1.2.2.2.2.2.2.2.2.2.2.2.2.2.2.1, (o1.2.2.2.2.2.2.2.2.2.2.2.2.2.2.2.1, (o1.2.2.2.2.2.2.2.2.2.2.2.2.2.2.2.2.1, (o1.2.2.2.2.2.2.2.2.2.2.2.2.2.2.2.2.2.1, o1.2.2.2.2.2.2.2.2.2.2.2.2.2.2.2.2.2.2))))))))))))))))))
                else
                  some ((decide (o1.2.2.2.2.2.2.2.2.2.2.2.1 > o1.2.2.2.2.2.2.2.2.2.2.2.2.2.2.2.2.2.1)), (o1.2.1, (o1.2.2.1, (o1.2.2.2.1, (o1.2.2.2.2.1, (o1.2.2.2.2.2.1, (o1.2.2.2.2.2.2.1, (o1.2.2.2.2.2.2.2.1, (o1.2.2.2.2.2.2.2.2.1, (o1.2.2.2.2.2.2.2.2.2.1, (o1.2.2.2.2.2.2.2.2.2.2.1, (o1.2.2.2.2.2.2.2.2.2.2.2.1, (o1.2.2.2.2.2.2.2.2.2.2.2.2.1, (o1.2.2.2.2.2.2.2.2.2.2.2.2.2.1, (o1.2.2.2.2.2.2.2.2.2.2.2.2.2.2.1, (o1.2.2.2.2.2.2.2.2.2.2.2.2.2.2.2.1, (o1.2.2.2.2.2.2.2.2.2.2.2.2.2.2.2.2.1, (o1.2.2.2.2.2.2.2.2.2.2.2.2.2.2.2.2.2.1, o1.2.2.2.2.2.2.2.2.2.2.2.2.2.2.2.2.2.2))))))))))))))))))
            else
              bif (decide (o1.2.2.2.2.2.2.2.2.2.2.2.1 < 0)) then
                some (true, (o1.2.1, (o1.2.2.1, (o1.2.2.2.1, (o1.2.2.2.2.1, (o1.2.2.2.2.2.1, (o1.2.2.2.2.2.2.1, (o1.2.2.2.2.2.2.2.1, (o1.2.2.2.2.2.2.2.2.1, (o1.2.2.2.2.2.2.2.2.2.1, (o1.2.2.2.2.2.2.2.2.2.2.1, (o1.2.2.2.2.2.2.2.2.2.2.2.1, (o1.2.2.2.2.2.2.2.2.2.2.2.2.1, (o1.2.2.2.2.2.2.2.2.2.2.2.2.2.1, (o1.2.2.2.2.2.2.2.2.2.2.2.2.2.2.1, (o1.2.2.2.2.2.2.2.2.2.2.2.2.2.2.2.1, (o1.2.2.2.2.2.2.2.2.2.2.2.2.2.2.2.2.1, (o1.2.2.2.2.2.2.2.2.2.2.2.2.2.2.2.2.2.1, o1.2.2.2.2.2.2.2.2.2.2.2.2.2.2.2.2.2.2))))))))))))))))))
              else
                some ((decide (o1.2.2.2.2.2.2.2.2.2.2.2.1 > o1.2.2.2.2.2.2.2.2.2.2.2.2.2.2.2.2.2.1)), (o1.2.1, (o1.2.2.1, (o1.2.2.2.1, (o1.2.2.2.2.1, (o1.2.2.2.2.2.1, (o1.2.2.2.2.2.2.1, (o1.2.2.2.2.2.2.2.1, (o1.2.2.2.2.2.2.2.2.1, (o1.2.2.2.2.2.2.2.2.2.1, (o1.2.2.2.2.2.2.2.2.2.2.1, (o1.2.2.2.2.2.2.2.2.2.2.2.1, (o1.2.2.2.2.2.2.2.2.2.2.2.2.1, (o1.2.2.2.2.2.2.2.2.2.2.2.2.2.1, (o1.2.2.2.2.2.2.2.2.2.2.2.2.2.2.1, (o1.2.2.2.2.2.2.2.2.2.2.2.2.2.2.2.1, (o1.2.2.2.2.2.2.2.2.2.2.2.2.2.2.2.2.1, (o1.2.2.2.2.2.2.2.2.2.2.2.2.2.2.2.2.2.1, o1.2.2.2.2.2.2.2.2.2.2.2.2.2.2.2.2.2.2))))))))))))))))))) fun o2 =>
      bif o2.1 then
        some false
      else
        bif (((o2.2.2.2.2.2.2.2.2.2.2.2.2.1.length : Nat) : Int) == 0) then
          some true
        else
          bif o2.2.2.2.2.2.2.2.2.2.2.2.2.2.2.2.2.2.2 then
            some (decide (((o2.2.2.2.2.2.2.2.2.2.2.2.2.1.length : Nat) : Int) ≤ 4096))
          else
            some false
def call_RightCall_fa : FnA := ⟨.two (.reg [(0, { ids := [100] })]) (.two (.reg [(2, {  }), (6, { ids := [101] })]) (.two (.two (.join ⟨[1, 3, 22], ⟨(.cons (.own 0 100 0 0) (.cons (.own 0 101 0 0) (.cons (.p .bool) .nil))), [(100, false, (.vars (.cons (.p (.int .i64)) (.cons (.p (.int .i64)) (.cons (.p (.int .u8)) (.cons (.p (.int .i64)) (.cons (.p (.int .i64)) (.cons (.p .str) (.cons (.p (.int .i64)) (.cons (.p (.int .i64)) (.cons (.p .str) (.cons (.p (.int .i64)) (.cons (.p (.int .i64)) (.cons (.p (.sl .byte)) .nil)))))))))))))), (101, false, (.vars (.cons (.p .bool) (.cons (.p .bool) (.cons (.p .bool) (.cons (.p .bool) (.cons (.p (.int .i64)) (.cons (.p .bool) .nil))))))))]⟩⟩ false [] (.reg [(7, { fn := 1 })])) (.two (.leaf) (.leaf))) (.two (.leaf) (.two (.leaf) (.two (.two (.join ⟨[1, 3, 56], ⟨(.cons (.own 0 100 0 0) (.cons (.own 0 101 0 0) (.cons (.p .bool) .nil))), [(100, false, (.vars (.cons (.p (.int .i64)) (.cons (.p (.int .i64)) (.cons (.p (.int .u8)) (.cons (.p (.int .i64)) (.cons (.p (.int .i64)) (.cons (.p .str) (.cons (.p (.int .i64)) (.cons (.p (.int .i64)) (.cons (.p .str) (.cons (.p (.int .i64)) (.cons (.p (.int .i64)) (.cons (.p (.sl .byte)) .nil)))))))))))))), (101, false, (.vars (.cons (.p .bool) (.cons (.p .bool) (.cons (.p .bool) (.cons (.p .bool) (.cons (.p (.int .i64)) (.cons (.p .bool) .nil))))))))]⟩⟩ false [] (.reg [(5, { fn := 2 }), (13, { fn := 2 }), (22, { fn := 3 }), (31, { fn := 3 })])) (.two (.leaf) (.leaf))) (.two (.two (.join ⟨[1, 3, 86], ⟨(.cons (.own 0 100 0 0) (.cons (.own 0 101 0 0) (.cons (.p .bool) .nil))), [(100, false, (.vars (.cons (.p (.int .i64)) (.cons (.p (.int .i64)) (.cons (.p (.int .u8)) (.cons (.p (.int .i64)) (.cons (.p (.int .i64)) (.cons (.p .str) (.cons (.p (.int .i64)) (.cons (.p (.int .i64)) (.cons (.p .str) (.cons (.p (.int .i64)) (.cons (.p (.int .i64)) (.cons (.p (.sl .byte)) .nil)))))))))))))), (101, false, (.vars (.cons (.p .bool) (.cons (.p .bool) (.cons (.p .bool) (.cons (.p .bool) (.cons (.p (.int .i64)) (.cons (.p .bool) .nil))))))))]⟩⟩ false [] (.leaf)) (.two (.leaf) (.leaf))) (.leaf))))))), ⟨(.cons (.p (.pair (.int .i64) (.pair (.int .i64) (.pair .byte (.pair (.pair (.int .i64) (.int .i64)) (.pair .str (.pair (.pair (.int .i64) (.int .i64)) (.pair .str (.pair (.int .i64) (.pair (.int .i64) (.sl .byte))))))))))) .nil), []⟩, [⟨(.cons (.p .bool) .nil), []⟩], [0]⟩
def call_RightCall_ft (fu : Nat) : FnT := ⟨8, ⟨(.cons (.p (.pair (.int .i64) (.pair (.int .i64) (.pair .byte (.pair (.pair (.int .i64) (.int .i64)) (.pair .str (.pair (.pair (.int .i64) (.int .i64)) (.pair .str (.pair (.int .i64) (.pair (.int .i64) (.sl .byte))))))))))) .nil), []⟩, [⟨(.cons (.p .bool) .nil), []⟩], fun t => call_RightCall fu t⟩
theorem call_RightCall_eq (fu : Nat) : ∀ t, evF Go.Proofs.Try.prog [call_shape_ft fu, call_whose_ft fu, call_RightCall_1_ft fu, call_RightCall_2_ft fu] fu Go.Proofs.Try.f8 call_RightCall_fa t = (call_RightCall_ft fu).spec t := fun t => by kernel_rfl
theorem call_RightCall_told (fu : Nat) : Told Go.Proofs.Try.prog (call_RightCall_ft fu) := told_of (allT_cons (call_shape_told fu) (allT_cons (call_whose_told fu) (allT_cons (call_RightCall_1_told fu) (allT_cons (call_RightCall_2_told fu) allT_nil)))) mixed Go.Proofs.Try.func8 (by kernel_rfl) (by kernel_rfl) (call_RightCall_eq fu)

def bytes_halved (fu : Nat) (s : Int) : Option (Int) :=
  some (bitsI .xor .u32 (Int.fdiv s 2) (IntKind.wrap .u32 (2197175160 * (bitsI .and .u32 s 1))))
def bytes_halved_fa : FnA := ⟨.two (.leaf) (.leaf), ⟨(.cons (.p (.int .u32)) .nil), []⟩, [⟨(.cons (.p (.int .u32)) .nil), []⟩], [0]⟩
def bytes_halved_ft (fu : Nat) : FnT := ⟨33, ⟨(.cons (.p (.int .u32)) .nil), []⟩, [⟨(.cons (.p (.int .u32)) .nil), []⟩], fun t => bytes_halved fu t⟩
theorem bytes_halved_eq (fu : Nat) : ∀ t, evF Go.Proofs.Try.prog [] fu Go.Proofs.Try.f33 bytes_halved_fa t = (bytes_halved_ft fu).spec t := fun t => by kernel_rfl
theorem bytes_halved_told (fu : Nat) : Told Go.Proofs.Try.prog (bytes_halved_ft fu) := told_of allT_nil mixed Go.Proofs.Try.func33 (by kernel_rfl) (by kernel_rfl) (bytes_halved_eq fu)

def bytes_Table_l0 (fu : Nat) (s : Int) (x : Int) (h : List (Int)) (h1 : List (Int)) : Option ((Int × (Int × (List (Int) × List (Int)))) ⊕ ((List (Int) × List (Int)))) :=
  bif (decide (x < 8)) then
    need (decide (0 ≤ x)) <|
    (idx? (Int.fdiv 128 (2 ^ (min (x).toNat 64))) 256).bind fun q =>
    (h1)[q]?.bind fun r =>
    (bytes_halved fu s).bind fun r1 =>
    some (.inl (r1, ((IntKind.wrap .i64 (x + 1)), (h, (List.set h1 q s)))))
  else
    some (.inr (h, h1))
def bytes_Table_l0_it (fu : Nat)  (tt : (Int × (Int × (List (Int) × List (Int))))) : Option ((List (Int) × List (Int))) :=
  iter fu (fun tt => bytes_Table_l0 fu tt.1 tt.2.1 tt.2.2.1 tt.2.2.2) tt
def bytes_Table_l1 (fu : Nat) (x1 : Int) (x2 : Int) (h4 : List (Int)) (h5 : List (Int)) : Option ((Int × (List (Int) × List (Int))) ⊕ ((List (Int) × List (Int)))) :=
  bif (decide (x2 < (IntKind.wrap .i64 (1 * (2 ^ (min (x1).toNat 64)))))) then
    need (decide (0 ≤ x1)) <|
    need (decide (0 ≤ x1)) <|
    (idx? (IntKind.wrap .i64 (1 * (2 ^ (min (x1).toNat 64)))) 256).bind fun q1 =>
    (h5)[q1]?.bind fun r2 =>
    (idx? x2 256).bind fun q2 =>
    (h5)[q2]?.bind fun r3 =>
    (idx? (bitsI .or .i64 (IntKind.wrap .i64 (1 * (2 ^ (min (x1).toNat 64)))) x2) 256).bind fun q3 =>
    (h5)[q3]?.bind fun r4 =>
    some (.inl ((IntKind.wrap .i64 (x2 + 1)), (h4, (List.set h5 q3 (bitsI .xor .u32 r2 r3)))))
  else
    some (.inr (h4, h5))
def bytes_Table_l1_it (fu : Nat) (x1 : Int) (tt : (Int × (List (Int) × List (Int)))) : Option ((List (Int) × List (Int))) :=
  iter fu (fun tt => bytes_Table_l1 fu x1 tt.1 tt.2.1 tt.2.2) tt
def bytes_Table_l2 (fu : Nat) (x1 : Int) (h2 : List (Int)) (h3 : List (Int)) : Option ((Int × (List (Int) × List (Int))) ⊕ ((List (Int) × List (Int)))) :=
  bif (decide (x1 < 8)) then
    need (decide (0 ≤ x1)) <|
    (bytes_Table_l1_it fu x1 (0, (h2, h3))).bind fun o1 =>
    some (.inl ((IntKind.wrap .i64 (x1 + 1)), (o1.1, o1.2)))
  else
    some (.inr (h2, h3))
def bytes_Table_l2_it (fu : Nat)  (tt : (Int × (List (Int) × List (Int)))) : Option ((List (Int) × List (Int))) :=
  iter fu (fun tt => bytes_Table_l2 fu tt.1 tt.2.1 tt.2.2) tt
def bytes_Table (fu : Nat)  : Option (List (Int)) :=
  (bytes_Table_l0_it fu  (2197175160, (0, ((List.replicate (α := Int) 256 0), (List.replicate (α := Int) 256 0))))).bind fun o =>
  (bytes_Table_l2_it fu  (0, (o.1, o.2))).bind fun o2 =>
  need (Nat.beq o2.2.length 256) <|
  need (Nat.beq o2.1.length 256) <|
  need (Nat.beq o2.2.length 256) <|
  need (Nat.beq o2.2.length 256) <|
  some o2.2
def bytes_Table_fa : FnA := ⟨.two (.reg [(0, { ids := [100] })]) (.two (.reg [(0, { ids := [101] })]) (.two (.leaf) (.two (.two (.leaf) (.one (.loop ⟨[0, 1, 2, 6], ⟨(.cons (.own 1 100 0 0) (.cons (.own 1 101 0 0) (.cons (.p (.int .u32)) (.cons (.p (.int .i64)) .nil)))), [(100, false, (.rows 37 (.int .u32))), (101, false, (.rows 37 (.int .u32)))]⟩⟩ false [(0, ⟨[0, 1], ⟨(.cons (.own 1 100 0 0) (.cons (.own 1 101 0 0) .nil)), [(100, false, (.rows 37 (.int .u32))), (101, false, (.rows 37 (.int .u32)))]⟩⟩)] (.two (.leaf) (.two (.leaf) (.two (.one (.two (.leaf) (.two (.leaf) (.reg [(1, {  })])))) (.leaf))))))) (.two (.two (.leaf) (.one (.loop ⟨[0, 1, 16], ⟨(.cons (.own 1 100 0 0) (.cons (.own 1 101 0 0) (.cons (.p (.int .i64)) .nil))), [(100, false, (.rows 37 (.int .u32))), (101, false, (.rows 37 (.int .u32)))]⟩⟩ false [(2, ⟨[0, 1], ⟨(.cons (.own 1 100 0 0) (.cons (.own 1 101 0 0) .nil)), [(100, false, (.rows 37 (.int .u32))), (101, false, (.rows 37 (.int .u32)))]⟩⟩)] (.two (.leaf) (.two (.leaf) (.two (.one (.two (.leaf) (.two (.leaf) (.one (.loop ⟨[0, 1, 21], ⟨(.cons (.own 1 100 0 0) (.cons (.own 1 101 0 0) (.cons (.p (.int .i64)) .nil))), [(100, false, (.rows 37 (.int .u32))), (101, false, (.rows 37 (.int .u32)))]⟩⟩ false [(4, ⟨[0, 1], ⟨(.cons (.own 1 100 0 0) (.cons (.own 1 101 0 0) .nil)), [(100, false, (.rows 37 (.int .u32))), (101, false, (.rows 37 (.int .u32)))]⟩⟩)] (.two (.leaf) (.two (.leaf) (.two (.one (.leaf)) (.leaf))))))))) (.leaf))))))) (.leaf))))), ⟨.nil, []⟩, [⟨(.cons (.p (.arr 256 (.int .u32))) .nil), []⟩], [0]⟩
def bytes_Table_ft (fu : Nat) : FnT := ⟨10, ⟨.nil, []⟩, [⟨(.cons (.p (.arr 256 (.int .u32))) .nil), []⟩], fun t => bytes_Table fu ⟩
theorem bytes_Table_eq (fu : Nat) : ∀ t, evF Go.Proofs.Try.prog [bytes_halved_ft fu] fu Go.Proofs.Try.f10 bytes_Table_fa t = (bytes_Table_ft fu).spec t := fun t => by kernel_rfl
theorem bytes_Table_told (fu : Nat) : Told Go.Proofs.Try.prog (bytes_Table_ft fu) := told_of (allT_cons (bytes_halved_told fu) allT_nil) mixed Go.Proofs.Try.func10 (by kernel_rfl) (by kernel_rfl) (bytes_Table_eq fu)

def bytes_Uint_o0_l0 (fu : Nat) (n1 : Int) (h1 : List (UInt8)) : Option ((Int × List (UInt8)) ⊕ ((Int × List (UInt8)))) :=
  bif (decide (n1 > 127)) then
    (byte? (IntKind.wrap .u8 (IntKind.wrap .u64 ((Int.tmod n1 128) + 128)))).bind fun c =>
    need ((Nat.ble ((h1.length + 1) * 1) room) && (Nat.ble (h1.length + 1) room)) <|
    some (.inl ((IntKind.wrap .u64 (Int.tdiv n1 128)), (h1 ++ [c])))
  else
    some (.inr (n1, h1))
def bytes_Uint_o0_l0_it (fu : Nat)  (tt : (Int × List (UInt8))) : Option ((Int × List (UInt8))) :=
  iter fu (fun tt => bytes_Uint_o0_l0 fu tt.1 tt.2) tt
def bytes_Uint_o0 (fu : Nat) (n : Int) (h : List (UInt8)) : Option (List (UInt8)) :=
  (bytes_Uint_o0_l0_it fu  (n, h)).bind fun o =>
  (byte? (IntKind.wrap .u8 o.1)).bind fun c1 =>
  need ((Nat.ble ((o.2.length + 1) * 1) room) && (Nat.ble (o.2.length + 1) room)) <|
  some (o.2 ++ [c1])
def bytes_Uint_o0_fa : FnA := ⟨.two (.leaf) (.two (.one (.pre (.renum 0 100) (.loop ⟨[0, 1], ⟨(.cons (.slf 1 100) (.cons (.p (.int .u64)) .nil)), [(100, false, (.rows 5 .byte))]⟩⟩ false [(0, ⟨[0, 1], ⟨(.cons (.slf 1 100) (.cons (.p (.int .u64)) .nil)), [(100, false, (.rows 5 .byte))]⟩⟩)] (.two (.two (.leaf) (.leaf)) (.one (.reg [(5, { ids := [101] }), (6, { ids := [102] })])))))) (.two (.reg [(3, { ids := [103] }), (4, { ids := [104] })]) (.leaf))), ⟨(.cons (.slf 1 0) (.cons (.p (.int .u64)) .nil)), [(0, false, (.rows 5 .byte))]⟩, [⟨(.cons (.slf 1 1) .nil), [(1, false, (.rows 5 .byte))]⟩], [0]⟩
def bytes_Uint_o0_ft (fu : Nat) : FnT := ⟨60, ⟨(.cons (.slf 1 0) (.cons (.p (.int .u64)) .nil)), [(0, false, (.rows 5 .byte))]⟩, [⟨(.cons (.slf 1 1) .nil), [(1, false, (.rows 5 .byte))]⟩], fun t => bytes_Uint_o0 fu t.1 t.2⟩
theorem bytes_Uint_o0_eq (fu : Nat) : ∀ t, evF Go.Proofs.Try.prog [] fu Go.Proofs.Try.f60 bytes_Uint_o0_fa t = (bytes_Uint_o0_ft fu).spec t := fun t => by kernel_rfl
theorem bytes_Uint_o0_told (fu : Nat) : Told Go.Proofs.Try.prog (bytes_Uint_o0_ft fu) := told_of allT_nil mixed Go.Proofs.Try.func60 (by kernel_rfl) (by kernel_rfl) (bytes_Uint_o0_eq fu)

def call_uints_o0_l0 (fu : Nat) (l : List (Int)) (x : Int) (h1 : List (UInt8)) : Option ((Int × List (UInt8)) ⊕ (List (UInt8))) :=
  bif (decide (x < ((l.length : Nat) : Int))) then
    (idx? x l.length).bind fun q =>
    (l)[q]?.bind fun r =>
    (bytes_Uint_o0 fu (IntKind.wrap .u64 r) h1).bind fun r1 =>
    some (.inl ((IntKind.wrap .i64 (x + 1)), r1))
  else
    some (.inr h1)
def call_uints_o0_l0_it (fu : Nat) (l : List (Int)) (tt : (Int × List (UInt8))) : Option (List (UInt8)) :=
  iter fu (fun tt => call_uints_o0_l0 fu l tt.1 tt.2) tt
def call_uints_o0 (fu : Nat) (l : List (Int)) (h : List (UInt8)) : Option (List (UInt8)) :=
  (call_uints_o0_l0_it fu l (0, h)).bind fun o =>
  some o
def call_uints_o0_fa : FnA := ⟨.two (.leaf) (.two (.two (.leaf) (.one (.pre (.renum 0 100) (.loop ⟨[0, 9], ⟨(.cons (.slf 1 100) (.cons (.p (.int .i64)) .nil)), [(100, false, (.rows 5 .byte))]⟩⟩ false [(0, ⟨[0], ⟨(.cons (.slf 1 100) .nil), [(100, false, (.rows 5 .byte))]⟩⟩)] (.two (.leaf) (.two (.leaf) (.two (.one (.two (.leaf) (.reg [(3, { ids := [101], sh := [100] })]))) (.leaf)))))))) (.leaf)), ⟨(.cons (.slf 1 0) (.cons (.p (.sl (.int .i64))) .nil)), [(0, false, (.rows 5 .byte))]⟩, [⟨(.cons (.slf 1 1) .nil), [(1, false, (.rows 5 .byte))]⟩], [0]⟩
def call_uints_o0_ft (fu : Nat) : FnT := ⟨34, ⟨(.cons (.slf 1 0) (.cons (.p (.sl (.int .i64))) .nil)), [(0, false, (.rows 5 .byte))]⟩, [⟨(.cons (.slf 1 1) .nil), [(1, false, (.rows 5 .byte))]⟩], fun t => call_uints_o0 fu t.1 t.2⟩
theorem call_uints_o0_eq (fu : Nat) : ∀ t, evF Go.Proofs.Try.prog [bytes_Uint_o0_ft fu] fu Go.Proofs.Try.f34 call_uints_o0_fa t = (call_uints_o0_ft fu).spec t := fun t => by kernel_rfl
theorem call_uints_o0_told (fu : Nat) : Told Go.Proofs.Try.prog (call_uints_o0_ft fu) := told_of (allT_cons (bytes_Uint_o0_told fu) allT_nil) mixed Go.Proofs.Try.func34 (by kernel_rfl) (by kernel_rfl) (call_uints_o0_eq fu)

def slices_Grow__byte_byte_n0 (fu : Nat) (n : Int) : Option (List (UInt8)) :=
  bif (decide (n < 0)) then
    none
  else
    bif (decide ((IntKind.wrap .i64 (n - 0)) > 0)) then
      (upto? (IntKind.wrap .i64 (n - 0)) room).bind fun q =>
      need ((Nat.ble (q * 1) room) && (Nat.ble q room)) <|
      (upto? 0 (List.replicate (α := UInt8) q 0).length).bind fun q1 =>
      need (Nat.ble q1 (List.replicate (α := UInt8) q 0).length) <|
      some (List.take q1 (List.replicate (α := UInt8) q 0))
    else
      some []
def slices_Grow__byte_byte_n0_fa : FnA := ⟨.two (.leaf) (.two (.two (.leaf) (.leaf)) (.two (.two (.leaf) (.two (.leaf) (.two (.reg [(5, { ids := [100] })]) (.leaf)))) (.leaf))), ⟨(.cons (.nilp (.slice none 0 0)) (.cons (.p (.int .i64)) .nil)), []⟩, [⟨(.cons (.slf 1 0) .nil), [(0, false, (.rows 5 .byte))]⟩], [15]⟩
def slices_Grow__byte_byte_n0_ft (fu : Nat) : FnT := ⟨71, ⟨(.cons (.nilp (.slice none 0 0)) (.cons (.p (.int .i64)) .nil)), []⟩, [⟨(.cons (.slf 1 0) .nil), [(0, false, (.rows 5 .byte))]⟩], fun t => slices_Grow__byte_byte_n0 fu t⟩
theorem slices_Grow__byte_byte_n0_eq (fu : Nat) : ∀ t, evF Go.Proofs.Try.prog [] fu Go.Proofs.Try.f71 slices_Grow__byte_byte_n0_fa t = (slices_Grow__byte_byte_n0_ft fu).spec t := fun t => by kernel_rfl
theorem slices_Grow__byte_byte_n0_told (fu : Nat) : Told Go.Proofs.Try.prog (slices_Grow__byte_byte_n0_ft fu) := told_of allT_nil mixed Go.Proofs.Try.func71 (by kernel_rfl) (by kernel_rfl) (slices_Grow__byte_byte_n0_eq fu)

def slices_Concat__byte_byte_l0 (fu : Nat) (slices : List (List (UInt8))) (size : Int) (x : Int) : Option ((Int × Int) ⊕ (Int)) :=
  bif (decide (x < ((slices.length : Nat) : Int))) then
    (idx? x slices.length).bind fun q =>
    (slices)[q]?.bind fun r =>
    bif (decide ((IntKind.wrap .i64 (size + ((r.length : Nat) : Int))) < 0)) then
      none
    else
      some (.inl ((IntKind.wrap .i64 (size + ((r.length : Nat) : Int))), (IntKind.wrap .i64 (x + 1))))
  else
    some (.inr size)
def slices_Concat__byte_byte_l0_it (fu : Nat) (slices : List (List (UInt8))) (tt : (Int × Int)) : Option (Int) :=
  iter fu (fun tt => slices_Concat__byte_byte_l0 fu slices tt.1 tt.2) tt
def slices_Concat__byte_byte_l1 (fu : Nat) (slices : List (List (UInt8))) (x1 : Int) (h : List (UInt8)) : Option ((Int × List (UInt8)) ⊕ (List (UInt8))) :=
  bif (decide (x1 < ((slices.length : Nat) : Int))) then
    (idx? x1 slices.length).bind fun q1 =>
    (slices)[q1]?.bind fun r2 =>
    need ((Nat.ble ((h.length + r2.length) * 1) room) && (Nat.ble (h.length + r2.length) room)) <|
    some (.inl ((IntKind.wrap .i64 (x1 + 1)), (h ++ r2)))
  else
    some (.inr h)
def slices_Concat__byte_byte_l1_it (fu : Nat) (slices : List (List (UInt8))) (tt : (Int × List (UInt8))) : Option (List (UInt8)) :=
  iter fu (fun tt => slices_Concat__byte_byte_l1 fu slices tt.1 tt.2) tt
def slices_Concat__byte_byte (fu : Nat) (slices : List (List (UInt8))) : Option (List (UInt8)) :=
  (slices_Concat__byte_byte_l0_it fu slices (0, 0)).bind fun o =>
  (slices_Grow__byte_byte_n0 fu o).bind fun r1 =>
  (slices_Concat__byte_byte_l1_it fu slices (0, r1)).bind fun o1 =>
  some o1
def slices_Concat__byte_byte_fa : FnA := ⟨.two (.leaf) (.two (.leaf) (.two (.two (.leaf) (.one (.loop ⟨[3, 11], ⟨(.cons (.p (.int .i64)) (.cons (.p (.int .i64)) .nil)), []⟩⟩ false [(0, ⟨[3], ⟨(.cons (.p (.int .i64)) .nil), []⟩⟩)] (.two (.leaf) (.two (.leaf) (.two (.one (.two (.leaf) (.two (.leaf) (.two (.leaf) (.leaf))))) (.leaf))))))) (.two (.reg [(1, { ids := [100] })]) (.two (.two (.leaf) (.one (.loop ⟨[6, 27], ⟨(.cons (.slf 1 100) (.cons (.p (.int .i64)) .nil)), [(100, false, (.rows 5 .byte))]⟩⟩ false [(2, ⟨[6], ⟨(.cons (.slf 1 100) .nil), [(100, false, (.rows 5 .byte))]⟩⟩)] (.two (.leaf) (.two (.leaf) (.two (.one (.two (.leaf) (.reg [(2, { ids := [101] })]))) (.leaf))))))) (.leaf))))), ⟨(.cons (.p (.sl (.sl .byte))) .nil), []⟩, [⟨(.cons (.slf 1 0) .nil), [(0, false, (.rows 5 .byte))]⟩], [0]⟩
def slices_Concat__byte_byte_ft (fu : Nat) : FnT := ⟨61, ⟨(.cons (.p (.sl (.sl .byte))) .nil), []⟩, [⟨(.cons (.slf 1 0) .nil), [(0, false, (.rows 5 .byte))]⟩], fun t => slices_Concat__byte_byte fu t⟩
theorem slices_Concat__byte_byte_eq (fu : Nat) : ∀ t, evF Go.Proofs.Try.prog [slices_Grow__byte_byte_n0_ft fu] fu Go.Proofs.Try.f61 slices_Concat__byte_byte_fa t = (slices_Concat__byte_byte_ft fu).spec t := fun t => by kernel_rfl
theorem slices_Concat__byte_byte_told (fu : Nat) : Told Go.Proofs.Try.prog (slices_Concat__byte_byte_ft fu) := told_of (allT_cons (slices_Grow__byte_byte_n0_told fu) allT_nil) mixed Go.Proofs.Try.func61 (by kernel_rfl) (by kernel_rfl) (slices_Concat__byte_byte_eq fu)

def bytes_Blob_o0 (fu : Nat) (b : List (UInt8)) (h : List (UInt8)) : Option (List (UInt8)) :=
  (bytes_Uint_o0 fu (IntKind.wrap .u64 ((b.length : Nat) : Int)) h).bind fun r =>
  (slices_Concat__byte_byte fu [r, b]).bind fun r1 =>
  some r1
def bytes_Blob_o0_fa : FnA := ⟨.two (.leaf) (.two (.reg [(4, { ids := [100], sh := [0] }), (6, { ids := [101] }), (7, { ids := [102], md := [1], fn := 1 })]) (.leaf)), ⟨(.cons (.slf 1 0) (.cons (.p (.sl .byte)) .nil)), [(0, false, (.rows 5 .byte))]⟩, [⟨(.cons (.slf 1 1) .nil), [(1, false, (.rows 5 .byte))]⟩], [0]⟩
def bytes_Blob_o0_ft (fu : Nat) : FnT := ⟨35, ⟨(.cons (.slf 1 0) (.cons (.p (.sl .byte)) .nil)), [(0, false, (.rows 5 .byte))]⟩, [⟨(.cons (.slf 1 1) .nil), [(1, false, (.rows 5 .byte))]⟩], fun t => bytes_Blob_o0 fu t.1 t.2⟩
theorem bytes_Blob_o0_eq (fu : Nat) : ∀ t, evF Go.Proofs.Try.prog [bytes_Uint_o0_ft fu, slices_Concat__byte_byte_ft fu] fu Go.Proofs.Try.f35 bytes_Blob_o0_fa t = (bytes_Blob_o0_ft fu).spec t := fun t => by kernel_rfl
theorem bytes_Blob_o0_told (fu : Nat) : Told Go.Proofs.Try.prog (bytes_Blob_o0_ft fu) := told_of (allT_cons (bytes_Uint_o0_told fu) (allT_cons (slices_Concat__byte_byte_told fu) allT_nil)) mixed Go.Proofs.Try.func35 (by kernel_rfl) (by kernel_rfl) (bytes_Blob_o0_eq fu)

def bytes_Sum_l0 (fu : Nat) (b : List (UInt8)) (t : List (Int)) (s : Int) (x : Int) : Option ((Int × Int) ⊕ (Int)) :=
  bif (decide (x < ((b.length : Nat) : Int))) then
    (idx? x b.length).bind fun q =>
    (b)[q]?.bind fun r =>
    (idx? (bitsI .xor .u8 (IntKind.wrap .u8 s) ((r.toNat : Nat) : Int)) 256).bind fun q1 =>
    (t)[q1]?.bind fun r1 =>
    some (.inl ((bitsI .xor .u32 r1 (Int.fdiv s 256)), (IntKind.wrap .i64 (x + 1))))
  else
    some (.inr s)
def bytes_Sum_l0_it (fu : Nat) (b : List (UInt8)) (t : List (Int)) (tt : (Int × Int)) : Option (Int) :=
  iter fu (fun tt => bytes_Sum_l0 fu b t tt.1 tt.2) tt
def bytes_Sum (fu : Nat) (t : List (Int)) (b : List (UInt8)) : Option (Int) :=
  (bytes_Sum_l0_it fu b t (4294967295, 0)).bind fun o =>
  some (IntKind.wrap .u32 (4294967295 - o))
def bytes_Sum_fa : FnA := ⟨.two (.leaf) (.two (.two (.leaf) (.leaf)) (.two (.leaf) (.two (.two (.leaf) (.one (.loop ⟨[5, 11], ⟨(.cons (.p (.int .u32)) (.cons (.p (.int .i64)) .nil)), []⟩⟩ false [(0, ⟨[5], ⟨(.cons (.p (.int .u32)) .nil), []⟩⟩)] (.two (.leaf) (.two (.leaf) (.two (.one (.leaf)) (.leaf))))))) (.leaf)))), ⟨(.cons (.pt (.int .u32)) (.cons (.p (.sl .byte)) .nil)), []⟩, [⟨(.cons (.p (.int .u32)) .nil), []⟩], [0]⟩
def bytes_Sum_ft (fu : Nat) : FnT := ⟨40, ⟨(.cons (.pt (.int .u32)) (.cons (.p (.sl .byte)) .nil)), []⟩, [⟨(.cons (.p (.int .u32)) .nil), []⟩], fun t => bytes_Sum fu t.1 t.2⟩
theorem bytes_Sum_eq (fu : Nat) : ∀ t, evF Go.Proofs.Try.prog [] fu Go.Proofs.Try.f40 bytes_Sum_fa t = (bytes_Sum_ft fu).spec t := fun t => by kernel_rfl
theorem bytes_Sum_told (fu : Nat) : Told Go.Proofs.Try.prog (bytes_Sum_ft fu) := told_of allT_nil mixed Go.Proofs.Try.func40 (by kernel_rfl) (by kernel_rfl) (bytes_Sum_eq fu)

def bytes_Seal_l0 (fu : Nat) (b : List (UInt8)) (r : Int) (x : Int) (h : List (UInt8)) : Option ((Int × List (UInt8)) ⊕ (List (UInt8))) :=
  bif (decide (x < 4)) then
    need (decide (0 ≤ (IntKind.wrap .i64 (8 * x)))) <|
    (idx? (IntKind.wrap .i64 ((IntKind.wrap .i64 ((IntKind.wrap .i64 (((b.length : Nat) : Int) + 4)) - 1)) - x)) h.length).bind fun q1 =>
    (byte? (IntKind.wrap .u8 (Int.fdiv r (2 ^ (min ((IntKind.wrap .i64 (8 * x))).toNat 32))))).bind fun c =>
    (h)[q1]?.bind fun r1 =>
    some (.inl ((IntKind.wrap .i64 (x + 1)), (List.set h q1 c)))
  else
    some (.inr h)
def bytes_Seal_l0_it (fu : Nat) (b : List (UInt8)) (r : Int) (tt : (Int × List (UInt8))) : Option (List (UInt8)) :=
  iter fu (fun tt => bytes_Seal_l0 fu b r tt.1 tt.2) tt
def bytes_Seal (fu : Nat) (t : List (Int)) (b : List (UInt8)) : Option (List (UInt8)) :=
  (upto? (IntKind.wrap .i64 (((b.length : Nat) : Int) + 4)) room).bind fun m =>
  (upto? (IntKind.wrap .i64 (((b.length : Nat) : Int) + 4)) m).bind fun q =>
  need (Nat.ble (m * 1) room) <|
  (bytes_Sum fu t b).bind fun r =>
  (bytes_Seal_l0_it fu b r (0, (List.replicate (α := UInt8) q 0))).bind fun o =>
  some (splice o 0 (List.take o.length b))
def bytes_Seal_fa : FnA := ⟨.two (.leaf) (.two (.reg [(3, { ids := [100] })]) (.two (.reg [(2, {  })]) (.two (.two (.leaf) (.one (.loop ⟨[5, 15], ⟨(.cons (.slf 1 100) (.cons (.p (.int .i64)) .nil)), [(100, false, (.rows 5 .byte))]⟩⟩ false [(0, ⟨[5], ⟨(.cons (.slf 1 100) .nil), [(100, false, (.rows 5 .byte))]⟩⟩)] (.two (.leaf) (.two (.leaf) (.two (.one (.leaf)) (.leaf))))))) (.two (.leaf) (.leaf))))), ⟨(.cons (.pt (.int .u32)) (.cons (.p (.sl .byte)) .nil)), []⟩, [⟨(.cons (.slf 1 0) .nil), [(0, false, (.rows 5 .byte))]⟩], [0]⟩
def bytes_Seal_ft (fu : Nat) : FnT := ⟨14, ⟨(.cons (.pt (.int .u32)) (.cons (.p (.sl .byte)) .nil)), []⟩, [⟨(.cons (.slf 1 0) .nil), [(0, false, (.rows 5 .byte))]⟩], fun t => bytes_Seal fu t.1 t.2⟩
theorem bytes_Seal_eq (fu : Nat) : ∀ t, evF Go.Proofs.Try.prog [bytes_Sum_ft fu] fu Go.Proofs.Try.f14 bytes_Seal_fa t = (bytes_Seal_ft fu).spec t := fun t => by kernel_rfl
theorem bytes_Seal_told (fu : Nat) : Told Go.Proofs.Try.prog (bytes_Seal_ft fu) := told_of (allT_cons (bytes_Sum_told fu) allT_nil) mixed Go.Proofs.Try.func14 (by kernel_rfl) (by kernel_rfl) (bytes_Seal_eq fu)

def call_PutCall_l0 (fu : Nat) (c : (Int × (Int × (UInt8 × ((Int × Int) × (List UInt8 × ((Int × Int) × (List UInt8 × (Int × (Int × List (UInt8))))))))))) (x : Int) (h : List (UInt8)) : Option ((Int × List (UInt8)) ⊕ (List (UInt8))) :=
  bif (decide (x < 3)) then
    (idx? x 3).bind fun q =>
    ([c.2.2.2.2.1, c.2.2.2.2.2.2.1, c.2.2.2.2.2.2.2.2.2])[q]?.bind fun x1 =>
    (bytes_Blob_o0 fu x1 h).bind fun r2 =>
    some (.inl ((IntKind.wrap .i64 (x + 1)), r2))
  else
    some (.inr h)
def call_PutCall_l0_it (fu : Nat) (c : (Int × (Int × (UInt8 × ((Int × Int) × (List UInt8 × ((Int × Int) × (List UInt8 × (Int × (Int × List (UInt8))))))))))) (tt : (Int × List (UInt8))) : Option (List (UInt8)) :=
  iter fu (fun tt => call_PutCall_l0 fu c tt.1 tt.2) tt
def call_PutCall (fu : Nat) (t : List (Int)) (c : (Int × (Int × (UInt8 × ((Int × Int) × (List UInt8 × ((Int × Int) × (List UInt8 × (Int × (Int × List (UInt8))))))))))) : Option ((Int × List (UInt8))) :=
  (byte? ((c.2.2.1.toNat : Nat) : Int)).bind fun c1 =>
  (call_RightCall fu (c.1, (c.2.1, (c1, ((c.2.2.2.1.1, c.2.2.2.1.2), (c.2.2.2.2.1, ((c.2.2.2.2.2.1.1, c.2.2.2.2.2.1.2), (c.2.2.2.2.2.2.1, (c.2.2.2.2.2.2.2.1, (c.2.2.2.2.2.2.2.2.1, c.2.2.2.2.2.2.2.2.2)))))))))).bind fun r =>
  bif (!r) then
    some (179, [])
  else
    (call_uints_o0 fu [c.1, c.2.1, (IntKind.wrap .i64 ((c.2.2.1.toNat : Nat) : Int)), c.2.2.2.1.1, c.2.2.2.1.2, c.2.2.2.2.2.1.1, c.2.2.2.2.2.1.2, c.2.2.2.2.2.2.2.1, c.2.2.2.2.2.2.2.2.1] [(UInt8.ofNat 3)]).bind fun r1 =>
    need (Nat.ble c.2.2.2.2.1.length room) <|
    need (Nat.ble c.2.2.2.2.2.2.1.length room) <|
    (call_PutCall_l0_it fu c (0, r1)).bind fun o =>
    (bytes_Seal fu t o).bind fun r3 =>
    some (0, r3)
def call_PutCall_fa : FnA := ⟨.two (.reg [(0, { ids := [100] })]) (.two (.two (.reg [(1, {  })]) (.two (.leaf) (.leaf))) (.two (.reg [(0, { ids := [101] }), (24, { ids := [102] }), (25, { ids := [103], sh := [101], md := [0, 1], fn := 1 })]) (.two (.two (.reg [(2, { ids := [104] }), (5, { ids := [105] })]) (.one (.pre (.pure 46) (.loop ⟨[6, 47], ⟨(.cons (.slf 1 103) (.cons (.p (.int .i64)) .nil)), [(103, false, (.rows 5 .byte))]⟩⟩ false [(0, ⟨[6], ⟨(.cons (.slf 1 103) .nil), [(103, false, (.rows 5 .byte))]⟩⟩)] (.two (.leaf) (.two (.leaf) (.two (.one (.two (.leaf) (.reg [(2, { ids := [106], sh := [103], fn := 2 })]))) (.leaf)))))))) (.two (.reg [(2, { ids := [107], md := [0, 1], fn := 3 })]) (.leaf))))), ⟨(.cons (.pt (.int .u32)) (.cons (.p (.pair (.int .i64) (.pair (.int .i64) (.pair .byte (.pair (.pair (.int .i64) (.int .i64)) (.pair .str (.pair (.pair (.int .i64) (.int .i64)) (.pair .str (.pair (.int .i64) (.pair (.int .i64) (.sl .byte))))))))))) .nil)), []⟩, [⟨(.cons (.slf 1 0) (.cons (.p (.int .i64)) .nil)), [(0, false, (.rows 5 .byte))]⟩], [15, 0]⟩
def call_PutCall_ft (fu : Nat) : FnT := ⟨11, ⟨(.cons (.pt (.int .u32)) (.cons (.p (.pair (.int .i64) (.pair (.int .i64) (.pair .byte (.pair (.pair (.int .i64) (.int .i64)) (.pair .str (.pair (.pair (.int .i64) (.int .i64)) (.pair .str (.pair (.int .i64) (.pair (.int .i64) (.sl .byte))))))))))) .nil)), []⟩, [⟨(.cons (.slf 1 0) (.cons (.p (.int .i64)) .nil)), [(0, false, (.rows 5 .byte))]⟩], fun t => call_PutCall fu t.1 t.2⟩
theorem call_PutCall_eq (fu : Nat) : ∀ t, evF Go.Proofs.Try.prog [call_RightCall_ft fu, call_uints_o0_ft fu, bytes_Blob_o0_ft fu, bytes_Seal_ft fu] fu Go.Proofs.Try.f11 call_PutCall_fa t = (call_PutCall_ft fu).spec t := fun t => by kernel_rfl
theorem call_PutCall_told (fu : Nat) : Told Go.Proofs.Try.prog (call_PutCall_ft fu) := told_of (allT_cons (call_RightCall_told fu) (allT_cons (call_uints_o0_told fu) (allT_cons (bytes_Blob_o0_told fu) (allT_cons (bytes_Seal_told fu) allT_nil)))) mixed Go.Proofs.Try.func11 (by kernel_rfl) (by kernel_rfl) (call_PutCall_eq fu)

def low_SameBytes (fu : Nat) (a : List (UInt8)) (b : List (UInt8)) : Option (Bool) :=
  some (a == b)
def low_SameBytes_fa : FnA := ⟨.two (.leaf) (.leaf), ⟨(.cons (.p (.sl .byte)) (.cons (.p (.sl .byte)) .nil)), []⟩, [⟨(.cons (.p .bool) .nil), []⟩], [0]⟩
def low_SameBytes_ft (fu : Nat) : FnT := ⟨19, ⟨(.cons (.p (.sl .byte)) (.cons (.p (.sl .byte)) .nil)), []⟩, [⟨(.cons (.p .bool) .nil), []⟩], fun t => low_SameBytes fu t.1 t.2⟩
theorem low_SameBytes_eq (fu : Nat) : ∀ t, evF Go.Proofs.Try.prog [] fu Go.Proofs.Try.f19 low_SameBytes_fa t = (low_SameBytes_ft fu).spec t := fun t => by kernel_rfl
theorem low_SameBytes_told (fu : Nat) : Told Go.Proofs.Try.prog (low_SameBytes_ft fu) := told_of allT_nil mixed Go.Proofs.Try.func19 (by kernel_rfl) (by kernel_rfl) (low_SameBytes_eq fu)

def law21_awake (fu : Nat)  : Option (Bool) :=
  (bytes_Table fu).bind fun r =>
  need (Nat.beq (List.replicate (α := Int) 256 0).length 256) <|
  need (Nat.beq r.length 256) <|
  (call_PutCall fu r (0, (7, ((UInt8.ofNat 11), ((1, 1), ([], ((0, 0), ([], (0, (0, [])))))))))).bind fun r1 =>
  bif (r1.1 == 0) then
    bif (((r1.2.length : Nat) : Int) == 17) then
      (upto? (IntKind.wrap .i64 (((r1.2.length : Nat) : Int) - 4)) r1.2.length).bind fun q =>
      need (Nat.ble (0 + q) r1.2.length) <|
      (low_SameBytes fu (List.take q (List.drop 0 r1.2)) [(UInt8.ofNat 3), (UInt8.ofNat 0), (UInt8.ofNat 7), (UInt8.ofNat 11), (UInt8.ofNat 1), (UInt8.ofNat 1), (UInt8.ofNat 0), (UInt8.ofNat 0), (UInt8.ofNat 0), (UInt8.ofNat 0), (UInt8.ofNat 0), (UInt8.ofNat 0), (UInt8.ofNat 0)]).bind fun r2 =>
      bif r2 then
        (call_RightCall fu (0, (7, ((UInt8.ofNat 12), ((1, 1), ([], ((0, 0), ([], (0, (0, [])))))))))).bind fun r3 =>
        some (!r3)
      else
        some false
    else
      some false
  else
    some false
def law21_awake_fa : FnA := ⟨.two (.leaf) (.two (.reg [(0, {  }), (1, { ids := [100] })]) (.two (.reg [(2, { ids := [101], md := [1, 0], fn := 1 })]) (.two (.reg [(13, { ids := [102] }), (14, { md := [2, 2], fn := 2 }), (19, { fn := 3 })]) (.leaf)))), ⟨.nil, []⟩, [⟨(.cons (.p .bool) .nil), []⟩], [0]⟩
def law21_awake_ft (fu : Nat) : FnT := ⟨9, ⟨.nil, []⟩, [⟨(.cons (.p .bool) .nil), []⟩], fun t => law21_awake fu ⟩
theorem law21_awake_eq (fu : Nat) : ∀ t, evF Go.Proofs.Try.prog [bytes_Table_ft fu, call_PutCall_ft fu, low_SameBytes_ft fu, call_RightCall_ft fu] fu Go.Proofs.Try.f9 law21_awake_fa t = (law21_awake_ft fu).spec t := fun t => by kernel_rfl
theorem law21_awake_told (fu : Nat) : Told Go.Proofs.Try.prog (law21_awake_ft fu) := told_of (allT_cons (bytes_Table_told fu) (allT_cons (call_PutCall_told fu) (allT_cons (low_SameBytes_told fu) (allT_cons (call_RightCall_told fu) allT_nil)))) mixed Go.Proofs.Try.func9 (by kernel_rfl) (by kernel_rfl) (law21_awake_eq fu)

def law21_CallOdd (fu : Nat) (c : (Int × (Int × (UInt8 × ((Int × Int) × (List UInt8 × ((Int × Int) × (List UInt8 × (Int × (Int × List (UInt8))))))))))) (which : Int) : Option (Bool) :=
  Option.bind (α := ((Bool × (Int × (Int × (Int × (Int × (Int × (List UInt8 × (Int × (Int × (List UInt8 × (Int × (Int × List (UInt8))))))))))))))) (
    (byte? ((c.2.2.1.toNat : Nat) : Int)).bind fun c1 =>
    (law21_Huge fu (c.1, (c.2.1, (c1, ((c.2.2.2.1.1, c.2.2.2.1.2), (c.2.2.2.2.1, ((c.2.2.2.2.2.1.1, c.2.2.2.2.2.1.2), (c.2.2.2.2.2.2.1, (c.2.2.2.2.2.2.2.1, (c.2.2.2.2.2.2.2.2.1, c.2.2.2.2.2.2.2.2.2))))))))) (0, (0, (0, ((0, 0), (false, (0, ([], ([], (false, 0)))))))))).bind fun r =>
    bif r then
      some (true, (c.1, (c.2.1, (((c.2.2.1.toNat : Nat) : Int), (c.2.2.2.1.1, (c.2.2.2.1.2, (c.2.2.2.2.1, (c.2.2.2.2.2.1.1, (c.2.2.2.2.2.1.2, (c.2.2.2.2.2.2.1, (c.2.2.2.2.2.2.2.1, (c.2.2.2.2.2.2.2.2.1, c.2.2.2.2.2.2.2.2.2))))))))))))
    else
      (byte? ((c.2.2.1.toNat : Nat) : Int)).bind fun c2 =>
      (call_RightCall fu (c.1, (c.2.1, (c2, ((c.2.2.2.1.1, c.2.2.2.1.2), (c.2.2.2.2.1, ((c.2.2.2.2.2.1.1, c.2.2.2.2.2.1.2), (c.2.2.2.2.2.2.1, (c.2.2.2.2.2.2.2.1, (c.2.2.2.2.2.2.2.2.1, c.2.2.2.2.2.2.2.2.2)))))))))).bind fun r1 =>
      some ((!r1), (c.1, (c.2.1, (((c.2.2.1.toNat : Nat) : Int), (c.2.2.2.1.1, (c.2.2.2.1.2, (c.2.2.2.2.1, (c.2.2.2.2.2.1.1, (c.2.2.2.2.2.1.2, (c.2.2.2.2.2.2.1, (c.2.2.2.2.2.2.2.1, (c.2.2.2.2.2.2.2.2.1, c.2.2.2.2.2.2.2.2.2))))))))))))) fun o =>
  bif o.1 then
    (law21_awake fu).bind fun r2 =>
    some r2
  else
    Option.bind (α := ((Int × (Int × (Int × (Int × (Int × (List UInt8 × (Int × (Int × (List UInt8 × (Int × (Int × List (UInt8)))))))))))))) (
      bif ((Int.tmod which 8) == 0) then
        some (16, (o.2.2.1, (o.2.2.2.1, (o.2.2.2.2.1, (o.2.2.2.2.2.1, (o.2.2.2.2.2.2.1, (o.2.2.2.2.2.2.2.1, (o.2.2.2.2.2.2.2.2.1, (o.2.2.2.2.2.2.2.2.2.1, (o.2.2.2.2.2.2.2.2.2.2.1, (o.2.2.2.2.2.2.2.2.2.2.2.1, o.2.2.2.2.2.2.2.2.2.2.2.2)))))))))))
      else
        Option.bind (α := ((Int × (Int × (Int × (Int × (Int × (List UInt8 × (Int × (Int × (List UInt8 × (Int × (Int × List (UInt8)))))))))))))) (
          bif ((Int.tmod which 8) == 1) then
            some (o.2.1, (0, (o.2.2.2.1, (o.2.2.2.2.1, (o.2.2.2.2.2.1, (o.2.2.2.2.2.2.1, (o.2.2.2.2.2.2.2.1, (o.2.2.2.2.2.2.2.2.1, (o.2.2.2.2.2.2.2.2.2.1, (o.2.2.2.2.2.2.2.2.2.2.1, (o.2.2.2.2.2.2.2.2.2.2.2.1, o.2.2.2.2.2.2.2.2.2.2.2.2)))))))))))
          else
            Option.bind (α := ((Int × (Int × (Int × (Int × (Int × (List UInt8 × (Int × (Int × (List UInt8 × (Int × (Int × List (UInt8)))))))))))))) (
              bif ((Int.tmod which 8) == 2) then
                some (o.2.1, (o.2.2.1, ((IntKind.wrap .u8 (o.2.2.2.1 + 12)), (o.2.2.2.2.1, (o.2.2.2.2.2.1, (o.2.2.2.2.2.2.1, (o.2.2.2.2.2.2.2.1, (o.2.2.2.2.2.2.2.2.1, (o.2.2.2.2.2.2.2.2.2.1, (o.2.2.2.2.2.2.2.2.2.2.1, (o.2.2.2.2.2.2.2.2.2.2.2.1, o.2.2.2.2.2.2.2.2.2.2.2.2)))))))))))
              else
                Option.bind (α := ((Int × (Int × (Int × (Int × (Int × (List UInt8 × (Int × (Int × (List UInt8 × (Int × (Int × List (UInt8)))))))))))))) (
                  bif ((Int.tmod which 8) == 3) then
                    some (o.2.1, (o.2.2.1, (o.2.2.2.1, (501, (o.2.2.2.2.2.1, (o.2.2.2.2.2.2.1, (o.2.2.2.2.2.2.2.1, (o.2.2.2.2.2.2.2.2.1, (o.2.2.2.2.2.2.2.2.2.1, (o.2.2.2.2.2.2.2.2.2.2.1, (o.2.2.2.2.2.2.2.2.2.2.2.1, o.2.2.2.2.2.2.2.2.2.2.2.2)))))))))))
                  else
                    Option.bind (α := ((Int × (Int × (Int × (Int × (Int × (List UInt8 × (Int × (Int × (List UInt8 × (Int × (Int × List (UInt8)))))))))))))) (
                      bif ((Int.tmod which 8) == 4) then
                        some (o.2.1, (o.2.2.1, (o.2.2.2.1, (o.2.2.2.2.1, (o.2.2.2.2.2.1, (o.2.2.2.2.2.2.1, (o.2.2.2.2.2.2.2.1, ((-1), (o.2.2.2.2.2.2.2.2.2.1, (o.2.2.2.2.2.2.2.2.2.2.1, (o.2.2.2.2.2.2.2.2.2.2.2.1, o.2.2.2.2.2.2.2.2.2.2.2.2)))))))))))
                      else
                        Option.bind (α := ((Int × (Int × (Int × (Int × (Int × (List UInt8 × (Int × (Int × (List UInt8 × (Int × (Int × List (UInt8)))))))))))))) (
                          bif ((Int.tmod which 8) == 5) then
                            some (o.2.1, (o.2.2.1, (o.2.2.2.1, (o.2.2.2.2.1, (o.2.2.2.2.2.1, (o.2.2.2.2.2.2.1, (o.2.2.2.2.2.2.2.1, (o.2.2.2.2.2.2.2.2.1, (o.2.2.2.2.2.2.2.2.2.1, (2147483649, (o.2.2.2.2.2.2.2.2.2.2.2.1, o.2.2.2.2.2.2.2.2.2.2.2.2)))))))))))
                          else
                            Option.bind (α := ((Int × (Int × (Int × (Int × (Int × (List UInt8 × (Int × (Int × (List UInt8 × (Int × (Int × List (UInt8)))))))))))))) (
                              bif ((Int.tmod which 8) == 6) then
                                some (o.2.1, (o.2.2.1, (o.2.2.2.1, (o.2.2.2.2.1, (o.2.2.2.2.2.1, (o.2.2.2.2.2.2.1, (o.2.2.2.2.2.2.2.1, (o.2.2.2.2.2.2.2.2.1, (o.2.2.2.2.2.2.2.2.2.1, (o.2.2.2.2.2.2.2.2.2.2.1, ((-1), o.2.2.2.2.2.2.2.2.2.2.2.2)))))))))))
                              else
                                some (o.2.1, (o.2.2.1, (o.2.2.2.1, (o.2.2.2.2.1, (o.2.2.2.2.2.1, ((List.replicate (α := UInt8) 101 0), (o.2.2.2.2.2.2.2.1, (o.2.2.2.2.2.2.2.2.1, (o.2.2.2.2.2.2.2.2.2.1, (o.2.2.2.2.2.2.2.2.2.2.1, (o.2.2.2.2.2.2.2.2.2.2.2.1, o.2.2.2.2.2.2.2.2.2.2.2.2)))))))))))) fun o1 =>
                            some (o1.1, (o1.2.1, (o1.2.2.1, (o1.2.2.2.1, (o1.2.2.2.2.1, (o1.2.2.2.2.2.1, (o1.2.2.2.2.2.2.1, (o1.2.2.2.2.2.2.2.1, (o1.2.2.2.2.2.2.2.2.1, (o1.2.2.2.2.2.2.2.2.2.1, (o1.2.2.2.2.2.2.2.2.2.2.1, o1.2.2.2.2.2.2.2.2.2.2.2)))))))))))) fun o2 =>
                        some (o2.1, (o2.2.1, (o2.2.2.1, (o2.2.2.2.1, (o2.2.2.2.2.1, (o2.2.2.2.2.2.1, (o2.2.2.2.2.2.2.1, (o2.2.2.2.2.2.2.2.1, (o2.2.2.2.2.2.2.2.2.1, (o2.2.2.2.2.2.2.2.2.2.1, (o2.2.2.2.2.2.2.2.2.2.2.1, o2.2.2.2.2.2.2.2.2.2.2.2)))))))))))) fun o3 =>
                    some (o3.1, (o3.2.1, (o3.2.2.1, (o3.2.2.2.1, (o3.2.2.2.2.1, (o3.2.2.2.2.2.1, (o3.2.2.2.2.2.2.1, (o3.2.2.2.2.2.2.2.1, (o3.2.2.2.2.2.2.2.2.1, (o3.2.2.2.2.2.2.2.2.2.1, (o3.2.2.2.2.2.2.2.2.2.2.1, o3.2.2.2.2.2.2.2.2.2.2.2)))))))))))) fun o4 =>
                some (o4.1, (o4.2.1, (o4.2.2.1, (o4.2.2.2.1, (o4.2.2.2.2.1, (o4.2.2.2.2.2.1, (o4.2.2.2.2.2.2.1, (o4.2.2.2.2.2.2.2.1, (o4.2.2.2.2.2.2.2.2.1, (o4.2.2.2.2.2.2.2.2.2.1, (o4.2.2.2.2.2.2.2.2.2.2.1, o4.2.2.2.2.2.2.2.2.2.2.2)))))))))))) fun o5 =>
            some (o5.1, (o5.2.1, (o5.2.2.1, (o5.2.2.2.1, (o5.2.2.2.2.1, (o5.2.2.2.2.2.1, (o5.2.2.2.2.2.2.1, (o5.2.2.2.2.2.2.2.1, (o5.2.2.2.2.2.2.2.2.1, (o5.2.2.2.2.2.2.2.2.2.1, (o5.2.2.2.2.2.2.2.2.2.2.1, o5.2.2.2.2.2.2.2.2.2.2.2)))))))))))) fun o6 =>
        some (o6.1, (o6.2.1, (o6.2.2.1, (o6.2.2.2.1, (o6.2.2.2.2.1, (o6.2.2.2.2.2.1, (o6.2.2.2.2.2.2.1, (o6.2.2.2.2.2.2.2.1, (o6.2.2.2.2.2.2.2.2.1, (o6.2.2.2.2.2.2.2.2.2.1, (o6.2.2.2.2.2.2.2.2.2.2.1, o6.2.2.2.2.2.2.2.2.2.2.2)))))))))))) fun o7 =>
    (bytes_Table fu).bind fun r3 =>
    need (Nat.beq (List.replicate (α := Int) 256 0).length 256) <|
    need (Nat.beq r3.length 256) <|
    (byte? o7.2.2.1).bind fun c3 =>
    (call_PutCall fu r3 (o7.1, (o7.2.1, (c3, ((o7.2.2.2.1, o7.2.2.2.2.1), (o7.2.2.2.2.2.1, ((o7.2.2.2.2.2.2.1, o7.2.2.2.2.2.2.2.1), (o7.2.2.2.2.2.2.2.2.1, (o7.2.2.2.2.2.2.2.2.2.1, (o7.2.2.2.2.2.2.2.2.2.2.1, o7.2.2.2.2.2.2.2.2.2.2.2)))))))))).bind fun r4 =>
    (byte? o7.2.2.1).bind fun c4 =>
    (call_RightCall fu (o7.1, (o7.2.1, (c4, ((o7.2.2.2.1, o7.2.2.2.2.1), (o7.2.2.2.2.2.1, ((o7.2.2.2.2.2.2.1, o7.2.2.2.2.2.2.2.1), (o7.2.2.2.2.2.2.2.2.1, (o7.2.2.2.2.2.2.2.2.2.1, (o7.2.2.2.2.2.2.2.2.2.2.1, o7.2.2.2.2.2.2.2.2.2.2.2)))))))))).bind fun r5 =>
    bif (!r5) then
      bif (r4.1 == 179) then
        (law21_awake fu).bind fun r6 =>
        some r6
      else
        some false
    else
      some false
def law21_CallOdd_fa : FnA := ⟨.two (.reg [(0, { ids := [100] })]) (.two (.two (.join ⟨[2, 15], ⟨(.cons (.own 0 100 0 0) (.cons (.p .bool) .nil)), [(100, false, (.vars (.cons (.p (.int .i64)) (.cons (.p (.int .i64)) (.cons (.p (.int .u8)) (.cons (.p (.int .i64)) (.cons (.p (.int .i64)) (.cons (.p .str) (.cons (.p (.int .i64)) (.cons (.p (.int .i64)) (.cons (.p .str) (.cons (.p (.int .i64)) (.cons (.p (.int .i64)) (.cons (.p (.sl .byte)) .nil))))))))))))))]⟩⟩ false [] (.reg [(2, {  }), (5, { fn := 1 })])) (.two (.two (.reg [(0, { fn := 2 })]) (.leaf)) (.leaf))) (.two (.two (.leaf) (.one (.two (.leaf) (.join ⟨[2], ⟨(.cons (.own 0 100 0 0) .nil), [(100, false, (.vars (.cons (.p (.int .i64)) (.cons (.p (.int .i64)) (.cons (.p (.int .u8)) (.cons (.p (.int .i64)) (.cons (.p (.int .i64)) (.cons (.p .str) (.cons (.p (.int .i64)) (.cons (.p (.int .i64)) (.cons (.p .str) (.cons (.p (.int .i64)) (.cons (.p (.int .i64)) (.cons (.p (.sl .byte)) .nil))))))))))))))]⟩⟩ false [] (.two (.leaf) (.two (.leaf) (.join ⟨[2], ⟨(.cons (.own 0 100 0 0) .nil), [(100, false, (.vars (.cons (.p (.int .i64)) (.cons (.p (.int .i64)) (.cons (.p (.int .u8)) (.cons (.p (.int .i64)) (.cons (.p (.int .i64)) (.cons (.p .str) (.cons (.p (.int .i64)) (.cons (.p (.int .i64)) (.cons (.p .str) (.cons (.p (.int .i64)) (.cons (.p (.int .i64)) (.cons (.p (.sl .byte)) .nil))))))))))))))]⟩⟩ false [] (.two (.leaf) (.two (.leaf) (.join ⟨[2], ⟨(.cons (.own 0 100 0 0) .nil), [(100, false, (.vars (.cons (.p (.int .i64)) (.cons (.p (.int .i64)) (.cons (.p (.int .u8)) (.cons (.p (.int .i64)) (.cons (.p (.int .i64)) (.cons (.p .str) (.cons (.p (.int .i64)) (.cons (.p (.int .i64)) (.cons (.p .str) (.cons (.p (.int .i64)) (.cons (.p (.int .i64)) (.cons (.p (.sl .byte)) .nil))))))))))))))]⟩⟩ false [] (.two (.leaf) (.two (.leaf) (.join ⟨[2], ⟨(.cons (.own 0 100 0 0) .nil), [(100, false, (.vars (.cons (.p (.int .i64)) (.cons (.p (.int .i64)) (.cons (.p (.int .u8)) (.cons (.p (.int .i64)) (.cons (.p (.int .i64)) (.cons (.p .str) (.cons (.p (.int .i64)) (.cons (.p (.int .i64)) (.cons (.p .str) (.cons (.p (.int .i64)) (.cons (.p (.int .i64)) (.cons (.p (.sl .byte)) .nil))))))))))))))]⟩⟩ false [] (.two (.leaf) (.two (.leaf) (.join ⟨[2], ⟨(.cons (.own 0 100 0 0) .nil), [(100, false, (.vars (.cons (.p (.int .i64)) (.cons (.p (.int .i64)) (.cons (.p (.int .u8)) (.cons (.p (.int .i64)) (.cons (.p (.int .i64)) (.cons (.p .str) (.cons (.p (.int .i64)) (.cons (.p (.int .i64)) (.cons (.p .str) (.cons (.p (.int .i64)) (.cons (.p (.int .i64)) (.cons (.p (.sl .byte)) .nil))))))))))))))]⟩⟩ false [] (.two (.leaf) (.two (.leaf) (.join ⟨[2], ⟨(.cons (.own 0 100 0 0) .nil), [(100, false, (.vars (.cons (.p (.int .i64)) (.cons (.p (.int .i64)) (.cons (.p (.int .u8)) (.cons (.p (.int .i64)) (.cons (.p (.int .i64)) (.cons (.p .str) (.cons (.p (.int .i64)) (.cons (.p (.int .i64)) (.cons (.p .str) (.cons (.p (.int .i64)) (.cons (.p (.int .i64)) (.cons (.p (.sl .byte)) .nil))))))))))))))]⟩⟩ false [] (.two (.leaf) (.two (.leaf) (.join ⟨[2], ⟨(.cons (.own 0 100 0 0) .nil), [(100, false, (.vars (.cons (.p (.int .i64)) (.cons (.p (.int .i64)) (.cons (.p (.int .u8)) (.cons (.p (.int .i64)) (.cons (.p (.int .i64)) (.cons (.p .str) (.cons (.p (.int .i64)) (.cons (.p (.int .i64)) (.cons (.p .str) (.cons (.p (.int .i64)) (.cons (.p (.int .i64)) (.cons (.p (.sl .byte)) .nil))))))))))))))]⟩⟩ false [] (.two (.leaf) (.reg [(0, { ids := [101] })])))))))))))))))))))))))) (.two (.reg [(0, { fn := 3 }), (1, { ids := [102] })]) (.two (.reg [(1, { ids := [103], md := [1, 0], fn := 4 })]) (.two (.reg [(1, { fn := 1 }), (8, { fn := 2 })]) (.leaf)))))), ⟨(.cons (.p (.pair (.int .i64) (.pair (.int .i64) (.pair .byte (.pair (.pair (.int .i64) (.int .i64)) (.pair .str (.pair (.pair (.int .i64) (.int .i64)) (.pair .str (.pair (.int .i64) (.pair (.int .i64) (.sl .byte))))))))))) (.cons (.p (.int .u8)) .nil)), []⟩, [⟨(.cons (.p .bool) .nil), []⟩], [0]⟩
def law21_CallOdd_ft (fu : Nat) : FnT := ⟨3, ⟨(.cons (.p (.pair (.int .i64) (.pair (.int .i64) (.pair .byte (.pair (.pair (.int .i64) (.int .i64)) (.pair .str (.pair (.pair (.int .i64) (.int .i64)) (.pair .str (.pair (.int .i64) (.pair (.int .i64) (.sl .byte))))))))))) (.cons (.p (.int .u8)) .nil)), []⟩, [⟨(.cons (.p .bool) .nil), []⟩], fun t => law21_CallOdd fu t.1 t.2⟩
theorem law21_CallOdd_eq (fu : Nat) : ∀ t, evF Go.Proofs.Try.prog [law21_Huge_ft fu, call_RightCall_ft fu, law21_awake_ft fu, bytes_Table_ft fu, call_PutCall_ft fu] fu Go.Proofs.Try.f3 law21_CallOdd_fa t = (law21_CallOdd_ft fu).spec t := fun t => by kernel_rfl
theorem law21_CallOdd_told (fu : Nat) : Told Go.Proofs.Try.prog (law21_CallOdd_ft fu) := told_of (allT_cons (law21_Huge_told fu) (allT_cons (call_RightCall_told fu) (allT_cons (law21_awake_told fu) (allT_cons (bytes_Table_told fu) (allT_cons (call_PutCall_told fu) allT_nil))))) mixed Go.Proofs.Try.func3 (by kernel_rfl) (by kernel_rfl) (law21_CallOdd_eq fu)

def slices_Clone__byte_byte (fu : Nat) (s : List (UInt8)) : Option (List (UInt8)) :=
  nilQ s.length fun isNil =>
  bif isNil then
    some []
  else
    need ((Nat.ble ((0 + s.length) * 1) room) && (Nat.ble (0 + s.length) room)) <|
    some s
def slices_Clone__byte_byte_fa : FnA := ⟨.two (.leaf) (.two (.two (.leaf) (.two (.leaf) (.leaf))) (.two (.reg [(0, { ids := [100] }), (2, { ids := [101] })]) (.leaf))), ⟨(.cons (.p (.sl .byte)) .nil), []⟩, [⟨(.cons (.slf 1 0) .nil), [(0, false, (.rows 5 .byte))]⟩], [15]⟩
def slices_Clone__byte_byte_ft (fu : Nat) : FnT := ⟨36, ⟨(.cons (.p (.sl .byte)) .nil), []⟩, [⟨(.cons (.slf 1 0) .nil), [(0, false, (.rows 5 .byte))]⟩], fun t => slices_Clone__byte_byte fu t⟩
theorem slices_Clone__byte_byte_eq (fu : Nat) : ∀ t, evF Go.Proofs.Try.prog [] fu Go.Proofs.Try.f36 slices_Clone__byte_byte_fa t = (slices_Clone__byte_byte_ft fu).spec t := fun t => by kernel_rfl
theorem slices_Clone__byte_byte_told (fu : Nat) : Told Go.Proofs.Try.prog (slices_Clone__byte_byte_ft fu) := told_of allT_nil mixed Go.Proofs.Try.func36 (by kernel_rfl) (by kernel_rfl) (slices_Clone__byte_byte_eq fu)

def bytes_Unseal (fu : Nat) (t : List (Int)) (b : List (UInt8)) : Option ((List (UInt8) × Int)) :=
  bif (decide (((b.length : Nat) : Int) < 4)) then
    some ([], 11)
  else
    (upto? (IntKind.wrap .i64 (((b.length : Nat) : Int) - 4)) b.length).bind fun q =>
    (slices_Clone__byte_byte fu (List.take q b)).bind fun r =>
    (bytes_Seal fu t r).bind fun r1 =>
    bif (!(r1 == b)) then
      some ([], 12)
    else
      some (r, 0)
def bytes_Unseal_fa : FnA := ⟨.two (.leaf) (.two (.two (.leaf) (.two (.leaf) (.leaf))) (.two (.reg [(5, { ids := [100] })]) (.two (.two (.reg [(2, { ids := [101], md := [0, 1], fn := 1 })]) (.two (.leaf) (.leaf))) (.leaf)))), ⟨(.cons (.pt (.int .u32)) (.cons (.p (.sl .byte)) .nil)), []⟩, [⟨(.cons (.p (.sl .byte)) (.cons (.p (.int .i64)) .nil)), []⟩], [1, 0]⟩
def bytes_Unseal_ft (fu : Nat) : FnT := ⟨12, ⟨(.cons (.pt (.int .u32)) (.cons (.p (.sl .byte)) .nil)), []⟩, [⟨(.cons (.p (.sl .byte)) (.cons (.p (.int .i64)) .nil)), []⟩], fun t => bytes_Unseal fu t.1 t.2⟩
theorem bytes_Unseal_eq (fu : Nat) : ∀ t, evF Go.Proofs.Try.prog [slices_Clone__byte_byte_ft fu, bytes_Seal_ft fu] fu Go.Proofs.Try.f12 bytes_Unseal_fa t = (bytes_Unseal_ft fu).spec t := fun t => by kernel_rfl
theorem bytes_Unseal_told (fu : Nat) : Told Go.Proofs.Try.prog (bytes_Unseal_ft fu) := told_of (allT_cons (slices_Clone__byte_byte_told fu) (allT_cons (bytes_Seal_told fu) allT_nil)) mixed Go.Proofs.Try.func12 (by kernel_rfl) (by kernel_rfl) (bytes_Unseal_eq fu)

def call_begin (fu : Nat) (t : List (Int)) (b : List (UInt8)) (kind : Int) : Option (Int ⊕ (Int × (List (UInt8) × (Int × Bool)))) :=
  (bytes_Unseal fu t b).bind fun r =>
  bif (!(r.2 == 0)) then
    some (.inl r.2)
  else
    Option.bind (α := (Bool)) (
      bif (((r.1.length : Nat) : Int) == 0) then
        some true
      else
        (idx? 0 r.1.length).bind fun q =>
        (r.1)[q]?.bind fun r1 =>
        some (!(((r1.toNat : Nat) : Int) == kind))) fun o =>
    bif o then
      some (.inl 179)
    else
      some (.inr (0, (r.1, (1, false))))
def call_begin_fa : FnA := ⟨.two (.leaf) (.two (.reg [(2, {  })]) (.two (.two (.leaf) (.two (.leaf) (.leaf))) (.two (.two (.join ⟨[28], ⟨(.cons (.p .bool) .nil), []⟩⟩ false [] (.leaf)) (.two (.leaf) (.leaf))) (.two (.reg [(2, { ids := [100] })]) (.leaf))))), ⟨(.cons (.pt (.int .u32)) (.cons (.p (.sl .byte)) (.cons (.p (.int .u8)) .nil))), []⟩, [⟨(.cons (.nilp (.pointer none)) (.cons (.p (.int .i64)) .nil)), []⟩, ⟨(.cons (.own 0 0 0 0) (.cons (.p (.int .i64)) .nil)), [(0, false, (.vars (.cons (.p (.sl .byte)) (.cons (.p (.int .i64)) (.cons (.p .bool) .nil)))))]⟩], [0, 0]⟩
def call_begin_ft (fu : Nat) : FnT := ⟨37, ⟨(.cons (.pt (.int .u32)) (.cons (.p (.sl .byte)) (.cons (.p (.int .u8)) .nil))), []⟩, [⟨(.cons (.nilp (.pointer none)) (.cons (.p (.int .i64)) .nil)), []⟩, ⟨(.cons (.own 0 0 0 0) (.cons (.p (.int .i64)) .nil)), [(0, false, (.vars (.cons (.p (.sl .byte)) (.cons (.p (.int .i64)) (.cons (.p .bool) .nil)))))]⟩], fun t => call_begin fu t.1 t.2.1 t.2.2⟩
theorem call_begin_eq (fu : Nat) : ∀ t, evF Go.Proofs.Try.prog [bytes_Unseal_ft fu] fu Go.Proofs.Try.f37 call_begin_fa t = (call_begin_ft fu).spec t := fun t => by kernel_rfl
theorem call_begin_told (fu : Nat) : Told Go.Proofs.Try.prog (call_begin_ft fu) := told_of (allT_cons (bytes_Unseal_told fu) allT_nil) mixed Go.Proofs.Try.func37 (by kernel_rfl) (by kernel_rfl) (call_begin_eq fu)

def call_reader_number_n0 (fu : Nat)  : Option (Empty) :=
  none
def call_reader_number_n0_fa : FnA := ⟨.two (.leaf) (.two (.leaf) (.leaf)), ⟨(.cons (.nilp (.pointer none)) .nil), []⟩, [], [0]⟩
def call_reader_number_n0_ft (fu : Nat) : FnT := ⟨50, ⟨(.cons (.nilp (.pointer none)) .nil), []⟩, [], fun t => call_reader_number_n0 fu ⟩
theorem call_reader_number_n0_eq (fu : Nat) : ∀ t, evF Go.Proofs.Try.prog [] fu Go.Proofs.Try.f50 call_reader_number_n0_fa t = (call_reader_number_n0_ft fu).spec t := fun t => by kernel_rfl
theorem call_reader_number_n0_told (fu : Nat) : Told Go.Proofs.Try.prog (call_reader_number_n0_ft fu) := told_of allT_nil mixed Go.Proofs.Try.func50 (by kernel_rfl) (by kernel_rfl) (call_reader_number_n0_eq fu)

def call_reader_numbers_n0o1_cn (fu : Nat) (h : Int) (h1 : Int) (h2 : Int) (h3 : Int) (h4 : Int) (h5 : List UInt8) (h6 : Int) (h7 : Int) (h8 : List UInt8) (h9 : Int) (h10 : Int) (h11 : Int) : Option (Empty) :=
  (call_reader_number_n0 fu).bind fun r =>
  Empty.elim r
def call_reader_numbers_n0o1_cn_fa : FnA := ⟨.two (.leaf) (.one (.round (.two (.leaf) (.two (.leaf) (.two (.one (.two (.leaf) (.reg [(2, {  })]))) (.leaf)))) (.leaf))), ⟨(.cons (.nilp (.pointer none)) (.cons (.slf 1 0) .nil)), [(0, false, (.vars (.cons (.own 0 1 0 0) (.cons (.own 0 1 0 1) (.cons (.own 0 2 0 0) (.cons (.own 0 1 0 3) (.cons (.own 0 1 0 4) (.cons (.own 0 1 0 6) (.cons (.own 0 1 0 7) (.cons (.own 0 1 0 9) (.cons (.own 0 1 0 10) .nil))))))))))), (1, false, (.vars (.cons (.p (.int .i64)) (.cons (.p (.int .i64)) (.cons (.p (.int .u8)) (.cons (.p (.int .i64)) (.cons (.p (.int .i64)) (.cons (.p .str) (.cons (.p (.int .i64)) (.cons (.p (.int .i64)) (.cons (.p .str) (.cons (.p (.int .i64)) (.cons (.p (.int .i64)) (.cons (.nilp (.slice none 0 0)) .nil)))))))))))))), (2, false, (.vars (.cons (.p (.int .i64)) .nil)))]⟩, [], []⟩
def call_reader_numbers_n0o1_cn_ft (fu : Nat) : FnT := ⟨38, ⟨(.cons (.nilp (.pointer none)) (.cons (.slf 1 0) .nil)), [(0, false, (.vars (.cons (.own 0 1 0 0) (.cons (.own 0 1 0 1) (.cons (.own 0 2 0 0) (.cons (.own 0 1 0 3) (.cons (.own 0 1 0 4) (.cons (.own 0 1 0 6) (.cons (.own 0 1 0 7) (.cons (.own 0 1 0 9) (.cons (.own 0 1 0 10) .nil))))))))))), (1, false, (.vars (.cons (.p (.int .i64)) (.cons (.p (.int .i64)) (.cons (.p (.int .u8)) (.cons (.p (.int .i64)) (.cons (.p (.int .i64)) (.cons (.p .str) (.cons (.p (.int .i64)) (.cons (.p (.int .i64)) (.cons (.p .str) (.cons (.p (.int .i64)) (.cons (.p (.int .i64)) (.cons (.nilp (.slice none 0 0)) .nil)))))))))))))), (2, false, (.vars (.cons (.p (.int .i64)) .nil)))]⟩, [], fun t => call_reader_numbers_n0o1_cn fu t.1 t.2.1 t.2.2.1 t.2.2.2.1 t.2.2.2.2.1 t.2.2.2.2.2.1 t.2.2.2.2.2.2.1 t.2.2.2.2.2.2.2.1 t.2.2.2.2.2.2.2.2.1 t.2.2.2.2.2.2.2.2.2.1 t.2.2.2.2.2.2.2.2.2.2.1 t.2.2.2.2.2.2.2.2.2.2.2⟩
theorem call_reader_numbers_n0o1_cn_eq (fu : Nat) : ∀ t, evF Go.Proofs.Try.prog [call_reader_number_n0_ft fu] fu Go.Proofs.Try.f38 call_reader_numbers_n0o1_cn_fa t = (call_reader_numbers_n0o1_cn_ft fu).spec t := fun t => by kernel_rfl
theorem call_reader_numbers_n0o1_cn_told (fu : Nat) : Told Go.Proofs.Try.prog (call_reader_numbers_n0o1_cn_ft fu) := told_of (allT_cons (call_reader_number_n0_told fu) allT_nil) mixed Go.Proofs.Try.func38 (by kernel_rfl) (by kernel_rfl) (call_reader_numbers_n0o1_cn_eq fu)

def bytes_GetUint_l0 (fu : Nat) (b : List (UInt8)) (at_ : Int) (n : Int) (to_ : Int) : Option ((Int × Int) ⊕ (Unit ⊕ (Int × (Int × Int)))) :=
  bif (decide (to_ < ((b.length : Nat) : Int))) then
    (idx? to_ b.length).bind fun q =>
    (b)[q]?.bind fun r =>
    Option.bind (α := (Bool)) (
      bif (decide ((IntKind.wrap .i64 (to_ - at_)) > 0)) then
        bif (((r.toNat : Nat) : Int) == 0) then
          some true
        else
          bif (decide ((IntKind.wrap .i64 (to_ - at_)) > 8)) then
            some (decide (((r.toNat : Nat) : Int) > 1))
          else
            some false
      else
        bif (decide ((IntKind.wrap .i64 (to_ - at_)) > 8)) then
          some (decide (((r.toNat : Nat) : Int) > 1))
        else
          some false) fun o1 =>
    bif o1 then
      some (.inr (.inr (0, (0, 10))))
    else
      need (decide (0 ≤ (IntKind.wrap .i64 (7 * (IntKind.wrap .i64 (to_ - at_)))))) <|
      bif (decide (((r.toNat : Nat) : Int) < 128)) then
        some (.inr (.inr ((IntKind.wrap .u64 (n + (IntKind.wrap .u64 ((IntKind.wrap .u64 (Int.tmod ((r.toNat : Nat) : Int) 128)) * (2 ^ (min ((IntKind.wrap .i64 (7 * (IntKind.wrap .i64 (to_ - at_))))).toNat 64)))))), ((IntKind.wrap .i64 (to_ + 1)), 0))))
      else
        some (.inl ((IntKind.wrap .u64 (n + (IntKind.wrap .u64 ((IntKind.wrap .u64 (Int.tmod ((r.toNat : Nat) : Int) 128)) * (2 ^ (min ((IntKind.wrap .i64 (7 * (IntKind.wrap .i64 (to_ - at_))))).toNat 64)))))), (IntKind.wrap .i64 (to_ + 1))))
  else
    some (.inr (.inl ()))
def bytes_GetUint_l0_it (fu : Nat) (b : List (UInt8)) (at_ : Int) (tt : (Int × Int)) : Option (Unit ⊕ (Int × (Int × Int))) :=
  iter fu (fun tt => bytes_GetUint_l0 fu b at_ tt.1 tt.2) tt
def bytes_GetUint (fu : Nat) (b : List (UInt8)) (at_ : Int) : Option ((Int × (Int × Int))) :=
  Option.bind (α := (Bool)) (
    bif (decide (at_ < 0)) then
      some true
    else
      some (decide (at_ > ((b.length : Nat) : Int)))) fun o =>
  bif o then
    some (0, (0, 2))
  else
    (bytes_GetUint_l0_it fu b at_ (0, at_)).bind fun o2 =>
    match o2 with
    | .inl s =>
      some (0, (0, 11))
    | .inr o3 =>
      some o3
def bytes_GetUint_fa : FnA := ⟨.two (.leaf) (.two (.two (.join ⟨[18], ⟨(.cons (.p .bool) .nil), []⟩⟩ false [] (.leaf)) (.two (.leaf) (.leaf))) (.two (.leaf) (.two (.two (.leaf) (.one (.loop ⟨[7, 8], ⟨(.cons (.p (.int .u64)) (.cons (.p (.int .i64)) .nil)), []⟩⟩ true [(0, ⟨[], ⟨.nil, []⟩⟩)] (.two (.two (.leaf) (.leaf)) (.two (.one (.two (.leaf) (.two (.two (.join ⟨[46], ⟨(.cons (.p .bool) .nil), []⟩⟩ false [] (.leaf)) (.two (.leaf) (.leaf))) (.two (.leaf) (.two (.leaf) (.two (.leaf) (.leaf))))))) (.leaf)))))) (.leaf)))), ⟨(.cons (.p (.sl .byte)) (.cons (.p (.int .i64)) .nil)), []⟩, [⟨(.cons (.p (.int .u64)) (.cons (.p (.int .i64)) (.cons (.p (.int .i64)) .nil))), []⟩], [0, 0, 0]⟩
def bytes_GetUint_ft (fu : Nat) : FnT := ⟨70, ⟨(.cons (.p (.sl .byte)) (.cons (.p (.int .i64)) .nil)), []⟩, [⟨(.cons (.p (.int .u64)) (.cons (.p (.int .i64)) (.cons (.p (.int .i64)) .nil))), []⟩], fun t => bytes_GetUint fu t.1 t.2⟩
theorem bytes_GetUint_eq (fu : Nat) : ∀ t, evF Go.Proofs.Try.prog [] fu Go.Proofs.Try.f70 bytes_GetUint_fa t = (bytes_GetUint_ft fu).spec t := fun t => by kernel_rfl
theorem bytes_GetUint_told (fu : Nat) : Told Go.Proofs.Try.prog (bytes_GetUint_ft fu) := told_of allT_nil mixed Go.Proofs.Try.func70 (by kernel_rfl) (by kernel_rfl) (bytes_GetUint_eq fu)

def call_reader_number (fu : Nat) (h : List (UInt8)) (h1 : Int) (h2 : Bool) : Option ((Int × (List (UInt8) × (Int × Bool)))) :=
  bif h2 then
    some (0, (h, (h1, h2)))
  else
    (bytes_GetUint fu h h1).bind fun r =>
    Option.bind (α := ((Bool × (List (UInt8) × (Int × Bool))))) (
      bif (!(r.2.2 == 0)) then
        some (true, (h, (h1, h2)))
      else
        some ((decide (r.1 > 4611686018427387904)), (h, (h1, h2)))) fun o =>
    bif o.1 then
      some (0, (o.2.1, (o.2.2.1, true)))
    else
      some ((IntKind.wrap .i64 r.1), (o.2.1, (r.2.1, o.2.2.2)))
def call_reader_number_fa : FnA := ⟨.two (.leaf) (.two (.two (.leaf) (.two (.leaf) (.leaf))) (.two (.reg [(8, {  })]) (.two (.two (.join ⟨[0, 28], ⟨(.cons (.own 0 0 0 0) (.cons (.p .bool) .nil)), [(0, false, (.vars (.cons (.p (.sl .byte)) (.cons (.p (.int .i64)) (.cons (.p .bool) .nil)))))]⟩⟩ false [] (.leaf)) (.two (.two (.leaf) (.leaf)) (.leaf))) (.two (.leaf) (.leaf))))), ⟨(.cons (.own 0 0 0 0) .nil), [(0, false, (.vars (.cons (.p (.sl .byte)) (.cons (.p (.int .i64)) (.cons (.p .bool) .nil)))))]⟩, [⟨(.cons (.p (.int .i64)) .nil), [(0, false, (.vars (.cons (.p (.sl .byte)) (.cons (.p (.int .i64)) (.cons (.p .bool) .nil)))))]⟩], [0]⟩
def call_reader_number_ft (fu : Nat) : FnT := ⟨50, ⟨(.cons (.own 0 0 0 0) .nil), [(0, false, (.vars (.cons (.p (.sl .byte)) (.cons (.p (.int .i64)) (.cons (.p .bool) .nil)))))]⟩, [⟨(.cons (.p (.int .i64)) .nil), [(0, false, (.vars (.cons (.p (.sl .byte)) (.cons (.p (.int .i64)) (.cons (.p .bool) .nil)))))]⟩], fun t => call_reader_number fu t.1 t.2.1 t.2.2⟩
theorem call_reader_number_eq (fu : Nat) : ∀ t, evF Go.Proofs.Try.prog [bytes_GetUint_ft fu] fu Go.Proofs.Try.f50 call_reader_number_fa t = (call_reader_number_ft fu).spec t := fun t => by kernel_rfl
theorem call_reader_number_told (fu : Nat) : Told Go.Proofs.Try.prog (call_reader_number_ft fu) := told_of (allT_cons (bytes_GetUint_told fu) allT_nil) mixed Go.Proofs.Try.func50 (by kernel_rfl) (by kernel_rfl) (call_reader_number_eq fu)

def call_reader_numbers_o1_cn (fu : Nat) (h : List (UInt8)) (h1 : Int) (h2 : Bool) (h3 : Int) (h4 : Int) (h5 : Int) (h6 : Int) (h7 : Int) (h8 : List UInt8) (h9 : Int) (h10 : Int) (h11 : List UInt8) (h12 : Int) (h13 : Int) (h14 : Int) : Option ((List (UInt8) × (Int × (Bool × (Int × (Int × (Int × (Int × (Int × (List UInt8 × (Int × (Int × (List UInt8 × (Int × (Int × Int))))))))))))))) :=
  (call_reader_number fu h h1 h2).bind fun r =>
  (call_reader_number fu r.2.1 r.2.2.1 r.2.2.2).bind fun r1 =>
  (call_reader_number fu r1.2.1 r1.2.2.1 r1.2.2.2).bind fun r2 =>
  (call_reader_number fu r2.2.1 r2.2.2.1 r2.2.2.2).bind fun r3 =>
  (call_reader_number fu r3.2.1 r3.2.2.1 r3.2.2.2).bind fun r4 =>
  (call_reader_number fu r4.2.1 r4.2.2.1 r4.2.2.2).bind fun r5 =>
  (call_reader_number fu r5.2.1 r5.2.2.1 r5.2.2.2).bind fun r6 =>
  (call_reader_number fu r6.2.1 r6.2.2.1 r6.2.2.2).bind fun r7 =>
  (call_reader_number fu r7.2.1 r7.2.2.1 r7.2.2.2).bind fun r8 =>
  some (r8.2.1, (r8.2.2.1, (r8.2.2.2, (r.1, (r1.1, (h5, (r3.1, (r4.1, (h8, (r5.1, (r6.1, (h11, (r7.1, (r8.1, r2.1))))))))))))))
def call_reader_numbers_o1_cn_fa : FnA := ⟨.two (.leaf) (.one (.round (.two (.leaf) (.two (.leaf) (.two (.one (.two (.leaf) (.reg [(2, { sh := [0] })]))) (.leaf)))) (.round (.two (.leaf) (.two (.leaf) (.two (.one (.two (.leaf) (.reg [(2, { sh := [0] })]))) (.leaf)))) (.round (.two (.leaf) (.two (.leaf) (.two (.one (.two (.leaf) (.reg [(2, { sh := [0] })]))) (.leaf)))) (.round (.two (.leaf) (.two (.leaf) (.two (.one (.two (.leaf) (.reg [(2, { sh := [0] })]))) (.leaf)))) (.round (.two (.leaf) (.two (.leaf) (.two (.one (.two (.leaf) (.reg [(2, { sh := [0] })]))) (.leaf)))) (.round (.two (.leaf) (.two (.leaf) (.two (.one (.two (.leaf) (.reg [(2, { sh := [0] })]))) (.leaf)))) (.round (.two (.leaf) (.two (.leaf) (.two (.one (.two (.leaf) (.reg [(2, { sh := [0] })]))) (.leaf)))) (.round (.two (.leaf) (.two (.leaf) (.two (.one (.two (.leaf) (.reg [(2, { sh := [0] })]))) (.leaf)))) (.round (.two (.leaf) (.two (.leaf) (.two (.one (.two (.leaf) (.reg [(2, { sh := [0] })]))) (.leaf)))) (.round (.two (.leaf) (.two (.leaf) (.leaf))) (.leaf)))))))))))), ⟨(.cons (.own 0 0 0 0) (.cons (.slf 1 1) .nil)), [(0, false, (.vars (.cons (.p (.sl .byte)) (.cons (.p (.int .i64)) (.cons (.p .bool) .nil))))), (1, false, (.vars (.cons (.own 0 2 0 0) (.cons (.own 0 2 0 1) (.cons (.own 0 3 0 0) (.cons (.own 0 2 0 3) (.cons (.own 0 2 0 4) (.cons (.own 0 2 0 6) (.cons (.own 0 2 0 7) (.cons (.own 0 2 0 9) (.cons (.own 0 2 0 10) .nil))))))))))), (2, false, (.vars (.cons (.p (.int .i64)) (.cons (.p (.int .i64)) (.cons (.p (.int .u8)) (.cons (.p (.int .i64)) (.cons (.p (.int .i64)) (.cons (.p .str) (.cons (.p (.int .i64)) (.cons (.p (.int .i64)) (.cons (.p .str) (.cons (.p (.int .i64)) (.cons (.p (.int .i64)) (.cons (.nilp (.slice none 0 0)) .nil)))))))))))))), (3, false, (.vars (.cons (.p (.int .i64)) .nil)))]⟩, [⟨.nil, [(0, false, (.vars (.cons (.p (.sl .byte)) (.cons (.p (.int .i64)) (.cons (.p .bool) .nil))))), (1, false, (.vars (.cons (.own 0 2 0 0) (.cons (.own 0 2 0 1) (.cons (.own 0 3 0 0) (.cons (.own 0 2 0 3) (.cons (.own 0 2 0 4) (.cons (.own 0 2 0 6) (.cons (.own 0 2 0 7) (.cons (.own 0 2 0 9) (.cons (.own 0 2 0 10) .nil))))))))))), (2, false, (.vars (.cons (.p (.int .i64)) (.cons (.p (.int .i64)) (.cons (.p (.int .u8)) (.cons (.p (.int .i64)) (.cons (.p (.int .i64)) (.cons (.p .str) (.cons (.p (.int .i64)) (.cons (.p (.int .i64)) (.cons (.p .str) (.cons (.p (.int .i64)) (.cons (.p (.int .i64)) (.cons (.nilp (.slice none 0 0)) .nil)))))))))))))), (3, false, (.vars (.cons (.p (.int .i64)) .nil)))]⟩], []⟩
def call_reader_numbers_o1_cn_ft (fu : Nat) : FnT := ⟨38, ⟨(.cons (.own 0 0 0 0) (.cons (.slf 1 1) .nil)), [(0, false, (.vars (.cons (.p (.sl .byte)) (.cons (.p (.int .i64)) (.cons (.p .bool) .nil))))), (1, false, (.vars (.cons (.own 0 2 0 0) (.cons (.own 0 2 0 1) (.cons (.own 0 3 0 0) (.cons (.own 0 2 0 3) (.cons (.own 0 2 0 4) (.cons (.own 0 2 0 6) (.cons (.own 0 2 0 7) (.cons (.own 0 2 0 9) (.cons (.own 0 2 0 10) .nil))))))))))), (2, false, (.vars (.cons (.p (.int .i64)) (.cons (.p (.int .i64)) (.cons (.p (.int .u8)) (.cons (.p (.int .i64)) (.cons (.p (.int .i64)) (.cons (.p .str) (.cons (.p (.int .i64)) (.cons (.p (.int .i64)) (.cons (.p .str) (.cons (.p (.int .i64)) (.cons (.p (.int .i64)) (.cons (.nilp (.slice none 0 0)) .nil)))))))))))))), (3, false, (.vars (.cons (.p (.int .i64)) .nil)))]⟩, [⟨.nil, [(0, false, (.vars (.cons (.p (.sl .byte)) (.cons (.p (.int .i64)) (.cons (.p .bool) .nil))))), (1, false, (.vars (.cons (.own 0 2 0 0) (.cons (.own 0 2 0 1) (.cons (.own 0 3 0 0) (.cons (.own 0 2 0 3) (.cons (.own 0 2 0 4) (.cons (.own 0 2 0 6) (.cons (.own 0 2 0 7) (.cons (.own 0 2 0 9) (.cons (.own 0 2 0 10) .nil))))))))))), (2, false, (.vars (.cons (.p (.int .i64)) (.cons (.p (.int .i64)) (.cons (.p (.int .u8)) (.cons (.p (.int .i64)) (.cons (.p (.int .i64)) (.cons (.p .str) (.cons (.p (.int .i64)) (.cons (.p (.int .i64)) (.cons (.p .str) (.cons (.p (.int .i64)) (.cons (.p (.int .i64)) (.cons (.nilp (.slice none 0 0)) .nil)))))))))))))), (3, false, (.vars (.cons (.p (.int .i64)) .nil)))]⟩], fun t => call_reader_numbers_o1_cn fu t.1 t.2.1 t.2.2.1 t.2.2.2.1 t.2.2.2.2.1 t.2.2.2.2.2.1 t.2.2.2.2.2.2.1 t.2.2.2.2.2.2.2.1 t.2.2.2.2.2.2.2.2.1 t.2.2.2.2.2.2.2.2.2.1 t.2.2.2.2.2.2.2.2.2.2.1 t.2.2.2.2.2.2.2.2.2.2.2.1 t.2.2.2.2.2.2.2.2.2.2.2.2.1 t.2.2.2.2.2.2.2.2.2.2.2.2.2.1 t.2.2.2.2.2.2.2.2.2.2.2.2.2.2⟩
theorem call_reader_numbers_o1_cn_eq (fu : Nat) : ∀ t, evF Go.Proofs.Try.prog [call_reader_number_ft fu] fu Go.Proofs.Try.f38 call_reader_numbers_o1_cn_fa t = (call_reader_numbers_o1_cn_ft fu).spec t := fun t => by kernel_rfl
theorem call_reader_numbers_o1_cn_told (fu : Nat) : Told Go.Proofs.Try.prog (call_reader_numbers_o1_cn_ft fu) := told_of (allT_cons (call_reader_number_told fu) allT_nil) mixed Go.Proofs.Try.func38 (by kernel_rfl) (by kernel_rfl) (call_reader_numbers_o1_cn_eq fu)

def bytes_GetBlob (fu : Nat) (b : List (UInt8)) (at_ : Int) (most : Int) : Option ((Int × (Int × List (UInt8)))) :=
  (bytes_GetUint fu b at_).bind fun r =>
  bif (!(r.2.2 == 0)) then
    some (0, (r.2.2, []))
  else
    Option.bind (α := (Bool)) (
      bif (decide (most < 0)) then
        some (decide (most < 0))
      else
        some (decide (r.1 > (IntKind.wrap .u64 most)))) fun o =>
    bif o then
      some (0, (3, []))
    else
      bif (decide (r.1 > (IntKind.wrap .u64 (IntKind.wrap .i64 (((b.length : Nat) : Int) - r.2.1))))) then
        some (0, (11, []))
      else
        (upto? r.2.1 b.length).bind fun q =>
        (upto? r.1 (List.drop q b).length).bind fun q1 =>
        (slices_Clone__byte_byte fu (List.take q1 (List.drop q b))).bind fun r1 =>
        some ((IntKind.wrap .i64 (r.2.1 + (((List.take q1 (List.drop q b)).length : Nat) : Int))), (0, r1))
def bytes_GetBlob_fa : FnA := ⟨.two (.leaf) (.two (.reg [(2, {  })]) (.two (.leaf) (.two (.one (.two (.leaf) (.two (.leaf) (.two (.two (.leaf) (.join ⟨[30], ⟨(.cons (.p .bool) .nil), []⟩⟩ false [] (.leaf))) (.two (.leaf) (.two (.leaf) (.two (.leaf) (.leaf)))))))) (.two (.leaf) (.two (.reg [(1, { ids := [100], fn := 1 })]) (.leaf)))))), ⟨(.cons (.p (.sl .byte)) (.cons (.p (.int .i64)) (.cons (.p (.int .i64)) .nil))), []⟩, [⟨(.cons (.slf 1 0) (.cons (.p (.int .i64)) (.cons (.p (.int .i64)) .nil))), [(0, false, (.rows 5 .byte))]⟩], [15, 0, 0]⟩
def bytes_GetBlob_ft (fu : Nat) : FnT := ⟨62, ⟨(.cons (.p (.sl .byte)) (.cons (.p (.int .i64)) (.cons (.p (.int .i64)) .nil))), []⟩, [⟨(.cons (.slf 1 0) (.cons (.p (.int .i64)) (.cons (.p (.int .i64)) .nil))), [(0, false, (.rows 5 .byte))]⟩], fun t => bytes_GetBlob fu t.1 t.2.1 t.2.2⟩
theorem bytes_GetBlob_eq (fu : Nat) : ∀ t, evF Go.Proofs.Try.prog [bytes_GetUint_ft fu, slices_Clone__byte_byte_ft fu] fu Go.Proofs.Try.f62 bytes_GetBlob_fa t = (bytes_GetBlob_ft fu).spec t := fun t => by kernel_rfl
theorem bytes_GetBlob_told (fu : Nat) : Told Go.Proofs.Try.prog (bytes_GetBlob_ft fu) := told_of (allT_cons (bytes_GetUint_told fu) (allT_cons (slices_Clone__byte_byte_told fu) allT_nil)) mixed Go.Proofs.Try.func62 (by kernel_rfl) (by kernel_rfl) (bytes_GetBlob_eq fu)

def call_reader_blob (fu : Nat) (most : Int) (h : List (UInt8)) (h1 : Int) (h2 : Bool) : Option ((List (UInt8) × (Int × (Bool × List (UInt8))))) :=
  bif h2 then
    some (h, (h1, (h2, [])))
  else
    (bytes_GetBlob fu h h1 most).bind fun r =>
    bif (!(r.2.1 == 0)) then
      some (h, (h1, (true, [])))
    else
      some (h, (r.1, (h2, r.2.2)))
def call_reader_blob_fa : FnA := ⟨.two (.leaf) (.two (.two (.leaf) (.two (.leaf) (.leaf))) (.two (.reg [(9, { ids := [100] })]) (.two (.two (.leaf) (.two (.two (.leaf) (.leaf)) (.leaf))) (.two (.leaf) (.leaf))))), ⟨(.cons (.own 0 0 0 0) (.cons (.p (.int .i64)) .nil)), [(0, false, (.vars (.cons (.p (.sl .byte)) (.cons (.p (.int .i64)) (.cons (.p .bool) .nil)))))]⟩, [⟨(.cons (.slf 1 1) .nil), [(0, false, (.vars (.cons (.p (.sl .byte)) (.cons (.p (.int .i64)) (.cons (.p .bool) .nil))))), (1, false, (.rows 5 .byte))]⟩], [15]⟩
def call_reader_blob_ft (fu : Nat) : FnT := ⟨39, ⟨(.cons (.own 0 0 0 0) (.cons (.p (.int .i64)) .nil)), [(0, false, (.vars (.cons (.p (.sl .byte)) (.cons (.p (.int .i64)) (.cons (.p .bool) .nil)))))]⟩, [⟨(.cons (.slf 1 1) .nil), [(0, false, (.vars (.cons (.p (.sl .byte)) (.cons (.p (.int .i64)) (.cons (.p .bool) .nil))))), (1, false, (.rows 5 .byte))]⟩], fun t => call_reader_blob fu t.1 t.2.1 t.2.2.1 t.2.2.2⟩
theorem call_reader_blob_eq (fu : Nat) : ∀ t, evF Go.Proofs.Try.prog [bytes_GetBlob_ft fu] fu Go.Proofs.Try.f39 call_reader_blob_fa t = (call_reader_blob_ft fu).spec t := fun t => by kernel_rfl
theorem call_reader_blob_told (fu : Nat) : Told Go.Proofs.Try.prog (call_reader_blob_ft fu) := told_of (allT_cons (bytes_GetBlob_told fu) allT_nil) mixed Go.Proofs.Try.func39 (by kernel_rfl) (by kernel_rfl) (call_reader_blob_eq fu)

def call_GetCall (fu : Nat) (t : List (Int)) (b : List (UInt8)) : Option ((Int × (Int × (Int × (Int × (Int × (List UInt8 × (Int × (Int × (List UInt8 × (Int × (Int × (List (UInt8) × Int))))))))))))) :=
  (call_begin fu t b 3).bind fun r =>
  match r with
  | .inl r1 =>
    bif (!(r1 == 0)) then
      some (0, (0, (0, (0, (0, ([], (0, (0, ([], (0, (0, ([], r1))))))))))))
    else
      (call_reader_numbers_n0o1_cn fu 0 0 0 0 0 [] 0 0 [] 0 0 0).bind fun r3 =>
      Empty.elim r3
  | .inr r2 =>
    bif (!(r2.1 == 0)) then
      some (0, (0, (0, (0, (0, ([], (0, (0, ([], (0, (0, ([], r2.1))))))))))))
    else
      (call_reader_numbers_o1_cn fu r2.2.1 r2.2.2.1 r2.2.2.2 0 0 0 0 0 [] 0 0 [] 0 0 0).bind fun r4 =>
      (call_reader_blob fu 100 r4.1 r4.2.1 r4.2.2.1).bind fun r5 =>
      (call_reader_blob fu 100 r5.1 r5.2.1 r5.2.2.1).bind fun r6 =>
      (call_reader_blob fu 4096 r6.1 r6.2.1 r6.2.2.1).bind fun r7 =>
      Option.bind (α := ((Bool × (Int × (Int × (Int × (Int × (Int × (List UInt8 × (Int × (Int × (List UInt8 × (Int × (Int × (Int × (Int × (Int × (Int × (Int × (List UInt8 × (Int × (Int × (List UInt8 × (Int × (Int × List (UInt8)))))))))))))))))))))))))) (
        bif r7.2.2.1 then
          some (true, (0, (0, (0, (0, (0, ([], (0, (0, ([], (0, (0, (r4.2.2.2.1, (r4.2.2.2.2.1, ((IntKind.wrap .u8 r4.2.2.2.2.2.2.2.2.2.2.2.2.2.2), (r4.2.2.2.2.2.2.1, (r4.2.2.2.2.2.2.2.1, (r5.2.2.2, (r4.2.2.2.2.2.2.2.2.2.1, (r4.2.2.2.2.2.2.2.2.2.2.1, (r6.2.2.2, (r4.2.2.2.2.2.2.2.2.2.2.2.2.1, (r4.2.2.2.2.2.2.2.2.2.2.2.2.2.1, r7.2.2.2)))))))))))))))))))))))
        else
          bif (decide (r4.2.2.2.2.2.2.2.2.2.2.2.2.2.2 > 255)) then
            some (true, (0, (0, (0, (0, (0, ([], (0, (0, ([], (0, (0, (r4.2.2.2.1, (r4.2.2.2.2.1, ((IntKind.wrap .u8 r4.2.2.2.2.2.2.2.2.2.2.2.2.2.2), (r4.2.2.2.2.2.2.1, (r4.2.2.2.2.2.2.2.1, (r5.2.2.2, (r4.2.2.2.2.2.2.2.2.2.1, (r4.2.2.2.2.2.2.2.2.2.2.1, (r6.2.2.2, (r4.2.2.2.2.2.2.2.2.2.2.2.2.1, (r4.2.2.2.2.2.2.2.2.2.2.2.2.2.1, r7.2.2.2)))))))))))))))))))))))
          else
            bif (!(r7.2.1 == ((r7.1.length : Nat) : Int))) then
              some (true, (0, (0, (0, (0, (0, ([], (0, (0, ([], (0, (0, (r4.2.2.2.1, (r4.2.2.2.2.1, ((IntKind.wrap .u8 r4.2.2.2.2.2.2.2.2.2.2.2.2.2.2), (r4.2.2.2.2.2.2.1, (r4.2.2.2.2.2.2.2.1, (r5.2.2.2, (r4.2.2.2.2.2.2.2.2.2.1, (r4.2.2.2.2.2.2.2.2.2.2.1, (r6.2.2.2, (r4.2.2.2.2.2.2.2.2.2.2.2.2.1, (r4.2.2.2.2.2.2.2.2.2.2.2.2.2.1, r7.2.2.2)))))))))))))))))))))))
            else
              (byte? (IntKind.wrap .u8 r4.2.2.2.2.2.2.2.2.2.2.2.2.2.2)).bind fun c =>
              (call_RightCall fu (r4.2.2.2.1, (r4.2.2.2.2.1, (c, ((r4.2.2.2.2.2.2.1, r4.2.2.2.2.2.2.2.1), (r5.2.2.2, ((r4.2.2.2.2.2.2.2.2.2.1, r4.2.2.2.2.2.2.2.2.2.2.1), (r6.2.2.2, (r4.2.2.2.2.2.2.2.2.2.2.2.2.1, (r4.2.2.2.2.2.2.2.2.2.2.2.2.2.1, r7.2.2.2)))))))))).bind fun r8 =>
              some ((!r8), (0, (0, (0, (0, (0, ([], (0, (0, ([], (0, (0, (r4.2.2.2.1, (r4.2.2.2.2.1, ((IntKind.wrap .u8 r4.2.2.2.2.2.2.2.2.2.2.2.2.2.2), (r4.2.2.2.2.2.2.1, (r4.2.2.2.2.2.2.2.1, (r5.2.2.2, (r4.2.2.2.2.2.2.2.2.2.1, (r4.2.2.2.2.2.2.2.2.2.2.1, (r6.2.2.2, (r4.2.2.2.2.2.2.2.2.2.2.2.2.1, (r4.2.2.2.2.2.2.2.2.2.2.2.2.2.1, r7.2.2.2)))))))))))))))))))))))) fun o =>
      bif o.1 then
        some (0, (0, (0, (0, (0, ([], (0, (0, ([], (0, (0, ([], 179))))))))))))
      else
        some (o.2.2.2.2.2.2.2.2.2.2.2.2.1, (o.2.2.2.2.2.2.2.2.2.2.2.2.2.1, (o.2.2.2.2.2.2.2.2.2.2.2.2.2.2.1, (o.2.2.2.2.2.2.2.2.2.2.2.2.2.2.2.1, (o.2.2.2.2.2.2.2.2.2.2.2.2.2.2.2.2.1, (o.2.2.2.2.2.2.2.2.2.2.2.2.2.2.2.2.2.1, (o.2.2.2.2.2.2.2.2.2.2.2.2.2.2.2.2.2.2.1, (o.2.2.2.2.2.2.2.2.2.2.2.2.2.2.2.2.2.2.2.1, (o.2.2.2.2.2.2.2.2.2.2.2.2.2.2.2.2.2.2.2.2.1, (o.2.2.2.2.2.2.2.2.2.2.2.2.2.2.2.2.2.2.2.2.2.1, (o.2.2.2.2.2.2.2.2.2.2.2.2.2.2.2.2.2.2.2.2.2.2.1, (o.2.2.2.2.2.2.2.2.2.2.2.2.2.2.2.2.2.2.2.2.2.2.2, 0))))))))))))
def call_GetCall_fa : FnA := ⟨.two (.reg [(0, { ids := [100] })]) (.two (.reg [(2, { ids := [101] })]) (.sel (.slot 6 (.nilp (.pointer none))) (.two (.two (.leaf) (.two (.leaf) (.leaf))) (.two (.reg [(0, { ids := [103] })]) (.two (.reg [(0, { ids := [104] })]) (.two (.reg [(13, { ids := [105], md := [1] }), (14, { sh := [105, 103, 104], fn := 1 })]) (.leaf))))) (.two (.two (.leaf) (.two (.leaf) (.leaf))) (.two (.reg [(0, { ids := [103] })]) (.two (.reg [(0, { ids := [104] })]) (.two (.reg [(13, { ids := [105], md := [1] }), (14, { sh := [101, 105, 103, 104], fn := 2 })]) (.two (.reg [(1, { ids := [106], sh := [101], fn := 3 }), (4, { ids := [107], sh := [101], fn := 3 })]) (.two (.reg [(1, { ids := [108], sh := [101], fn := 3 })]) (.two (.leaf) (.two (.two (.join ⟨[4, 8, 73], ⟨(.cons (.own 0 100 0 0) (.cons (.own 0 103 0 0) (.cons (.p .bool) .nil))), [(100, false, (.vars (.cons (.p (.int .i64)) (.cons (.p (.int .i64)) (.cons (.p (.int .u8)) (.cons (.p (.int .i64)) (.cons (.p (.int .i64)) (.cons (.p .str) (.cons (.p (.int .i64)) (.cons (.p (.int .i64)) (.cons (.p .str) (.cons (.p (.int .i64)) (.cons (.p (.int .i64)) (.cons (.nilp (.slice none 0 0)) .nil)))))))))))))), (103, false, (.vars (.cons (.p (.int .i64)) (.cons (.p (.int .i64)) (.cons (.p (.int .u8)) (.cons (.p (.int .i64)) (.cons (.p (.int .i64)) (.cons (.p .str) (.cons (.p (.int .i64)) (.cons (.p (.int .i64)) (.cons (.p .str) (.cons (.p (.int .i64)) (.cons (.p (.int .i64)) (.cons (.slf 1 108) .nil)))))))))))))), (108, false, (.rows 5 .byte))]⟩⟩ false [] (.reg [(22, { md := [2], fn := 4 })])) (.two (.leaf) (.leaf))) (.leaf))))))))))), ⟨(.cons (.pt (.int .u32)) (.cons (.p (.sl .byte)) .nil)), []⟩, [⟨(.cons (.agg (.cons (.p (.int .i64)) (.cons (.p (.int .i64)) (.cons (.p (.int .u8)) (.cons (.p (.int .i64)) (.cons (.p (.int .i64)) (.cons (.p .str) (.cons (.p (.int .i64)) (.cons (.p (.int .i64)) (.cons (.p .str) (.cons (.p (.int .i64)) (.cons (.p (.int .i64)) (.cons (.p (.sl .byte)) .nil))))))))))))) (.cons (.p (.int .i64)) .nil)), []⟩], [1, 0]⟩
def call_GetCall_ft (fu : Nat) : FnT := ⟨13, ⟨(.cons (.pt (.int .u32)) (.cons (.p (.sl .byte)) .nil)), []⟩, [⟨(.cons (.agg (.cons (.p (.int .i64)) (.cons (.p (.int .i64)) (.cons (.p (.int .u8)) (.cons (.p (.int .i64)) (.cons (.p (.int .i64)) (.cons (.p .str) (.cons (.p (.int .i64)) (.cons (.p (.int .i64)) (.cons (.p .str) (.cons (.p (.int .i64)) (.cons (.p (.int .i64)) (.cons (.p (.sl .byte)) .nil))))))))))))) (.cons (.p (.int .i64)) .nil)), []⟩], fun t => call_GetCall fu t.1 t.2⟩
theorem call_GetCall_eq (fu : Nat) : ∀ t, evF Go.Proofs.Try.prog [call_begin_ft fu, call_reader_numbers_n0o1_cn_ft fu, call_reader_numbers_o1_cn_ft fu, call_reader_blob_ft fu, call_RightCall_ft fu] fu Go.Proofs.Try.f13 call_GetCall_fa t = (call_GetCall_ft fu).spec t := fun t => by kernel_rfl
theorem call_GetCall_told (fu : Nat) : Told Go.Proofs.Try.prog (call_GetCall_ft fu) := told_of (allT_cons (call_begin_told fu) (allT_cons (call_reader_numbers_n0o1_cn_told fu) (allT_cons (call_reader_numbers_o1_cn_told fu) (allT_cons (call_reader_blob_told fu) (allT_cons (call_RightCall_told fu) allT_nil))))) mixed Go.Proofs.Try.func13 (by kernel_rfl) (by kernel_rfl) (call_GetCall_eq fu)

def low_CopyBytes (fu : Nat) (l : List (UInt8)) : Option (List (UInt8)) :=
  need ((Nat.ble (l.length * 1) room) && (Nat.ble l.length room)) <|
  some l
def low_CopyBytes_fa : FnA := ⟨.two (.leaf) (.two (.leaf) (.two (.reg [(2, { ids := [100] })]) (.leaf))), ⟨(.cons (.p (.sl .byte)) .nil), []⟩, [⟨(.cons (.slf 1 0) .nil), [(0, false, (.rows 5 .byte))]⟩], [0]⟩
def low_CopyBytes_ft (fu : Nat) : FnT := ⟨15, ⟨(.cons (.p (.sl .byte)) .nil), []⟩, [⟨(.cons (.slf 1 0) .nil), [(0, false, (.rows 5 .byte))]⟩], fun t => low_CopyBytes fu t⟩
theorem low_CopyBytes_eq (fu : Nat) : ∀ t, evF Go.Proofs.Try.prog [] fu Go.Proofs.Try.f15 low_CopyBytes_fa t = (low_CopyBytes_ft fu).spec t := fun t => by kernel_rfl
theorem low_CopyBytes_told (fu : Nat) : Told Go.Proofs.Try.prog (low_CopyBytes_ft fu) := told_of allT_nil mixed Go.Proofs.Try.func15 (by kernel_rfl) (by kernel_rfl) (low_CopyBytes_eq fu)

def law21_CallCuts (fu : Nat) (c : (Int × (Int × (UInt8 × ((Int × Int) × (List UInt8 × ((Int × Int) × (List UInt8 × (Int × (Int × List (UInt8))))))))))) (more : Int) : Option (Bool) :=
  Option.bind (α := ((Bool × (Int × (Int × (Int × (Int × (Int × (List UInt8 × (Int × (Int × (List UInt8 × (Int × (Int × List (UInt8))))))))))))))) (
    (byte? ((c.2.2.1.toNat : Nat) : Int)).bind fun c1 =>
    (law21_Huge fu (c.1, (c.2.1, (c1, ((c.2.2.2.1.1, c.2.2.2.1.2), (c.2.2.2.2.1, ((c.2.2.2.2.2.1.1, c.2.2.2.2.2.1.2), (c.2.2.2.2.2.2.1, (c.2.2.2.2.2.2.2.1, (c.2.2.2.2.2.2.2.2.1, c.2.2.2.2.2.2.2.2.2))))))))) (0, (0, (0, ((0, 0), (false, (0, ([], ([], (false, 0)))))))))).bind fun r =>
    bif r then
      some (true, (c.1, (c.2.1, (((c.2.2.1.toNat : Nat) : Int), (c.2.2.2.1.1, (c.2.2.2.1.2, (c.2.2.2.2.1, (c.2.2.2.2.2.1.1, (c.2.2.2.2.2.1.2, (c.2.2.2.2.2.2.1, (c.2.2.2.2.2.2.2.1, (c.2.2.2.2.2.2.2.2.1, c.2.2.2.2.2.2.2.2.2))))))))))))
    else
      (byte? ((c.2.2.1.toNat : Nat) : Int)).bind fun c2 =>
      (call_RightCall fu (c.1, (c.2.1, (c2, ((c.2.2.2.1.1, c.2.2.2.1.2), (c.2.2.2.2.1, ((c.2.2.2.2.2.1.1, c.2.2.2.2.2.1.2), (c.2.2.2.2.2.2.1, (c.2.2.2.2.2.2.2.1, (c.2.2.2.2.2.2.2.2.1, c.2.2.2.2.2.2.2.2.2)))))))))).bind fun r1 =>
      some ((!r1), (c.1, (c.2.1, (((c.2.2.1.toNat : Nat) : Int), (c.2.2.2.1.1, (c.2.2.2.1.2, (c.2.2.2.2.1, (c.2.2.2.2.2.1.1, (c.2.2.2.2.2.1.2, (c.2.2.2.2.2.2.1, (c.2.2.2.2.2.2.2.1, (c.2.2.2.2.2.2.2.2.1, c.2.2.2.2.2.2.2.2.2))))))))))))) fun o =>
  bif o.1 then
    (law21_awake fu).bind fun r2 =>
    some r2
  else
    (bytes_Table fu).bind fun r3 =>
    need (Nat.beq (List.replicate (α := Int) 256 0).length 256) <|
    need (Nat.beq r3.length 256) <|
    (byte? o.2.2.2.1).bind fun c3 =>
    (call_PutCall fu r3 (o.2.1, (o.2.2.1, (c3, ((o.2.2.2.2.1, o.2.2.2.2.2.1), (o.2.2.2.2.2.2.1, ((o.2.2.2.2.2.2.2.1, o.2.2.2.2.2.2.2.2.1), (o.2.2.2.2.2.2.2.2.2.1, (o.2.2.2.2.2.2.2.2.2.2.1, (o.2.2.2.2.2.2.2.2.2.2.2.1, o.2.2.2.2.2.2.2.2.2.2.2.2)))))))))).bind fun r4 =>
    (bytes_Unseal fu r3 r4.2).bind fun r5 =>
    Option.bind (α := ((Bool × List (Int)))) (
      bif (!(r4.1 == 0)) then
        some (true, r3)
      else
        bif (!(r5.2 == 0)) then
          some (true, r3)
        else
          some ((((r5.1.length : Nat) : Int) == 0), r3)) fun o1 =>
    bif o1.1 then
      some false
    else
      (upto? (IntKind.wrap .i64 (((r5.1.length : Nat) : Int) - 1)) r5.1.length).bind fun q =>
      (bytes_Seal fu o1.2 (List.take q r5.1)).bind fun r6 =>
      (call_GetCall fu o1.2 r6).bind fun r7 =>
      (low_CopyBytes fu r5.1).bind fun r8 =>
      (byte? more).bind fun c4 =>
      need ((Nat.ble ((r8.length + 1) * 1) room) && (Nat.ble (r8.length + 1) room)) <|
      (bytes_Seal fu o1.2 (r8 ++ [c4])).bind fun r9 =>
      (call_GetCall fu o1.2 r9).bind fun r10 =>
      bif (r7.2.2.2.2.2.2.2.2.2.2.2.2 == 179) then
        bif (r10.2.2.2.2.2.2.2.2.2.2.2.2 == 179) then
          (law21_awake fu).bind fun r11 =>
          some r11
        else
          some false
      else
        some false
def law21_CallCuts_fa : FnA := ⟨.two (.reg [(0, { ids := [100] })]) (.two (.two (.join ⟨[2, 21], ⟨(.cons (.own 0 100 0 0) (.cons (.p .bool) .nil)), [(100, false, (.vars (.cons (.p (.int .i64)) (.cons (.p (.int .i64)) (.cons (.p (.int .u8)) (.cons (.p (.int .i64)) (.cons (.p (.int .i64)) (.cons (.p .str) (.cons (.p (.int .i64)) (.cons (.p (.int .i64)) (.cons (.p .str) (.cons (.p (.int .i64)) (.cons (.p (.int .i64)) (.cons (.p (.sl .byte)) .nil))))))))))))))]⟩⟩ false [] (.reg [(2, {  }), (5, { fn := 1 })])) (.two (.two (.reg [(0, { fn := 2 })]) (.leaf)) (.leaf))) (.two (.reg [(0, { fn := 3 }), (1, { ids := [101] })]) (.two (.reg [(1, { ids := [102], md := [1, 0], fn := 4 })]) (.two (.reg [(1, { md := [1, 1], fn := 5 })]) (.two (.two (.join ⟨[5, 44], ⟨(.cons (.own 1 101 0 0) (.cons (.p .bool) .nil)), [(101, true, (.rows 37 (.int .u32)))]⟩⟩ false [] (.leaf)) (.two (.leaf) (.leaf))) (.two (.reg [(5, { ids := [103], md := [1, 0], fn := 6 }), (6, { md := [1, 1], fn := 7 }), (10, { ids := [104] })]) (.two (.reg [(1, { ids := [105], fn := 8 }), (3, { ids := [106] }), (4, { ids := [107] }), (5, { ids := [108], md := [1, 1], fn := 6 }), (6, { md := [1, 1], fn := 7 }), (10, { ids := [109] })]) (.two (.reg [(7, { fn := 2 })]) (.leaf))))))))), ⟨(.cons (.p (.pair (.int .i64) (.pair (.int .i64) (.pair .byte (.pair (.pair (.int .i64) (.int .i64)) (.pair .str (.pair (.pair (.int .i64) (.int .i64)) (.pair .str (.pair (.int .i64) (.pair (.int .i64) (.sl .byte))))))))))) (.cons (.p (.int .u8)) .nil)), []⟩, [⟨(.cons (.p .bool) .nil), []⟩], [0]⟩
def law21_CallCuts_ft (fu : Nat) : FnT := ⟨4, ⟨(.cons (.p (.pair (.int .i64) (.pair (.int .i64) (.pair .byte (.pair (.pair (.int .i64) (.int .i64)) (.pair .str (.pair (.pair (.int .i64) (.int .i64)) (.pair .str (.pair (.int .i64) (.pair (.int .i64) (.sl .byte))))))))))) (.cons (.p (.int .u8)) .nil)), []⟩, [⟨(.cons (.p .bool) .nil), []⟩], fun t => law21_CallCuts fu t.1 t.2⟩
theorem law21_CallCuts_eq (fu : Nat) : ∀ t, evF Go.Proofs.Try.prog [law21_Huge_ft fu, call_RightCall_ft fu, law21_awake_ft fu, bytes_Table_ft fu, call_PutCall_ft fu, bytes_Unseal_ft fu, bytes_Seal_ft fu, call_GetCall_ft fu, low_CopyBytes_ft fu] fu Go.Proofs.Try.f4 law21_CallCuts_fa t = (law21_CallCuts_ft fu).spec t := fun t => by kernel_rfl
theorem law21_CallCuts_told (fu : Nat) : Told Go.Proofs.Try.prog (law21_CallCuts_ft fu) := told_of (allT_cons (law21_Huge_told fu) (allT_cons (call_RightCall_told fu) (allT_cons (law21_awake_told fu) (allT_cons (bytes_Table_told fu) (allT_cons (call_PutCall_told fu) (allT_cons (bytes_Unseal_told fu) (allT_cons (bytes_Seal_told fu) (allT_cons (call_GetCall_told fu) (allT_cons (low_CopyBytes_told fu) allT_nil))))))))) mixed Go.Proofs.Try.func4 (by kernel_rfl) (by kernel_rfl) (law21_CallCuts_eq fu)
end
end Go.Ab.D
