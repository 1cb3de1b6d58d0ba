/- Functions of the program as plain Lean functions: each equation is checked by the kernel; what is told of a function follows from it. -/
import Derived.Test.YtecodhbbobhidaaE3
import Derived.Test.YtecodhbbobhidaaProg
import Derived.KernelRfl
namespace Go.Proofs
open Go.Shelf
def Try.sort32_ren : Go.Shelf.Ren := ⟨fun | 6 => 32 | 15 => 40 | 14 => 39 | 28 => 51 | 29 => 52 | 20 => 43 | 21 => 44 | 22 => 45 | 23 => 46 | 24 => 47 | 25 => 48 | 26 => 49 | 27 => 50 | 46 => 53 | 47 => 54 | 48 => 55 | 49 => 56 | 50 => 57 | 57 => 58 | n => n, fun | 22 => 30 | 24 => 36 | 25 => 70 | 3 => 3 | 39 => 74 | 0 => 0 | 53 => 85 | 55 => 87 | 4 => 4 | 46 => 78 | 45 => 77 | 50 => 82 | 5 => 5 | 9 => 9 | 66 => 88 | 70 => 92 | 76 => 94 | 77 => 95 | n => n, fun | n => n⟩
theorem Try.sort32 : Go.Proofs.SlLaysF0.n6 Try.prog Try.sort32_ren := {
  mixed := by kernel_rfl
  f6 := ⟨Try.f32.name, by decide, Try.func32.trans (congrArg some (by kernel_rfl))⟩
  f14 := ⟨Try.f39.name, by decide, Try.func39.trans (congrArg some (by kernel_rfl))⟩
  f15 := Try.func40.trans (congrArg some (by kernel_rfl))
  f20 := ⟨Try.f43.name, by decide, Try.func43.trans (congrArg some (by kernel_rfl))⟩
  f21 := ⟨Try.f44.name, by decide, Try.func44.trans (congrArg some (by kernel_rfl))⟩
  f22 := ⟨Try.f45.name, by decide, Try.func45.trans (congrArg some (by kernel_rfl))⟩
  f23 := ⟨Try.f46.name, by decide, Try.func46.trans (congrArg some (by kernel_rfl))⟩
  f24 := ⟨Try.f47.name, by decide, Try.func47.trans (congrArg some (by kernel_rfl))⟩
  f25 := ⟨Try.f48.name, by decide, Try.func48.trans (congrArg some (by kernel_rfl))⟩
  f26 := ⟨Try.f49.name, by decide, Try.func49.trans (congrArg some (by kernel_rfl))⟩
  f27 := ⟨Try.f50.name, by decide, Try.func50.trans (congrArg some (by kernel_rfl))⟩
  f28 := Try.func51.trans (congrArg some (by kernel_rfl))
  f29 := Try.func52.trans (congrArg some (by kernel_rfl))
  f46 := ⟨Try.f53.name, by decide, Try.func53.trans (congrArg some (by kernel_rfl))⟩
  f47 := Try.func54.trans (congrArg some (by kernel_rfl))
  f48 := Try.func55.trans (congrArg some (by kernel_rfl))
  f49 := ⟨Try.f56.name, by decide, Try.func56.trans (congrArg some (by kernel_rfl))⟩
  f50 := ⟨Try.f57.name, by decide, Try.func57.trans (congrArg some (by kernel_rfl))⟩
  f57 := ⟨Try.f58.name, by decide, Try.func58.trans (congrArg some (by kernel_rfl))⟩
  t0 := Try.underlying0
  a0 := Try.isAgg0
  z0 := Try.sizeOf0
  v0 := Try.zeroValue0
  t3 := Try.underlying3
  a3 := Try.isAgg3
  z3 := Try.sizeOf3
  v3 := Try.zeroValue3
  t4 := Try.underlying4
  a4 := Try.isAgg4
  z4 := Try.sizeOf4
  v4 := Try.zeroValue4
  t5 := Try.underlying5
  a5 := Try.isAgg5
  z5 := Try.sizeOf5
  v5 := Try.zeroValue5
  t9 := Try.underlying9
  a9 := Try.isAgg9
  z9 := Try.sizeOf9
  v9 := Try.zeroValue9
  t22 := Try.underlying30
  a22 := Try.isAgg30
  z22 := Try.sizeOf30
  v22 := Try.zeroValue30
  t25 := Try.underlying70
  a25 := Try.isAgg70
  z25 := Try.sizeOf70
  v25 := Try.zeroValue70
  t39 := Try.underlying74
  a39 := Try.isAgg74
  z39 := Try.sizeOf74
  v39 := Try.zeroValue74
  t45 := Try.underlying77
  a45 := Try.isAgg77
  z45 := Try.sizeOf77
  v45 := Try.zeroValue77
  t46 := Try.underlying78
  a46 := Try.isAgg78
  z46 := Try.sizeOf78
  v46 := Try.zeroValue78
  t50 := Try.underlying82
  a50 := Try.isAgg82
  z50 := Try.sizeOf82
  v50 := Try.zeroValue82
  t53 := Try.underlying85
  a53 := Try.isAgg85
  z53 := Try.sizeOf85
  v53 := Try.zeroValue85
  t55 := Try.underlying87
  a55 := Try.isAgg87
  z55 := Try.sizeOf87
  v55 := Try.zeroValue87
  t66 := Try.underlying88
  a66 := Try.isAgg88
  z66 := Try.sizeOf88
  v66 := Try.zeroValue88
  t70 := Try.underlying92
  a70 := Try.isAgg92
  z70 := Try.sizeOf92
  v70 := Try.zeroValue92
  t76 := Try.underlying94
  a76 := Try.isAgg94
  z76 := Try.sizeOf94
  v76 := Try.zeroValue94
  t77 := Try.underlying95
  a77 := Try.isAgg95
  z77 := Try.sizeOf95
  v77 := Try.zeroValue95 }
end Go.Proofs
set_option linter.all false
set_option maxRecDepth 100000
set_option maxHeartbeats 4000000
namespace Go.Ab.D
open Go Go.Ab
noncomputable section
theorem mixed : Go.Proofs.Try.prog.follows .mixedOrders = true := by kernel_rfl
def clock_New (fu : Nat) (most : Int) : Option (Int ⊕ (Int × (Int × (Int × (List (((Int × Int) × Nat)) × Nat))))) :=
  Option.bind (α := (Bool)) (
    bif (decide (most < 1)) then
      some true
    else
      some (decide (most > 65536))) fun o =>
  bif o then
    some (.inl 2)
  else
    some (.inr (0, (0, (most, ([], 0)))))
def clock_New_fa : FnA := ⟨.two (.leaf) (.two (.two (.join ⟨[9], ⟨(.cons (.p .bool) .nil), []⟩⟩ false [] (.leaf)) (.two (.leaf) (.leaf))) (.two (.reg [(0, { ids := [100] }), (3, { ids := [101] })]) (.leaf))), ⟨(.cons (.p (.int .i64)) .nil), []⟩, [⟨(.cons (.nilp (.pointer none)) (.cons (.p (.int .i64)) .nil)), []⟩, ⟨(.cons (.own 0 0 0 0) (.cons (.p (.int .i64)) .nil)), [(0, false, (.vars (.cons (.p (.int .i64)) (.cons (.mp 1) (.cons (.p (.int .i64)) .nil))))), (1, false, (.map (.int .i64) (.int .i64)))]⟩], [0, 0]⟩
def clock_New_ft (fu : Nat) : FnT := ⟨10, ⟨(.cons (.p (.int .i64)) .nil), []⟩, [⟨(.cons (.nilp (.pointer none)) (.cons (.p (.int .i64)) .nil)), []⟩, ⟨(.cons (.own 0 0 0 0) (.cons (.p (.int .i64)) .nil)), [(0, false, (.vars (.cons (.p (.int .i64)) (.cons (.mp 1) (.cons (.p (.int .i64)) .nil))))), (1, false, (.map (.int .i64) (.int .i64)))]⟩], fun t => clock_New fu t⟩
theorem clock_New_eq (fu : Nat) : ∀ t, evF Go.Proofs.Try.prog [] fu Go.Proofs.Try.f10 clock_New_fa t = (clock_New_ft fu).spec t := fun t => by kernel_rfl
theorem clock_New_told (fu : Nat) : Told Go.Proofs.Try.prog (clock_New_ft fu) := told_of allT_nil mixed Go.Proofs.Try.func10 (by kernel_rfl) (by kernel_rfl) (clock_New_eq fu)

def clock_Clock_none_n0 (fu : Nat)  : Option (Bool) :=
  some true
def clock_Clock_none_n0_fa : FnA := ⟨.two (.leaf) (.leaf), ⟨(.cons (.nilp (.pointer none)) .nil), []⟩, [⟨(.cons (.p .bool) .nil), []⟩], [0]⟩
def clock_Clock_none_n0_ft (fu : Nat) : FnT := ⟨30, ⟨(.cons (.nilp (.pointer none)) .nil), []⟩, [⟨(.cons (.p .bool) .nil), []⟩], fun t => clock_Clock_none_n0 fu ⟩
theorem clock_Clock_none_n0_eq (fu : Nat) : ∀ t, evF Go.Proofs.Try.prog [] fu Go.Proofs.Try.f30 clock_Clock_none_n0_fa t = (clock_Clock_none_n0_ft fu).spec t := fun t => by kernel_rfl
theorem clock_Clock_none_n0_told (fu : Nat) : Told Go.Proofs.Try.prog (clock_Clock_none_n0_ft fu) := told_of allT_nil mixed Go.Proofs.Try.func30 (by kernel_rfl) (by kernel_rfl) (clock_Clock_none_n0_eq fu)

def clock_Clock_Set_n0 (fu : Nat) (id : Int) (in_ : Int) : Option (Int) :=
  (clock_Clock_none_n0 fu).bind fun r =>
  bif r then
    some 1
  else
    none
def clock_Clock_Set_n0_fa : FnA := ⟨.two (.leaf) (.two (.two (.reg [(1, {  })]) (.two (.leaf) (.leaf))) (.leaf)), ⟨(.cons (.nilp (.pointer none)) (.cons (.p (.int .i64)) (.cons (.p (.int .i64)) .nil))), []⟩, [⟨(.cons (.p (.int .i64)) .nil), []⟩], [0]⟩
def clock_Clock_Set_n0_ft (fu : Nat) : FnT := ⟨11, ⟨(.cons (.nilp (.pointer none)) (.cons (.p (.int .i64)) (.cons (.p (.int .i64)) .nil))), []⟩, [⟨(.cons (.p (.int .i64)) .nil), []⟩], fun t => clock_Clock_Set_n0 fu t.1 t.2⟩
theorem clock_Clock_Set_n0_eq (fu : Nat) : ∀ t, evF Go.Proofs.Try.prog [clock_Clock_none_n0_ft fu] fu Go.Proofs.Try.f11 clock_Clock_Set_n0_fa t = (clock_Clock_Set_n0_ft fu).spec t := fun t => by kernel_rfl
theorem clock_Clock_Set_n0_told (fu : Nat) : Told Go.Proofs.Try.prog (clock_Clock_Set_n0_ft fu) := told_of (allT_cons (clock_Clock_none_n0_told fu) allT_nil) mixed Go.Proofs.Try.func11 (by kernel_rfl) (by kernel_rfl) (clock_Clock_Set_n0_eq fu)

def clock_Clock_Unset_n0 (fu : Nat) (id : Int) : Option (Bool) :=
  (clock_Clock_none_n0 fu).bind fun r =>
  bif r then
    some false
  else
    none
def clock_Clock_Unset_n0_fa : FnA := ⟨.two (.leaf) (.two (.two (.reg [(1, {  })]) (.two (.leaf) (.leaf))) (.leaf)), ⟨(.cons (.nilp (.pointer none)) (.cons (.p (.int .i64)) .nil)), []⟩, [⟨(.cons (.p .bool) .nil), []⟩], [0]⟩
def clock_Clock_Unset_n0_ft (fu : Nat) : FnT := ⟨12, ⟨(.cons (.nilp (.pointer none)) (.cons (.p (.int .i64)) .nil)), []⟩, [⟨(.cons (.p .bool) .nil), []⟩], fun t => clock_Clock_Unset_n0 fu t⟩
theorem clock_Clock_Unset_n0_eq (fu : Nat) : ∀ t, evF Go.Proofs.Try.prog [clock_Clock_none_n0_ft fu] fu Go.Proofs.Try.f12 clock_Clock_Unset_n0_fa t = (clock_Clock_Unset_n0_ft fu).spec t := fun t => by kernel_rfl
theorem clock_Clock_Unset_n0_told (fu : Nat) : Told Go.Proofs.Try.prog (clock_Clock_Unset_n0_ft fu) := told_of (allT_cons (clock_Clock_none_n0_told fu) allT_nil) mixed Go.Proofs.Try.func12 (by kernel_rfl) (by kernel_rfl) (clock_Clock_Unset_n0_eq fu)

def clock_Clock_All_n0 (fu : Nat)  : Option (Unit) :=
  (clock_Clock_none_n0 fu).bind fun r =>
  bif r then
    some ()
  else
    none
def clock_Clock_All_n0_fa : FnA := ⟨.two (.leaf) (.two (.two (.reg [(1, {  })]) (.two (.leaf) (.leaf))) (.two (.leaf) (.two (.leaf) (.leaf)))), ⟨(.cons (.nilp (.pointer none)) .nil), []⟩, [⟨(.cons (.nilp (.slice none 0 0)) .nil), []⟩], [1]⟩
def clock_Clock_All_n0_ft (fu : Nat) : FnT := ⟨16, ⟨(.cons (.nilp (.pointer none)) .nil), []⟩, [⟨(.cons (.nilp (.slice none 0 0)) .nil), []⟩], fun t => clock_Clock_All_n0 fu ⟩
theorem clock_Clock_All_n0_eq (fu : Nat) : ∀ t, evF Go.Proofs.Try.prog [clock_Clock_none_n0_ft fu] fu Go.Proofs.Try.f16 clock_Clock_All_n0_fa t = (clock_Clock_All_n0_ft fu).spec t := fun t => by kernel_rfl
theorem clock_Clock_All_n0_told (fu : Nat) : Told Go.Proofs.Try.prog (clock_Clock_All_n0_ft fu) := told_of (allT_cons (clock_Clock_none_n0_told fu) allT_nil) mixed Go.Proofs.Try.func16 (by kernel_rfl) (by kernel_rfl) (clock_Clock_All_n0_eq fu)

def clock_Clock_Next_n0 (fu : Nat)  : Option ((Int × (Int × Bool))) :=
  (clock_Clock_All_n0 fu).bind fun r =>
  some (0, (0, false))
def clock_Clock_Next_n0_fa : FnA := ⟨.two (.reg [(0, { ids := [100] })]) (.two (.reg [(1, {  })]) (.two (.two (.leaf) (.two (.leaf) (.leaf))) (.leaf))), ⟨(.cons (.nilp (.pointer none)) .nil), []⟩, [⟨(.cons (.agg (.cons (.p (.int .i64)) (.cons (.p (.int .i64)) .nil))) (.cons (.p .bool) .nil)), []⟩], [0, 0]⟩
def clock_Clock_Next_n0_ft (fu : Nat) : FnT := ⟨19, ⟨(.cons (.nilp (.pointer none)) .nil), []⟩, [⟨(.cons (.agg (.cons (.p (.int .i64)) (.cons (.p (.int .i64)) .nil))) (.cons (.p .bool) .nil)), []⟩], fun t => clock_Clock_Next_n0 fu ⟩
theorem clock_Clock_Next_n0_eq (fu : Nat) : ∀ t, evF Go.Proofs.Try.prog [clock_Clock_All_n0_ft fu] fu Go.Proofs.Try.f19 clock_Clock_Next_n0_fa t = (clock_Clock_Next_n0_ft fu).spec t := fun t => by kernel_rfl
theorem clock_Clock_Next_n0_told (fu : Nat) : Told Go.Proofs.Try.prog (clock_Clock_Next_n0_ft fu) := told_of (allT_cons (clock_Clock_All_n0_told fu) allT_nil) mixed Go.Proofs.Try.func19 (by kernel_rfl) (by kernel_rfl) (clock_Clock_Next_n0_eq fu)

def clock_Clock_told_n0 (fu : Nat) (now : Int) : Option (Empty) :=
  none
def clock_Clock_told_n0_fa : FnA := ⟨.two (.leaf) (.leaf), ⟨(.cons (.nilp (.pointer none)) (.cons (.p (.int .i64)) .nil)), []⟩, [], [0]⟩
def clock_Clock_told_n0_ft (fu : Nat) : FnT := ⟨31, ⟨(.cons (.nilp (.pointer none)) (.cons (.p (.int .i64)) .nil)), []⟩, [], fun t => clock_Clock_told_n0 fu t⟩
theorem clock_Clock_told_n0_eq (fu : Nat) : ∀ t, evF Go.Proofs.Try.prog [] fu Go.Proofs.Try.f31 clock_Clock_told_n0_fa t = (clock_Clock_told_n0_ft fu).spec t := fun t => by kernel_rfl
theorem clock_Clock_told_n0_told (fu : Nat) : Told Go.Proofs.Try.prog (clock_Clock_told_n0_ft fu) := told_of allT_nil mixed Go.Proofs.Try.func31 (by kernel_rfl) (by kernel_rfl) (clock_Clock_told_n0_eq fu)

def clock_Clock_Skip_n0 (fu : Nat)  : Option (Unit) :=
  (clock_Clock_Next_n0 fu).bind fun r =>
  bif (!r.2.2) then
    some ()
  else
    (clock_Clock_told_n0 fu r.1).bind fun r1 =>
    Empty.elim r1
def clock_Clock_Skip_n0_fa : FnA := ⟨.two (.leaf) (.two (.reg [(1, {  }), (5, { ids := [100] })]) (.two (.two (.leaf) (.two (.leaf) (.leaf))) (.two (.reg [(3, { fn := 1 })]) (.leaf)))), ⟨(.cons (.nilp (.pointer none)) .nil), []⟩, [⟨(.cons (.nilp (.slice none 0 0)) .nil), []⟩], [0]⟩
def clock_Clock_Skip_n0_ft (fu : Nat) : FnT := ⟨14, ⟨(.cons (.nilp (.pointer none)) .nil), []⟩, [⟨(.cons (.nilp (.slice none 0 0)) .nil), []⟩], fun t => clock_Clock_Skip_n0 fu ⟩
theorem clock_Clock_Skip_n0_eq (fu : Nat) : ∀ t, evF Go.Proofs.Try.prog [clock_Clock_Next_n0_ft fu, clock_Clock_told_n0_ft fu] fu Go.Proofs.Try.f14 clock_Clock_Skip_n0_fa t = (clock_Clock_Skip_n0_ft fu).spec t := fun t => by kernel_rfl
theorem clock_Clock_Skip_n0_told (fu : Nat) : Told Go.Proofs.Try.prog (clock_Clock_Skip_n0_ft fu) := told_of (allT_cons (clock_Clock_Next_n0_told fu) (allT_cons (clock_Clock_told_n0_told fu) allT_nil)) mixed Go.Proofs.Try.func14 (by kernel_rfl) (by kernel_rfl) (clock_Clock_Skip_n0_eq fu)

def law08_ids_l0 (fu : Nat) (l : List ((Int × Int))) (want : List (Int)) (x : Int) : Option (Int ⊕ (Unit ⊕ Bool)) :=
  bif (decide (x < ((l.length : Nat) : Int))) then
    (idx? x l.length).bind fun q =>
    (l)[q]?.bind fun r =>
    (idx? x want.length).bind fun q1 =>
    (want)[q1]?.bind fun r1 =>
    bif (!(r.2 == r1)) then
      some (.inr (.inr false))
    else
      some (.inl (IntKind.wrap .i64 (x + 1)))
  else
    some (.inr (.inl ()))
def law08_ids_l0_it (fu : Nat) (l : List ((Int × Int))) (want : List (Int)) (tt : Int) : Option (Unit ⊕ Bool) :=
  iter fu (fun tt => law08_ids_l0 fu l want tt) tt
def law08_ids (fu : Nat) (l : List ((Int × Int))) (want : List (Int)) : Option (Bool) :=
  bif (!(((l.length : Nat) : Int) == ((want.length : Nat) : Int))) then
    some false
  else
    (law08_ids_l0_it fu l want 0).bind fun o =>
    match o with
    | .inl s =>
      some true
    | .inr o1 =>
      some o1
def law08_ids_fa : FnA := ⟨.two (.leaf) (.two (.two (.leaf) (.two (.leaf) (.leaf))) (.two (.two (.leaf) (.one (.loop ⟨[13], ⟨(.cons (.p (.int .i64)) .nil), []⟩⟩ true [(0, ⟨[], ⟨.nil, []⟩⟩)] (.two (.leaf) (.two (.leaf) (.two (.one (.two (.leaf) (.two (.leaf) (.two (.leaf) (.leaf))))) (.leaf))))))) (.leaf))), ⟨(.cons (.p (.sl (.pair (.int .i64) (.int .i64)))) (.cons (.p (.sl (.int .i64))) .nil)), []⟩, [⟨(.cons (.p .bool) .nil), []⟩], [0]⟩
def law08_ids_ft (fu : Nat) : FnT := ⟨13, ⟨(.cons (.p (.sl (.pair (.int .i64) (.int .i64)))) (.cons (.p (.sl (.int .i64))) .nil)), []⟩, [⟨(.cons (.p .bool) .nil), []⟩], fun t => law08_ids fu t.1 t.2⟩
theorem law08_ids_eq (fu : Nat) : ∀ t, evF Go.Proofs.Try.prog [] fu Go.Proofs.Try.f13 law08_ids_fa t = (law08_ids_ft fu).spec t := fun t => by kernel_rfl
theorem law08_ids_told (fu : Nat) : Told Go.Proofs.Try.prog (law08_ids_ft fu) := told_of allT_nil mixed Go.Proofs.Try.func13 (by kernel_rfl) (by kernel_rfl) (law08_ids_eq fu)

def clock_Clock_Now_n0 (fu : Nat)  : Option (Int) :=
  (clock_Clock_none_n0 fu).bind fun r =>
  bif r then
    some 0
  else
    none
def clock_Clock_Now_n0_fa : FnA := ⟨.two (.leaf) (.two (.two (.reg [(1, {  })]) (.two (.leaf) (.leaf))) (.leaf)), ⟨(.cons (.nilp (.pointer none)) .nil), []⟩, [⟨(.cons (.p (.int .i64)) .nil), []⟩], [0]⟩
def clock_Clock_Now_n0_ft (fu : Nat) : FnT := ⟨15, ⟨(.cons (.nilp (.pointer none)) .nil), []⟩, [⟨(.cons (.p (.int .i64)) .nil), []⟩], fun t => clock_Clock_Now_n0 fu ⟩
theorem clock_Clock_Now_n0_eq (fu : Nat) : ∀ t, evF Go.Proofs.Try.prog [clock_Clock_none_n0_ft fu] fu Go.Proofs.Try.f15 clock_Clock_Now_n0_fa t = (clock_Clock_Now_n0_ft fu).spec t := fun t => by kernel_rfl
theorem clock_Clock_Now_n0_told (fu : Nat) : Told Go.Proofs.Try.prog (clock_Clock_Now_n0_ft fu) := told_of (allT_cons (clock_Clock_none_n0_told fu) allT_nil) mixed Go.Proofs.Try.func15 (by kernel_rfl) (by kernel_rfl) (clock_Clock_Now_n0_eq fu)

def clock_Clock_Tick_n0 (fu : Nat)  : Option (Unit) :=
  (clock_Clock_none_n0 fu).bind fun r =>
  bif r then
    some ()
  else
    none
def clock_Clock_Tick_n0_fa : FnA := ⟨.two (.leaf) (.two (.two (.reg [(1, {  })]) (.two (.leaf) (.leaf))) (.leaf)), ⟨(.cons (.nilp (.pointer none)) .nil), []⟩, [⟨(.cons (.nilp (.slice none 0 0)) .nil), []⟩], [0]⟩
def clock_Clock_Tick_n0_ft (fu : Nat) : FnT := ⟨17, ⟨(.cons (.nilp (.pointer none)) .nil), []⟩, [⟨(.cons (.nilp (.slice none 0 0)) .nil), []⟩], fun t => clock_Clock_Tick_n0 fu ⟩
theorem clock_Clock_Tick_n0_eq (fu : Nat) : ∀ t, evF Go.Proofs.Try.prog [clock_Clock_none_n0_ft fu] fu Go.Proofs.Try.f17 clock_Clock_Tick_n0_fa t = (clock_Clock_Tick_n0_ft fu).spec t := fun t => by kernel_rfl
theorem clock_Clock_Tick_n0_told (fu : Nat) : Told Go.Proofs.Try.prog (clock_Clock_Tick_n0_ft fu) := told_of (allT_cons (clock_Clock_none_n0_told fu) allT_nil) mixed Go.Proofs.Try.func17 (by kernel_rfl) (by kernel_rfl) (clock_Clock_Tick_n0_eq fu)

def clock_Clock_Due_n0 (fu : Nat) (id : Int) : Option ((Int × Bool)) :=
  (clock_Clock_none_n0 fu).bind fun r =>
  bif r then
    some (0, false)
  else
    none
def clock_Clock_Due_n0_fa : FnA := ⟨.two (.leaf) (.two (.two (.reg [(1, {  })]) (.two (.leaf) (.leaf))) (.leaf)), ⟨(.cons (.nilp (.pointer none)) (.cons (.p (.int .i64)) .nil)), []⟩, [⟨(.cons (.p (.int .i64)) (.cons (.p .bool) .nil)), []⟩], [0, 0]⟩
def clock_Clock_Due_n0_ft (fu : Nat) : FnT := ⟨18, ⟨(.cons (.nilp (.pointer none)) (.cons (.p (.int .i64)) .nil)), []⟩, [⟨(.cons (.p (.int .i64)) (.cons (.p .bool) .nil)), []⟩], fun t => clock_Clock_Due_n0 fu t⟩
theorem clock_Clock_Due_n0_eq (fu : Nat) : ∀ t, evF Go.Proofs.Try.prog [clock_Clock_none_n0_ft fu] fu Go.Proofs.Try.f18 clock_Clock_Due_n0_fa t = (clock_Clock_Due_n0_ft fu).spec t := fun t => by kernel_rfl
theorem clock_Clock_Due_n0_told (fu : Nat) : Told Go.Proofs.Try.prog (clock_Clock_Due_n0_ft fu) := told_of (allT_cons (clock_Clock_none_n0_told fu) allT_nil) mixed Go.Proofs.Try.func18 (by kernel_rfl) (by kernel_rfl) (clock_Clock_Due_n0_eq fu)

def clock_Clock_none__cm (fu : Nat) (h : Int) (h1 : Int) (h2 : (List (((Int × Int) × Nat)) × Nat)) : Option ((Bool × (Int × (Int × (List (((Int × Int) × Nat)) × Nat))))) :=
  some (false, (h, (h1, h2)))
def clock_Clock_none__cm_fa : FnA := ⟨.two (.leaf) (.leaf), ⟨(.cons (.own 0 0 0 0) .nil), [(0, false, (.vars (.cons (.p (.int .i64)) (.cons (.mp 1) (.cons (.p (.int .i64)) .nil))))), (1, false, (.map (.int .i64) (.int .i64)))]⟩, [⟨(.cons (.p .bool) .nil), [(0, false, (.vars (.cons (.p (.int .i64)) (.cons (.mp 1) (.cons (.p (.int .i64)) .nil))))), (1, false, (.map (.int .i64) (.int .i64)))]⟩], [0]⟩
def clock_Clock_none__cm_ft (fu : Nat) : FnT := ⟨30, ⟨(.cons (.own 0 0 0 0) .nil), [(0, false, (.vars (.cons (.p (.int .i64)) (.cons (.mp 1) (.cons (.p (.int .i64)) .nil))))), (1, false, (.map (.int .i64) (.int .i64)))]⟩, [⟨(.cons (.p .bool) .nil), [(0, false, (.vars (.cons (.p (.int .i64)) (.cons (.mp 1) (.cons (.p (.int .i64)) .nil))))), (1, false, (.map (.int .i64) (.int .i64)))]⟩], fun t => clock_Clock_none__cm fu t.1 t.2.1 t.2.2⟩
theorem clock_Clock_none__cm_eq (fu : Nat) : ∀ t, evF Go.Proofs.Try.prog [] fu Go.Proofs.Try.f30 clock_Clock_none__cm_fa t = (clock_Clock_none__cm_ft fu).spec t := fun t => by kernel_rfl
theorem clock_Clock_none__cm_told (fu : Nat) : Told Go.Proofs.Try.prog (clock_Clock_none__cm_ft fu) := told_of allT_nil mixed Go.Proofs.Try.func30 (by kernel_rfl) (by kernel_rfl) (clock_Clock_none__cm_eq fu)

def clock_Clock_Set__cm (fu : Nat) (id : Int) (in_ : Int) (h : Int) (h1 : Int) (h2 : (List (((Int × Int) × Nat)) × Nat)) : Option ((Int × (Int × (Int × (List (((Int × Int) × Nat)) × Nat))))) :=
  (clock_Clock_none__cm fu h h1 h2).bind fun r =>
  bif r.1 then
    some (1, (r.2.1, (r.2.2.1, r.2.2.2)))
  else
    Option.bind (α := ((Bool × (Int × (Int × (List (((Int × Int) × Nat)) × Nat)))))) (
      bif (decide (in_ < 1)) then
        some (true, (r.2.1, (r.2.2.1, r.2.2.2)))
      else
        some ((decide (in_ > (IntKind.wrap .i64 (1152921504606846976 - r.2.1)))), (r.2.1, (r.2.2.1, r.2.2.2)))) fun o =>
    bif o.1 then
      some (2, (o.2.1, (o.2.2.1, o.2.2.2)))
    else
      Option.bind (α := ((Bool × (Int × (Int × (List (((Int × Int) × Nat)) × Nat)))))) (
        bif (!(Option.isSome (mget (k := (.int .i64)) (v := (.int .i64)) r.2.2.2 id))) then
          some ((decide (((o.2.2.2.1.length : Nat) : Int) ≥ o.2.2.1)), (o.2.1, (o.2.2.1, o.2.2.2)))
        else
          some (false, (o.2.1, (o.2.2.1, o.2.2.2)))) fun o1 =>
      bif o1.1 then
        some (71, (o1.2.1, (o1.2.2.1, o1.2.2.2)))
      else
        some (0, (o1.2.1, (o1.2.2.1, (mput (k := (.int .i64)) (v := (.int .i64)) o1.2.2.2 id (IntKind.wrap .i64 (o1.2.1 + in_))))))
def clock_Clock_Set__cm_fa : FnA := ⟨.two (.leaf) (.two (.two (.reg [(1, { sh := [0, 1] })]) (.two (.leaf) (.leaf))) (.two (.leaf) (.two (.one (.two (.join ⟨[0, 20], ⟨(.cons (.own 0 0 0 0) (.cons (.p .bool) .nil)), [(0, false, (.vars (.cons (.p (.int .i64)) (.cons (.mp 1) (.cons (.p (.int .i64)) .nil))))), (1, false, (.map (.int .i64) (.int .i64)))]⟩⟩ false [] (.leaf)) (.two (.leaf) (.two (.join ⟨[0, 32], ⟨(.cons (.own 0 0 0 0) (.cons (.p .bool) .nil)), [(0, false, (.vars (.cons (.p (.int .i64)) (.cons (.mp 1) (.cons (.p (.int .i64)) .nil))))), (1, false, (.map (.int .i64) (.int .i64)))]⟩⟩ false [] (.leaf)) (.two (.leaf) (.leaf)))))) (.two (.leaf) (.leaf))))), ⟨(.cons (.own 0 0 0 0) (.cons (.p (.int .i64)) (.cons (.p (.int .i64)) .nil))), [(0, false, (.vars (.cons (.p (.int .i64)) (.cons (.mp 1) (.cons (.p (.int .i64)) .nil))))), (1, false, (.map (.int .i64) (.int .i64)))]⟩, [⟨(.cons (.p (.int .i64)) .nil), [(0, false, (.vars (.cons (.p (.int .i64)) (.cons (.mp 1) (.cons (.p (.int .i64)) .nil))))), (1, false, (.map (.int .i64) (.int .i64)))]⟩], [0]⟩
def clock_Clock_Set__cm_ft (fu : Nat) : FnT := ⟨11, ⟨(.cons (.own 0 0 0 0) (.cons (.p (.int .i64)) (.cons (.p (.int .i64)) .nil))), [(0, false, (.vars (.cons (.p (.int .i64)) (.cons (.mp 1) (.cons (.p (.int .i64)) .nil))))), (1, false, (.map (.int .i64) (.int .i64)))]⟩, [⟨(.cons (.p (.int .i64)) .nil), [(0, false, (.vars (.cons (.p (.int .i64)) (.cons (.mp 1) (.cons (.p (.int .i64)) .nil))))), (1, false, (.map (.int .i64) (.int .i64)))]⟩], fun t => clock_Clock_Set__cm fu t.1 t.2.1 t.2.2.1 t.2.2.2.1 t.2.2.2.2⟩
theorem clock_Clock_Set__cm_eq (fu : Nat) : ∀ t, evF Go.Proofs.Try.prog [clock_Clock_none__cm_ft fu] fu Go.Proofs.Try.f11 clock_Clock_Set__cm_fa t = (clock_Clock_Set__cm_ft fu).spec t := fun t => by kernel_rfl
theorem clock_Clock_Set__cm_told (fu : Nat) : Told Go.Proofs.Try.prog (clock_Clock_Set__cm_ft fu) := told_of (allT_cons (clock_Clock_none__cm_told fu) allT_nil) mixed Go.Proofs.Try.func11 (by kernel_rfl) (by kernel_rfl) (clock_Clock_Set__cm_eq fu)

def cmp_isNaN_int64 (fu : Nat) (x : Int) : Option (Bool) :=
  some (!(x == x))
def cmp_isNaN_int64_fa : FnA := ⟨.two (.leaf) (.leaf), ⟨(.cons (.p (.int .i64)) .nil), []⟩, [⟨(.cons (.p .bool) .nil), []⟩], [0]⟩
def cmp_isNaN_int64_ft (fu : Nat) : FnT := ⟨41, ⟨(.cons (.p (.int .i64)) .nil), []⟩, [⟨(.cons (.p .bool) .nil), []⟩], fun t => cmp_isNaN_int64 fu t⟩
theorem cmp_isNaN_int64_eq (fu : Nat) : ∀ t, evF Go.Proofs.Try.prog [] fu Go.Proofs.Try.f41 cmp_isNaN_int64_fa t = (cmp_isNaN_int64_ft fu).spec t := fun t => by kernel_rfl
theorem cmp_isNaN_int64_told (fu : Nat) : Told Go.Proofs.Try.prog (cmp_isNaN_int64_ft fu) := told_of allT_nil mixed Go.Proofs.Try.func41 (by kernel_rfl) (by kernel_rfl) (cmp_isNaN_int64_eq fu)

def cmp_Compare_int64 (fu : Nat) (x : Int) (y : Int) : Option (Int) :=
  (cmp_isNaN_int64 fu x).bind fun r =>
  (cmp_isNaN_int64 fu y).bind fun r1 =>
  bif r then
    bif r1 then
      some 0
    else
      some (-1)
  else
    bif r1 then
      some 1
    else
      bif (decide (x < y)) then
        some (-1)
      else
        bif (decide (x > y)) then
          some 1
        else
          some 0
def cmp_Compare_int64_fa : FnA := ⟨.two (.leaf) (.two (.reg [(1, {  })]) (.two (.reg [(1, {  })]) (.two (.two (.leaf) (.two (.two (.two (.leaf) (.two (.leaf) (.leaf))) (.leaf)) (.leaf))) (.two (.two (.leaf) (.two (.leaf) (.leaf))) (.two (.two (.leaf) (.two (.leaf) (.leaf))) (.two (.two (.leaf) (.two (.leaf) (.leaf))) (.leaf))))))), ⟨(.cons (.p (.int .i64)) (.cons (.p (.int .i64)) .nil)), []⟩, [⟨(.cons (.p (.int .i64)) .nil), []⟩], [0]⟩
def cmp_Compare_int64_ft (fu : Nat) : FnT := ⟨35, ⟨(.cons (.p (.int .i64)) (.cons (.p (.int .i64)) .nil)), []⟩, [⟨(.cons (.p (.int .i64)) .nil), []⟩], fun t => cmp_Compare_int64 fu t.1 t.2⟩
theorem cmp_Compare_int64_eq (fu : Nat) : ∀ t, evF Go.Proofs.Try.prog [cmp_isNaN_int64_ft fu] fu Go.Proofs.Try.f35 cmp_Compare_int64_fa t = (cmp_Compare_int64_ft fu).spec t := fun t => by kernel_rfl
theorem cmp_Compare_int64_told (fu : Nat) : Told Go.Proofs.Try.prog (cmp_Compare_int64_ft fu) := told_of (allT_cons (cmp_isNaN_int64_told fu) allT_nil) mixed Go.Proofs.Try.func35 (by kernel_rfl) (by kernel_rfl) (cmp_Compare_int64_eq fu)

def cmp_isNaN_int (fu : Nat) (x : Int) : Option (Bool) :=
  some (!(x == x))
def cmp_isNaN_int_fa : FnA := ⟨.two (.leaf) (.leaf), ⟨(.cons (.p (.int .i64)) .nil), []⟩, [⟨(.cons (.p .bool) .nil), []⟩], [0]⟩
def cmp_isNaN_int_ft (fu : Nat) : FnT := ⟨42, ⟨(.cons (.p (.int .i64)) .nil), []⟩, [⟨(.cons (.p .bool) .nil), []⟩], fun t => cmp_isNaN_int fu t⟩
theorem cmp_isNaN_int_eq (fu : Nat) : ∀ t, evF Go.Proofs.Try.prog [] fu Go.Proofs.Try.f42 cmp_isNaN_int_fa t = (cmp_isNaN_int_ft fu).spec t := fun t => by kernel_rfl
theorem cmp_isNaN_int_told (fu : Nat) : Told Go.Proofs.Try.prog (cmp_isNaN_int_ft fu) := told_of allT_nil mixed Go.Proofs.Try.func42 (by kernel_rfl) (by kernel_rfl) (cmp_isNaN_int_eq fu)

def cmp_Compare_int (fu : Nat) (x : Int) (y : Int) : Option (Int) :=
  (cmp_isNaN_int fu x).bind fun r =>
  (cmp_isNaN_int fu y).bind fun r1 =>
  bif r then
    bif r1 then
      some 0
    else
      some (-1)
  else
    bif r1 then
      some 1
    else
      bif (decide (x < y)) then
        some (-1)
      else
        bif (decide (x > y)) then
          some 1
        else
          some 0
def cmp_Compare_int_fa : FnA := ⟨.two (.leaf) (.two (.reg [(1, {  })]) (.two (.reg [(1, {  })]) (.two (.two (.leaf) (.two (.two (.two (.leaf) (.two (.leaf) (.leaf))) (.leaf)) (.leaf))) (.two (.two (.leaf) (.two (.leaf) (.leaf))) (.two (.two (.leaf) (.two (.leaf) (.leaf))) (.two (.two (.leaf) (.two (.leaf) (.leaf))) (.leaf))))))), ⟨(.cons (.p (.int .i64)) (.cons (.p (.int .i64)) .nil)), []⟩, [⟨(.cons (.p (.int .i64)) .nil), []⟩], [0]⟩
def cmp_Compare_int_ft (fu : Nat) : FnT := ⟨36, ⟨(.cons (.p (.int .i64)) (.cons (.p (.int .i64)) .nil)), []⟩, [⟨(.cons (.p (.int .i64)) .nil), []⟩], fun t => cmp_Compare_int fu t.1 t.2⟩
theorem cmp_Compare_int_eq (fu : Nat) : ∀ t, evF Go.Proofs.Try.prog [cmp_isNaN_int_ft fu] fu Go.Proofs.Try.f36 cmp_Compare_int_fa t = (cmp_Compare_int_ft fu).spec t := fun t => by kernel_rfl
theorem cmp_Compare_int_told (fu : Nat) : Told Go.Proofs.Try.prog (cmp_Compare_int_ft fu) := told_of (allT_cons (cmp_isNaN_int_told fu) allT_nil) mixed Go.Proofs.Try.func36 (by kernel_rfl) (by kernel_rfl) (cmp_Compare_int_eq fu)

def cmp_Or_int_l0 (fu : Nat) (vals : List (Int)) (x : Int) : Option (Int ⊕ (Unit ⊕ Int)) :=
  bif (decide (x < ((vals.length : Nat) : Int))) then
    (idx? x vals.length).bind fun q =>
    (vals)[q]?.bind fun r =>
    bif (!(r == 0)) then
      some (.inr (.inr r))
    else
      some (.inl (IntKind.wrap .i64 (x + 1)))
  else
    some (.inr (.inl ()))
def cmp_Or_int_l0_it (fu : Nat) (vals : List (Int)) (tt : Int) : Option (Unit ⊕ Int) :=
  iter fu (fun tt => cmp_Or_int_l0 fu vals tt) tt
def cmp_Or_int (fu : Nat) (vals : List (Int)) : Option (Int) :=
  (cmp_Or_int_l0_it fu vals 0).bind fun o =>
  match o with
  | .inl s =>
    some 0
  | .inr o1 =>
    some o1
def cmp_Or_int_fa : FnA := ⟨.two (.leaf) (.two (.leaf) (.two (.two (.leaf) (.one (.loop ⟨[8], ⟨(.cons (.p (.int .i64)) .nil), []⟩⟩ true [(0, ⟨[], ⟨.nil, []⟩⟩)] (.two (.leaf) (.two (.leaf) (.two (.one (.two (.leaf) (.two (.leaf) (.two (.leaf) (.leaf))))) (.leaf))))))) (.leaf))), ⟨(.cons (.p (.sl (.int .i64))) .nil), []⟩, [⟨(.cons (.p (.int .i64)) .nil), []⟩], [0]⟩
def cmp_Or_int_ft (fu : Nat) : FnT := ⟨34, ⟨(.cons (.p (.sl (.int .i64))) .nil), []⟩, [⟨(.cons (.p (.int .i64)) .nil), []⟩], fun t => cmp_Or_int fu t⟩
theorem cmp_Or_int_eq (fu : Nat) : ∀ t, evF Go.Proofs.Try.prog [] fu Go.Proofs.Try.f34 cmp_Or_int_fa t = (cmp_Or_int_ft fu).spec t := fun t => by kernel_rfl
theorem cmp_Or_int_told (fu : Nat) : Told Go.Proofs.Try.prog (cmp_Or_int_ft fu) := told_of allT_nil mixed Go.Proofs.Try.func34 (by kernel_rfl) (by kernel_rfl) (cmp_Or_int_eq fu)

def clock_Clock_All_1 (fu : Nat) (a : (Int × Int)) (b : (Int × Int)) : Option (Int) :=
  (cmp_Compare_int64 fu a.1 b.1).bind fun r =>
  (cmp_Compare_int fu a.2 b.2).bind fun r1 =>
  (cmp_Or_int fu [r, r1]).bind fun r2 =>
  some r2
def clock_Clock_All_1_fa : FnA := ⟨.two (.reg [(0, { ids := [100] }), (1, { ids := [101] })]) (.two (.reg [(4, {  }), (9, { fn := 1 }), (10, { ids := [102] }), (11, { md := [2], fn := 2 })]) (.leaf)), ⟨(.cons (.p (.pair (.int .i64) (.int .i64))) (.cons (.p (.pair (.int .i64) (.int .i64))) .nil)), []⟩, [⟨(.cons (.p (.int .i64)) .nil), []⟩], [0]⟩
def clock_Clock_All_1_ft (fu : Nat) : FnT := ⟨33, ⟨(.cons (.p (.pair (.int .i64) (.int .i64))) (.cons (.p (.pair (.int .i64) (.int .i64))) .nil)), []⟩, [⟨(.cons (.p (.int .i64)) .nil), []⟩], fun t => clock_Clock_All_1 fu t.1 t.2⟩
theorem clock_Clock_All_1_eq (fu : Nat) : ∀ t, evF Go.Proofs.Try.prog [cmp_Compare_int64_ft fu, cmp_Compare_int_ft fu, cmp_Or_int_ft fu] fu Go.Proofs.Try.f33 clock_Clock_All_1_fa t = (clock_Clock_All_1_ft fu).spec t := fun t => by kernel_rfl
theorem clock_Clock_All_1_told (fu : Nat) : Told Go.Proofs.Try.prog (clock_Clock_All_1_ft fu) := told_of (allT_cons (cmp_Compare_int64_told fu) (allT_cons (cmp_Compare_int_told fu) (allT_cons (cmp_Or_int_told fu) allT_nil))) mixed Go.Proofs.Try.func33 (by kernel_rfl) (by kernel_rfl) (clock_Clock_All_1_eq fu)

def slices_SortFunc__api_Timer_api_Timer_o0f11 (fu : Nat) (l : List (Int × Int)) : Option (List (Int × Int)) :=
  need (Nat.ble 4 fu) <| need (Nat.blt l.length 4611686018427387904) (some (sortL (Go.Proofs.ltOf fun x y => ((clock_Clock_All_1 fu x y : Option Int).getD 0)) l))
def slices_SortFunc__api_Timer_api_Timer_o0f11_ft (fu : Nat) : FnT := ⟨32, ⟨(.cons (.slf 2 0) (.cons (.fn 33 .nil .nil) .nil)), [(0, false, (.rows 36 (.pair (.int .i64) (.int .i64))))]⟩, [⟨.nil, [(0, false, (.rows 36 (.pair (.int .i64) (.int .i64))))]⟩], fun t => slices_SortFunc__api_Timer_api_Timer_o0f11 fu t⟩
/-- The comparison of timers: by their times, then by their numbers. -/
def cfT (x y : Int × Int) : Int := if x.1 < y.1 then -1 else if x.1 > y.1 then 1 else if x.2 < y.2 then -1 else if x.2 > y.2 then 1 else 0
theorem cmpC (fu : Nat) (x y : Int) : cmp_Compare_int64 fu x y = some (if x < y then -1 else if x > y then 1 else 0) := by
  unfold cmp_Compare_int64 cmp_isNaN_int64
  by_cases h1 : x < y
  · simp [h1]
  · by_cases h2 : x > y <;> simp [h1, h2]
theorem cmpC' (fu : Nat) (x y : Int) : cmp_Compare_int fu x y = some (if x < y then -1 else if x > y then 1 else 0) := by
  unfold cmp_Compare_int cmp_isNaN_int
  by_cases h1 : x < y
  · simp [h1]
  · by_cases h2 : x > y <;> simp [h1, h2]
theorem cmpOr (n : Nat) (a b : Int) : cmp_Or_int (n + 4) [a, b] = some (if a ≠ 0 then a else b) := by
  unfold cmp_Or_int cmp_Or_int_l0_it
  by_cases h1 : a = 0
  · by_cases h2 : b = 0
    · subst h1; subst h2
      simp [iter, cmp_Or_int_l0, Option.ob, idx?, IntKind.wrap, IntKind.bits, IntKind.signed]
    · have e2 : (b == 0) = false := by simpa using h2
      simp [iter, cmp_Or_int_l0, Option.ob, idx?, h1, e2, IntKind.wrap, IntKind.bits, IntKind.signed]
  · have e1 : (a == 0) = false := by simpa using h1
    simp [iter, cmp_Or_int_l0, Option.ob, idx?, h1, e1]
theorem closeT (n : Nat) (x y : Int × Int) : clock_Clock_All_1 (n + 4) x y = some (cfT x y) := by
  unfold clock_Clock_All_1 cfT
  rw [cmpC, Option.bind_some, cmpC', Option.bind_some, cmpOr, Option.bind_some]
  congr 1
  by_cases h1 : x.1 < y.1
  · simp [h1]
  · by_cases h2 : x.1 > y.1 <;> simp [h1, h2]
theorem closeD (n : Nat) (x y : Int × Int) : clock_Clock_All_1 (n + 4) x y = some ((clock_Clock_All_1 (n + 4) x y : Option Int).getD 0) := by rw [closeT]; rfl
theorem ltT (n : Nat) : (Go.Proofs.ltOf fun x y => ((clock_Clock_All_1 (n + 4) x y : Option Int).getD 0)) = fun x y : Int × Int => decide (x.1 < y.1 ∨ (x.1 = y.1 ∧ x.2 < y.2)) := by
  funext x y
  show decide (((clock_Clock_All_1 (n + 4) x y : Option Int).getD 0) < 0) = _
  rw [closeT, Option.getD_some]
  unfold cfT
  by_cases h1 : x.1 < y.1
  · simp [h1]
  · by_cases h2 : x.1 > y.1
    · have : ¬ (x.1 = y.1) := by omega
      simp [h1, h2, this]
    · have h3 : x.1 = y.1 := by omega
      by_cases h4 : x.2 < y.2
      · simp [h3, h4]
      · by_cases h5 : x.2 > y.2 <;> simp [h3, h4, h5]
theorem swoT : Go.Sort.SWO fun x y : Int × Int => decide (x.1 < y.1 ∨ (x.1 = y.1 ∧ x.2 < y.2)) where
  irrefl x := by simp
  trans x y z h1 h2 := by simp only [decide_eq_true_eq] at *; omega
  ntrans x y z h1 h2 := by simp only [decide_eq_false_iff_not] at *; omega
theorem totT (x y : Int × Int) (h1 : (fun x y : Int × Int => decide (x.1 < y.1 ∨ (x.1 = y.1 ∧ x.2 < y.2))) x y = false) (h2 : (fun x y : Int × Int => decide (x.1 < y.1 ∨ (x.1 = y.1 ∧ x.2 < y.2))) y x = false) : x = y := by
  simp only [decide_eq_false_iff_not] at h1 h2
  exact Prod.ext (by omega) (by omega)
theorem slices_SortFunc__api_Timer_api_Timer_o0f11_told (fu : Nat) : Told Go.Proofs.Try.prog (slices_SortFunc__api_Timer_api_Timer_o0f11_ft fu) := by
  by_cases hf : 4 ≤ fu
  · obtain ⟨n, rfl⟩ : ∃ n, fu = n + 4 := ⟨fu - 4, by omega⟩
    have h := told_sort (e := 36) Go.Proofs.Try.sort32 Go.Proofs.Try.isAgg36 Go.Proofs.Try.sizeOf36 (by rw [ltT]; exact swoT) (clock_Clock_All_1_told (n + 4)) (cf := fun x y => ((clock_Clock_All_1 (n + 4) x y : Option Int).getD 0)) (fun x y => closeD n x y)
      ⟨_, _, Go.Proofs.Try.func32, rfl, by kernel_rfl⟩ (Go.Proofs.enters_of Go.Proofs.Try.func33 (by kernel_rfl) rfl)
    have e : slices_SortFunc__api_Timer_api_Timer_o0f11_ft (n + 4) = ⟨32, ⟨.cons (.slf 2 0) (.cons (.fn 33 .nil .nil) .nil), [(0, false, .rows 36 tyII)]⟩, [⟨.nil, [(0, false, .rows 36 tyII)]⟩], fun l => need (Nat.blt (List.length (α := Int × Int) l) 4611686018427387904) (some (sortL (Go.Proofs.ltOf fun x y => ((clock_Clock_All_1 (n + 4) x y : Option Int).getD 0)) l))⟩ := by
      unfold slices_SortFunc__api_Timer_api_Timer_o0f11_ft slices_SortFunc__api_Timer_api_Timer_o0f11
      have hb : Nat.ble 4 (n + 4) = true := by rw [Nat.ble_eq]; omega
      simp only [hb]
      rfl
    rw [e]
    exact h
  · refine ⟨⟨_, _, Go.Proofs.Try.func32, rfl, by kernel_rfl⟩, fun t r hr => ?_⟩
    exfalso
    have hr : slices_SortFunc__api_Timer_api_Timer_o0f11 fu t = some r := hr
    unfold slices_SortFunc__api_Timer_api_Timer_o0f11 at hr
    have := (need_iff.1 hr).1
    rw [Nat.ble_eq] at this
    exact hf this

def clock_Clock_All__cm_l0 (fu : Nat) (h3 : Int) (h4 : Int) (h5 : (List (((Int × Int) × Nat)) × Nat)) (h6 : List ((Int × Int))) (en : ((Int × Int) × Nat)) : Option ((Int × (Int × ((List (((Int × Int) × Nat)) × Nat) × List ((Int × Int))))) ⊕ (Empty)) :=
  need ((Nat.ble ((h6.length + 1) * 16) room) && (Nat.ble (h6.length + 1) room)) <|
  some (.inl (h3, (h4, (h5, (h6 ++ [(en.1.2, en.1.1)])))))
def clock_Clock_All__cm_l0_hd (r : (Bool × (Int × (Int × (List (((Int × Int) × Nat)) × Nat))))) (h3 : Int) (h4 : Int) (h5 : (List (((Int × Int) × Nat)) × Nat)) (h6 : List ((Int × Int))) : Option (List (((Int × Int) × Nat))) :=
  (need (Nat.beq h5.2 r.2.2.2.2) (some h5.1))
def clock_Clock_All__cm (fu : Nat) (h : Int) (h1 : Int) (h2 : (List (((Int × Int) × Nat)) × Nat)) : Option ((List ((Int × Int)) × (Int × (Int × (List (((Int × Int) × Nat)) × Nat))))) :=
  (clock_Clock_none__cm fu h h1 h2).bind fun r =>
  bif r.1 then
    some ([], (r.2.1, (r.2.2.1, r.2.2.2)))
  else
    mAll (fun (tt : (Int × (Int × ((List (((Int × Int) × Nat)) × Nat) × List ((Int × Int)))))) => clock_Clock_All__cm_l0_hd r tt.1 tt.2.1 tt.2.2.1 tt.2.2.2) (fun (tt : (Int × (Int × ((List (((Int × Int) × Nat)) × Nat) × List ((Int × Int)))))) (ee : ((Int × Int) × Nat)) => clock_Clock_All__cm_l0 fu tt.1 tt.2.1 tt.2.2.1 tt.2.2.2 ee) (r.2.1, (r.2.2.1, (r.2.2.2, []))) fun o =>
    match o with
    | .inl s =>
      (slices_SortFunc__api_Timer_api_Timer_o0f11 fu s.2.2.2).bind fun r1 =>
      some (r1, (s.1, (s.2.1, s.2.2.1)))
    | .inr o1 =>
      Empty.elim o1
def clock_Clock_All__cm_fa : FnA := ⟨.two (.leaf) (.two (.two (.reg [(1, { sh := [0, 1] })]) (.two (.leaf) (.leaf))) (.two (.leaf) (.two (.pre (.ownNil 3 36 100) (.mr [] [] (.int .i64) (.int .i64) 1 ⟨[0, 3, 11], ⟨(.cons (.own 0 0 0 0) (.cons (.slf 2 100) (.cons (.mp 1) .nil))), [(0, false, (.vars (.cons (.p (.int .i64)) (.cons (.mp 1) (.cons (.p (.int .i64)) .nil))))), (1, false, (.map (.int .i64) (.int .i64))), (100, false, (.rows 36 (.pair (.int .i64) (.int .i64))))]⟩⟩ false [] (.reg [(4, { ids := [101] }), (5, { ids := [102] })]))) (.two (.reg [(1, { sh := [100], fn := 1 })]) (.leaf))))), ⟨(.cons (.own 0 0 0 0) .nil), [(0, false, (.vars (.cons (.p (.int .i64)) (.cons (.mp 1) (.cons (.p (.int .i64)) .nil))))), (1, false, (.map (.int .i64) (.int .i64)))]⟩, [⟨(.cons (.p (.sl (.pair (.int .i64) (.int .i64)))) .nil), [(0, false, (.vars (.cons (.p (.int .i64)) (.cons (.mp 1) (.cons (.p (.int .i64)) .nil))))), (1, false, (.map (.int .i64) (.int .i64)))]⟩], [1]⟩
def clock_Clock_All__cm_ft (fu : Nat) : FnT := ⟨16, ⟨(.cons (.own 0 0 0 0) .nil), [(0, false, (.vars (.cons (.p (.int .i64)) (.cons (.mp 1) (.cons (.p (.int .i64)) .nil))))), (1, false, (.map (.int .i64) (.int .i64)))]⟩, [⟨(.cons (.p (.sl (.pair (.int .i64) (.int .i64)))) .nil), [(0, false, (.vars (.cons (.p (.int .i64)) (.cons (.mp 1) (.cons (.p (.int .i64)) .nil))))), (1, false, (.map (.int .i64) (.int .i64)))]⟩], fun t => clock_Clock_All__cm fu t.1 t.2.1 t.2.2⟩
theorem clock_Clock_All__cm_eq (fu : Nat) : ∀ t, evF Go.Proofs.Try.prog [clock_Clock_none__cm_ft fu, slices_SortFunc__api_Timer_api_Timer_o0f11_ft fu] fu Go.Proofs.Try.f16 clock_Clock_All__cm_fa t = (clock_Clock_All__cm_ft fu).spec t := fun t => by kernel_rfl
theorem clock_Clock_All__cm_told (fu : Nat) : Told Go.Proofs.Try.prog (clock_Clock_All__cm_ft fu) := told_of (allT_cons (clock_Clock_none__cm_told fu) (allT_cons (slices_SortFunc__api_Timer_api_Timer_o0f11_told fu) allT_nil)) mixed Go.Proofs.Try.func16 (by kernel_rfl) (by kernel_rfl) (clock_Clock_All__cm_eq fu)

def clock_Clock_Next__cm (fu : Nat) (h : Int) (h1 : Int) (h2 : (List (((Int × Int) × Nat)) × Nat)) : Option ((Int × (Int × (Bool × (Int × (Int × (List (((Int × Int) × Nat)) × Nat))))))) :=
  (clock_Clock_All__cm fu h h1 h2).bind fun r =>
  bif (((r.1.length : Nat) : Int) == 0) then
    some (0, (0, (false, (r.2.1, (r.2.2.1, r.2.2.2)))))
  else
    (idx? 0 r.1.length).bind fun q =>
    (r.1)[q]?.bind fun r1 =>
    some (r1.1, (r1.2, (true, (r.2.1, (r.2.2.1, r.2.2.2)))))
def clock_Clock_Next__cm_fa : FnA := ⟨.two (.reg [(0, { ids := [100] })]) (.two (.reg [(1, { sh := [0, 1] })]) (.two (.two (.leaf) (.two (.leaf) (.leaf))) (.leaf))), ⟨(.cons (.own 0 0 0 0) .nil), [(0, false, (.vars (.cons (.p (.int .i64)) (.cons (.mp 1) (.cons (.p (.int .i64)) .nil))))), (1, false, (.map (.int .i64) (.int .i64)))]⟩, [⟨(.cons (.agg (.cons (.p (.int .i64)) (.cons (.p (.int .i64)) .nil))) (.cons (.p .bool) .nil)), [(0, false, (.vars (.cons (.p (.int .i64)) (.cons (.mp 1) (.cons (.p (.int .i64)) .nil))))), (1, false, (.map (.int .i64) (.int .i64)))]⟩], [0, 0]⟩
def clock_Clock_Next__cm_ft (fu : Nat) : FnT := ⟨19, ⟨(.cons (.own 0 0 0 0) .nil), [(0, false, (.vars (.cons (.p (.int .i64)) (.cons (.mp 1) (.cons (.p (.int .i64)) .nil))))), (1, false, (.map (.int .i64) (.int .i64)))]⟩, [⟨(.cons (.agg (.cons (.p (.int .i64)) (.cons (.p (.int .i64)) .nil))) (.cons (.p .bool) .nil)), [(0, false, (.vars (.cons (.p (.int .i64)) (.cons (.mp 1) (.cons (.p (.int .i64)) .nil))))), (1, false, (.map (.int .i64) (.int .i64)))]⟩], fun t => clock_Clock_Next__cm fu t.1 t.2.1 t.2.2⟩
theorem clock_Clock_Next__cm_eq (fu : Nat) : ∀ t, evF Go.Proofs.Try.prog [clock_Clock_All__cm_ft fu] fu Go.Proofs.Try.f19 clock_Clock_Next__cm_fa t = (clock_Clock_Next__cm_ft fu).spec t := fun t => by kernel_rfl
theorem clock_Clock_Next__cm_told (fu : Nat) : Told Go.Proofs.Try.prog (clock_Clock_Next__cm_ft fu) := told_of (allT_cons (clock_Clock_All__cm_told fu) allT_nil) mixed Go.Proofs.Try.func19 (by kernel_rfl) (by kernel_rfl) (clock_Clock_Next__cm_eq fu)

def clock_Clock_told__cm_l0 (fu : Nat) (r : (List ((Int × Int)) × (Int × (Int × (List (((Int × Int) × Nat)) × Nat))))) (now : Int) (n : Int) (h3 : Int) (h4 : Int) (h5 : (List (((Int × Int) × Nat)) × Nat)) : Option ((Int × (Int × (Int × (List (((Int × Int) × Nat)) × Nat)))) ⊕ ((Int × (Int × (Int × (List (((Int × Int) × Nat)) × Nat)))))) :=
  Option.bind (α := ((Bool × (Int × (Int × (List (((Int × Int) × Nat)) × Nat)))))) (
    bif (decide (n < ((r.1.length : Nat) : Int))) then
      (idx? n r.1.length).bind fun q =>
      (r.1)[q]?.bind fun r1 =>
      some ((decide (r1.1 ≤ now)), (h3, (h4, h5)))
    else
      some (false, (h3, (h4, h5)))) fun o =>
  bif o.1 then
    (idx? n r.1.length).bind fun q1 =>
    (r.1)[q1]?.bind fun r2 =>
    some (.inl ((IntKind.wrap .i64 (n + 1)), (o.2.1, (o.2.2.1, (mdel (k := (.int .i64)) (v := (.int .i64)) o.2.2.2 r2.2)))))
  else
    some (.inr (n, (o.2.1, (o.2.2.1, o.2.2.2))))
def clock_Clock_told__cm_l0_it (fu : Nat) (r : (List ((Int × Int)) × (Int × (Int × (List (((Int × Int) × Nat)) × Nat))))) (now : Int) (tt : (Int × (Int × (Int × (List (((Int × Int) × Nat)) × Nat))))) : Option ((Int × (Int × (Int × (List (((Int × Int) × Nat)) × Nat))))) :=
  iter fu (fun tt => clock_Clock_told__cm_l0 fu r now tt.1 tt.2.1 tt.2.2.1 tt.2.2.2) tt
def clock_Clock_told__cm (fu : Nat) (now : Int) (h : Int) (h1 : Int) (h2 : (List (((Int × Int) × Nat)) × Nat)) : Option ((List ((Int × Int)) × (Int × (Int × (List (((Int × Int) × Nat)) × Nat))))) :=
  (clock_Clock_All__cm fu now h1 h2).bind fun r =>
  (clock_Clock_told__cm_l0_it fu r now (0, (r.2.1, (r.2.2.1, r.2.2.2)))).bind fun o1 =>
  (upto? o1.1 r.1.length).bind fun q2 =>
  (upto? o1.1 q2).bind fun q3 =>
  some ((List.take q3 r.1), (o1.2.1, (o1.2.2.1, o1.2.2.2)))
def clock_Clock_told__cm_fa : FnA := ⟨.two (.leaf) (.two (.leaf) (.two (.reg [(1, { sh := [0, 1] })]) (.two (.leaf) (.two (.one (.loop ⟨[0, 6], ⟨(.cons (.own 0 0 0 0) (.cons (.p (.int .i64)) .nil)), [(0, false, (.vars (.cons (.p (.int .i64)) (.cons (.mp 1) (.cons (.p (.int .i64)) .nil))))), (1, false, (.map (.int .i64) (.int .i64)))]⟩⟩ false [(0, ⟨[0, 6], ⟨(.cons (.own 0 0 0 0) (.cons (.p (.int .i64)) .nil)), [(0, false, (.vars (.cons (.p (.int .i64)) (.cons (.mp 1) (.cons (.p (.int .i64)) .nil))))), (1, false, (.map (.int .i64) (.int .i64)))]⟩⟩)] (.two (.two (.join ⟨[0, 25], ⟨(.cons (.own 0 0 0 0) (.cons (.p .bool) .nil)), [(0, false, (.vars (.cons (.p (.int .i64)) (.cons (.mp 1) (.cons (.p (.int .i64)) .nil))))), (1, false, (.map (.int .i64) (.int .i64)))]⟩⟩ false [] (.leaf)) (.leaf)) (.one (.leaf))))) (.leaf))))), ⟨(.cons (.own 0 0 0 0) (.cons (.p (.int .i64)) .nil)), [(0, false, (.vars (.cons (.p (.int .i64)) (.cons (.mp 1) (.cons (.p (.int .i64)) .nil))))), (1, false, (.map (.int .i64) (.int .i64)))]⟩, [⟨(.cons (.p (.sl (.pair (.int .i64) (.int .i64)))) .nil), [(0, false, (.vars (.cons (.p (.int .i64)) (.cons (.mp 1) (.cons (.p (.int .i64)) .nil))))), (1, false, (.map (.int .i64) (.int .i64)))]⟩], [0]⟩
def clock_Clock_told__cm_ft (fu : Nat) : FnT := ⟨31, ⟨(.cons (.own 0 0 0 0) (.cons (.p (.int .i64)) .nil)), [(0, false, (.vars (.cons (.p (.int .i64)) (.cons (.mp 1) (.cons (.p (.int .i64)) .nil))))), (1, false, (.map (.int .i64) (.int .i64)))]⟩, [⟨(.cons (.p (.sl (.pair (.int .i64) (.int .i64)))) .nil), [(0, false, (.vars (.cons (.p (.int .i64)) (.cons (.mp 1) (.cons (.p (.int .i64)) .nil))))), (1, false, (.map (.int .i64) (.int .i64)))]⟩], fun t => clock_Clock_told__cm fu t.1 t.2.1 t.2.2.1 t.2.2.2⟩
theorem clock_Clock_told__cm_eq (fu : Nat) : ∀ t, evF Go.Proofs.Try.prog [clock_Clock_All__cm_ft fu] fu Go.Proofs.Try.f31 clock_Clock_told__cm_fa t = (clock_Clock_told__cm_ft fu).spec t := fun t => by kernel_rfl
theorem clock_Clock_told__cm_told (fu : Nat) : Told Go.Proofs.Try.prog (clock_Clock_told__cm_ft fu) := told_of (allT_cons (clock_Clock_All__cm_told fu) allT_nil) mixed Go.Proofs.Try.func31 (by kernel_rfl) (by kernel_rfl) (clock_Clock_told__cm_eq fu)

def clock_Clock_Tick__cm (fu : Nat) (h : Int) (h1 : Int) (h2 : (List (((Int × Int) × Nat)) × Nat)) : Option ((List ((Int × Int)) × (Int × (Int × (List (((Int × Int) × Nat)) × Nat))))) :=
  (clock_Clock_none__cm fu h h1 h2).bind fun r =>
  bif r.1 then
    some ([], (r.2.1, (r.2.2.1, r.2.2.2)))
  else
    (clock_Clock_told__cm fu (if 1152921504606846976 < (IntKind.wrap .i64 (r.2.1 + 1)) then 1152921504606846976 else (IntKind.wrap .i64 (r.2.1 + 1))) r.2.1 r.2.2.1 r.2.2.2).bind fun r1 =>
    some (r1.1, (r1.2.1, (r1.2.2.1, r1.2.2.2)))
def clock_Clock_Tick__cm_fa : FnA := ⟨.two (.leaf) (.two (.two (.reg [(1, { sh := [0, 1] })]) (.two (.leaf) (.leaf))) (.two (.reg [(7, { sh := [0, 1], fn := 1 })]) (.leaf))), ⟨(.cons (.own 0 0 0 0) .nil), [(0, false, (.vars (.cons (.p (.int .i64)) (.cons (.mp 1) (.cons (.p (.int .i64)) .nil))))), (1, false, (.map (.int .i64) (.int .i64)))]⟩, [⟨(.cons (.p (.sl (.pair (.int .i64) (.int .i64)))) .nil), [(0, false, (.vars (.cons (.p (.int .i64)) (.cons (.mp 1) (.cons (.p (.int .i64)) .nil))))), (1, false, (.map (.int .i64) (.int .i64)))]⟩], [0]⟩
def clock_Clock_Tick__cm_ft (fu : Nat) : FnT := ⟨17, ⟨(.cons (.own 0 0 0 0) .nil), [(0, false, (.vars (.cons (.p (.int .i64)) (.cons (.mp 1) (.cons (.p (.int .i64)) .nil))))), (1, false, (.map (.int .i64) (.int .i64)))]⟩, [⟨(.cons (.p (.sl (.pair (.int .i64) (.int .i64)))) .nil), [(0, false, (.vars (.cons (.p (.int .i64)) (.cons (.mp 1) (.cons (.p (.int .i64)) .nil))))), (1, false, (.map (.int .i64) (.int .i64)))]⟩], fun t => clock_Clock_Tick__cm fu t.1 t.2.1 t.2.2⟩
theorem clock_Clock_Tick__cm_eq (fu : Nat) : ∀ t, evF Go.Proofs.Try.prog [clock_Clock_none__cm_ft fu, clock_Clock_told__cm_ft fu] fu Go.Proofs.Try.f17 clock_Clock_Tick__cm_fa t = (clock_Clock_Tick__cm_ft fu).spec t := fun t => by kernel_rfl
theorem clock_Clock_Tick__cm_told (fu : Nat) : Told Go.Proofs.Try.prog (clock_Clock_Tick__cm_ft fu) := told_of (allT_cons (clock_Clock_none__cm_told fu) (allT_cons (clock_Clock_told__cm_told fu) allT_nil)) mixed Go.Proofs.Try.func17 (by kernel_rfl) (by kernel_rfl) (clock_Clock_Tick__cm_eq fu)

def clock_Clock_Due__cm (fu : Nat) (id : Int) (h : Int) (h1 : Int) (h2 : (List (((Int × Int) × Nat)) × Nat)) : Option ((Int × (Bool × (Int × (Int × (List (((Int × Int) × Nat)) × Nat)))))) :=
  (clock_Clock_none__cm fu h h1 h2).bind fun r =>
  bif r.1 then
    some (0, (false, (r.2.1, (r.2.2.1, r.2.2.2))))
  else
    some ((Option.getD (mget (k := (.int .i64)) (v := (.int .i64)) r.2.2.2 id) 0), ((Option.isSome (mget (k := (.int .i64)) (v := (.int .i64)) r.2.2.2 id)), (r.2.1, (r.2.2.1, r.2.2.2))))
def clock_Clock_Due__cm_fa : FnA := ⟨.two (.leaf) (.two (.two (.reg [(1, { sh := [0, 1] })]) (.two (.leaf) (.leaf))) (.two (.leaf) (.leaf))), ⟨(.cons (.own 0 0 0 0) (.cons (.p (.int .i64)) .nil)), [(0, false, (.vars (.cons (.p (.int .i64)) (.cons (.mp 1) (.cons (.p (.int .i64)) .nil))))), (1, false, (.map (.int .i64) (.int .i64)))]⟩, [⟨(.cons (.p (.int .i64)) (.cons (.p .bool) .nil)), [(0, false, (.vars (.cons (.p (.int .i64)) (.cons (.mp 1) (.cons (.p (.int .i64)) .nil))))), (1, false, (.map (.int .i64) (.int .i64)))]⟩], [0, 0]⟩
def clock_Clock_Due__cm_ft (fu : Nat) : FnT := ⟨18, ⟨(.cons (.own 0 0 0 0) (.cons (.p (.int .i64)) .nil)), [(0, false, (.vars (.cons (.p (.int .i64)) (.cons (.mp 1) (.cons (.p (.int .i64)) .nil))))), (1, false, (.map (.int .i64) (.int .i64)))]⟩, [⟨(.cons (.p (.int .i64)) (.cons (.p .bool) .nil)), [(0, false, (.vars (.cons (.p (.int .i64)) (.cons (.mp 1) (.cons (.p (.int .i64)) .nil))))), (1, false, (.map (.int .i64) (.int .i64)))]⟩], fun t => clock_Clock_Due__cm fu t.1 t.2.1 t.2.2.1 t.2.2.2⟩
theorem clock_Clock_Due__cm_eq (fu : Nat) : ∀ t, evF Go.Proofs.Try.prog [clock_Clock_none__cm_ft fu] fu Go.Proofs.Try.f18 clock_Clock_Due__cm_fa t = (clock_Clock_Due__cm_ft fu).spec t := fun t => by kernel_rfl
theorem clock_Clock_Due__cm_told (fu : Nat) : Told Go.Proofs.Try.prog (clock_Clock_Due__cm_ft fu) := told_of (allT_cons (clock_Clock_none__cm_told fu) allT_nil) mixed Go.Proofs.Try.func18 (by kernel_rfl) (by kernel_rfl) (clock_Clock_Due__cm_eq fu)

def clock_Clock_Skip__cm (fu : Nat) (h : Int) (h1 : Int) (h2 : (List (((Int × Int) × Nat)) × Nat)) : Option ((List ((Int × Int)) × (Int × (Int × (List (((Int × Int) × Nat)) × Nat))))) :=
  (clock_Clock_Next__cm fu h h1 h2).bind fun r =>
  bif (!r.2.2.1) then
    some ([], (r.2.2.2.1, (r.2.2.2.2.1, r.2.2.2.2.2)))
  else
    (clock_Clock_told__cm fu r.1 r.2.2.2.1 r.2.2.2.2.1 r.2.2.2.2.2).bind fun r1 =>
    some (r1.1, (r1.2.1, (r1.2.2.1, r1.2.2.2)))
def clock_Clock_Skip__cm_fa : FnA := ⟨.two (.leaf) (.two (.reg [(1, { sh := [0, 1] }), (5, { ids := [100] })]) (.two (.two (.leaf) (.two (.leaf) (.leaf))) (.two (.reg [(3, { sh := [0, 1], fn := 1 })]) (.leaf)))), ⟨(.cons (.own 0 0 0 0) .nil), [(0, false, (.vars (.cons (.p (.int .i64)) (.cons (.mp 1) (.cons (.p (.int .i64)) .nil))))), (1, false, (.map (.int .i64) (.int .i64)))]⟩, [⟨(.cons (.p (.sl (.pair (.int .i64) (.int .i64)))) .nil), [(0, false, (.vars (.cons (.p (.int .i64)) (.cons (.mp 1) (.cons (.p (.int .i64)) .nil))))), (1, false, (.map (.int .i64) (.int .i64)))]⟩], [0]⟩
def clock_Clock_Skip__cm_ft (fu : Nat) : FnT := ⟨14, ⟨(.cons (.own 0 0 0 0) .nil), [(0, false, (.vars (.cons (.p (.int .i64)) (.cons (.mp 1) (.cons (.p (.int .i64)) .nil))))), (1, false, (.map (.int .i64) (.int .i64)))]⟩, [⟨(.cons (.p (.sl (.pair (.int .i64) (.int .i64)))) .nil), [(0, false, (.vars (.cons (.p (.int .i64)) (.cons (.mp 1) (.cons (.p (.int .i64)) .nil))))), (1, false, (.map (.int .i64) (.int .i64)))]⟩], fun t => clock_Clock_Skip__cm fu t.1 t.2.1 t.2.2⟩
theorem clock_Clock_Skip__cm_eq (fu : Nat) : ∀ t, evF Go.Proofs.Try.prog [clock_Clock_Next__cm_ft fu, clock_Clock_told__cm_ft fu] fu Go.Proofs.Try.f14 clock_Clock_Skip__cm_fa t = (clock_Clock_Skip__cm_ft fu).spec t := fun t => by kernel_rfl
theorem clock_Clock_Skip__cm_told (fu : Nat) : Told Go.Proofs.Try.prog (clock_Clock_Skip__cm_ft fu) := told_of (allT_cons (clock_Clock_Next__cm_told fu) (allT_cons (clock_Clock_told__cm_told fu) allT_nil)) mixed Go.Proofs.Try.func14 (by kernel_rfl) (by kernel_rfl) (clock_Clock_Skip__cm_eq fu)

def clock_Clock_Now__cm (fu : Nat) (h : Int) (h1 : Int) (h2 : (List (((Int × Int) × Nat)) × Nat)) : Option ((Int × (Int × (Int × (List (((Int × Int) × Nat)) × Nat))))) :=
  (clock_Clock_none__cm fu h h1 h2).bind fun r =>
  bif r.1 then
    some (0, (r.2.1, (r.2.2.1, r.2.2.2)))
  else
    some (r.2.1, (r.2.1, (r.2.2.1, r.2.2.2)))
def clock_Clock_Now__cm_fa : FnA := ⟨.two (.leaf) (.two (.two (.reg [(1, { sh := [0, 1] })]) (.two (.leaf) (.leaf))) (.leaf)), ⟨(.cons (.own 0 0 0 0) .nil), [(0, false, (.vars (.cons (.p (.int .i64)) (.cons (.mp 1) (.cons (.p (.int .i64)) .nil))))), (1, false, (.map (.int .i64) (.int .i64)))]⟩, [⟨(.cons (.p (.int .i64)) .nil), [(0, false, (.vars (.cons (.p (.int .i64)) (.cons (.mp 1) (.cons (.p (.int .i64)) .nil))))), (1, false, (.map (.int .i64) (.int .i64)))]⟩], [0]⟩
def clock_Clock_Now__cm_ft (fu : Nat) : FnT := ⟨15, ⟨(.cons (.own 0 0 0 0) .nil), [(0, false, (.vars (.cons (.p (.int .i64)) (.cons (.mp 1) (.cons (.p (.int .i64)) .nil))))), (1, false, (.map (.int .i64) (.int .i64)))]⟩, [⟨(.cons (.p (.int .i64)) .nil), [(0, false, (.vars (.cons (.p (.int .i64)) (.cons (.mp 1) (.cons (.p (.int .i64)) .nil))))), (1, false, (.map (.int .i64) (.int .i64)))]⟩], fun t => clock_Clock_Now__cm fu t.1 t.2.1 t.2.2⟩
theorem clock_Clock_Now__cm_eq (fu : Nat) : ∀ t, evF Go.Proofs.Try.prog [clock_Clock_none__cm_ft fu] fu Go.Proofs.Try.f15 clock_Clock_Now__cm_fa t = (clock_Clock_Now__cm_ft fu).spec t := fun t => by kernel_rfl
theorem clock_Clock_Now__cm_told (fu : Nat) : Told Go.Proofs.Try.prog (clock_Clock_Now__cm_ft fu) := told_of (allT_cons (clock_Clock_none__cm_told fu) allT_nil) mixed Go.Proofs.Try.func15 (by kernel_rfl) (by kernel_rfl) (clock_Clock_Now__cm_eq fu)

def clock_Clock_Unset__cm (fu : Nat) (id : Int) (h : Int) (h1 : Int) (h2 : (List (((Int × Int) × Nat)) × Nat)) : Option ((Bool × (Int × (Int × (List (((Int × Int) × Nat)) × Nat))))) :=
  (clock_Clock_none__cm fu h h1 h2).bind fun r =>
  bif r.1 then
    some (false, (r.2.1, (r.2.2.1, r.2.2.2)))
  else
    some ((Option.isSome (mget (k := (.int .i64)) (v := (.int .i64)) r.2.2.2 id)), (r.2.1, (r.2.2.1, (mdel (k := (.int .i64)) (v := (.int .i64)) r.2.2.2 id))))
def clock_Clock_Unset__cm_fa : FnA := ⟨.two (.leaf) (.two (.two (.reg [(1, { sh := [0, 1] })]) (.two (.leaf) (.leaf))) (.two (.leaf) (.two (.leaf) (.leaf)))), ⟨(.cons (.own 0 0 0 0) (.cons (.p (.int .i64)) .nil)), [(0, false, (.vars (.cons (.p (.int .i64)) (.cons (.mp 1) (.cons (.p (.int .i64)) .nil))))), (1, false, (.map (.int .i64) (.int .i64)))]⟩, [⟨(.cons (.p .bool) .nil), [(0, false, (.vars (.cons (.p (.int .i64)) (.cons (.mp 1) (.cons (.p (.int .i64)) .nil))))), (1, false, (.map (.int .i64) (.int .i64)))]⟩], [0]⟩
def clock_Clock_Unset__cm_ft (fu : Nat) : FnT := ⟨12, ⟨(.cons (.own 0 0 0 0) (.cons (.p (.int .i64)) .nil)), [(0, false, (.vars (.cons (.p (.int .i64)) (.cons (.mp 1) (.cons (.p (.int .i64)) .nil))))), (1, false, (.map (.int .i64) (.int .i64)))]⟩, [⟨(.cons (.p .bool) .nil), [(0, false, (.vars (.cons (.p (.int .i64)) (.cons (.mp 1) (.cons (.p (.int .i64)) .nil))))), (1, false, (.map (.int .i64) (.int .i64)))]⟩], fun t => clock_Clock_Unset__cm fu t.1 t.2.1 t.2.2.1 t.2.2.2⟩
theorem clock_Clock_Unset__cm_eq (fu : Nat) : ∀ t, evF Go.Proofs.Try.prog [clock_Clock_none__cm_ft fu] fu Go.Proofs.Try.f12 clock_Clock_Unset__cm_fa t = (clock_Clock_Unset__cm_ft fu).spec t := fun t => by kernel_rfl
theorem clock_Clock_Unset__cm_told (fu : Nat) : Told Go.Proofs.Try.prog (clock_Clock_Unset__cm_ft fu) := told_of (allT_cons (clock_Clock_none__cm_told fu) allT_nil) mixed Go.Proofs.Try.func12 (by kernel_rfl) (by kernel_rfl) (clock_Clock_Unset__cm_eq fu)

def law08_awake (fu : Nat)  : Option (Bool) :=
  (clock_New fu 3).bind fun r =>
  match r with
  | .inl r1 =>
    Option.bind (α := (Bool)) (
      bif (!(r1 == 0)) then
        some true
      else
        (clock_Clock_Set_n0 fu 1 5).bind fun r3 =>
        (clock_Clock_Set_n0 fu 2 3).bind fun r4 =>
        (clock_Clock_Set_n0 fu 0 5).bind fun r5 =>
        some (!((IntKind.wrap .i64 ((IntKind.wrap .i64 (r3 + r4)) + r5)) == 0))) fun o =>
    bif o then
      some false
    else
      (clock_Clock_Next_n0 fu).bind fun r6 =>
      Option.bind (α := (Bool)) (
        bif (!r6.2.2) then
          some true
        else
          bif (!((r6.1 == 3) && (r6.2.1 == 2))) then
            some true
          else
            (clock_Clock_Tick_n0 fu).bind fun r7 =>
            (law08_ids fu [] []).bind fun r8 =>
            bif (!r8) then
              some true
            else
              (clock_Clock_Tick_n0 fu).bind fun r9 =>
              (law08_ids fu [] []).bind fun r10 =>
              bif (!r10) then
                some true
              else
                (clock_Clock_Tick_n0 fu).bind fun r11 =>
                (law08_ids fu [] [2]).bind fun r12 =>
                bif (!r12) then
                  some true
                else
                  (clock_Clock_Set_n0 fu 1 9).bind fun r13 =>
                  some (!(r13 == 0))) fun o1 =>
      bif o1 then
        some false
      else
        (clock_Clock_Due_n0 fu 1).bind fun r14 =>
        bif r14.2 then
          bif (r14.1 == 12) then
            (clock_Clock_Skip_n0 fu).bind fun r15 =>
            (law08_ids fu [] [0]).bind fun r16 =>
            bif r16 then
              (clock_Clock_Now_n0 fu).bind fun r17 =>
              bif (r17 == 5) then
                (clock_Clock_Unset_n0 fu 1).bind fun r18 =>
                bif r18 then
                  (clock_Clock_Skip_n0 fu).bind fun r19 =>
                  (law08_ids fu [] []).bind fun r20 =>
                  bif r20 then
                    (clock_Clock_Now_n0 fu).bind fun r21 =>
                    bif (r21 == 5) then
                      (clock_Clock_Set_n0 fu 4 0).bind fun r22 =>
                      some (r22 == 2)
                    else
                      some false
                  else
                    some false
                else
                  some false
              else
                some false
            else
              some false
          else
            some false
        else
          some false
  | .inr r2 =>
    Option.bind (α := ((Bool × (Int × (Int × (List (((Int × Int) × Nat)) × Nat)))))) (
      bif (!(r2.1 == 0)) then
        some (true, (r2.2.1, (r2.2.2.1, r2.2.2.2)))
      else
        (clock_Clock_Set__cm fu 1 5 r2.2.1 r2.2.2.1 r2.2.2.2).bind fun r23 =>
        (clock_Clock_Set__cm fu 2 3 r23.2.1 r23.2.2.1 r23.2.2.2).bind fun r24 =>
        (clock_Clock_Set__cm fu 0 5 r24.2.1 r24.2.2.1 r24.2.2.2).bind fun r25 =>
        some ((!((IntKind.wrap .i64 ((IntKind.wrap .i64 (r23.1 + r24.1)) + r25.1)) == 0)), (r25.2.1, (r25.2.2.1, r25.2.2.2)))) fun o2 =>
    bif o2.1 then
      some false
    else
      (clock_Clock_Next__cm fu o2.2.1 o2.2.2.1 o2.2.2.2).bind fun r26 =>
      Option.bind (α := ((Bool × (Int × (Int × (List (((Int × Int) × Nat)) × Nat)))))) (
        bif (!r26.2.2.1) then
          some (true, (r26.2.2.2.1, (r26.2.2.2.2.1, r26.2.2.2.2.2)))
        else
          bif (!((r26.1 == 3) && (r26.2.1 == 2))) then
            some (true, (r26.2.2.2.1, (r26.2.2.2.2.1, r26.2.2.2.2.2)))
          else
            (clock_Clock_Tick__cm fu r26.2.2.2.1 r26.2.2.2.2.1 r26.2.2.2.2.2).bind fun r27 =>
            (law08_ids fu r27.1 []).bind fun r28 =>
            bif (!r28) then
              some (true, (r27.2.1, (r27.2.2.1, r27.2.2.2)))
            else
              (clock_Clock_Tick__cm fu r27.2.1 r27.2.2.1 r27.2.2.2).bind fun r29 =>
              (law08_ids fu r29.1 []).bind fun r30 =>
              bif (!r30) then
                some (true, (r29.2.1, (r29.2.2.1, r29.2.2.2)))
              else
                (clock_Clock_Tick__cm fu r29.2.1 r29.2.2.1 r29.2.2.2).bind fun r31 =>
                (law08_ids fu r31.1 [2]).bind fun r32 =>
                bif (!r32) then
                  some (true, (r31.2.1, (r31.2.2.1, r31.2.2.2)))
                else
                  (clock_Clock_Set__cm fu 1 9 r31.2.1 r31.2.2.1 r31.2.2.2).bind fun r33 =>
                  some ((!(r33.1 == 0)), (r33.2.1, (r33.2.2.1, r33.2.2.2)))) fun o3 =>
      bif o3.1 then
        some false
      else
        (clock_Clock_Due__cm fu 1 o3.2.1 o3.2.2.1 o3.2.2.2).bind fun r34 =>
        bif r34.2.1 then
          bif (r34.1 == 12) then
            (clock_Clock_Skip__cm fu r34.2.2.1 r34.2.2.2.1 r34.2.2.2.2).bind fun r35 =>
            (law08_ids fu r35.1 [0]).bind fun r36 =>
            bif r36 then
              (clock_Clock_Now__cm fu r35.2.1 r35.2.2.1 r35.2.2.2).bind fun r37 =>
              bif (r37.1 == 5) then
                (clock_Clock_Unset__cm fu 1 r37.2.1 r37.2.2.1 r37.2.2.2).bind fun r38 =>
                bif r38.1 then
                  (clock_Clock_Skip__cm fu r38.2.1 r38.2.2.1 r38.2.2.2).bind fun r39 =>
                  (law08_ids fu r39.1 []).bind fun r40 =>
                  bif r40 then
                    (clock_Clock_Now__cm fu r39.2.1 r39.2.2.1 r39.2.2.2).bind fun r41 =>
                    bif (r41.1 == 5) then
                      (clock_Clock_Set__cm fu 4 0 r41.2.1 r41.2.2.1 r41.2.2.2).bind fun r42 =>
                      some (r42.1 == 2)
                    else
                      some false
                  else
                    some false
                else
                  some false
              else
                some false
            else
              some false
          else
            some false
        else
          some false
def law08_awake_fa : FnA := ⟨.two (.leaf) (.two (.reg [(0, { ids := [100, 101] })]) (.sel (.slot 1 (.nilp (.pointer none))) (.two (.two (.join ⟨[23], ⟨(.cons (.p .bool) .nil), []⟩⟩ false [] (.reg [(4, { fn := 1 }), (6, { fn := 1 }), (9, { fn := 1 })])) (.two (.leaf) (.leaf))) (.two (.reg [(1, { fn := 2 }), (5, { ids := [103] })]) (.two (.two (.join ⟨[59], ⟨(.cons (.p .bool) .nil), []⟩⟩ false [] (.reg [(9, { fn := 3 }), (10, { fn := 4 }), (15, { fn := 3 }), (16, { fn := 4 }), (21, { fn := 3 }), (22, { ids := [104] }), (23, { md := [0, 2], fn := 4 }), (28, { fn := 1 })])) (.two (.leaf) (.leaf))) (.two (.reg [(1, { fn := 5 })]) (.two (.reg [(7, { fn := 6 }), (8, { ids := [105] }), (9, { md := [0, 2], fn := 4 }), (13, { fn := 7 }), (18, { fn := 8 }), (22, { fn := 6 }), (23, { fn := 4 }), (27, { fn := 7 }), (32, { fn := 1 })]) (.leaf)))))) (.two (.two (.join ⟨[1, 23], ⟨(.cons (.own 0 100 0 0) (.cons (.p .bool) .nil)), [(100, false, (.vars (.cons (.p (.int .i64)) (.cons (.mp 101) (.cons (.p (.int .i64)) .nil))))), (101, false, (.map (.int .i64) (.int .i64)))]⟩⟩ false [] (.reg [(4, { sh := [100, 101], fn := 9 }), (6, { sh := [100, 101], fn := 9 }), (9, { sh := [100, 101], fn := 9 })])) (.two (.leaf) (.leaf))) (.two (.reg [(1, { sh := [100, 101], fn := 10 }), (5, { ids := [103] })]) (.two (.two (.join ⟨[1, 59], ⟨(.cons (.own 0 100 0 0) (.cons (.p .bool) .nil)), [(100, false, (.vars (.cons (.p (.int .i64)) (.cons (.mp 101) (.cons (.p (.int .i64)) .nil))))), (101, false, (.map (.int .i64) (.int .i64)))]⟩⟩ false [] (.reg [(9, { sh := [100, 101], fn := 11 }), (10, { fn := 4 }), (15, { sh := [100, 101], fn := 11 }), (16, { fn := 4 }), (21, { sh := [100, 101], fn := 11 }), (22, { ids := [104] }), (23, { md := [0, 2], fn := 4 }), (28, { sh := [100, 101], fn := 9 })])) (.two (.leaf) (.leaf))) (.two (.reg [(1, { sh := [100, 101], fn := 12 })]) (.two (.reg [(7, { sh := [100, 101], fn := 13 }), (8, { ids := [105] }), (9, { md := [0, 2], fn := 4 }), (13, { sh := [100, 101], fn := 14 }), (18, { sh := [100, 101], fn := 15 }), (22, { sh := [100, 101], fn := 13 }), (23, { fn := 4 }), (27, { sh := [100, 101], fn := 14 }), (32, { sh := [100, 101], fn := 9 })]) (.leaf)))))))), ⟨.nil, []⟩, [⟨(.cons (.p .bool) .nil), []⟩], [0]⟩
def law08_awake_ft (fu : Nat) : FnT := ⟨20, ⟨.nil, []⟩, [⟨(.cons (.p .bool) .nil), []⟩], fun t => law08_awake fu ⟩
theorem law08_awake_eq (fu : Nat) : ∀ t, evF Go.Proofs.Try.prog [clock_New_ft fu, clock_Clock_Set_n0_ft fu, clock_Clock_Next_n0_ft fu, clock_Clock_Tick_n0_ft fu, law08_ids_ft fu, clock_Clock_Due_n0_ft fu, clock_Clock_Skip_n0_ft fu, clock_Clock_Now_n0_ft fu, clock_Clock_Unset_n0_ft fu, clock_Clock_Set__cm_ft fu, clock_Clock_Next__cm_ft fu, clock_Clock_Tick__cm_ft fu, clock_Clock_Due__cm_ft fu, clock_Clock_Skip__cm_ft fu, clock_Clock_Now__cm_ft fu, clock_Clock_Unset__cm_ft fu] fu Go.Proofs.Try.f20 law08_awake_fa t = (law08_awake_ft fu).spec t := fun t => by kernel_rfl
theorem law08_awake_told (fu : Nat) : Told Go.Proofs.Try.prog (law08_awake_ft fu) := told_of (allT_cons (clock_New_told fu) (allT_cons (clock_Clock_Set_n0_told fu) (allT_cons (clock_Clock_Next_n0_told fu) (allT_cons (clock_Clock_Tick_n0_told fu) (allT_cons (law08_ids_told fu) (allT_cons (clock_Clock_Due_n0_told fu) (allT_cons (clock_Clock_Skip_n0_told fu) (allT_cons (clock_Clock_Now_n0_told fu) (allT_cons (clock_Clock_Unset_n0_told fu) (allT_cons (clock_Clock_Set__cm_told fu) (allT_cons (clock_Clock_Next__cm_told fu) (allT_cons (clock_Clock_Tick__cm_told fu) (allT_cons (clock_Clock_Due__cm_told fu) (allT_cons (clock_Clock_Skip__cm_told fu) (allT_cons (clock_Clock_Now__cm_told fu) (allT_cons (clock_Clock_Unset__cm_told fu) allT_nil)))))))))))))))) mixed Go.Proofs.Try.func20 (by kernel_rfl) (by kernel_rfl) (law08_awake_eq fu)

def low_SameTimers_l0 (fu : Nat) (a : List ((Int × Int))) (b : List ((Int × Int))) (i : Int) : Option (Int ⊕ (Unit ⊕ Bool)) :=
  bif (decide (i < ((a.length : Nat) : Int))) then
    (idx? i a.length).bind fun q =>
    (a)[q]?.bind fun r =>
    (idx? i b.length).bind fun q1 =>
    (b)[q1]?.bind fun r1 =>
    bif (!((r.1 == r1.1) && (r.2 == r1.2))) then
      some (.inr (.inr false))
    else
      some (.inl (IntKind.wrap .i64 (i + 1)))
  else
    some (.inr (.inl ()))
def low_SameTimers_l0_it (fu : Nat) (a : List ((Int × Int))) (b : List ((Int × Int))) (tt : Int) : Option (Unit ⊕ Bool) :=
  iter fu (fun tt => low_SameTimers_l0 fu a b tt) tt
def low_SameTimers (fu : Nat) (a : List ((Int × Int))) (b : List ((Int × Int))) : Option (Bool) :=
  bif (!(((a.length : Nat) : Int) == ((b.length : Nat) : Int))) then
    some false
  else
    (low_SameTimers_l0_it fu a b 0).bind fun o =>
    match o with
    | .inl s =>
      some true
    | .inr o1 =>
      some o1
def low_SameTimers_fa : FnA := ⟨.two (.leaf) (.two (.two (.leaf) (.two (.leaf) (.leaf))) (.two (.two (.leaf) (.one (.loop ⟨[5], ⟨(.cons (.p (.int .i64)) .nil), []⟩⟩ true [(0, ⟨[], ⟨.nil, []⟩⟩)] (.two (.two (.leaf) (.leaf)) (.two (.one (.two (.leaf) (.two (.leaf) (.leaf)))) (.leaf)))))) (.leaf))), ⟨(.cons (.p (.sl (.pair (.int .i64) (.int .i64)))) (.cons (.p (.sl (.pair (.int .i64) (.int .i64)))) .nil)), []⟩, [⟨(.cons (.p .bool) .nil), []⟩], [0]⟩
def low_SameTimers_ft (fu : Nat) : FnT := ⟨27, ⟨(.cons (.p (.sl (.pair (.int .i64) (.int .i64)))) (.cons (.p (.sl (.pair (.int .i64) (.int .i64)))) .nil)), []⟩, [⟨(.cons (.p .bool) .nil), []⟩], fun t => low_SameTimers fu t.1 t.2⟩
theorem low_SameTimers_eq (fu : Nat) : ∀ t, evF Go.Proofs.Try.prog [] fu Go.Proofs.Try.f27 low_SameTimers_fa t = (low_SameTimers_ft fu).spec t := fun t => by kernel_rfl
theorem low_SameTimers_told (fu : Nat) : Told Go.Proofs.Try.prog (low_SameTimers_ft fu) := told_of allT_nil mixed Go.Proofs.Try.func27 (by kernel_rfl) (by kernel_rfl) (low_SameTimers_eq fu)

def clock_Clock_none__cn (fu : Nat) (h : Int) (h1 : Int) : Option ((Bool × (Int × Int))) :=
  some (true, (h, h1))
def clock_Clock_none__cn_fa : FnA := ⟨.two (.leaf) (.leaf), ⟨(.cons (.own 0 0 0 0) .nil), [(0, false, (.vars (.cons (.p (.int .i64)) (.cons (.nilp (.map none)) (.cons (.p (.int .i64)) .nil)))))]⟩, [⟨(.cons (.p .bool) .nil), [(0, false, (.vars (.cons (.p (.int .i64)) (.cons (.nilp (.map none)) (.cons (.p (.int .i64)) .nil)))))]⟩], [0]⟩
def clock_Clock_none__cn_ft (fu : Nat) : FnT := ⟨30, ⟨(.cons (.own 0 0 0 0) .nil), [(0, false, (.vars (.cons (.p (.int .i64)) (.cons (.nilp (.map none)) (.cons (.p (.int .i64)) .nil)))))]⟩, [⟨(.cons (.p .bool) .nil), [(0, false, (.vars (.cons (.p (.int .i64)) (.cons (.nilp (.map none)) (.cons (.p (.int .i64)) .nil)))))]⟩], fun t => clock_Clock_none__cn fu t.1 t.2⟩
theorem clock_Clock_none__cn_eq (fu : Nat) : ∀ t, evF Go.Proofs.Try.prog [] fu Go.Proofs.Try.f30 clock_Clock_none__cn_fa t = (clock_Clock_none__cn_ft fu).spec t := fun t => by kernel_rfl
theorem clock_Clock_none__cn_told (fu : Nat) : Told Go.Proofs.Try.prog (clock_Clock_none__cn_ft fu) := told_of allT_nil mixed Go.Proofs.Try.func30 (by kernel_rfl) (by kernel_rfl) (clock_Clock_none__cn_eq fu)

def clock_Clock_Due__cn (fu : Nat) (id : Int) (h : Int) (h1 : Int) : Option ((Int × (Bool × (Int × Int)))) :=
  (clock_Clock_none__cn fu h h1).bind fun r =>
  bif r.1 then
    some (0, (false, (r.2.1, r.2.2)))
  else
    some (0, (false, (r.2.1, r.2.2)))
def clock_Clock_Due__cn_fa : FnA := ⟨.two (.leaf) (.two (.two (.reg [(1, { sh := [0] })]) (.two (.leaf) (.leaf))) (.two (.leaf) (.leaf))), ⟨(.cons (.own 0 0 0 0) (.cons (.p (.int .i64)) .nil)), [(0, false, (.vars (.cons (.p (.int .i64)) (.cons (.nilp (.map none)) (.cons (.p (.int .i64)) .nil)))))]⟩, [⟨(.cons (.p (.int .i64)) (.cons (.p .bool) .nil)), [(0, false, (.vars (.cons (.p (.int .i64)) (.cons (.nilp (.map none)) (.cons (.p (.int .i64)) .nil)))))]⟩], [0, 0]⟩
def clock_Clock_Due__cn_ft (fu : Nat) : FnT := ⟨18, ⟨(.cons (.own 0 0 0 0) (.cons (.p (.int .i64)) .nil)), [(0, false, (.vars (.cons (.p (.int .i64)) (.cons (.nilp (.map none)) (.cons (.p (.int .i64)) .nil)))))]⟩, [⟨(.cons (.p (.int .i64)) (.cons (.p .bool) .nil)), [(0, false, (.vars (.cons (.p (.int .i64)) (.cons (.nilp (.map none)) (.cons (.p (.int .i64)) .nil)))))]⟩], fun t => clock_Clock_Due__cn fu t.1 t.2.1 t.2.2⟩
theorem clock_Clock_Due__cn_eq (fu : Nat) : ∀ t, evF Go.Proofs.Try.prog [clock_Clock_none__cn_ft fu] fu Go.Proofs.Try.f18 clock_Clock_Due__cn_fa t = (clock_Clock_Due__cn_ft fu).spec t := fun t => by kernel_rfl
theorem clock_Clock_Due__cn_told (fu : Nat) : Told Go.Proofs.Try.prog (clock_Clock_Due__cn_ft fu) := told_of (allT_cons (clock_Clock_none__cn_told fu) allT_nil) mixed Go.Proofs.Try.func18 (by kernel_rfl) (by kernel_rfl) (clock_Clock_Due__cn_eq fu)

def clock_Clock_All__cn (fu : Nat) (h : Int) (h1 : Int) : Option ((Int × Int)) :=
  (clock_Clock_none__cn fu h h1).bind fun r =>
  bif r.1 then
    some (r.2.1, r.2.2)
  else
    none
def clock_Clock_All__cn_fa : FnA := ⟨.two (.leaf) (.two (.two (.reg [(1, { sh := [0] })]) (.two (.leaf) (.leaf))) (.two (.leaf) (.two (.leaf) (.leaf)))), ⟨(.cons (.own 0 0 0 0) .nil), [(0, false, (.vars (.cons (.p (.int .i64)) (.cons (.nilp (.map none)) (.cons (.p (.int .i64)) .nil)))))]⟩, [⟨(.cons (.nilp (.slice none 0 0)) .nil), [(0, false, (.vars (.cons (.p (.int .i64)) (.cons (.nilp (.map none)) (.cons (.p (.int .i64)) .nil)))))]⟩], [1]⟩
def clock_Clock_All__cn_ft (fu : Nat) : FnT := ⟨16, ⟨(.cons (.own 0 0 0 0) .nil), [(0, false, (.vars (.cons (.p (.int .i64)) (.cons (.nilp (.map none)) (.cons (.p (.int .i64)) .nil)))))]⟩, [⟨(.cons (.nilp (.slice none 0 0)) .nil), [(0, false, (.vars (.cons (.p (.int .i64)) (.cons (.nilp (.map none)) (.cons (.p (.int .i64)) .nil)))))]⟩], fun t => clock_Clock_All__cn fu t.1 t.2⟩
theorem clock_Clock_All__cn_eq (fu : Nat) : ∀ t, evF Go.Proofs.Try.prog [clock_Clock_none__cn_ft fu] fu Go.Proofs.Try.f16 clock_Clock_All__cn_fa t = (clock_Clock_All__cn_ft fu).spec t := fun t => by kernel_rfl
theorem clock_Clock_All__cn_told (fu : Nat) : Told Go.Proofs.Try.prog (clock_Clock_All__cn_ft fu) := told_of (allT_cons (clock_Clock_none__cn_told fu) allT_nil) mixed Go.Proofs.Try.func16 (by kernel_rfl) (by kernel_rfl) (clock_Clock_All__cn_eq fu)

def clock_Clock_Next__cn (fu : Nat) (h : Int) (h1 : Int) : Option ((Int × (Int × (Bool × (Int × Int))))) :=
  (clock_Clock_All__cn fu h h1).bind fun r =>
  some (0, (0, (false, (r.1, r.2))))
def clock_Clock_Next__cn_fa : FnA := ⟨.two (.reg [(0, { ids := [100] })]) (.two (.reg [(1, { sh := [0] })]) (.two (.two (.leaf) (.two (.leaf) (.leaf))) (.leaf))), ⟨(.cons (.own 0 0 0 0) .nil), [(0, false, (.vars (.cons (.p (.int .i64)) (.cons (.nilp (.map none)) (.cons (.p (.int .i64)) .nil)))))]⟩, [⟨(.cons (.agg (.cons (.p (.int .i64)) (.cons (.p (.int .i64)) .nil))) (.cons (.p .bool) .nil)), [(0, false, (.vars (.cons (.p (.int .i64)) (.cons (.nilp (.map none)) (.cons (.p (.int .i64)) .nil)))))]⟩], [0, 0]⟩
def clock_Clock_Next__cn_ft (fu : Nat) : FnT := ⟨19, ⟨(.cons (.own 0 0 0 0) .nil), [(0, false, (.vars (.cons (.p (.int .i64)) (.cons (.nilp (.map none)) (.cons (.p (.int .i64)) .nil)))))]⟩, [⟨(.cons (.agg (.cons (.p (.int .i64)) (.cons (.p (.int .i64)) .nil))) (.cons (.p .bool) .nil)), [(0, false, (.vars (.cons (.p (.int .i64)) (.cons (.nilp (.map none)) (.cons (.p (.int .i64)) .nil)))))]⟩], fun t => clock_Clock_Next__cn fu t.1 t.2⟩
theorem clock_Clock_Next__cn_eq (fu : Nat) : ∀ t, evF Go.Proofs.Try.prog [clock_Clock_All__cn_ft fu] fu Go.Proofs.Try.f19 clock_Clock_Next__cn_fa t = (clock_Clock_Next__cn_ft fu).spec t := fun t => by kernel_rfl
theorem clock_Clock_Next__cn_told (fu : Nat) : Told Go.Proofs.Try.prog (clock_Clock_Next__cn_ft fu) := told_of (allT_cons (clock_Clock_All__cn_told fu) allT_nil) mixed Go.Proofs.Try.func19 (by kernel_rfl) (by kernel_rfl) (clock_Clock_Next__cn_eq fu)

def clock_Clock_Set__cn (fu : Nat) (id : Int) (in_ : Int) (h : Int) (h1 : Int) : Option ((Int × (Int × Int))) :=
  (clock_Clock_none__cn fu h h1).bind fun r =>
  bif r.1 then
    some (1, (r.2.1, r.2.2))
  else
    Option.bind (α := ((Bool × (Int × Int)))) (
      bif (decide (in_ < 1)) then
        some (true, (r.2.1, r.2.2))
      else
        some ((decide (in_ > (IntKind.wrap .i64 (1152921504606846976 - r.2.1)))), (r.2.1, r.2.2))) fun o =>
    bif o.1 then
      some (2, (o.2.1, o.2.2))
    else
      bif (decide (0 ≥ o.2.2)) then
        some (71, (o.2.1, o.2.2))
      else
        none
def clock_Clock_Set__cn_fa : FnA := ⟨.two (.leaf) (.two (.two (.reg [(1, { sh := [0] })]) (.two (.leaf) (.leaf))) (.two (.leaf) (.two (.one (.two (.join ⟨[0, 20], ⟨(.cons (.own 0 0 0 0) (.cons (.p .bool) .nil)), [(0, false, (.vars (.cons (.p (.int .i64)) (.cons (.nilp (.map none)) (.cons (.p (.int .i64)) .nil)))))]⟩⟩ false [] (.leaf)) (.two (.leaf) (.two (.leaf) (.two (.leaf) (.leaf)))))) (.leaf)))), ⟨(.cons (.own 0 0 0 0) (.cons (.p (.int .i64)) (.cons (.p (.int .i64)) .nil))), [(0, false, (.vars (.cons (.p (.int .i64)) (.cons (.nilp (.map none)) (.cons (.p (.int .i64)) .nil)))))]⟩, [⟨(.cons (.p (.int .i64)) .nil), [(0, false, (.vars (.cons (.p (.int .i64)) (.cons (.nilp (.map none)) (.cons (.p (.int .i64)) .nil)))))]⟩], [0]⟩
def clock_Clock_Set__cn_ft (fu : Nat) : FnT := ⟨11, ⟨(.cons (.own 0 0 0 0) (.cons (.p (.int .i64)) (.cons (.p (.int .i64)) .nil))), [(0, false, (.vars (.cons (.p (.int .i64)) (.cons (.nilp (.map none)) (.cons (.p (.int .i64)) .nil)))))]⟩, [⟨(.cons (.p (.int .i64)) .nil), [(0, false, (.vars (.cons (.p (.int .i64)) (.cons (.nilp (.map none)) (.cons (.p (.int .i64)) .nil)))))]⟩], fun t => clock_Clock_Set__cn fu t.1 t.2.1 t.2.2.1 t.2.2.2⟩
theorem clock_Clock_Set__cn_eq (fu : Nat) : ∀ t, evF Go.Proofs.Try.prog [clock_Clock_none__cn_ft fu] fu Go.Proofs.Try.f11 clock_Clock_Set__cn_fa t = (clock_Clock_Set__cn_ft fu).spec t := fun t => by kernel_rfl
theorem clock_Clock_Set__cn_told (fu : Nat) : Told Go.Proofs.Try.prog (clock_Clock_Set__cn_ft fu) := told_of (allT_cons (clock_Clock_none__cn_told fu) allT_nil) mixed Go.Proofs.Try.func11 (by kernel_rfl) (by kernel_rfl) (clock_Clock_Set__cn_eq fu)

def clock_Clock_Unset__cn (fu : Nat) (id : Int) (h : Int) (h1 : Int) : Option ((Bool × (Int × Int))) :=
  (clock_Clock_none__cn fu h h1).bind fun r =>
  bif r.1 then
    some (false, (r.2.1, r.2.2))
  else
    some (false, (r.2.1, r.2.2))
def clock_Clock_Unset__cn_fa : FnA := ⟨.two (.leaf) (.two (.two (.reg [(1, { sh := [0] })]) (.two (.leaf) (.leaf))) (.two (.leaf) (.two (.leaf) (.leaf)))), ⟨(.cons (.own 0 0 0 0) (.cons (.p (.int .i64)) .nil)), [(0, false, (.vars (.cons (.p (.int .i64)) (.cons (.nilp (.map none)) (.cons (.p (.int .i64)) .nil)))))]⟩, [⟨(.cons (.p .bool) .nil), [(0, false, (.vars (.cons (.p (.int .i64)) (.cons (.nilp (.map none)) (.cons (.p (.int .i64)) .nil)))))]⟩], [0]⟩
def clock_Clock_Unset__cn_ft (fu : Nat) : FnT := ⟨12, ⟨(.cons (.own 0 0 0 0) (.cons (.p (.int .i64)) .nil)), [(0, false, (.vars (.cons (.p (.int .i64)) (.cons (.nilp (.map none)) (.cons (.p (.int .i64)) .nil)))))]⟩, [⟨(.cons (.p .bool) .nil), [(0, false, (.vars (.cons (.p (.int .i64)) (.cons (.nilp (.map none)) (.cons (.p (.int .i64)) .nil)))))]⟩], fun t => clock_Clock_Unset__cn fu t.1 t.2.1 t.2.2⟩
theorem clock_Clock_Unset__cn_eq (fu : Nat) : ∀ t, evF Go.Proofs.Try.prog [clock_Clock_none__cn_ft fu] fu Go.Proofs.Try.f12 clock_Clock_Unset__cn_fa t = (clock_Clock_Unset__cn_ft fu).spec t := fun t => by kernel_rfl
theorem clock_Clock_Unset__cn_told (fu : Nat) : Told Go.Proofs.Try.prog (clock_Clock_Unset__cn_ft fu) := told_of (allT_cons (clock_Clock_none__cn_told fu) allT_nil) mixed Go.Proofs.Try.func12 (by kernel_rfl) (by kernel_rfl) (clock_Clock_Unset__cn_eq fu)

def clock_Clock_told__cn_l0 (fu : Nat) (n : Int) (h2 : Int) (h3 : Int) : Option ((Int × (Int × Int)) ⊕ ((Int × (Int × Int)))) :=
  bif (decide (n < 0)) then
    none
  else
    some (.inr (n, (h2, h3)))
def clock_Clock_told__cn_l0_it (fu : Nat)  (tt : (Int × (Int × Int))) : Option ((Int × (Int × Int))) :=
  iter fu (fun tt => clock_Clock_told__cn_l0 fu tt.1 tt.2.1 tt.2.2) tt
def clock_Clock_told__cn (fu : Nat) (now : Int) (h : Int) (h1 : Int) : Option (Empty) :=
  (clock_Clock_All__cn fu now h1).bind fun r =>
  (clock_Clock_told__cn_l0_it fu  (0, (r.1, r.2))).bind fun o =>
  none
def clock_Clock_told__cn_fa : FnA := ⟨.two (.leaf) (.two (.leaf) (.two (.reg [(1, { sh := [0] })]) (.two (.leaf) (.two (.one (.loop ⟨[0, 6], ⟨(.cons (.own 0 0 0 0) (.cons (.p (.int .i64)) .nil)), [(0, false, (.vars (.cons (.p (.int .i64)) (.cons (.nilp (.map none)) (.cons (.p (.int .i64)) .nil)))))]⟩⟩ false [(0, ⟨[0, 6], ⟨(.cons (.own 0 0 0 0) (.cons (.p (.int .i64)) .nil)), [(0, false, (.vars (.cons (.p (.int .i64)) (.cons (.nilp (.map none)) (.cons (.p (.int .i64)) .nil)))))]⟩⟩)] (.two (.two (.leaf) (.leaf)) (.leaf)))) (.leaf))))), ⟨(.cons (.own 0 0 0 0) (.cons (.p (.int .i64)) .nil)), [(0, false, (.vars (.cons (.p (.int .i64)) (.cons (.nilp (.map none)) (.cons (.p (.int .i64)) .nil)))))]⟩, [], [0]⟩
def clock_Clock_told__cn_ft (fu : Nat) : FnT := ⟨31, ⟨(.cons (.own 0 0 0 0) (.cons (.p (.int .i64)) .nil)), [(0, false, (.vars (.cons (.p (.int .i64)) (.cons (.nilp (.map none)) (.cons (.p (.int .i64)) .nil)))))]⟩, [], fun t => clock_Clock_told__cn fu t.1 t.2.1 t.2.2⟩
theorem clock_Clock_told__cn_eq (fu : Nat) : ∀ t, evF Go.Proofs.Try.prog [clock_Clock_All__cn_ft fu] fu Go.Proofs.Try.f31 clock_Clock_told__cn_fa t = (clock_Clock_told__cn_ft fu).spec t := fun t => by kernel_rfl
theorem clock_Clock_told__cn_told (fu : Nat) : Told Go.Proofs.Try.prog (clock_Clock_told__cn_ft fu) := told_of (allT_cons (clock_Clock_All__cn_told fu) allT_nil) mixed Go.Proofs.Try.func31 (by kernel_rfl) (by kernel_rfl) (clock_Clock_told__cn_eq fu)

def clock_Clock_Tick__cn (fu : Nat) (h : Int) (h1 : Int) : Option ((Int × Int)) :=
  (clock_Clock_none__cn fu h h1).bind fun r =>
  bif r.1 then
    some (r.2.1, r.2.2)
  else
    (clock_Clock_told__cn fu (if 1152921504606846976 < (IntKind.wrap .i64 (r.2.1 + 1)) then 1152921504606846976 else (IntKind.wrap .i64 (r.2.1 + 1))) r.2.1 r.2.2).bind fun r1 =>
    Empty.elim r1
def clock_Clock_Tick__cn_fa : FnA := ⟨.two (.leaf) (.two (.two (.reg [(1, { sh := [0] })]) (.two (.leaf) (.leaf))) (.two (.reg [(7, { sh := [0], fn := 1 })]) (.leaf))), ⟨(.cons (.own 0 0 0 0) .nil), [(0, false, (.vars (.cons (.p (.int .i64)) (.cons (.nilp (.map none)) (.cons (.p (.int .i64)) .nil)))))]⟩, [⟨(.cons (.nilp (.slice none 0 0)) .nil), [(0, false, (.vars (.cons (.p (.int .i64)) (.cons (.nilp (.map none)) (.cons (.p (.int .i64)) .nil)))))]⟩], [0]⟩
def clock_Clock_Tick__cn_ft (fu : Nat) : FnT := ⟨17, ⟨(.cons (.own 0 0 0 0) .nil), [(0, false, (.vars (.cons (.p (.int .i64)) (.cons (.nilp (.map none)) (.cons (.p (.int .i64)) .nil)))))]⟩, [⟨(.cons (.nilp (.slice none 0 0)) .nil), [(0, false, (.vars (.cons (.p (.int .i64)) (.cons (.nilp (.map none)) (.cons (.p (.int .i64)) .nil)))))]⟩], fun t => clock_Clock_Tick__cn fu t.1 t.2⟩
theorem clock_Clock_Tick__cn_eq (fu : Nat) : ∀ t, evF Go.Proofs.Try.prog [clock_Clock_none__cn_ft fu, clock_Clock_told__cn_ft fu] fu Go.Proofs.Try.f17 clock_Clock_Tick__cn_fa t = (clock_Clock_Tick__cn_ft fu).spec t := fun t => by kernel_rfl
theorem clock_Clock_Tick__cn_told (fu : Nat) : Told Go.Proofs.Try.prog (clock_Clock_Tick__cn_ft fu) := told_of (allT_cons (clock_Clock_none__cn_told fu) (allT_cons (clock_Clock_told__cn_told fu) allT_nil)) mixed Go.Proofs.Try.func17 (by kernel_rfl) (by kernel_rfl) (clock_Clock_Tick__cn_eq fu)

def clock_Clock_Skip__cn (fu : Nat) (h : Int) (h1 : Int) : Option ((Int × Int)) :=
  (clock_Clock_Next__cn fu h h1).bind fun r =>
  bif (!r.2.2.1) then
    some (r.2.2.2.1, r.2.2.2.2)
  else
    (clock_Clock_told__cn fu r.1 r.2.2.2.1 r.2.2.2.2).bind fun r1 =>
    Empty.elim r1
def clock_Clock_Skip__cn_fa : FnA := ⟨.two (.leaf) (.two (.reg [(1, { sh := [0] }), (5, { ids := [100] })]) (.two (.two (.leaf) (.two (.leaf) (.leaf))) (.two (.reg [(3, { sh := [0], fn := 1 })]) (.leaf)))), ⟨(.cons (.own 0 0 0 0) .nil), [(0, false, (.vars (.cons (.p (.int .i64)) (.cons (.nilp (.map none)) (.cons (.p (.int .i64)) .nil)))))]⟩, [⟨(.cons (.nilp (.slice none 0 0)) .nil), [(0, false, (.vars (.cons (.p (.int .i64)) (.cons (.nilp (.map none)) (.cons (.p (.int .i64)) .nil)))))]⟩], [0]⟩
def clock_Clock_Skip__cn_ft (fu : Nat) : FnT := ⟨14, ⟨(.cons (.own 0 0 0 0) .nil), [(0, false, (.vars (.cons (.p (.int .i64)) (.cons (.nilp (.map none)) (.cons (.p (.int .i64)) .nil)))))]⟩, [⟨(.cons (.nilp (.slice none 0 0)) .nil), [(0, false, (.vars (.cons (.p (.int .i64)) (.cons (.nilp (.map none)) (.cons (.p (.int .i64)) .nil)))))]⟩], fun t => clock_Clock_Skip__cn fu t.1 t.2⟩
theorem clock_Clock_Skip__cn_eq (fu : Nat) : ∀ t, evF Go.Proofs.Try.prog [clock_Clock_Next__cn_ft fu, clock_Clock_told__cn_ft fu] fu Go.Proofs.Try.f14 clock_Clock_Skip__cn_fa t = (clock_Clock_Skip__cn_ft fu).spec t := fun t => by kernel_rfl
theorem clock_Clock_Skip__cn_told (fu : Nat) : Told Go.Proofs.Try.prog (clock_Clock_Skip__cn_ft fu) := told_of (allT_cons (clock_Clock_Next__cn_told fu) (allT_cons (clock_Clock_told__cn_told fu) allT_nil)) mixed Go.Proofs.Try.func14 (by kernel_rfl) (by kernel_rfl) (clock_Clock_Skip__cn_eq fu)

def clock_Clock_Now__cn (fu : Nat) (h : Int) (h1 : Int) : Option ((Int × (Int × Int))) :=
  (clock_Clock_none__cn fu h h1).bind fun r =>
  bif r.1 then
    some (0, (r.2.1, r.2.2))
  else
    some (r.2.1, (r.2.1, r.2.2))
def clock_Clock_Now__cn_fa : FnA := ⟨.two (.leaf) (.two (.two (.reg [(1, { sh := [0] })]) (.two (.leaf) (.leaf))) (.leaf)), ⟨(.cons (.own 0 0 0 0) .nil), [(0, false, (.vars (.cons (.p (.int .i64)) (.cons (.nilp (.map none)) (.cons (.p (.int .i64)) .nil)))))]⟩, [⟨(.cons (.p (.int .i64)) .nil), [(0, false, (.vars (.cons (.p (.int .i64)) (.cons (.nilp (.map none)) (.cons (.p (.int .i64)) .nil)))))]⟩], [0]⟩
def clock_Clock_Now__cn_ft (fu : Nat) : FnT := ⟨15, ⟨(.cons (.own 0 0 0 0) .nil), [(0, false, (.vars (.cons (.p (.int .i64)) (.cons (.nilp (.map none)) (.cons (.p (.int .i64)) .nil)))))]⟩, [⟨(.cons (.p (.int .i64)) .nil), [(0, false, (.vars (.cons (.p (.int .i64)) (.cons (.nilp (.map none)) (.cons (.p (.int .i64)) .nil)))))]⟩], fun t => clock_Clock_Now__cn fu t.1 t.2⟩
theorem clock_Clock_Now__cn_eq (fu : Nat) : ∀ t, evF Go.Proofs.Try.prog [clock_Clock_none__cn_ft fu] fu Go.Proofs.Try.f15 clock_Clock_Now__cn_fa t = (clock_Clock_Now__cn_ft fu).spec t := fun t => by kernel_rfl
theorem clock_Clock_Now__cn_told (fu : Nat) : Told Go.Proofs.Try.prog (clock_Clock_Now__cn_ft fu) := told_of (allT_cons (clock_Clock_none__cn_told fu) allT_nil) mixed Go.Proofs.Try.func15 (by kernel_rfl) (by kernel_rfl) (clock_Clock_Now__cn_eq fu)

def law08_ClockNone (fu : Nat) (id : Int) (in_ : Int) : Option (Bool) :=
  (clock_Clock_Due_n0 fu id).bind fun r =>
  (clock_Clock_Next_n0 fu).bind fun r1 =>
  Option.bind (α := ((Bool × (Int × Int)))) (
    (clock_Clock_Set_n0 fu id in_).bind fun r2 =>
    bif (!(r2 == 1)) then
      some (true, (0, 0))
    else
      (clock_Clock_Unset_n0 fu id).bind fun r3 =>
      bif r3 then
        some (true, (0, 0))
      else
        bif r.2 then
          some (true, (0, 0))
        else
          bif r1.2.2 then
            some (true, (0, 0))
          else
            bif (!(r.1 == 0)) then
              some (true, (0, 0))
            else
              bif (!((r1.1 == 0) && (r1.2.1 == 0))) then
                some (true, (0, 0))
              else
                (clock_Clock_Tick_n0 fu).bind fun r4 =>
                (clock_Clock_Skip_n0 fu).bind fun r5 =>
                (clock_Clock_All_n0 fu).bind fun r6 =>
                (clock_Clock_Now_n0 fu).bind fun r7 =>
                some ((!(r7 == 0)), (0, 0))) fun o =>
  bif o.1 then
    some false
  else
    (clock_Clock_Due__cn fu id o.2.1 o.2.2).bind fun r8 =>
    (clock_Clock_Next__cn fu r8.2.2.1 r8.2.2.2).bind fun r9 =>
    Option.bind (α := ((Bool × (Int × Int)))) (
      (clock_Clock_Set__cn fu id in_ r9.2.2.2.1 r9.2.2.2.2).bind fun r10 =>
      bif (!(r10.1 == 1)) then
        some (true, (r10.2.1, r10.2.2))
      else
        (clock_Clock_Unset__cn fu id r10.2.1 r10.2.2).bind fun r11 =>
        bif r11.1 then
          some (true, (r11.2.1, r11.2.2))
        else
          bif r8.2.1 then
            some (true, (r11.2.1, r11.2.2))
          else
            bif r9.2.2.1 then
              some (true, (r11.2.1, r11.2.2))
            else
              bif (!(r8.1 == 0)) then
                some (true, (r11.2.1, r11.2.2))
              else
                bif (!((r9.1 == 0) && (r9.2.1 == 0))) then
                  some (true, (r11.2.1, r11.2.2))
                else
                  (clock_Clock_Tick__cn fu r11.2.1 r11.2.2).bind fun r12 =>
                  (clock_Clock_Skip__cn fu r12.1 r12.2).bind fun r13 =>
                  (clock_Clock_All__cn fu r13.1 r13.2).bind fun r14 =>
                  (clock_Clock_Now__cn fu r14.1 r14.2).bind fun r15 =>
                  some ((!(r15.1 == 0)), (r15.2.1, r15.2.2))) fun o1 =>
    bif o1.1 then
      some false
    else
      (law08_awake fu).bind fun r16 =>
      some r16
def law08_ClockNone_fa : FnA := ⟨.two (.leaf) (.two (.leaf) (.two (.two (.reg [(2, { ids := [100] }), (3, { ids := [101], md := [1] })]) (.one (.round (.two (.leaf) (.two (.leaf) (.two (.one (.two (.leaf) (.two (.reg [(2, {  })]) (.two (.reg [(1, { fn := 1 }), (5, { ids := [102] })]) (.two (.join ⟨[15, 75], ⟨(.cons (.slf 1 101) (.cons (.p .bool) .nil)), [(101, false, (.vars (.cons (.nilp (.pointer none)) (.cons (.own 0 100 0 0) .nil)))), (100, false, (.vars (.cons (.p (.int .i64)) (.cons (.nilp (.map none)) (.cons (.p (.int .i64)) .nil)))))]⟩⟩ false [] (.reg [(3, { fn := 2 }), (8, { fn := 3 }), (27, { fn := 4 }), (30, { fn := 5 }), (34, { fn := 6 }), (41, { fn := 7 })])) (.two (.leaf) (.leaf))))))) (.leaf)))) (.round (.two (.leaf) (.two (.leaf) (.two (.one (.two (.leaf) (.two (.reg [(2, { sh := [100], fn := 8 })]) (.two (.reg [(1, { sh := [100], fn := 9 }), (5, { ids := [103] })]) (.two (.join ⟨[15, 75], ⟨(.cons (.slf 1 101) (.cons (.p .bool) .nil)), [(101, false, (.vars (.cons (.nilp (.pointer none)) (.cons (.own 0 100 0 0) .nil)))), (100, false, (.vars (.cons (.p (.int .i64)) (.cons (.nilp (.map none)) (.cons (.p (.int .i64)) .nil)))))]⟩⟩ false [] (.reg [(3, { sh := [100], fn := 10 }), (8, { sh := [100], fn := 11 }), (27, { sh := [100], fn := 12 }), (30, { sh := [100], fn := 13 }), (34, { sh := [100], fn := 14 }), (41, { sh := [100], fn := 15 })])) (.two (.leaf) (.leaf))))))) (.leaf)))) (.round (.two (.leaf) (.two (.leaf) (.leaf))) (.leaf)))))) (.two (.reg [(0, { fn := 16 })]) (.leaf)))), ⟨(.cons (.p (.int .i64)) (.cons (.p (.int .i64)) .nil)), []⟩, [⟨(.cons (.p .bool) .nil), []⟩], [0]⟩
def law08_ClockNone_ft (fu : Nat) : FnT := ⟨5, ⟨(.cons (.p (.int .i64)) (.cons (.p (.int .i64)) .nil)), []⟩, [⟨(.cons (.p .bool) .nil), []⟩], fun t => law08_ClockNone fu t.1 t.2⟩
theorem law08_ClockNone_eq (fu : Nat) : ∀ t, evF Go.Proofs.Try.prog [clock_Clock_Due_n0_ft fu, clock_Clock_Next_n0_ft fu, clock_Clock_Set_n0_ft fu, clock_Clock_Unset_n0_ft fu, clock_Clock_Tick_n0_ft fu, clock_Clock_Skip_n0_ft fu, clock_Clock_All_n0_ft fu, clock_Clock_Now_n0_ft fu, clock_Clock_Due__cn_ft fu, clock_Clock_Next__cn_ft fu, clock_Clock_Set__cn_ft fu, clock_Clock_Unset__cn_ft fu, clock_Clock_Tick__cn_ft fu, clock_Clock_Skip__cn_ft fu, clock_Clock_All__cn_ft fu, clock_Clock_Now__cn_ft fu, law08_awake_ft fu] fu Go.Proofs.Try.f5 law08_ClockNone_fa t = (law08_ClockNone_ft fu).spec t := fun t => by kernel_rfl
theorem law08_ClockNone_told (fu : Nat) : Told Go.Proofs.Try.prog (law08_ClockNone_ft fu) := told_of (allT_cons (clock_Clock_Due_n0_told fu) (allT_cons (clock_Clock_Next_n0_told fu) (allT_cons (clock_Clock_Set_n0_told fu) (allT_cons (clock_Clock_Unset_n0_told fu) (allT_cons (clock_Clock_Tick_n0_told fu) (allT_cons (clock_Clock_Skip_n0_told fu) (allT_cons (clock_Clock_All_n0_told fu) (allT_cons (clock_Clock_Now_n0_told fu) (allT_cons (clock_Clock_Due__cn_told fu) (allT_cons (clock_Clock_Next__cn_told fu) (allT_cons (clock_Clock_Set__cn_told fu) (allT_cons (clock_Clock_Unset__cn_told fu) (allT_cons (clock_Clock_Tick__cn_told fu) (allT_cons (clock_Clock_Skip__cn_told fu) (allT_cons (clock_Clock_All__cn_told fu) (allT_cons (clock_Clock_Now__cn_told fu) (allT_cons (law08_awake_told fu) allT_nil))))))))))))))))) mixed Go.Proofs.Try.func5 (by kernel_rfl) (by kernel_rfl) (law08_ClockNone_eq fu)

def low_Pick (fu : Nat) (x : Int) (n : Int) : Option (Int) :=
  bif (decide (n ≤ 0)) then
    some 0
  else
    need (!(decide (n = 0))) <|
    bif (decide ((Int.tmod x n) < 0)) then
      some (IntKind.wrap .i64 ((Int.tmod x n) + n))
    else
      some (Int.tmod x n)
def low_Pick_fa : FnA := ⟨.two (.leaf) (.two (.two (.leaf) (.two (.leaf) (.leaf))) (.two (.leaf) (.two (.two (.leaf) (.leaf)) (.leaf)))), ⟨(.cons (.p (.int .i64)) (.cons (.p (.int .i64)) .nil)), []⟩, [⟨(.cons (.p (.int .i64)) .nil), []⟩], [0]⟩
def low_Pick_ft (fu : Nat) : FnT := ⟨29, ⟨(.cons (.p (.int .i64)) (.cons (.p (.int .i64)) .nil)), []⟩, [⟨(.cons (.p (.int .i64)) .nil), []⟩], fun t => low_Pick fu t.1 t.2⟩
theorem low_Pick_eq (fu : Nat) : ∀ t, evF Go.Proofs.Try.prog [] fu Go.Proofs.Try.f29 low_Pick_fa t = (low_Pick_ft fu).spec t := fun t => by kernel_rfl
theorem low_Pick_told (fu : Nat) : Told Go.Proofs.Try.prog (low_Pick_ft fu) := told_of allT_nil mixed Go.Proofs.Try.func29 (by kernel_rfl) (by kernel_rfl) (low_Pick_eq fu)

def law08_does__cm (fu : Nat) (o : (Int × (Int × Int))) (h : Int) (h1 : Int) (h2 : (List (((Int × Int) × Nat)) × Nat)) : Option ((Int × (Int × (List (((Int × Int) × Nat)) × Nat)))) :=
  Option.bind (α := ((Bool × (Int × (Int × ((List (((Int × Int) × Nat)) × Nat) × (Int × (Int × Int)))))))) (
    bif (decide (o.1 ≥ 1)) then
      some ((decide (o.1 ≤ 4)), (h, (h1, (h2, (o.1, (o.2.1, o.2.2))))))
    else
      some (false, (h, (h1, (h2, (o.1, (o.2.1, o.2.2))))))) fun o1 =>
  bif o1.1 then
    (low_Pick fu (Int.tmod o1.2.2.2.2.2.2 1000) 20).bind fun r =>
    (clock_Clock_Set__cm fu o1.2.2.2.2.2.1 (IntKind.wrap .i64 (1 + r)) o1.2.1 o1.2.2.1 o1.2.2.2.1).bind fun r1 =>
    some (r1.2.1, (r1.2.2.1, r1.2.2.2))
  else
    bif (o1.2.2.2.2.1 == 5) then
      (clock_Clock_Unset__cm fu o1.2.2.2.2.2.1 o1.2.1 o1.2.2.1 o1.2.2.2.1).bind fun r2 =>
      some (r2.2.1, (r2.2.2.1, r2.2.2.2))
    else
      some (o1.2.1, (o1.2.2.1, o1.2.2.2.1))
def law08_does__cm_fa : FnA := ⟨.two (.reg [(0, { ids := [100] })]) (.one (.two (.join ⟨[0, 3, 4], ⟨(.cons (.own 0 0 0 0) (.cons (.own 0 100 0 0) (.cons (.p .bool) .nil))), [(0, false, (.vars (.cons (.p (.int .i64)) (.cons (.mp 1) (.cons (.p (.int .i64)) .nil))))), (1, false, (.map (.int .i64) (.int .i64))), (100, false, (.vars (.cons (.p (.int .i64)) (.cons (.p (.int .i64)) (.cons (.p (.int .i64)) .nil)))))]⟩⟩ false [] (.leaf)) (.two (.reg [(6, {  }), (8, { sh := [0, 1], fn := 1 })]) (.two (.leaf) (.two (.reg [(3, { sh := [0, 1], fn := 2 })]) (.leaf)))))), ⟨(.cons (.own 0 0 0 0) (.cons (.p (.pair (.int .i64) (.pair (.int .i64) (.int .i64)))) .nil)), [(0, false, (.vars (.cons (.p (.int .i64)) (.cons (.mp 1) (.cons (.p (.int .i64)) .nil))))), (1, false, (.map (.int .i64) (.int .i64)))]⟩, [⟨.nil, [(0, false, (.vars (.cons (.p (.int .i64)) (.cons (.mp 1) (.cons (.p (.int .i64)) .nil))))), (1, false, (.map (.int .i64) (.int .i64)))]⟩], []⟩
def law08_does__cm_ft (fu : Nat) : FnT := ⟨28, ⟨(.cons (.own 0 0 0 0) (.cons (.p (.pair (.int .i64) (.pair (.int .i64) (.int .i64)))) .nil)), [(0, false, (.vars (.cons (.p (.int .i64)) (.cons (.mp 1) (.cons (.p (.int .i64)) .nil))))), (1, false, (.map (.int .i64) (.int .i64)))]⟩, [⟨.nil, [(0, false, (.vars (.cons (.p (.int .i64)) (.cons (.mp 1) (.cons (.p (.int .i64)) .nil))))), (1, false, (.map (.int .i64) (.int .i64)))]⟩], fun t => law08_does__cm fu t.1 t.2.1 t.2.2.1 t.2.2.2⟩
theorem law08_does__cm_eq (fu : Nat) : ∀ t, evF Go.Proofs.Try.prog [low_Pick_ft fu, clock_Clock_Set__cm_ft fu, clock_Clock_Unset__cm_ft fu] fu Go.Proofs.Try.f28 law08_does__cm_fa t = (law08_does__cm_ft fu).spec t := fun t => by kernel_rfl
theorem law08_does__cm_told (fu : Nat) : Told Go.Proofs.Try.prog (law08_does__cm_ft fu) := told_of (allT_cons (low_Pick_told fu) (allT_cons (clock_Clock_Set__cm_told fu) (allT_cons (clock_Clock_Unset__cm_told fu) allT_nil))) mixed Go.Proofs.Try.func28 (by kernel_rfl) (by kernel_rfl) (law08_does__cm_eq fu)
end
end Go.Ab.D
