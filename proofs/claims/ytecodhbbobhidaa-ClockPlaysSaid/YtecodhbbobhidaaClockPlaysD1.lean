/- Functions of the program as plain Lean functions: each equation is checked by the kernel; what is told of a function follows from it. -/
import Derived.Test.YtecodhbbobhidaaE3
import Derived.Test.YtecodhbbobhidaaProg
import Derived.KernelRfl
namespace Go.Proofs
open Go.Shelf
def Try.sort32_ren : Go.Shelf.Ren := ⟨fun | 6 => 32 | 15 => 40 | 14 => 39 | 28 => 51 | 29 => 52 | 20 => 43 | 21 => 44 | 22 => 45 | 23 => 46 | 24 => 47 | 25 => 48 | 26 => 49 | 27 => 50 | 46 => 53 | 47 => 54 | 48 => 55 | 49 => 56 | 50 => 57 | 57 => 58 | n => n, fun | 22 => 30 | 24 => 36 | 25 => 70 | 3 => 3 | 39 => 74 | 0 => 0 | 53 => 85 | 55 => 87 | 4 => 4 | 46 => 78 | 45 => 77 | 50 => 82 | 5 => 5 | 9 => 9 | 66 => 88 | 70 => 92 | 76 => 94 | 77 => 95 | n => n, fun | n => n⟩
theorem Try.sort32 : Go.Proofs.SlLaysF0.n6 Try.prog Try.sort32_ren := {
  mixed := by kernel_rfl
  f6 := ⟨Try.f32.name, by decide, Try.func32.trans (congrArg some (by kernel_rfl))⟩
  f14 := ⟨Try.f39.name, by decide, Try.func39.trans (congrArg some (by kernel_rfl))⟩
  f15 := Try.func40.trans (congrArg some (by kernel_rfl))
  f20 := ⟨Try.f43.name, by decide, Try.func43.trans (congrArg some (by kernel_rfl))⟩
  f21 := ⟨Try.f44.name, by decide, Try.func44.trans (congrArg some (by kernel_rfl))⟩
  f22 := ⟨Try.f45.name, by decide, Try.func45.trans (congrArg some (by kernel_rfl))⟩
  f23 := ⟨Try.f46.name, by decide, Try.func46.trans (congrArg some (by kernel_rfl))⟩
  f24 := ⟨Try.f47.name, by decide, Try.func47.trans (congrArg some (by kernel_rfl))⟩
  f25 := ⟨Try.f48.name, by decide, Try.func48.trans (congrArg some (by kernel_rfl))⟩
  f26 := ⟨Try.f49.name, by decide, Try.func49.trans (congrArg some (by kernel_rfl))⟩
  f27 := ⟨Try.f50.name, by decide, Try.func50.trans (congrArg some (by kernel_rfl))⟩
  f28 := Try.func51.trans (congrArg some (by kernel_rfl))
  f29 := Try.func52.trans (congrArg some (by kernel_rfl))
  f46 := ⟨Try.f53.name, by decide, Try.func53.trans (congrArg some (by kernel_rfl))⟩
  f47 := Try.func54.trans (congrArg some (by kernel_rfl))
  f48 := Try.func55.trans (congrArg some (by kernel_rfl))
  f49 := ⟨Try.f56.name, by decide, Try.func56.trans (congrArg some (by kernel_rfl))⟩
  f50 := ⟨Try.f57.name, by decide, Try.func57.trans (congrArg some (by kernel_rfl))⟩
  f57 := ⟨Try.f58.name, by decide, Try.func58.trans (congrArg some (by kernel_rfl))⟩
  t0 := Try.underlying0
  a0 := Try.isAgg0
  z0 := Try.sizeOf0
  v0 := Try.zeroValue0
  t3 := Try.underlying3
  a3 := Try.isAgg3
  z3 := Try.sizeOf3
  v3 := Try.zeroValue3
  t4 := Try.underlying4
  a4 := Try.isAgg4
  z4 := Try.sizeOf4
  v4 := Try.zeroValue4
  t5 := Try.underlying5
  a5 := Try.isAgg5
  z5 := Try.sizeOf5
  v5 := Try.zeroValue5
  t9 := Try.underlying9
  a9 := Try.isAgg9
  z9 := Try.sizeOf9
  v9 := Try.zeroValue9
  t22 := Try.underlying30
  a22 := Try.isAgg30
  z22 := Try.sizeOf30
  v22 := Try.zeroValue30
  t25 := Try.underlying70
  a25 := Try.isAgg70
  z25 := Try.sizeOf70
  v25 := Try.zeroValue70
  t39 := Try.underlying74
  a39 := Try.isAgg74
  z39 := Try.sizeOf74
  v39 := Try.zeroValue74
  t45 := Try.underlying77
  a45 := Try.isAgg77
  z45 := Try.sizeOf77
  v45 := Try.zeroValue77
  t46 := Try.underlying78
  a46 := Try.isAgg78
  z46 := Try.sizeOf78
  v46 := Try.zeroValue78
  t50 := Try.underlying82
  a50 := Try.isAgg82
  z50 := Try.sizeOf82
  v50 := Try.zeroValue82
  t53 := Try.underlying85
  a53 := Try.isAgg85
  z53 := Try.sizeOf85
  v53 := Try.zeroValue85
  t55 := Try.underlying87
  a55 := Try.isAgg87
  z55 := Try.sizeOf87
  v55 := Try.zeroValue87
  t66 := Try.underlying88
  a66 := Try.isAgg88
  z66 := Try.sizeOf88
  v66 := Try.zeroValue88
  t70 := Try.underlying92
  a70 := Try.isAgg92
  z70 := Try.sizeOf92
  v70 := Try.zeroValue92
  t76 := Try.underlying94
  a76 := Try.isAgg94
  z76 := Try.sizeOf94
  v76 := Try.zeroValue94
  t77 := Try.underlying95
  a77 := Try.isAgg95
  z77 := Try.sizeOf95
  v77 := Try.zeroValue95 }
end Go.Proofs
set_option linter.all false
set_option maxRecDepth 100000
set_option maxHeartbeats 4000000
namespace Go.Ab.D
open Go Go.Ab
noncomputable section
theorem mixed : Go.Proofs.Try.prog.follows .mixedOrders = true := by kernel_rfl
def clock_New (fu : Nat) (most : Int) : Option (Int ⊕ (Int × (Int × (Int × (List (((Int × Int) × Nat)) × Nat))))) :=
  Option.bind (α := (Bool)) (
    bif (decide (most < 1)) then
      some true
    else
      some (decide (most > 65536))) fun o =>
  bif o then
    some (.inl 2)
  else
    some (.inr (0, (0, (most, ([], 0)))))
def clock_New_fa : FnA := ⟨.two (.leaf) (.two (.two (.join ⟨[9], ⟨(.cons (.p .bool) .nil), []⟩⟩ false [] (.leaf)) (.two (.leaf) (.leaf))) (.two (.reg [(0, { ids := [100] }), (3, { ids := [101] })]) (.leaf))), ⟨(.cons (.p (.int .i64)) .nil), []⟩, [⟨(.cons (.nilp (.pointer none)) (.cons (.p (.int .i64)) .nil)), []⟩, ⟨(.cons (.own 0 0 0 0) (.cons (.p (.int .i64)) .nil)), [(0, false, (.vars (.cons (.p (.int .i64)) (.cons (.mp 1) (.cons (.p (.int .i64)) .nil))))), (1, false, (.map (.int .i64) (.int .i64)))]⟩], [0, 0]⟩
def clock_New_ft (fu : Nat) : FnT := ⟨10, ⟨(.cons (.p (.int .i64)) .nil), []⟩, [⟨(.cons (.nilp (.pointer none)) (.cons (.p (.int .i64)) .nil)), []⟩, ⟨(.cons (.own 0 0 0 0) (.cons (.p (.int .i64)) .nil)), [(0, false, (.vars (.cons (.p (.int .i64)) (.cons (.mp 1) (.cons (.p (.int .i64)) .nil))))), (1, false, (.map (.int .i64) (.int .i64)))]⟩], fun t => clock_New fu t⟩
theorem clock_New_eq (fu : Nat) : ∀ t, evF Go.Proofs.Try.prog [] fu Go.Proofs.Try.f10 clock_New_fa t = (clock_New_ft fu).spec t := fun t => by kernel_rfl
theorem clock_New_told (fu : Nat) : Told Go.Proofs.Try.prog (clock_New_ft fu) := told_of allT_nil mixed Go.Proofs.Try.func10 (by kernel_rfl) (by kernel_rfl) (clock_New_eq fu)

def clock_Clock_none_n0 (fu : Nat)  : Option (Bool) :=
  some true
def clock_Clock_none_n0_fa : FnA := ⟨.two (.leaf) (.leaf), ⟨(.cons (.nilp (.pointer none)) .nil), []⟩, [⟨(.cons (.p .bool) .nil), []⟩], [0]⟩
def clock_Clock_none_n0_ft (fu : Nat) : FnT := ⟨30, ⟨(.cons (.nilp (.pointer none)) .nil), []⟩, [⟨(.cons (.p .bool) .nil), []⟩], fun t => clock_Clock_none_n0 fu ⟩
theorem clock_Clock_none_n0_eq (fu : Nat) : ∀ t, evF Go.Proofs.Try.prog [] fu Go.Proofs.Try.f30 clock_Clock_none_n0_fa t = (clock_Clock_none_n0_ft fu).spec t := fun t => by kernel_rfl
theorem clock_Clock_none_n0_told (fu : Nat) : Told Go.Proofs.Try.prog (clock_Clock_none_n0_ft fu) := told_of allT_nil mixed Go.Proofs.Try.func30 (by kernel_rfl) (by kernel_rfl) (clock_Clock_none_n0_eq fu)

def clock_Clock_Set_n0 (fu : Nat) (id : Int) (in_ : Int) : Option (Int) :=
  (clock_Clock_none_n0 fu).bind fun r =>
  bif r then
    some 1
  else
    none
def clock_Clock_Set_n0_fa : FnA := ⟨.two (.leaf) (.two (.two (.reg [(1, {  })]) (.two (.leaf) (.leaf))) (.leaf)), ⟨(.cons (.nilp (.pointer none)) (.cons (.p (.int .i64)) (.cons (.p (.int .i64)) .nil))), []⟩, [⟨(.cons (.p (.int .i64)) .nil), []⟩], [0]⟩
def clock_Clock_Set_n0_ft (fu : Nat) : FnT := ⟨11, ⟨(.cons (.nilp (.pointer none)) (.cons (.p (.int .i64)) (.cons (.p (.int .i64)) .nil))), []⟩, [⟨(.cons (.p (.int .i64)) .nil), []⟩], fun t => clock_Clock_Set_n0 fu t.1 t.2⟩
theorem clock_Clock_Set_n0_eq (fu : Nat) : ∀ t, evF Go.Proofs.Try.prog [clock_Clock_none_n0_ft fu] fu Go.Proofs.Try.f11 clock_Clock_Set_n0_fa t = (clock_Clock_Set_n0_ft fu).spec t := fun t => by kernel_rfl
theorem clock_Clock_Set_n0_told (fu : Nat) : Told Go.Proofs.Try.prog (clock_Clock_Set_n0_ft fu) := told_of (allT_cons (clock_Clock_none_n0_told fu) allT_nil) mixed Go.Proofs.Try.func11 (by kernel_rfl) (by kernel_rfl) (clock_Clock_Set_n0_eq fu)

def clock_Clock_Unset_n0 (fu : Nat) (id : Int) : Option (Bool) :=
  (clock_Clock_none_n0 fu).bind fun r =>
  bif r then
    some false
  else
    none
def clock_Clock_Unset_n0_fa : FnA := ⟨.two (.leaf) (.two (.two (.reg [(1, {  })]) (.two (.leaf) (.leaf))) (.leaf)), ⟨(.cons (.nilp (.pointer none)) (.cons (.p (.int .i64)) .nil)), []⟩, [⟨(.cons (.p .bool) .nil), []⟩], [0]⟩
def clock_Clock_Unset_n0_ft (fu : Nat) : FnT := ⟨12, ⟨(.cons (.nilp (.pointer none)) (.cons (.p (.int .i64)) .nil)), []⟩, [⟨(.cons (.p .bool) .nil), []⟩], fun t => clock_Clock_Unset_n0 fu t⟩
theorem clock_Clock_Unset_n0_eq (fu : Nat) : ∀ t, evF Go.Proofs.Try.prog [clock_Clock_none_n0_ft fu] fu Go.Proofs.Try.f12 clock_Clock_Unset_n0_fa t = (clock_Clock_Unset_n0_ft fu).spec t := fun t => by kernel_rfl
theorem clock_Clock_Unset_n0_told (fu : Nat) : Told Go.Proofs.Try.prog (clock_Clock_Unset_n0_ft fu) := told_of (allT_cons (clock_Clock_none_n0_told fu) allT_nil) mixed Go.Proofs.Try.func12 (by kernel_rfl) (by kernel_rfl) (clock_Clock_Unset_n0_eq fu)

def clock_Clock_All_n0 (fu : Nat)  : Option (Unit) :=
  (clock_Clock_none_n0 fu).bind fun r =>
  bif r then
    some ()
  else
    none
def clock_Clock_All_n0_fa : FnA := ⟨.two (.leaf) (.two (.two (.reg [(1, {  })]) (.two (.leaf) (.leaf))) (.two (.leaf) (.two (.leaf) (.leaf)))), ⟨(.cons (.nilp (.pointer none)) .nil), []⟩, [⟨(.cons (.nilp (.slice none 0 0)) .nil), []⟩], [1]⟩
def clock_Clock_All_n0_ft (fu : Nat) : FnT := ⟨16, ⟨(.cons (.nilp (.pointer none)) .nil), []⟩, [⟨(.cons (.nilp (.slice none 0 0)) .nil), []⟩], fun t => clock_Clock_All_n0 fu ⟩
theorem clock_Clock_All_n0_eq (fu : Nat) : ∀ t, evF Go.Proofs.Try.prog [clock_Clock_none_n0_ft fu] fu Go.Proofs.Try.f16 clock_Clock_All_n0_fa t = (clock_Clock_All_n0_ft fu).spec t := fun t => by kernel_rfl
theorem clock_Clock_All_n0_told (fu : Nat) : Told Go.Proofs.Try.prog (clock_Clock_All_n0_ft fu) := told_of (allT_cons (clock_Clock_none_n0_told fu) allT_nil) mixed Go.Proofs.Try.func16 (by kernel_rfl) (by kernel_rfl) (clock_Clock_All_n0_eq fu)

def clock_Clock_Next_n0 (fu : Nat)  : Option ((Int × (Int × Bool))) :=
  (clock_Clock_All_n0 fu).bind fun r =>
  some (0, (0, false))
def clock_Clock_Next_n0_fa : FnA := ⟨.two (.reg [(0, { ids := [100] })]) (.two (.reg [(1, {  })]) (.two (.two (.leaf) (.two (.leaf) (.leaf))) (.leaf))), ⟨(.cons (.nilp (.pointer none)) .nil), []⟩, [⟨(.cons (.agg (.cons (.p (.int .i64)) (.cons (.p (.int .i64)) .nil))) (.cons (.p .bool) .nil)), []⟩], [0, 0]⟩
def clock_Clock_Next_n0_ft (fu : Nat) : FnT := ⟨19, ⟨(.cons (.nilp (.pointer none)) .nil), []⟩, [⟨(.cons (.agg (.cons (.p (.int .i64)) (.cons (.p (.int .i64)) .nil))) (.cons (.p .bool) .nil)), []⟩], fun t => clock_Clock_Next_n0 fu ⟩
theorem clock_Clock_Next_n0_eq (fu : Nat) : ∀ t, evF Go.Proofs.Try.prog [clock_Clock_All_n0_ft fu] fu Go.Proofs.Try.f19 clock_Clock_Next_n0_fa t = (clock_Clock_Next_n0_ft fu).spec t := fun t => by kernel_rfl
theorem clock_Clock_Next_n0_told (fu : Nat) : Told Go.Proofs.Try.prog (clock_Clock_Next_n0_ft fu) := told_of (allT_cons (clock_Clock_All_n0_told fu) allT_nil) mixed Go.Proofs.Try.func19 (by kernel_rfl) (by kernel_rfl) (clock_Clock_Next_n0_eq fu)

def clock_Clock_told_n0 (fu : Nat) (now : Int) : Option (Empty) :=
  none
def clock_Clock_told_n0_fa : FnA := ⟨.two (.leaf) (.leaf), ⟨(.cons (.nilp (.pointer none)) (.cons (.p (.int .i64)) .nil)), []⟩, [], [0]⟩
def clock_Clock_told_n0_ft (fu : Nat) : FnT := ⟨31, ⟨(.cons (.nilp (.pointer none)) (.cons (.p (.int .i64)) .nil)), []⟩, [], fun t => clock_Clock_told_n0 fu t⟩
theorem clock_Clock_told_n0_eq (fu : Nat) : ∀ t, evF Go.Proofs.Try.prog [] fu Go.Proofs.Try.f31 clock_Clock_told_n0_fa t = (clock_Clock_told_n0_ft fu).spec t := fun t => by kernel_rfl
theorem clock_Clock_told_n0_told (fu : Nat) : Told Go.Proofs.Try.prog (clock_Clock_told_n0_ft fu) := told_of allT_nil mixed Go.Proofs.Try.func31 (by kernel_rfl) (by kernel_rfl) (clock_Clock_told_n0_eq fu)

def clock_Clock_Skip_n0 (fu : Nat)  : Option (Unit) :=
  (clock_Clock_Next_n0 fu).bind fun r =>
  bif (!r.2.2) then
    some ()
  else
    (clock_Clock_told_n0 fu r.1).bind fun r1 =>
    Empty.elim r1
def clock_Clock_Skip_n0_fa : FnA := ⟨.two (.leaf) (.two (.reg [(1, {  }), (5, { ids := [100] })]) (.two (.two (.leaf) (.two (.leaf) (.leaf))) (.two (.reg [(3, { fn := 1 })]) (.leaf)))), ⟨(.cons (.nilp (.pointer none)) .nil), []⟩, [⟨(.cons (.nilp (.slice none 0 0)) .nil), []⟩], [0]⟩
def clock_Clock_Skip_n0_ft (fu : Nat) : FnT := ⟨14, ⟨(.cons (.nilp (.pointer none)) .nil), []⟩, [⟨(.cons (.nilp (.slice none 0 0)) .nil), []⟩], fun t => clock_Clock_Skip_n0 fu ⟩
theorem clock_Clock_Skip_n0_eq (fu : Nat) : ∀ t, evF Go.Proofs.Try.prog [clock_Clock_Next_n0_ft fu, clock_Clock_told_n0_ft fu] fu Go.Proofs.Try.f14 clock_Clock_Skip_n0_fa t = (clock_Clock_Skip_n0_ft fu).spec t := fun t => by kernel_rfl
theorem clock_Clock_Skip_n0_told (fu : Nat) : Told Go.Proofs.Try.prog (clock_Clock_Skip_n0_ft fu) := told_of (allT_cons (clock_Clock_Next_n0_told fu) (allT_cons (clock_Clock_told_n0_told fu) allT_nil)) mixed Go.Proofs.Try.func14 (by kernel_rfl) (by kernel_rfl) (clock_Clock_Skip_n0_eq fu)

def law08_ids_l0 (fu : Nat) (l : List ((Int × Int))) (want : List (Int)) (x : Int) : Option (Int ⊕ (Unit ⊕ Bool)) :=
  bif (decide (x < ((l.length : Nat) : Int))) then
    (idx? x l.length).bind fun q =>
    (l)[q]?.bind fun r =>
    (idx? x want.length).bind fun q1 =>
    (want)[q1]?.bind fun r1 =>
    bif (!(r.2 == r1)) then
      some (.inr (.inr false))
    else
      some (.inl (IntKind.wrap .i64 (x + 1)))
  else
    some (.inr (.inl ()))
def law08_ids_l0_it (fu : Nat) (l : List ((Int × Int))) (want : List (Int)) (tt : Int) : Option (Unit ⊕ Bool) :=
  iter fu (fun tt => law08_ids_l0 fu l want tt) tt
def law08_ids (fu : Nat) (l : List ((Int × Int))) (want : List (Int)) : Option (Bool) :=
  bif (!(((l.length : Nat) : Int) == ((want.length : Nat) : Int))) then
    some false
  else
    (law08_ids_l0_it fu l want 0).bind fun o =>
    match o with
    | .inl s =>
      some true
    | .inr o1 =>
      some o1
def law08_ids_fa : FnA := ⟨.two (.leaf) (.two (.two (.leaf) (.two (.leaf) (.leaf))) (.two (.two (.leaf) (.one (.loop ⟨[13], ⟨(.cons (.p (.int .i64)) .nil), []⟩⟩ true [(0, ⟨[], ⟨.nil, []⟩⟩)] (.two (.leaf) (.two (.leaf) (.two (.one (.two (.leaf) (.two (.leaf) (.two (.leaf) (.leaf))))) (.leaf))))))) (.leaf))), ⟨(.cons (.p (.sl (.pair (.int .i64) (.int .i64)))) (.cons (.p (.sl (.int .i64))) .nil)), []⟩, [⟨(.cons (.p .bool) .nil), []⟩], [0]⟩
def law08_ids_ft (fu : Nat) : FnT := ⟨13, ⟨(.cons (.p (.sl (.pair (.int .i64) (.int .i64)))) (.cons (.p (.sl (.int .i64))) .nil)), []⟩, [⟨(.cons (.p .bool) .nil), []⟩], fun t => law08_ids fu t.1 t.2⟩
theorem law08_ids_eq (fu : Nat) : ∀ t, evF Go.Proofs.Try.prog [] fu Go.Proofs.Try.f13 law08_ids_fa t = (law08_ids_ft fu).spec t := fun t => by kernel_rfl
theorem law08_ids_told (fu : Nat) : Told Go.Proofs.Try.prog (law08_ids_ft fu) := told_of allT_nil mixed Go.Proofs.Try.func13 (by kernel_rfl) (by kernel_rfl) (law08_ids_eq fu)

def clock_Clock_Now_n0 (fu : Nat)  : Option (Int) :=
  (clock_Clock_none_n0 fu).bind fun r =>
  bif r then
    some 0
  else
    none
def clock_Clock_Now_n0_fa : FnA := ⟨.two (.leaf) (.two (.two (.reg [(1, {  })]) (.two (.leaf) (.leaf))) (.leaf)), ⟨(.cons (.nilp (.pointer none)) .nil), []⟩, [⟨(.cons (.p (.int .i64)) .nil), []⟩], [0]⟩
def clock_Clock_Now_n0_ft (fu : Nat) : FnT := ⟨15, ⟨(.cons (.nilp (.pointer none)) .nil), []⟩, [⟨(.cons (.p (.int .i64)) .nil), []⟩], fun t => clock_Clock_Now_n0 fu ⟩
theorem clock_Clock_Now_n0_eq (fu : Nat) : ∀ t, evF Go.Proofs.Try.prog [clock_Clock_none_n0_ft fu] fu Go.Proofs.Try.f15 clock_Clock_Now_n0_fa t = (clock_Clock_Now_n0_ft fu).spec t := fun t => by kernel_rfl
theorem clock_Clock_Now_n0_told (fu : Nat) : Told Go.Proofs.Try.prog (clock_Clock_Now_n0_ft fu) := told_of (allT_cons (clock_Clock_none_n0_told fu) allT_nil) mixed Go.Proofs.Try.func15 (by kernel_rfl) (by kernel_rfl) (clock_Clock_Now_n0_eq fu)

def clock_Clock_Tick_n0 (fu : Nat)  : Option (Unit) :=
  (clock_Clock_none_n0 fu).bind fun r =>
  bif r then
    some ()
  else
    none
def clock_Clock_Tick_n0_fa : FnA := ⟨.two (.leaf) (.two (.two (.reg [(1, {  })]) (.two (.leaf) (.leaf))) (.leaf)), ⟨(.cons (.nilp (.pointer none)) .nil), []⟩, [⟨(.cons (.nilp (.slice none 0 0)) .nil), []⟩], [0]⟩
def clock_Clock_Tick_n0_ft (fu : Nat) : FnT := ⟨17, ⟨(.cons (.nilp (.pointer none)) .nil), []⟩, [⟨(.cons (.nilp (.slice none 0 0)) .nil), []⟩], fun t => clock_Clock_Tick_n0 fu ⟩
theorem clock_Clock_Tick_n0_eq (fu : Nat) : ∀ t, evF Go.Proofs.Try.prog [clock_Clock_none_n0_ft fu] fu Go.Proofs.Try.f17 clock_Clock_Tick_n0_fa t = (clock_Clock_Tick_n0_ft fu).spec t := fun t => by kernel_rfl
theorem clock_Clock_Tick_n0_told (fu : Nat) : Told Go.Proofs.Try.prog (clock_Clock_Tick_n0_ft fu) := told_of (allT_cons (clock_Clock_none_n0_told fu) allT_nil) mixed Go.Proofs.Try.func17 (by kernel_rfl) (by kernel_rfl) (clock_Clock_Tick_n0_eq fu)

def clock_Clock_Due_n0 (fu : Nat) (id : Int) : Option ((Int × Bool)) :=
  (clock_Clock_none_n0 fu).bind fun r =>
  bif r then
    some (0, false)
  else
    none
def clock_Clock_Due_n0_fa : FnA := ⟨.two (.leaf) (.two (.two (.reg [(1, {  })]) (.two (.leaf) (.leaf))) (.leaf)), ⟨(.cons (.nilp (.pointer none)) (.cons (.p (.int .i64)) .nil)), []⟩, [⟨(.cons (.p (.int .i64)) (.cons (.p .bool) .nil)), []⟩], [0, 0]⟩
def clock_Clock_Due_n0_ft (fu : Nat) : FnT := ⟨18, ⟨(.cons (.nilp (.pointer none)) (.cons (.p (.int .i64)) .nil)), []⟩, [⟨(.cons (.p (.int .i64)) (.cons (.p .bool) .nil)), []⟩], fun t => clock_Clock_Due_n0 fu t⟩
theorem clock_Clock_Due_n0_eq (fu : Nat) : ∀ t, evF Go.Proofs.Try.prog [clock_Clock_none_n0_ft fu] fu Go.Proofs.Try.f18 clock_Clock_Due_n0_fa t = (clock_Clock_Due_n0_ft fu).spec t := fun t => by kernel_rfl
theorem clock_Clock_Due_n0_told (fu : Nat) : Told Go.Proofs.Try.prog (clock_Clock_Due_n0_ft fu) := told_of (allT_cons (clock_Clock_none_n0_told fu) allT_nil) mixed Go.Proofs.Try.func18 (by kernel_rfl) (by kernel_rfl) (clock_Clock_Due_n0_eq fu)

def clock_Clock_none__cm (fu : Nat) (h : Int) (h1 : Int) (h2 : (List (((Int × Int) × Nat)) × Nat)) : Option ((Bool × (Int × (Int × (List (((Int × Int) × Nat)) × Nat))))) :=
  some (false, (h, (h1, h2)))
def clock_Clock_none__cm_fa : FnA := ⟨.two (.leaf) (.leaf), ⟨(.cons (.own 0 0 0 0) .nil), [(0, false, (.vars (.cons (.p (.int .i64)) (.cons (.mp 1) (.cons (.p (.int .i64)) .nil))))), (1, false, (.map (.int .i64) (.int .i64)))]⟩, [⟨(.cons (.p .bool) .nil), [(0, false, (.vars (.cons (.p (.int .i64)) (.cons (.mp 1) (.cons (.p (.int .i64)) .nil))))), (1, false, (.map (.int .i64) (.int .i64)))]⟩], [0]⟩
def clock_Clock_none__cm_ft (fu : Nat) : FnT := ⟨30, ⟨(.cons (.own 0 0 0 0) .nil), [(0, false, (.vars (.cons (.p (.int .i64)) (.cons (.mp 1) (.cons (.p (.int .i64)) .nil))))), (1, false, (.map (.int .i64) (.int .i64)))]⟩, [⟨(.cons (.p .bool) .nil), [(0, false, (.vars (.cons (.p (.int .i64)) (.cons (.mp 1) (.cons (.p (.int .i64)) .nil))))), (1, false, (.map (.int .i64) (.int .i64)))]⟩], fun t => clock_Clock_none__cm fu t.1 t.2.1 t.2.2⟩
theorem clock_Clock_none__cm_eq (fu : Nat) : ∀ t, evF Go.Proofs.Try.prog [] fu Go.Proofs.Try.f30 clock_Clock_none__cm_fa t = (clock_Clock_none__cm_ft fu).spec t := fun t => by kernel_rfl
theorem clock_Clock_none__cm_told (fu : Nat) : Told Go.Proofs.Try.prog (clock_Clock_none__cm_ft fu) := told_of allT_nil mixed Go.Proofs.Try.func30 (by kernel_rfl) (by kernel_rfl) (clock_Clock_none__cm_eq fu)

def clock_Clock_Set__cm (fu : Nat) (id : Int) (in_ : Int) (h : Int) (h1 : Int) (h2 : (List (((Int × Int) × Nat)) × Nat)) : Option ((Int × (Int × (Int × (List (((Int × Int) × Nat)) × Nat))))) :=
  (clock_Clock_none__cm fu h h1 h2).bind fun r =>
  bif r.1 then
    some (1, (r.2.1, (r.2.2.1, r.2.2.2)))
  else
    Option.bind (α := ((Bool × (Int × (Int × (List (((Int × Int) × Nat)) × Nat)))))) (
      bif (decide (in_ < 1)) then
        some (true, (r.2.1, (r.2.2.1, r.2.2.2)))
      else
        some ((decide (in_ > (IntKind.wrap .i64 (1152921504606846976 - r.2.1)))), (r.2.1, (r.2.2.1, r.2.2.2)))) fun o =>
    bif o.1 then
      some (2, (o.2.1, (o.2.2.1, o.2.2.2)))
    else
      Option.bind (α := ((Bool × (Int × (Int × (List (((Int × Int) × Nat)) × Nat)))))) (
        bif (!(Option.isSome (mget (k := (.int .i64)) (v := (.int .i64)) r.2.2.2 id))) then
          some ((decide (((o.2.2.2.1.length : Nat) : Int) ≥ o.2.2.1)), (o.2.1, (o.2.2.1, o.2.2.2)))
        else
          some (false, (o.2.1, (o.2.2.1, o.2.2.2)))) fun o1 =>
      bif o1.1 then
        some (71, (o1.2.1, (o1.2.2.1, o1.2.2.2)))
      else
        some (0, (o1.2.1, (o1.2.2.1, (mput (k := (.int .i64)) (v := (.int .i64)) o1.2.2.2 id (IntKind.wrap .i64 (o1.2.1 + in_))))))
def clock_Clock_Set__cm_fa : FnA := ⟨.two (.leaf) (.two (.two (.reg [(1, { sh := [0, 1] })]) (.two (.leaf) (.leaf))) (.two (.leaf) (.two (.one (.two (.join ⟨[0, 20], ⟨(.cons (.own 0 0 0 0) (.cons (.p .bool) .nil)), [(0, false, (.vars (.cons (.p (.int .i64)) (.cons (.mp 1) (.cons (.p (.int .i64)) .nil))))), (1, false, (.map (.int .i64) (.int .i64)))]⟩⟩ false [] (.leaf)) (.two (.leaf) (.two (.join ⟨[0, 32], ⟨(.cons (.own 0 0 0 0) (.cons (.p .bool) .nil)), [(0, false, (.vars (.cons (.p (.int .i64)) (.cons (.mp 1) (.cons (.p (.int .i64)) .nil))))), (1, false, (.map (.int .i64) (.int .i64)))]⟩⟩ false [] (.leaf)) (.two (.leaf) (.leaf)))))) (.two (.leaf) (.leaf))))), ⟨(.cons (.own 0 0 0 0) (.cons (.p (.int .i64)) (.cons (.p (.int .i64)) .nil))), [(0, false, (.vars (.cons (.p (.int .i64)) (.cons (.mp 1) (.cons (.p (.int .i64)) .nil))))), (1, false, (.map (.int .i64) (.int .i64)))]⟩, [⟨(.cons (.p (.int .i64)) .nil), [(0, false, (.vars (.cons (.p (.int .i64)) (.cons (.mp 1) (.cons (.p (.int .i64)) .nil))))), (1, false, (.map (.int .i64) (.int .i64)))]⟩], [0]⟩
def clock_Clock_Set__cm_ft (fu : Nat) : FnT := ⟨11, ⟨(.cons (.own 0 0 0 0) (.cons (.p (.int .i64)) (.cons (.p (.int .i64)) .nil))), [(0, false, (.vars (.cons (.p (.int .i64)) (.cons (.mp 1) (.cons (.p (.int .i64)) .nil))))), (1, false, (.map (.int .i64) (.int .i64)))]⟩, [⟨(.cons (.p (.int .i64)) .nil), [(0, false, (.vars (.cons (.p (.int .i64)) (.cons (.mp 1) (.cons (.p (.int .i64)) .nil))))), (1, false, (.map (.int .i64) (.int .i64)))]⟩], fun t => clock_Clock_Set__cm fu t.1 t.2.1 t.2.2.1 t.2.2.2.1 t.2.2.2.2⟩
theorem clock_Clock_Set__cm_eq (fu : Nat) : ∀ t, evF Go.Proofs.Try.prog [clock_Clock_none__cm_ft fu] fu Go.Proofs.Try.f11 clock_Clock_Set__cm_fa t = (clock_Clock_Set__cm_ft fu).spec t := fun t => by kernel_rfl
theorem clock_Clock_Set__cm_told (fu : Nat) : Told Go.Proofs.Try.prog (clock_Clock_Set__cm_ft fu) := told_of (allT_cons (clock_Clock_none__cm_told fu) allT_nil) mixed Go.Proofs.Try.func11 (by kernel_rfl) (by kernel_rfl) (clock_Clock_Set__cm_eq fu)

def cmp_isNaN_int64 (fu : Nat) (x : Int) : Option (Bool) :=
  some (!(x == x))
def cmp_isNaN_int64_fa : FnA := ⟨.two (.leaf) (.leaf), ⟨(.cons (.p (.int .i64)) .nil), []⟩, [⟨(.cons (.p .bool) .nil), []⟩], [0]⟩
def cmp_isNaN_int64_ft (fu : Nat) : FnT := ⟨41, ⟨(.cons (.p (.int .i64)) .nil), []⟩, [⟨(.cons (.p .bool) .nil), []⟩], fun t => cmp_isNaN_int64 fu t⟩
theorem cmp_isNaN_int64_eq (fu : Nat) : ∀ t, evF Go.Proofs.Try.prog [] fu Go.Proofs.Try.f41 cmp_isNaN_int64_fa t = (cmp_isNaN_int64_ft fu).spec t := fun t => by kernel_rfl
theorem cmp_isNaN_int64_told (fu : Nat) : Told Go.Proofs.Try.prog (cmp_isNaN_int64_ft fu) := told_of allT_nil mixed Go.Proofs.Try.func41 (by kernel_rfl) (by kernel_rfl) (cmp_isNaN_int64_eq fu)

def cmp_Compare_int64 (fu : Nat) (x : Int) (y : Int) : Option (Int) :=
  (cmp_isNaN_int64 fu x).bind fun r =>
  (cmp_isNaN_int64 fu y).bind fun r1 =>
  bif r then
    bif r1 then
      some 0
    else
      some (-1)
  else
    bif r1 then
      some 1
    else
      bif (decide (x < y)) then
        some (-1)
      else
        bif (decide (x > y)) then
          some 1
        else
          some 0
def cmp_Compare_int64_fa : FnA := ⟨.two (.leaf) (.two (.reg [(1, {  })]) (.two (.reg [(1, {  })]) (.two (.two (.leaf) (.two (.two (.two (.leaf) (.two (.leaf) (.leaf))) (.leaf)) (.leaf))) (.two (.two (.leaf) (.two (.leaf) (.leaf))) (.two (.two (.leaf) (.two (.leaf) (.leaf))) (.two (.two (.leaf) (.two (.leaf) (.leaf))) (.leaf))))))), ⟨(.cons (.p (.int .i64)) (.cons (.p (.int .i64)) .nil)), []⟩, [⟨(.cons (.p (.int .i64)) .nil), []⟩], [0]⟩
def cmp_Compare_int64_ft (fu : Nat) : FnT := ⟨35, ⟨(.cons (.p (.int .i64)) (.cons (.p (.int .i64)) .nil)), []⟩, [⟨(.cons (.p (.int .i64)) .nil), []⟩], fun t => cmp_Compare_int64 fu t.1 t.2⟩
theorem cmp_Compare_int64_eq (fu : Nat) : ∀ t, evF Go.Proofs.Try.prog [cmp_isNaN_int64_ft fu] fu Go.Proofs.Try.f35 cmp_Compare_int64_fa t = (cmp_Compare_int64_ft fu).spec t := fun t => by kernel_rfl
theorem cmp_Compare_int64_told (fu : Nat) : Told Go.Proofs.Try.prog (cmp_Compare_int64_ft fu) := told_of (allT_cons (cmp_isNaN_int64_told fu) allT_nil) mixed Go.Proofs.Try.func35 (by kernel_rfl) (by kernel_rfl) (cmp_Compare_int64_eq fu)

def cmp_isNaN_int (fu : Nat) (x : Int) : Option (Bool) :=
  some (!(x == x))
def cmp_isNaN_int_fa : FnA := ⟨.two (.leaf) (.leaf), ⟨(.cons (.p (.int .i64)) .nil), []⟩, [⟨(.cons (.p .bool) .nil), []⟩], [0]⟩
def cmp_isNaN_int_ft (fu : Nat) : FnT := ⟨42, ⟨(.cons (.p (.int .i64)) .nil), []⟩, [⟨(.cons (.p .bool) .nil), []⟩], fun t => cmp_isNaN_int fu t⟩
theorem cmp_isNaN_int_eq (fu : Nat) : ∀ t, evF Go.Proofs.Try.prog [] fu Go.Proofs.Try.f42 cmp_isNaN_int_fa t = (cmp_isNaN_int_ft fu).spec t := fun t => by kernel_rfl
theorem cmp_isNaN_int_told (fu : Nat) : Told Go.Proofs.Try.prog (cmp_isNaN_int_ft fu) := told_of allT_nil mixed Go.Proofs.Try.func42 (by kernel_rfl) (by kernel_rfl) (cmp_isNaN_int_eq fu)

def cmp_Compare_int (fu : Nat) (x : Int) (y : Int) : Option (Int) :=
  (cmp_isNaN_int fu x).bind fun r =>
  (cmp_isNaN_int fu y).bind fun r1 =>
  bif r then
    bif r1 then
      some 0
    else
      some (-1)
  else
    bif r1 then
      some 1
    else
      bif (decide (x < y)) then
        some (-1)
      else
        bif (decide (x > y)) then
          some 1
        else
          some 0
def cmp_Compare_int_fa : FnA := ⟨.two (.leaf) (.two (.reg [(1, {  })]) (.two (.reg [(1, {  })]) (.two (.two (.leaf) (.two (.two (.two (.leaf) (.two (.leaf) (.leaf))) (.leaf)) (.leaf))) (.two (.two (.leaf) (.two (.leaf) (.leaf))) (.two (.two (.leaf) (.two (.leaf) (.leaf))) (.two (.two (.leaf) (.two (.leaf) (.leaf))) (.leaf))))))), ⟨(.cons (.p (.int .i64)) (.cons (.p (.int .i64)) .nil)), []⟩, [⟨(.cons (.p (.int .i64)) .nil), []⟩], [0]⟩
def cmp_Compare_int_ft (fu : Nat) : FnT := ⟨36, ⟨(.cons (.p (.int .i64)) (.cons (.p (.int .i64)) .nil)), []⟩, [⟨(.cons (.p (.int .i64)) .nil), []⟩], fun t => cmp_Compare_int fu t.1 t.2⟩
theorem cmp_Compare_int_eq (fu : Nat) : ∀ t, evF Go.Proofs.Try.prog [cmp_isNaN_int_ft fu] fu Go.Proofs.Try.f36 cmp_Compare_int_fa t = (cmp_Compare_int_ft fu).spec t := fun t => by kernel_rfl
theorem cmp_Compare_int_told (fu : Nat) : Told Go.Proofs.Try.prog (cmp_Compare_int_ft fu) := told_of (allT_cons (cmp_isNaN_int_told fu) allT_nil) mixed Go.Proofs.Try.func36 (by kernel_rfl) (by kernel_rfl) (cmp_Compare_int_eq fu)

def cmp_Or_int_l0 (fu : Nat) (vals : List (Int)) (x : Int) : Option (Int ⊕ (Unit ⊕ Int)) :=
  bif (decide (x < ((vals.length : Nat) : Int))) then
    (idx? x vals.length).bind fun q =>
    (vals)[q]?.bind fun r =>
    bif (!(r == 0)) then
      some (.inr (.inr r))
    else
      some (.inl (IntKind.wrap .i64 (x + 1)))
  else
    some (.inr (.inl ()))
def cmp_Or_int_l0_it (fu : Nat) (vals : List (Int)) (tt : Int) : Option (Unit ⊕ Int) :=
  iter fu (fun tt => cmp_Or_int_l0 fu vals tt) tt
def cmp_Or_int (fu : Nat) (vals : List (Int)) : Option (Int) :=
  (cmp_Or_int_l0_it fu vals 0).bind fun o =>
  match o with
  | .inl s =>
    some 0
  | .inr o1 =>
    some o1
def cmp_Or_int_fa : FnA := ⟨.two (.leaf) (.two (.leaf) (.two (.two (.leaf) (.one (.loop ⟨[8], ⟨(.cons (.p (.int .i64)) .nil), []⟩⟩ true [(0, ⟨[], ⟨.nil, []⟩⟩)] (.two (.leaf) (.two (.leaf) (.two (.one (.two (.leaf) (.two (.leaf) (.two (.leaf) (.leaf))))) (.leaf))))))) (.leaf))), ⟨(.cons (.p (.sl (.int .i64))) .nil), []⟩, [⟨(.cons (.p (.int .i64)) .nil), []⟩], [0]⟩
def cmp_Or_int_ft (fu : Nat) : FnT := ⟨34, ⟨(.cons (.p (.sl (.int .i64))) .nil), []⟩, [⟨(.cons (.p (.int .i64)) .nil), []⟩], fun t => cmp_Or_int fu t⟩
theorem cmp_Or_int_eq (fu : Nat) : ∀ t, evF Go.Proofs.Try.prog [] fu Go.Proofs.Try.f34 cmp_Or_int_fa t = (cmp_Or_int_ft fu).spec t := fun t => by kernel_rfl
theorem cmp_Or_int_told (fu : Nat) : Told Go.Proofs.Try.prog (cmp_Or_int_ft fu) := told_of allT_nil mixed Go.Proofs.Try.func34 (by kernel_rfl) (by kernel_rfl) (cmp_Or_int_eq fu)

def clock_Clock_All_1 (fu : Nat) (a : (Int × Int)) (b : (Int × Int)) : Option (Int) :=
  (cmp_Compare_int64 fu a.1 b.1).bind fun r =>
  (cmp_Compare_int fu a.2 b.2).bind fun r1 =>
  (cmp_Or_int fu [r, r1]).bind fun r2 =>
  some r2
def clock_Clock_All_1_fa : FnA := ⟨.two (.reg [(0, { ids := [100] }), (1, { ids := [101] })]) (.two (.reg [(4, {  }), (9, { fn := 1 }), (10, { ids := [102] }), (11, { md := [2], fn := 2 })]) (.leaf)), ⟨(.cons (.p (.pair (.int .i64) (.int .i64))) (.cons (.p (.pair (.int .i64) (.int .i64))) .nil)), []⟩, [⟨(.cons (.p (.int .i64)) .nil), []⟩], [0]⟩
def clock_Clock_All_1_ft (fu : Nat) : FnT := ⟨33, ⟨(.cons (.p (.pair (.int .i64) (.int .i64))) (.cons (.p (.pair (.int .i64) (.int .i64))) .nil)), []⟩, [⟨(.cons (.p (.int .i64)) .nil), []⟩], fun t => clock_Clock_All_1 fu t.1 t.2⟩
theorem clock_Clock_All_1_eq (fu : Nat) : ∀ t, evF Go.Proofs.Try.prog [cmp_Compare_int64_ft fu, cmp_Compare_int_ft fu, cmp_Or_int_ft fu] fu Go.Proofs.Try.f33 clock_Clock_All_1_fa t = (clock_Clock_All_1_ft fu).spec t := fun t => by kernel_rfl
theorem clock_Clock_All_1_told (fu : Nat) : Told Go.Proofs.Try.prog (clock_Clock_All_1_ft fu) := told_of (allT_cons (cmp_Compare_int64_told fu) (allT_cons (cmp_Compare_int_told fu) (allT_cons (cmp_Or_int_told fu) allT_nil))) mixed Go.Proofs.Try.func33 (by kernel_rfl) (by kernel_rfl) (clock_Clock_All_1_eq fu)

def slices_SortFunc__api_Timer_api_Timer_o0f11 (fu : Nat) (l : List (Int × Int)) : Option (List (Int × Int)) :=
  need (Nat.ble 4 fu) <| need (Nat.blt l.length 4611686018427387904) (some (sortL (Go.Proofs.ltOf fun x y => ((clock_Clock_All_1 fu x y : Option Int).getD 0)) l))
def slices_SortFunc__api_Timer_api_Timer_o0f11_ft (fu : Nat) : FnT := ⟨32, ⟨(.cons (.slf 2 0) (.cons (.fn 33 .nil .nil) .nil)), [(0, false, (.rows 36 (.pair (.int .i64) (.int .i64))))]⟩, [⟨.nil, [(0, false, (.rows 36 (.pair (.int .i64) (.int .i64))))]⟩], fun t => slices_SortFunc__api_Timer_api_Timer_o0f11 fu t⟩
/-- The comparison of timers: by their times, then by their numbers. -/
def cfT (x y : Int × Int) : Int := if x.1 < y.1 then -1 else if x.1 > y.1 then 1 else if x.2 < y.2 then -1 else if x.2 > y.2 then 1 else 0
theorem cmpC (fu : Nat) (x y : Int) : cmp_Compare_int64 fu x y = some (if x < y then -1 else if x > y then 1 else 0) := by
  unfold cmp_Compare_int64 cmp_isNaN_int64
  by_cases h1 : x < y
  · simp [h1]
  · by_cases h2 : x > y <;> simp [h1, h2]
theorem cmpC' (fu : Nat) (x y : Int) : cmp_Compare_int fu x y = some (if x < y then -1 else if x > y then 1 else 0) := by
  unfold cmp_Compare_int cmp_isNaN_int
  by_cases h1 : x < y
  · simp [h1]
  · by_cases h2 : x > y <;> simp [h1, h2]
theorem cmpOr (n : Nat) (a b : Int) : cmp_Or_int (n + 4) [a, b] = some (if a ≠ 0 then a else b) := by
  unfold cmp_Or_int cmp_Or_int_l0_it
  by_cases h1 : a = 0
  · by_cases h2 : b = 0
    · subst h1; subst h2
      simp [iter, cmp_Or_int_l0, Option.ob, idx?, IntKind.wrap, IntKind.bits, IntKind.signed]
    · have e2 : (b == 0) = false := by simpa using h2
      simp [iter, cmp_Or_int_l0, Option.ob, idx?, h1, e2, IntKind.wrap, IntKind.bits, IntKind.signed]
  · have e1 : (a == 0) = false := by simpa using h1
    simp [iter, cmp_Or_int_l0, Option.ob, idx?, h1, e1]
theorem closeT (n : Nat) (x y : Int × Int) : clock_Clock_All_1 (n + 4) x y = some (cfT x y) := by
  unfold clock_Clock_All_1 cfT
  rw [cmpC, Option.bind_some, cmpC', Option.bind_some, cmpOr, Option.bind_some]
  congr 1
  by_cases h1 : x.1 < y.1
  · simp [h1]
  · by_cases h2 : x.1 > y.1 <;> simp [h1, h2]
theorem closeD (n : Nat) (x y : Int × Int) : clock_Clock_All_1 (n + 4) x y = some ((clock_Clock_All_1 (n + 4) x y : Option Int).getD 0) := by rw [closeT]; rfl
theorem ltT (n : Nat) : (Go.Proofs.ltOf fun x y => ((clock_Clock_All_1 (n + 4) x y : Option Int).getD 0)) = fun x y : Int × Int => decide (x.1 < y.1 ∨ (x.1 = y.1 ∧ x.2 < y.2)) := by
  funext x y
  show decide (((clock_Clock_All_1 (n + 4) x y : Option Int).getD 0) < 0) = _
  rw [closeT, Option.getD_some]
  unfold cfT
  by_cases h1 : x.1 < y.1
  · simp [h1]
  · by_cases h2 : x.1 > y.1
    · have : ¬ (x.1 = y.1) := by omega
      simp [h1, h2, this]
    · have h3 : x.1 = y.1 := by omega
      by_cases h4 : x.2 < y.2
      · simp [h3, h4]
      · by_cases h5 : x.2 > y.2 <;> simp [h3, h4, h5]
theorem swoT : Go.Sort.SWO fun x y : Int × Int => decide (x.1 < y.1 ∨ (x.1 = y.1 ∧ x.2 < y.2)) where
  irrefl x := by simp
  trans x y z h1 h2 := by simp only [decide_eq_true_eq] at *; omega
  ntrans x y z h1 h2 := by simp only [decide_eq_false_iff_not] at *; omega
theorem totT (x y : Int × Int) (h1 : (fun x y : Int × Int => decide (x.1 < y.1 ∨ (x.1 = y.1 ∧ x.2 < y.2))) x y = false) (h2 : (fun x y : Int × Int => decide (x.1 < y.1 ∨ (x.1 = y.1 ∧ x.2 < y.2))) y x = false) : x = y := by
  simp only [decide_eq_false_iff_not] at h1 h2
  exact Prod.ext (by omega) (by omega)
theorem slices_SortFunc__api_Timer_api_Timer_o0f11_told (fu : Nat) : Told Go.Proofs.Try.prog (slices_SortFunc__api_Timer_api_Timer_o0f11_ft fu) := by
  by_cases hf : 4 ≤ fu
  · obtain ⟨n, rfl⟩ : ∃ n, fu = n + 4 := ⟨fu - 4, by omega⟩
    have h := told_sort (e := 36) Go.Proofs.Try.sort32 Go.Proofs.Try.isAgg36 Go.Proofs.Try.sizeOf36 (by rw [ltT]; exact swoT) (clock_Clock_All_1_told (n + 4)) (cf := fun x y => ((clock_Clock_All_1 (n + 4) x y : Option Int).getD 0)) (fun x y => closeD n x y)
      ⟨_, _, Go.Proofs.Try.func32, rfl, by kernel_rfl⟩ (Go.Proofs.enters_of Go.Proofs.Try.func33 (by kernel_rfl) rfl)
    have e : slices_SortFunc__api_Timer_api_Timer_o0f11_ft (n + 4) = ⟨32, ⟨.cons (.slf 2 0) (.cons (.fn 33 .nil .nil) .nil), [(0, false, .rows 36 tyII)]⟩, [⟨.nil, [(0, false, .rows 36 tyII)]⟩], fun l => need (Nat.blt (List.length (α := Int × Int) l) 4611686018427387904) (some (sortL (Go.Proofs.ltOf fun x y => ((clock_Clock_All_1 (n + 4) x y : Option Int).getD 0)) l))⟩ := by
      unfold slices_SortFunc__api_Timer_api_Timer_o0f11_ft slices_SortFunc__api_Timer_api_Timer_o0f11
      have hb : Nat.ble 4 (n + 4) = true := by rw [Nat.ble_eq]; omega
      simp only [hb]
      rfl
    rw [e]
    exact h
  · refine ⟨⟨_, _, Go.Proofs.Try.func32, rfl, by kernel_rfl⟩, fun t r hr => ?_⟩
    exfalso
    have hr : slices_SortFunc__api_Timer_api_Timer_o0f11 fu t = some r := hr
    unfold slices_SortFunc__api_Timer_api_Timer_o0f11 at hr
    have := (need_iff.1 hr).1
    rw [Nat.ble_eq] at this
    exact hf this

def clock_Clock_All__cm_l0 (fu : Nat) (h3 : Int) (h4 : Int) (h5 : (List (((Int × Int) × Nat)) × Nat)) (h6 : List ((Int × Int))) (en : ((Int × Int) × Nat)) : Option ((Int × (Int × ((List (((Int × Int) × Nat)) × Nat) × List ((Int × Int))))) ⊕ (Empty)) :=
  need ((Nat.ble ((h6.length + 1) * 16) room) && (Nat.ble (h6.length + 1) room)) <|
  some (.inl (h3, (h4, (h5, (h6 ++ [(en.1.2, en.1.1)])))))
def clock_Clock_All__cm_l0_hd (r : (Bool × (Int × (Int × (List (((Int × Int) × Nat)) × Nat))))) (h3 : Int) (h4 : Int) (h5 : (List (((Int × Int) × Nat)) × Nat)) (h6 : List ((Int × Int))) : Option (List (((Int × Int) × Nat))) :=
  (need (Nat.beq h5.2 r.2.2.2.2) (some h5.1))
def clock_Clock_All__cm (fu : Nat) (h : Int) (h1 : Int) (h2 : (List (((Int × Int) × Nat)) × Nat)) : Option ((List ((Int × Int)) × (Int × (Int × (List (((Int × Int) × Nat)) × Nat))))) :=
  (clock_Clock_none__cm fu h h1 h2).bind fun r =>
  bif r.1 then
    some ([], (r.2.1, (r.2.2.1, r.2.2.2)))
  else
    mAll (fun (tt : (Int × (Int × ((List (((Int × Int) × Nat)) × Nat) × List ((Int × Int)))))) => clock_Clock_All__cm_l0_hd r tt.1 tt.2.1 tt.2.2.1 tt.2.2.2) (fun (tt : (Int × (Int × ((List (((Int × Int) × Nat)) × Nat) × List ((Int × Int)))))) (ee : ((Int × Int) × Nat)) => clock_Clock_All__cm_l0 fu tt.1 tt.2.1 tt.2.2.1 tt.2.2.2 ee) (r.2.1, (r.2.2.1, (r.2.2.2, []))) fun o =>
    match o with
    | .inl s =>
      (slices_SortFunc__api_Timer_api_Timer_o0f11 fu s.2.2.2).bind fun r1 =>
      some (r1, (s.1, (s.2.1, s.2.2.1)))
    | .inr o1 =>
      Empty.elim o1
def clock_Clock_All__cm_fa : FnA := ⟨.two (.leaf) (.two (.two (.reg [(1, { sh := [0, 1] })]) (.two (.leaf) (.leaf))) (.two (.leaf) (.two (.pre (.ownNil 3 36 100) (.mr [] [] (.int .i64) (.int .i64) 1 ⟨[0, 3, 11], ⟨(.cons (.own 0 0 0 0) (.cons (.slf 2 100) (.cons (.mp 1) .nil))), [(0, false, (.vars (.cons (.p (.int .i64)) (.cons (.mp 1) (.cons (.p (.int .i64)) .nil))))), (1, false, (.map (.int .i64) (.int .i64))), (100, false, (.rows 36 (.pair (.int .i64) (.int .i64))))]⟩⟩ false [] (.reg [(4, { ids := [101] }), (5, { ids := [102] })]))) (.two (.reg [(1, { sh := [100], fn := 1 })]) (.leaf))))), ⟨(.cons (.own 0 0 0 0) .nil), [(0, false, (.vars (.cons (.p (.int .i64)) (.cons (.mp 1) (.cons (.p (.int .i64)) .nil))))), (1, false, (.map (.int .i64) (.int .i64)))]⟩, [⟨(.cons (.p (.sl (.pair (.int .i64) (.int .i64)))) .nil), [(0, false, (.vars (.cons (.p (.int .i64)) (.cons (.mp 1) (.cons (.p (.int .i64)) .nil))))), (1, false, (.map (.int .i64) (.int .i64)))]⟩], [1]⟩
def clock_Clock_All__cm_ft (fu : Nat) : FnT := ⟨16, ⟨(.cons (.own 0 0 0 0) .nil), [(0, false, (.vars (.cons (.p (.int .i64)) (.cons (.mp 1) (.cons (.p (.int .i64)) .nil))))), (1, false, (.map (.int .i64) (.int .i64)))]⟩, [⟨(.cons (.p (.sl (.pair (.int .i64) (.int .i64)))) .nil), [(0, false, (.vars (.cons (.p (.int .i64)) (.cons (.mp 1) (.cons (.p (.int .i64)) .nil))))), (1, false, (.map (.int .i64) (.int .i64)))]⟩], fun t => clock_Clock_All__cm fu t.1 t.2.1 t.2.2⟩
theorem clock_Clock_All__cm_eq (fu : Nat) : ∀ t, evF Go.Proofs.Try.prog [clock_Clock_none__cm_ft fu, slices_SortFunc__api_Timer_api_Timer_o0f11_ft fu] fu Go.Proofs.Try.f16 clock_Clock_All__cm_fa t = (clock_Clock_All__cm_ft fu).spec t := fun t => by kernel_rfl
theorem clock_Clock_All__cm_told (fu : Nat) : Told Go.Proofs.Try.prog (clock_Clock_All__cm_ft fu) := told_of (allT_cons (clock_Clock_none__cm_told fu) (allT_cons (slices_SortFunc__api_Timer_api_Timer_o0f11_told fu) allT_nil)) mixed Go.Proofs.Try.func16 (by kernel_rfl) (by kernel_rfl) (clock_Clock_All__cm_eq fu)

def clock_Clock_Next__cm (fu : Nat) (h : Int) (h1 : Int) (h2 : (List (((Int × Int) × Nat)) × Nat)) : Option ((Int × (Int × (Bool × (Int × (Int × (List (((Int × Int) × Nat)) × Nat))))))) :=
  (clock_Clock_All__cm fu h h1 h2).bind fun r =>
  bif (((r.1.length : Nat) : Int) == 0) then
    some (0, (0, (false, (r.2.1, (r.2.2.1, r.2.2.2)))))
  else
    (idx? 0 r.1.length).bind fun q =>
    (r.1)[q]?.bind fun r1 =>
    some (r1.1, (r1.2, (true, (r.2.1, (r.2.2.1, r.2.2.2)))))
def clock_Clock_Next__cm_fa : FnA := ⟨.two (.reg [(0, { ids := [100] })]) (.two (.reg [(1, { sh := [0, 1] })]) (.two (.two (.leaf) (.two (.leaf) (.leaf))) (.leaf))), ⟨(.cons (.own 0 0 0 0) .nil), [(0, false, (.vars (.cons (.p (.int .i64)) (.cons (.mp 1) (.cons (.p (.int .i64)) .nil))))), (1, false, (.map (.int .i64) (.int .i64)))]⟩, [⟨(.cons (.agg (.cons (.p (.int .i64)) (.cons (.p (.int .i64)) .nil))) (.cons (.p .bool) .nil)), [(0, false, (.vars (.cons (.p (.int .i64)) (.cons (.mp 1) (.cons (.p (.int .i64)) .nil))))), (1, false, (.map (.int .i64) (.int .i64)))]⟩], [0, 0]⟩
def clock_Clock_Next__cm_ft (fu : Nat) : FnT := ⟨19, ⟨(.cons (.own 0 0 0 0) .nil), [(0, false, (.vars (.cons (.p (.int .i64)) (.cons (.mp 1) (.cons (.p (.int .i64)) .nil))))), (1, false, (.map (.int .i64) (.int .i64)))]⟩, [⟨(.cons (.agg (.cons (.p (.int .i64)) (.cons (.p (.int .i64)) .nil))) (.cons (.p .bool) .nil)), [(0, false, (.vars (.cons (.p (.int .i64)) (.cons (.mp 1) (.cons (.p (.int .i64)) .nil))))), (1, false, (.map (.int .i64) (.int .i64)))]⟩], fun t => clock_Clock_Next__cm fu t.1 t.2.1 t.2.2⟩
theorem clock_Clock_Next__cm_eq (fu : Nat) : ∀ t, evF Go.Proofs.Try.prog [clock_Clock_All__cm_ft fu] fu Go.Proofs.Try.f19 clock_Clock_Next__cm_fa t = (clock_Clock_Next__cm_ft fu).spec t := fun t => by kernel_rfl
theorem clock_Clock_Next__cm_told (fu : Nat) : Told Go.Proofs.Try.prog (clock_Clock_Next__cm_ft fu) := told_of (allT_cons (clock_Clock_All__cm_told fu) allT_nil) mixed Go.Proofs.Try.func19 (by kernel_rfl) (by kernel_rfl) (clock_Clock_Next__cm_eq fu)

def clock_Clock_told__cm_l0 (fu : Nat) (r : (List ((Int × Int)) × (Int × (Int × (List (((Int × Int) × Nat)) × Nat))))) (now : Int) (n : Int) (h3 : Int) (h4 : Int) (h5 : (List (((Int × Int) × Nat)) × Nat)) : Option ((Int × (Int × (Int × (List (((Int × Int) × Nat)) × Nat)))) ⊕ ((Int × (Int × (Int × (List (((Int × Int) × Nat)) × Nat)))))) :=
  Option.bind (α := ((Bool × (Int × (Int × (List (((Int × Int) × Nat)) × Nat)))))) (
    bif (decide (n < ((r.1.length : Nat) : Int))) then
      (idx? n r.1.length).bind fun q =>
      (r.1)[q]?.bind fun r1 =>
      some ((decide (r1.1 ≤ now)), (h3, (h4, h5)))
    else
      some (false, (h3, (h4, h5)))) fun o =>
  bif o.1 then
    (idx? n r.1.length).bind fun q1 =>
    (r.1)[q1]?.bind fun r2 =>
    some (.inl ((IntKind.wrap .i64 (n + 1)), (o.2.1, (o.2.2.1, (mdel (k := (.int .i64)) (v := (.int .i64)) o.2.2.2 r2.2)))))
  else
    some (.inr (n, (o.2.1, (o.2.2.1, o.2.2.2))))
def clock_Clock_told__cm_l0_it (fu : Nat) (r : (List ((Int × Int)) × (Int × (Int × (List (((Int × Int) × Nat)) × Nat))))) (now : Int) (tt : (Int × (Int × (Int × (List (((Int × Int) × Nat)) × Nat))))) : Option ((Int × (Int × (Int × (List (((Int × Int) × Nat)) × Nat))))) :=
  iter fu (fun tt => clock_Clock_told__cm_l0 fu r now tt.1 tt.2.1 tt.2.2.1 tt.2.2.2) tt
def clock_Clock_told__cm (fu : Nat) (now : Int) (h : Int) (h1 : Int) (h2 : (List (((Int × Int) × Nat)) × Nat)) : Option ((List ((Int × Int)) × (Int × (Int × (List (((Int × Int) × Nat)) × Nat))))) :=
  (clock_Clock_All__cm fu now h1 h2).bind fun r =>
  (clock_Clock_told__cm_l0_it fu r now (0, (r.2.1, (r.2.2.1, r.2.2.2)))).bind fun o1 =>
  (upto? o1.1 r.1.length).bind fun q2 =>
  (upto? o1.1 q2).bind fun q3 =>
  some ((List.take q3 r.1), (o1.2.1, (o1.2.2.1, o1.2.2.2)))
def clock_Clock_told__cm_fa : FnA := ⟨.two (.leaf) (.two (.leaf) (.two (.reg [(1, { sh := [0, 1] })]) (.two (.leaf) (.two (.one (.loop ⟨[0, 6], ⟨(.cons (.own 0 0 0 0) (.cons (.p (.int .i64)) .nil)), [(0, false, (.vars (.cons (.p (.int .i64)) (.cons (.mp 1) (.cons (.p (.int .i64)) .nil))))), (1, false, (.map (.int .i64) (.int .i64)))]⟩⟩ false [(0, ⟨[0, 6], ⟨(.cons (.own 0 0 0 0) (.cons (.p (.int .i64)) .nil)), [(0, false, (.vars (.cons (.p (.int .i64)) (.cons (.mp 1) (.cons (.p (.int .i64)) .nil))))), (1, false, (.map (.int .i64) (.int .i64)))]⟩⟩)] (.two (.two (.join ⟨[0, 25], ⟨(.cons (.own 0 0 0 0) (.cons (.p .bool) .nil)), [(0, false, (.vars (.cons (.p (.int .i64)) (.cons (.mp 1) (.cons (.p (.int .i64)) .nil))))), (1, false, (.map (.int .i64) (.int .i64)))]⟩⟩ false [] (.leaf)) (.leaf)) (.one (.leaf))))) (.leaf))))), ⟨(.cons (.own 0 0 0 0) (.cons (.p (.int .i64)) .nil)), [(0, false, (.vars (.cons (.p (.int .i64)) (.cons (.mp 1) (.cons (.p (.int .i64)) .nil))))), (1, false, (.map (.int .i64) (.int .i64)))]⟩, [⟨(.cons (.p (.sl (.pair (.int .i64) (.int .i64)))) .nil), [(0, false, (.vars (.cons (.p (.int .i64)) (.cons (.mp 1) (.cons (.p (.int .i64)) .nil))))), (1, false, (.map (.int .i64) (.int .i64)))]⟩], [0]⟩
def clock_Clock_told__cm_ft (fu : Nat) : FnT := ⟨31, ⟨(.cons (.own 0 0 0 0) (.cons (.p (.int .i64)) .nil)), [(0, false, (.vars (.cons (.p (.int .i64)) (.cons (.mp 1) (.cons (.p (.int .i64)) .nil))))), (1, false, (.map (.int .i64) (.int .i64)))]⟩, [⟨(.cons (.p (.sl (.pair (.int .i64) (.int .i64)))) .nil), [(0, false, (.vars (.cons (.p (.int .i64)) (.cons (.mp 1) (.cons (.p (.int .i64)) .nil))))), (1, false, (.map (.int .i64) (.int .i64)))]⟩], fun t => clock_Clock_told__cm fu t.1 t.2.1 t.2.2.1 t.2.2.2⟩
theorem clock_Clock_told__cm_eq (fu : Nat) : ∀ t, evF Go.Proofs.Try.prog [clock_Clock_All__cm_ft fu] fu Go.Proofs.Try.f31 clock_Clock_told__cm_fa t = (clock_Clock_told__cm_ft fu).spec t := fun t => by kernel_rfl
theorem clock_Clock_told__cm_told (fu : Nat) : Told Go.Proofs.Try.prog (clock_Clock_told__cm_ft fu) := told_of (allT_cons (clock_Clock_All__cm_told fu) allT_nil) mixed Go.Proofs.Try.func31 (by kernel_rfl) (by kernel_rfl) (clock_Clock_told__cm_eq fu)

def clock_Clock_Tick__cm (fu : Nat) (h : Int) (h1 : Int) (h2 : (List (((Int × Int) × Nat)) × Nat)) : Option ((List ((Int × Int)) × (Int × (Int × (List (((Int × Int) × Nat)) × Nat))))) :=
  (clock_Clock_none__cm fu h h1 h2).bind fun r =>
  bif r.1 then
    some ([], (r.2.1, (r.2.2.1, r.2.2.2)))
  else
    (clock_Clock_told__cm fu (if 1152921504606846976 < (IntKind.wrap .i64 (r.2.1 + 1)) then 1152921504606846976 else (IntKind.wrap .i64 (r.2.1 + 1))) r.2.1 r.2.2.1 r.2.2.2).bind fun r1 =>
    some (r1.1, (r1.2.1, (r1.2.2.1, r1.2.2.2)))
def clock_Clock_Tick__cm_fa : FnA := ⟨.two (.leaf) (.two (.two (.reg [(1, { sh := [0, 1] })]) (.two (.leaf) (.leaf))) (.two (.reg [(7, { sh := [0, 1], fn := 1 })]) (.leaf))), ⟨(.cons (.own 0 0 0 0) .nil), [(0, false, (.vars (.cons (.p (.int .i64)) (.cons (.mp 1) (.cons (.p (.int .i64)) .nil))))), (1, false, (.map (.int .i64) (.int .i64)))]⟩, [⟨(.cons (.p (.sl (.pair (.int .i64) (.int .i64)))) .nil), [(0, false, (.vars (.cons (.p (.int .i64)) (.cons (.mp 1) (.cons (.p (.int .i64)) .nil))))), (1, false, (.map (.int .i64) (.int .i64)))]⟩], [0]⟩
def clock_Clock_Tick__cm_ft (fu : Nat) : FnT := ⟨17, ⟨(.cons (.own 0 0 0 0) .nil), [(0, false, (.vars (.cons (.p (.int .i64)) (.cons (.mp 1) (.cons (.p (.int .i64)) .nil))))), (1, false, (.map (.int .i64) (.int .i64)))]⟩, [⟨(.cons (.p (.sl (.pair (.int .i64) (.int .i64)))) .nil), [(0, false, (.vars (.cons (.p (.int .i64)) (.cons (.mp 1) (.cons (.p (.int .i64)) .nil))))), (1, false, (.map (.int .i64) (.int .i64)))]⟩], fun t => clock_Clock_Tick__cm fu t.1 t.2.1 t.2.2⟩
theorem clock_Clock_Tick__cm_eq (fu : Nat) : ∀ t, evF Go.Proofs.Try.prog [clock_Clock_none__cm_ft fu, clock_Clock_told__cm_ft fu] fu Go.Proofs.Try.f17 clock_Clock_Tick__cm_fa t = (clock_Clock_Tick__cm_ft fu).spec t := fun t => by kernel_rfl
theorem clock_Clock_Tick__cm_told (fu : Nat) : Told Go.Proofs.Try.prog (clock_Clock_Tick__cm_ft fu) := told_of (allT_cons (clock_Clock_none__cm_told fu) (allT_cons (clock_Clock_told__cm_told fu) allT_nil)) mixed Go.Proofs.Try.func17 (by kernel_rfl) (by kernel_rfl) (clock_Clock_Tick__cm_eq fu)

def clock_Clock_Due__cm (fu : Nat) (id : Int) (h : Int) (h1 : Int) (h2 : (List (((Int × Int) × Nat)) × Nat)) : Option ((Int × (Bool × (Int × (Int × (List (((Int × Int) × Nat)) × Nat)))))) :=
  (clock_Clock_none__cm fu h h1 h2).bind fun r =>
  bif r.1 then
    some (0, (false, (r.2.1, (r.2.2.1, r.2.2.2))))
  else
    some ((Option.getD (mget (k := (.int .i64)) (v := (.int .i64)) r.2.2.2 id) 0), ((Option.isSome (mget (k := (.int .i64)) (v := (.int .i64)) r.2.2.2 id)), (r.2.1, (r.2.2.1, r.2.2.2))))
def clock_Clock_Due__cm_fa : FnA := ⟨.two (.leaf) (.two (.two (.reg [(1, { sh := [0, 1] })]) (.two (.leaf) (.leaf))) (.two (.leaf) (.leaf))), ⟨(.cons (.own 0 0 0 0) (.cons (.p (.int .i64)) .nil)), [(0, false, (.vars (.cons (.p (.int .i64)) (.cons (.mp 1) (.cons (.p (.int .i64)) .nil))))), (1, false, (.map (.int .i64) (.int .i64)))]⟩, [⟨(.cons (.p (.int .i64)) (.cons (.p .bool) .nil)), [(0, false, (.vars (.cons (.p (.int .i64)) (.cons (.mp 1) (.cons (.p (.int .i64)) .nil))))), (1, false, (.map (.int .i64) (.int .i64)))]⟩], [0, 0]⟩
def clock_Clock_Due__cm_ft (fu : Nat) : FnT := ⟨18, ⟨(.cons (.own 0 0 0 0) (.cons (.p (.int .i64)) .nil)), [(0, false, (.vars (.cons (.p (.int .i64)) (.cons (.mp 1) (.cons (.p (.int .i64)) .nil))))), (1, false, (.map (.int .i64) (.int .i64)))]⟩, [⟨(.cons (.p (.int .i64)) (.cons (.p .bool) .nil)), [(0, false, (.vars (.cons (.p (.int .i64)) (.cons (.mp 1) (.cons (.p (.int .i64)) .nil))))), (1, false, (.map (.int .i64) (.int .i64)))]⟩], fun t => clock_Clock_Due__cm fu t.1 t.2.1 t.2.2.1 t.2.2.2⟩
theorem clock_Clock_Due__cm_eq (fu : Nat) : ∀ t, evF Go.Proofs.Try.prog [clock_Clock_none__cm_ft fu] fu Go.Proofs.Try.f18 clock_Clock_Due__cm_fa t = (clock_Clock_Due__cm_ft fu).spec t := fun t => by kernel_rfl
theorem clock_Clock_Due__cm_told (fu : Nat) : Told Go.Proofs.Try.prog (clock_Clock_Due__cm_ft fu) := told_of (allT_cons (clock_Clock_none__cm_told fu) allT_nil) mixed Go.Proofs.Try.func18 (by kernel_rfl) (by kernel_rfl) (clock_Clock_Due__cm_eq fu)

def clock_Clock_Skip__cm (fu : Nat) (h : Int) (h1 : Int) (h2 : (List (((Int × Int) × Nat)) × Nat)) : Option ((List ((Int × Int)) × (Int × (Int × (List (((Int × Int) × Nat)) × Nat))))) :=
  (clock_Clock_Next__cm fu h h1 h2).bind fun r =>
  bif (!r.2.2.1) then
    some ([], (r.2.2.2.1, (r.2.2.2.2.1, r.2.2.2.2.2)))
  else
    (clock_Clock_told__cm fu r.1 r.2.2.2.1 r.2.2.2.2.1 r.2.2.2.2.2).bind fun r1 =>
    some (r1.1, (r1.2.1, (r1.2.2.1, r1.2.2.2)))
def clock_Clock_Skip__cm_fa : FnA := ⟨.two (.leaf) (.two (.reg [(1, { sh := [0, 1] }), (5, { ids := [100] })]) (.two (.two (.leaf) (.two (.leaf) (.leaf))) (.two (.reg [(3, { sh := [0, 1], fn := 1 })]) (.leaf)))), ⟨(.cons (.own 0 0 0 0) .nil), [(0, false, (.vars (.cons (.p (.int .i64)) (.cons (.mp 1) (.cons (.p (.int .i64)) .nil))))), (1, false, (.map (.int .i64) (.int .i64)))]⟩, [⟨(.cons (.p (.sl (.pair (.int .i64) (.int .i64)))) .nil), [(0, false, (.vars (.cons (.p (.int .i64)) (.cons (.mp 1) (.cons (.p (.int .i64)) .nil))))), (1, false, (.map (.int .i64) (.int .i64)))]⟩], [0]⟩
def clock_Clock_Skip__cm_ft (fu : Nat) : FnT := ⟨14, ⟨(.cons (.own 0 0 0 0) .nil), [(0, false, (.vars (.cons (.p (.int .i64)) (.cons (.mp 1) (.cons (.p (.int .i64)) .nil))))), (1, false, (.map (.int .i64) (.int .i64)))]⟩, [⟨(.cons (.p (.sl (.pair (.int .i64) (.int .i64)))) .nil), [(0, false, (.vars (.cons (.p (.int .i64)) (.cons (.mp 1) (.cons (.p (.int .i64)) .nil))))), (1, false, (.map (.int .i64) (.int .i64)))]⟩], fun t => clock_Clock_Skip__cm fu t.1 t.2.1 t.2.2⟩
theorem clock_Clock_Skip__cm_eq (fu : Nat) : ∀ t, evF Go.Proofs.Try.prog [clock_Clock_Next__cm_ft fu, clock_Clock_told__cm_ft fu] fu Go.Proofs.Try.f14 clock_Clock_Skip__cm_fa t = (clock_Clock_Skip__cm_ft fu).spec t := fun t => by kernel_rfl
theorem clock_Clock_Skip__cm_told (fu : Nat) : Told Go.Proofs.Try.prog (clock_Clock_Skip__cm_ft fu) := told_of (allT_cons (clock_Clock_Next__cm_told fu) (allT_cons (clock_Clock_told__cm_told fu) allT_nil)) mixed Go.Proofs.Try.func14 (by kernel_rfl) (by kernel_rfl) (clock_Clock_Skip__cm_eq fu)

def clock_Clock_Now__cm (fu : Nat) (h : Int) (h1 : Int) (h2 : (List (((Int × Int) × Nat)) × Nat)) : Option ((Int × (Int × (Int × (List (((Int × Int) × Nat)) × Nat))))) :=
  (clock_Clock_none__cm fu h h1 h2).bind fun r =>
  bif r.1 then
    some (0, (r.2.1, (r.2.2.1, r.2.2.2)))
  else
    some (r.2.1, (r.2.1, (r.2.2.1, r.2.2.2)))
def clock_Clock_Now__cm_fa : FnA := ⟨.two (.leaf) (.two (.two (.reg [(1, { sh := [0, 1] })]) (.two (.leaf) (.leaf))) (.leaf)), ⟨(.cons (.own 0 0 0 0) .nil), [(0, false, (.vars (.cons (.p (.int .i64)) (.cons (.mp 1) (.cons (.p (.int .i64)) .nil))))), (1, false, (.map (.int .i64) (.int .i64)))]⟩, [⟨(.cons (.p (.int .i64)) .nil), [(0, false, (.vars (.cons (.p (.int .i64)) (.cons (.mp 1) (.cons (.p (.int .i64)) .nil))))), (1, false, (.map (.int .i64) (.int .i64)))]⟩], [0]⟩
def clock_Clock_Now__cm_ft (fu : Nat) : FnT := ⟨15, ⟨(.cons (.own 0 0 0 0) .nil), [(0, false, (.vars (.cons (.p (.int .i64)) (.cons (.mp 1) (.cons (.p (.int .i64)) .nil))))), (1, false, (.map (.int .i64) (.int .i64)))]⟩, [⟨(.cons (.p (.int .i64)) .nil), [(0, false, (.vars (.cons (.p (.int .i64)) (.cons (.mp 1) (.cons (.p (.int .i64)) .nil))))), (1, false, (.map (.int .i64) (.int .i64)))]⟩], fun t => clock_Clock_Now__cm fu t.1 t.2.1 t.2.2⟩
theorem clock_Clock_Now__cm_eq (fu : Nat) : ∀ t, evF Go.Proofs.Try.prog [clock_Clock_none__cm_ft fu] fu Go.Proofs.Try.f15 clock_Clock_Now__cm_fa t = (clock_Clock_Now__cm_ft fu).spec t := fun t => by kernel_rfl
theorem clock_Clock_Now__cm_told (fu : Nat) : Told Go.Proofs.Try.prog (clock_Clock_Now__cm_ft fu) := told_of (allT_cons (clock_Clock_none__cm_told fu) allT_nil) mixed Go.Proofs.Try.func15 (by kernel_rfl) (by kernel_rfl) (clock_Clock_Now__cm_eq fu)

def clock_Clock_Unset__cm (fu : Nat) (id : Int) (h : Int) (h1 : Int) (h2 : (List (((Int × Int) × Nat)) × Nat)) : Option ((Bool × (Int × (Int × (List (((Int × Int) × Nat)) × Nat))))) :=
  (clock_Clock_none__cm fu h h1 h2).bind fun r =>
  bif r.1 then
    some (false, (r.2.1, (r.2.2.1, r.2.2.2)))
  else
    some ((Option.isSome (mget (k := (.int .i64)) (v := (.int .i64)) r.2.2.2 id)), (r.2.1, (r.2.2.1, (mdel (k := (.int .i64)) (v := (.int .i64)) r.2.2.2 id))))
def clock_Clock_Unset__cm_fa : FnA := ⟨.two (.leaf) (.two (.two (.reg [(1, { sh := [0, 1] })]) (.two (.leaf) (.leaf))) (.two (.leaf) (.two (.leaf) (.leaf)))), ⟨(.cons (.own 0 0 0 0) (.cons (.p (.int .i64)) .nil)), [(0, false, (.vars (.cons (.p (.int .i64)) (.cons (.mp 1) (.cons (.p (.int .i64)) .nil))))), (1, false, (.map (.int .i64) (.int .i64)))]⟩, [⟨(.cons (.p .bool) .nil), [(0, false, (.vars (.cons (.p (.int .i64)) (.cons (.mp 1) (.cons (.p (.int .i64)) .nil))))), (1, false, (.map (.int .i64) (.int .i64)))]⟩], [0]⟩
def clock_Clock_Unset__cm_ft (fu : Nat) : FnT := ⟨12, ⟨(.cons (.own 0 0 0 0) (.cons (.p (.int .i64)) .nil)), [(0, false, (.vars (.cons (.p (.int .i64)) (.cons (.mp 1) (.cons (.p (.int .i64)) .nil))))), (1, false, (.map (.int .i64) (.int .i64)))]⟩, [⟨(.cons (.p .bool) .nil), [(0, false, (.vars (.cons (.p (.int .i64)) (.cons (.mp 1) (.cons (.p (.int .i64)) .nil))))), (1, false, (.map (.int .i64) (.int .i64)))]⟩], fun t => clock_Clock_Unset__cm fu t.1 t.2.1 t.2.2.1 t.2.2.2⟩
theorem clock_Clock_Unset__cm_eq (fu : Nat) : ∀ t, evF Go.Proofs.Try.prog [clock_Clock_none__cm_ft fu] fu Go.Proofs.Try.f12 clock_Clock_Unset__cm_fa t = (clock_Clock_Unset__cm_ft fu).spec t := fun t => by kernel_rfl
theorem clock_Clock_Unset__cm_told (fu : Nat) : Told Go.Proofs.Try.prog (clock_Clock_Unset__cm_ft fu) := told_of (allT_cons (clock_Clock_none__cm_told fu) allT_nil) mixed Go.Proofs.Try.func12 (by kernel_rfl) (by kernel_rfl) (clock_Clock_Unset__cm_eq fu)

def law08_awake (fu : Nat)  : Option (Bool) :=
  (clock_New fu 3).bind fun r =>
  match r with
  | .inl r1 =>
    Option.bind (α := (Bool)) (
      bif (!(r1 == 0)) then
        some true
      else
        (clock_Clock_Set_n0 fu 1 5).bind fun r3 =>
        (clock_Clock_Set_n0 fu 2 3).bind fun r4 =>
        (clock_Clock_Set_n0 fu 0 5).bind fun r5 =>
        some (!((IntKind.wrap .i64 ((IntKind.wrap .i64 (r3 + r4)) + r5)) == 0))) fun o =>
    bif o then
      some false
    else
      (clock_Clock_Next_n0 fu).bind fun r6 =>
      Option.bind (α := (Bool)) (
        bif (!r6.2.2) then
          some true
        else
          bif (!((r6.1 == 3) && (r6.2.1 == 2))) then
            some true
          else
            (clock_Clock_Tick_n0 fu).bind fun r7 =>
            (law08_ids fu [] []).bind fun r8 =>
            bif (!r8) then
              some true
            else
              (clock_Clock_Tick_n0 fu).bind fun r9 =>
              (law08_ids fu [] []).bind fun r10 =>
              bif (!r10) then
                some true
              else
                (clock_Clock_Tick_n0 fu).bind fun r11 =>
                (law08_ids fu [] [2]).bind fun r12 =>
                bif (!r12) then
                  some true
                else
                  (clock_Clock_Set_n0 fu 1 9).bind fun r13 =>
                  some (!(r13 == 0))) fun o1 =>
      bif o1 then
        some false
      else
        (clock_Clock_Due_n0 fu 1).bind fun r14 =>
        bif r14.2 then
          bif (r14.1 == 12) then
            (clock_Clock_Skip_n0 fu).bind fun r15 =>
            (law08_ids fu [] [0]).bind fun r16 =>
            bif r16 then
              (clock_Clock_Now_n0 fu).bind fun r17 =>
              bif (r17 == 5) then
                (clock_Clock_Unset_n0 fu 1).bind fun r18 =>
                bif r18 then
                  (clock_Clock_Skip_n0 fu).bind fun r19 =>
                  (law08_ids fu [] []).bind fun r20 =>
                  bif r20 then
                    (clock_Clock_Now_n0 fu).bind fun r21 =>
                    bif (r21 == 5) then
                      (clock_Clock_Set_n0 fu 4 0).bind fun r22 =>
                      some (r22 == 2)
                    else
                      some false
                  else
                    some false
                else
                  some false
              else
                some false
            else
              some false
          else
            some false
        else
          some false
  | .inr r2 =>
    Option.bind (α := ((Bool × (Int × (Int × (List (((Int × Int) × Nat)) × Nat)))))) (
      bif (!(r2.1 == 0)) then
        some (true, (r2.2.1, (r2.2.2.1, r2.2.2.2)))
      else
        (clock_Clock_Set__cm fu 1 5 r2.2.1 r2.2.2.1 r2.2.2.2).bind fun r23 =>
        (clock_Clock_Set__cm fu 2 3 r23.2.1 r23.2.2.1 r23.2.2.2).bind fun r24 =>
        (clock_Clock_Set__cm fu 0 5 r24.2.1 r24.2.2.1 r24.2.2.2).bind fun r25 =>
        some ((!((IntKind.wrap .i64 ((IntKind.wrap .i64 (r23.1 + r24.1)) + r25.1)) == 0)), (r25.2.1, (r25.2.2.1, r25.2.2.2)))) fun o2 =>
    bif o2.1 then
      some false
    else
      (clock_Clock_Next__cm fu o2.2.1 o2.2.2.1 o2.2.2.2).bind fun r26 =>
      Option.bind (α := ((Bool × (Int × (Int × (List (((Int × Int) × Nat)) × Nat)))))) (
        bif (!r26.2.2.1) then
          some (true, (r26.2.2.2.1, (r26.2.2.2.2.1, r26.2.2.2.2.2)))
        else
          bif (!((r26.1 == 3) && (r26.2.1 == 2))) then
            some (true, (r26.2.2.2.1, (r26.2.2.2.2.1, r26.2.2.2.2.2)))
          else
            (clock_Clock_Tick__cm fu r26.2.2.2.1 r26.2.2.2.2.1 r26.2.2.2.2.2).bind fun r27 =>
            (law08_ids fu r27.1 []).bind fun r28 =>
            bif (!r28) then
              some (true, (r27.2.1, (r27.2.2.1, r27.2.2.2)))
            else
              (clock_Clock_Tick__cm fu r27.2.1 r27.2.2.1 r27.2.2.2).bind fun r29 =>
              (law08_ids fu r29.1 []).bind fun r30 =>
              bif (!r30) then
                some (true, (r29.2.1, (r29.2.2.1, r29.2.2.2)))
              else
                (clock_Clock_Tick__cm fu r29.2.1 r29.2.2.1 r29.2.2.2).bind fun r31 =>
                (law08_ids fu r31.1 [2]).bind fun r32 =>
                bif (!r32) then
                  some (true, (r31.2.1, (r31.2.2.1, r31.2.2.2)))
                else
                  (clock_Clock_Set__cm fu 1 9 r31.2.1 r31.2.2.1 r31.2.2.2).bind fun r33 =>
                  some ((!(r33.1 == 0)), (r33.2.1, (r33.2.2.1, r33.2.2.2)))) fun o3 =>
      bif o3.1 then
        some false
      else
        (clock_Clock_Due__cm fu 1 o3.2.1 o3.2.2.1 o3.2.2.2).bind fun r34 =>
        bif r34.2.1 then
          bif (r34.1 == 12) then
            (clock_Clock_Skip__cm fu r34.2.2.1 r34.2.2.2.1 r34.2.2.2.2).bind fun r35 =>
            (law08_ids fu r35.1 [0]).bind fun r36 =>
            bif r36 then
              (clock_Clock_Now__cm fu r35.2.1 r35.2.2.1 r35.2.2.2).bind fun r37 =>
              bif (r37.1 == 5) then
                (clock_Clock_Unset__cm fu 1 r37.2.1 r37.2.2.1 r37.2.2.2).bind fun r38 =>
                bif r38.1 then
                  (clock_Clock_Skip__cm fu r38.2.1 r38.2.2.1 r38.2.2.2).bind fun r39 =>
                  (law08_ids fu r39.1 []).bind fun r40 =>
                  bif r40 then
                    (clock_Clock_Now__cm fu r39.2.1 r39.2.2.1 r39.2.2.2).bind fun r41 =>
                    bif (r41.1 == 5) then
                      (clock_Clock_Set__cm fu 4 0 r41.2.1 r41.2.2.1 r41.2.2.2).bind fun r42 =>
                      some (r42.1 == 2)
                    else
                      some false
                  else
                    some false
                else
                  some false
              else
                some false
            else
              some false
          else
            some false
        else
          some false
def law08_awake_fa : FnA := ⟨.two (.leaf) (.two (.reg [(0, { ids := [100, 101] })]) (.sel (.slot 1 (.nilp (.pointer none))) (.two (.two (.join ⟨[23], ⟨(.cons (.p .bool) .nil), []⟩⟩ false [] (.reg [(4, { fn := 1 }), (6, { fn := 1 }), (9, { fn := 1 })])) (.two (.leaf) (.leaf))) (.two (.reg [(1, { fn := 2 }), (5, { ids := [103] })]) (.two (.two (.join ⟨[59], ⟨(.cons (.p .bool) .nil), []⟩⟩ false [] (.reg [(9, { fn := 3 }), (10, { fn := 4 }), (15, { fn := 3 }), (16, { fn := 4 }), (21, { fn := 3 }), (22, { ids := [104] }), (23, { md := [0, 2], fn := 4 }), (28, { fn := 1 })])) (.two (.leaf) (.leaf))) (.two (.reg [(1, { fn := 5 })]) (.two (.reg [(7, { fn := 6 }), (8, { ids := [105] }), (9, { md := [0, 2], fn := 4 }), (13, { fn := 7 }), (18, { fn := 8 }), (22, { fn := 6 }), (23, { fn := 4 }), (27, { fn := 7 }), (32, { fn := 1 })]) (.leaf)))))) (.two (.two (.join ⟨[1, 23], ⟨(.cons (.own 0 100 0 0) (.cons (.p .bool) .nil)), [(100, false, (.vars (.cons (.p (.int .i64)) (.cons (.mp 101) (.cons (.p (.int .i64)) .nil))))), (101, false, (.map (.int .i64) (.int .i64)))]⟩⟩ false [] (.reg [(4, { sh := [100, 101], fn := 9 }), (6, { sh := [100, 101], fn := 9 }), (9, { sh := [100, 101], fn := 9 })])) (.two (.leaf) (.leaf))) (.two (.reg [(1, { sh := [100, 101], fn := 10 }), (5, { ids := [103] })]) (.two (.two (.join ⟨[1, 59], ⟨(.cons (.own 0 100 0 0) (.cons (.p .bool) .nil)), [(100, false, (.vars (.cons (.p (.int .i64)) (.cons (.mp 101) (.cons (.p (.int .i64)) .nil))))), (101, false, (.map (.int .i64) (.int .i64)))]⟩⟩ false [] (.reg [(9, { sh := [100, 101], fn := 11 }), (10, { fn := 4 }), (15, { sh := [100, 101], fn := 11 }), (16, { fn := 4 }), (21, { sh := [100, 101], fn := 11 }), (22, { ids := [104] }), (23, { md := [0, 2], fn := 4 }), (28, { sh := [100, 101], fn := 9 })])) (.two (.leaf) (.leaf))) (.two (.reg [(1, { sh := [100, 101], fn := 12 })]) (.two (.reg [(7, { sh := [100, 101], fn := 13 }), (8, { ids := [105] }), (9, { md := [0, 2], fn := 4 }), (13, { sh := [100, 101], fn := 14 }), (18, { sh := [100, 101], fn := 15 }), (22, { sh := [100, 101], fn := 13 }), (23, { fn := 4 }), (27, { sh := [100, 101], fn := 14 }), (32, { sh := [100, 101], fn := 9 })]) (.leaf)))))))), ⟨.nil, []⟩, [⟨(.cons (.p .bool) .nil), []⟩], [0]⟩
def law08_awake_ft (fu : Nat) : FnT := ⟨20, ⟨.nil, []⟩, [⟨(.cons (.p .bool) .nil), []⟩], fun t => law08_awake fu ⟩
theorem law08_awake_eq (fu : Nat) : ∀ t, evF Go.Proofs.Try.prog [clock_New_ft fu, clock_Clock_Set_n0_ft fu, clock_Clock_Next_n0_ft fu, clock_Clock_Tick_n0_ft fu, law08_ids_ft fu, clock_Clock_Due_n0_ft fu, clock_Clock_Skip_n0_ft fu, clock_Clock_Now_n0_ft fu, clock_Clock_Unset_n0_ft fu, clock_Clock_Set__cm_ft fu, clock_Clock_Next__cm_ft fu, clock_Clock_Tick__cm_ft fu, clock_Clock_Due__cm_ft fu, clock_Clock_Skip__cm_ft fu, clock_Clock_Now__cm_ft fu, clock_Clock_Unset__cm_ft fu] fu Go.Proofs.Try.f20 law08_awake_fa t = (law08_awake_ft fu).spec t := fun t => by kernel_rfl
theorem law08_awake_told (fu : Nat) : Told Go.Proofs.Try.prog (law08_awake_ft fu) := told_of (allT_cons (clock_New_told fu) (allT_cons (clock_Clock_Set_n0_told fu) (allT_cons (clock_Clock_Next_n0_told fu) (allT_cons (clock_Clock_Tick_n0_told fu) (allT_cons (law08_ids_told fu) (allT_cons (clock_Clock_Due_n0_told fu) (allT_cons (clock_Clock_Skip_n0_told fu) (allT_cons (clock_Clock_Now_n0_told fu) (allT_cons (clock_Clock_Unset_n0_told fu) (allT_cons (clock_Clock_Set__cm_told fu) (allT_cons (clock_Clock_Next__cm_told fu) (allT_cons (clock_Clock_Tick__cm_told fu) (allT_cons (clock_Clock_Due__cm_told fu) (allT_cons (clock_Clock_Skip__cm_told fu) (allT_cons (clock_Clock_Now__cm_told fu) (allT_cons (clock_Clock_Unset__cm_told fu) allT_nil)))))))))))))))) mixed Go.Proofs.Try.func20 (by kernel_rfl) (by kernel_rfl) (law08_awake_eq fu)

def ref08_New (fu : Nat) (most : Int) : Option ((Int × (Int × Int))) :=
  Option.bind (α := ((Bool × (Int × Int)))) (
    bif (decide (most < 1)) then
      some (true, (0, 0))
    else
      some ((decide (most > 65536)), (0, 0))) fun o =>
  bif o.1 then
    some (0, (0, 2))
  else
    some (0, (most, 0))
def ref08_New_fa : FnA := ⟨.two (.reg [(0, { ids := [100] })]) (.two (.two (.join ⟨[2, 9], ⟨(.cons (.own 0 100 0 0) (.cons (.p .bool) .nil)), [(100, false, (.vars (.cons (.p (.int .i64)) (.cons (.p (.int .i64)) (.cons (.nilp (.slice none 0 0)) .nil)))))]⟩⟩ false [] (.leaf)) (.two (.leaf) (.leaf))) (.leaf)), ⟨(.cons (.p (.int .i64)) .nil), []⟩, [⟨(.cons (.agg (.cons (.p (.int .i64)) (.cons (.p (.int .i64)) (.cons (.nilp (.slice none 0 0)) .nil)))) (.cons (.p (.int .i64)) .nil)), []⟩], [0, 0]⟩
def ref08_New_ft (fu : Nat) : FnT := ⟨21, ⟨(.cons (.p (.int .i64)) .nil), []⟩, [⟨(.cons (.agg (.cons (.p (.int .i64)) (.cons (.p (.int .i64)) (.cons (.nilp (.slice none 0 0)) .nil)))) (.cons (.p (.int .i64)) .nil)), []⟩], fun t => ref08_New fu t⟩
theorem ref08_New_eq (fu : Nat) : ∀ t, evF Go.Proofs.Try.prog [] fu Go.Proofs.Try.f21 ref08_New_fa t = (ref08_New_ft fu).spec t := fun t => by kernel_rfl
theorem ref08_New_told (fu : Nat) : Told Go.Proofs.Try.prog (ref08_New_ft fu) := told_of allT_nil mixed Go.Proofs.Try.func21 (by kernel_rfl) (by kernel_rfl) (ref08_New_eq fu)

def ref08_Clock_Find_l0 (fu : Nat) (id : Int) (i : Int) (h : Int) (h1 : Int) (h2 : List ((Int × Int))) : Option ((Int × (Int × (Int × List ((Int × Int))))) ⊕ (Unit ⊕ Int)) :=
  bif (decide (i < ((h2.length : Nat) : Int))) then
    (idx? i h2.length).bind fun q =>
    (h2)[q]?.bind fun r =>
    bif (r.2 == id) then
      some (.inr (.inr i))
    else
      some (.inl ((IntKind.wrap .i64 (i + 1)), (h, (h1, h2))))
  else
    some (.inr (.inl ()))
def ref08_Clock_Find_l0_it (fu : Nat) (id : Int) (tt : (Int × (Int × (Int × List ((Int × Int)))))) : Option (Unit ⊕ Int) :=
  iter fu (fun tt => ref08_Clock_Find_l0 fu id tt.1 tt.2.1 tt.2.2.1 tt.2.2.2) tt
def ref08_Clock_Find (fu : Nat) (c : (Int × (Int × List ((Int × Int))))) (id : Int) : Option (Int) :=
  (ref08_Clock_Find_l0_it fu id (0, (c.1, (c.2.1, c.2.2)))).bind fun o =>
  match o with
  | .inl s =>
    some (-1)
  | .inr o1 =>
    some o1
def ref08_Clock_Find_fa : FnA := ⟨.two (.reg [(0, { ids := [100] })]) (.two (.two (.leaf) (.one (.loop ⟨[2, 5], ⟨(.cons (.own 0 100 0 0) (.cons (.p (.int .i64)) .nil)), [(100, false, (.vars (.cons (.p (.int .i64)) (.cons (.p (.int .i64)) (.cons (.p (.sl (.pair (.int .i64) (.int .i64)))) .nil)))))]⟩⟩ true [(0, ⟨[], ⟨.nil, []⟩⟩)] (.two (.two (.leaf) (.leaf)) (.two (.one (.two (.leaf) (.two (.leaf) (.leaf)))) (.leaf)))))) (.leaf)), ⟨(.cons (.p (.pair (.int .i64) (.pair (.int .i64) (.sl (.pair (.int .i64) (.int .i64)))))) (.cons (.p (.int .i64)) .nil)), []⟩, [⟨(.cons (.p (.int .i64)) .nil), []⟩], [0]⟩
def ref08_Clock_Find_ft (fu : Nat) : FnT := ⟨26, ⟨(.cons (.p (.pair (.int .i64) (.pair (.int .i64) (.sl (.pair (.int .i64) (.int .i64)))))) (.cons (.p (.int .i64)) .nil)), []⟩, [⟨(.cons (.p (.int .i64)) .nil), []⟩], fun t => ref08_Clock_Find fu t.1 t.2⟩
theorem ref08_Clock_Find_eq (fu : Nat) : ∀ t, evF Go.Proofs.Try.prog [] fu Go.Proofs.Try.f26 ref08_Clock_Find_fa t = (ref08_Clock_Find_ft fu).spec t := fun t => by kernel_rfl
theorem ref08_Clock_Find_told (fu : Nat) : Told Go.Proofs.Try.prog (ref08_Clock_Find_ft fu) := told_of allT_nil mixed Go.Proofs.Try.func26 (by kernel_rfl) (by kernel_rfl) (ref08_Clock_Find_eq fu)

def ref08_Clock_without (fu : Nat) (c : (Int × (Int × List ((Int × Int))))) (i : Int) : Option ((Int × (Int × List ((Int × Int))))) :=
  (upto? i c.2.2.length).bind fun q =>
  need ((Nat.ble ((List.take q c.2.2).length * 16) room) && (Nat.ble (List.take q c.2.2).length room)) <|
  (upto? (IntKind.wrap .i64 (i + 1)) c.2.2.length).bind fun q1 =>
  need ((Nat.ble (((List.take q c.2.2).length + (List.drop q1 c.2.2).length) * 16) room) && (Nat.ble ((List.take q c.2.2).length + (List.drop q1 c.2.2).length) room)) <|
  some (c.1, (c.2.1, ((List.take q c.2.2) ++ (List.drop q1 c.2.2))))
def ref08_Clock_without_fa : FnA := ⟨.two (.reg [(0, { ids := [100] }), (1, { ids := [101] })]) (.two (.leaf) (.two (.reg [(5, { ids := [102] })]) (.two (.reg [(6, { ids := [103] })]) (.leaf)))), ⟨(.cons (.p (.pair (.int .i64) (.pair (.int .i64) (.sl (.pair (.int .i64) (.int .i64)))))) (.cons (.p (.int .i64)) .nil)), []⟩, [⟨(.cons (.agg (.cons (.p (.int .i64)) (.cons (.p (.int .i64)) (.cons (.slf 2 0) .nil)))) .nil), [(0, false, (.rows 36 (.pair (.int .i64) (.int .i64))))]⟩], [0]⟩
def ref08_Clock_without_ft (fu : Nat) : FnT := ⟨37, ⟨(.cons (.p (.pair (.int .i64) (.pair (.int .i64) (.sl (.pair (.int .i64) (.int .i64)))))) (.cons (.p (.int .i64)) .nil)), []⟩, [⟨(.cons (.agg (.cons (.p (.int .i64)) (.cons (.p (.int .i64)) (.cons (.slf 2 0) .nil)))) .nil), [(0, false, (.rows 36 (.pair (.int .i64) (.int .i64))))]⟩], fun t => ref08_Clock_without fu t.1 t.2⟩
theorem ref08_Clock_without_eq (fu : Nat) : ∀ t, evF Go.Proofs.Try.prog [] fu Go.Proofs.Try.f37 ref08_Clock_without_fa t = (ref08_Clock_without_ft fu).spec t := fun t => by kernel_rfl
theorem ref08_Clock_without_told (fu : Nat) : Told Go.Proofs.Try.prog (ref08_Clock_without_ft fu) := told_of allT_nil mixed Go.Proofs.Try.func37 (by kernel_rfl) (by kernel_rfl) (ref08_Clock_without_eq fu)

def ref08_Clock_Set_l0 (fu : Nat) (k : Int) (h : Int) (h1 : Int) (h2 : List ((Int × Int))) (h3 : Int) (h4 : Int) (h5 : Int) (h6 : Int) : Option ((Int × (Int × (Int × (List ((Int × Int)) × (Int × (Int × (Int × Int))))))) ⊕ ((Int × (Int × (Int × (List ((Int × Int)) × (Int × (Int × (Int × Int))))))))) :=
  Option.bind (α := ((Bool × (Int × (Int × (List ((Int × Int)) × (Int × (Int × (Int × Int))))))))) (
    bif (decide (k < ((h2.length : Nat) : Int))) then
      (idx? k h2.length).bind fun q =>
      (h2)[q]?.bind fun r2 =>
      bif (decide (r2.1 < h5)) then
        some (true, (h, (h1, (h2, (h3, (h4, (h5, h6)))))))
      else
        (idx? k h2.length).bind fun q1 =>
        (h2)[q1]?.bind fun r3 =>
        bif (r3.1 == h5) then
          (idx? k h2.length).bind fun q2 =>
          (h2)[q2]?.bind fun r4 =>
          some ((decide (r4.2 < h6)), (h, (h1, (h2, (h3, (h4, (h5, h6)))))))
        else
          some (false, (h, (h1, (h2, (h3, (h4, (h5, h6)))))))
    else
      some (false, (h, (h1, (h2, (h3, (h4, (h5, h6)))))))) fun o3 =>
  bif o3.1 then
    some (.inl ((IntKind.wrap .i64 (k + 1)), (o3.2.1, (o3.2.2.1, (o3.2.2.2.1, (o3.2.2.2.2.1, (o3.2.2.2.2.2.1, (o3.2.2.2.2.2.2.1, o3.2.2.2.2.2.2.2))))))))
  else
    some (.inr (k, (o3.2.1, (o3.2.2.1, (o3.2.2.2.1, (o3.2.2.2.2.1, (o3.2.2.2.2.2.1, (o3.2.2.2.2.2.2.1, o3.2.2.2.2.2.2.2))))))))
def ref08_Clock_Set_l0_it (fu : Nat)  (tt : (Int × (Int × (Int × (List ((Int × Int)) × (Int × (Int × (Int × Int)))))))) : Option ((Int × (Int × (Int × (List ((Int × Int)) × (Int × (Int × (Int × Int)))))))) :=
  iter fu (fun tt => ref08_Clock_Set_l0 fu tt.1 tt.2.1 tt.2.2.1 tt.2.2.2.1 tt.2.2.2.2.1 tt.2.2.2.2.2.1 tt.2.2.2.2.2.2.1 tt.2.2.2.2.2.2.2) tt
def ref08_Clock_Set (fu : Nat) (c : (Int × (Int × List ((Int × Int))))) (id : Int) (in_ : Int) : Option ((Int × (Int × (List ((Int × Int)) × Int)))) :=
  Option.bind (α := ((Bool × (Int × (Int × (List ((Int × Int)) × (Int × Int))))))) (
    bif (decide (in_ < 1)) then
      some (true, (c.1, (c.2.1, (c.2.2, (0, 0)))))
    else
      bif (decide (in_ > 1152921504606846976)) then
        some (true, (c.1, (c.2.1, (c.2.2, (0, 0)))))
      else
        some ((decide ((IntKind.wrap .i64 (c.1 + in_)) > 1152921504606846976)), (c.1, (c.2.1, (c.2.2, (0, 0)))))) fun o =>
  bif o.1 then
    some (o.2.1, (o.2.2.1, (o.2.2.2.1, 2)))
  else
    (ref08_Clock_Find fu (o.2.1, (o.2.2.1, o.2.2.2.1)) id).bind fun r =>
    Option.bind (α := ((Bool × (Int × (Int × (List ((Int × Int)) × (Int × Int))))))) (
      bif (decide (r < 0)) then
        some ((decide (((o.2.2.2.1.length : Nat) : Int) ≥ o.2.2.1)), (o.2.1, (o.2.2.1, (o.2.2.2.1, (o.2.2.2.2.1, o.2.2.2.2.2)))))
      else
        some (false, (o.2.1, (o.2.2.1, (o.2.2.2.1, (o.2.2.2.2.1, o.2.2.2.2.2)))))) fun o1 =>
    bif o1.1 then
      some (o1.2.1, (o1.2.2.1, (o1.2.2.2.1, 71)))
    else
      Option.bind (α := ((Int × (Int × (List ((Int × Int)) × (Int × Int)))))) (
        bif (decide (r ≥ 0)) then
          (ref08_Clock_without fu (o1.2.1, (o1.2.2.1, o1.2.2.2.1)) r).bind fun r1 =>
          some (r1.1, (r1.2.1, (r1.2.2, (o1.2.2.2.2.1, o1.2.2.2.2.2))))
        else
          some (o1.2.1, (o1.2.2.1, (o1.2.2.2.1, (o1.2.2.2.2.1, o1.2.2.2.2.2))))) fun o2 =>
      (ref08_Clock_Set_l0_it fu  (0, (o2.1, (o2.2.1, (o2.2.2.1, (o2.2.2.2.1, (o2.2.2.2.2, ((IntKind.wrap .i64 (o2.1 + in_)), id)))))))).bind fun o4 =>
      (upto? o4.1 o4.2.2.2.1.length).bind fun q3 =>
      need ((Nat.ble ((List.take q3 o4.2.2.2.1).length * 16) room) && (Nat.ble (List.take q3 o4.2.2.2.1).length room)) <|
      need ((Nat.ble (((List.take q3 o4.2.2.2.1).length + 1) * 16) room) && (Nat.ble ((List.take q3 o4.2.2.2.1).length + 1) room)) <|
      (upto? o4.1 o4.2.2.2.1.length).bind fun q4 =>
      need ((Nat.ble ((((List.take q3 o4.2.2.2.1) ++ [(o4.2.2.2.2.2.2.1, o4.2.2.2.2.2.2.2)]).length + (List.drop q4 o4.2.2.2.1).length) * 16) room) && (Nat.ble (((List.take q3 o4.2.2.2.1) ++ [(o4.2.2.2.2.2.2.1, o4.2.2.2.2.2.2.2)]).length + (List.drop q4 o4.2.2.2.1).length) room)) <|
      some (o4.2.1, (o4.2.2.1, ((((List.take q3 o4.2.2.2.1) ++ [(o4.2.2.2.2.2.2.1, o4.2.2.2.2.2.2.2)]) ++ (List.drop q4 o4.2.2.2.1)), 0)))
def ref08_Clock_Set_fa : FnA := ⟨.two (.reg [(0, { ids := [100] }), (1, { ids := [101] })]) (.two (.two (.join ⟨[3, 6, 24], ⟨(.cons (.own 0 100 0 0) (.cons (.own 0 101 0 0) (.cons (.p .bool) .nil))), [(100, false, (.vars (.cons (.p (.int .i64)) (.cons (.p (.int .i64)) (.cons (.p (.sl (.pair (.int .i64) (.int .i64)))) .nil))))), (101, false, (.vars (.cons (.p (.int .i64)) (.cons (.p (.int .i64)) (.cons (.nilp (.slice none 0 0)) .nil)))))]⟩⟩ false [] (.leaf)) (.two (.leaf) (.leaf))) (.two (.reg [(2, {  })]) (.two (.two (.join ⟨[3, 6, 38], ⟨(.cons (.own 0 100 0 0) (.cons (.own 0 101 0 0) (.cons (.p .bool) .nil))), [(100, false, (.vars (.cons (.p (.int .i64)) (.cons (.p (.int .i64)) (.cons (.p (.sl (.pair (.int .i64) (.int .i64)))) .nil))))), (101, false, (.vars (.cons (.p (.int .i64)) (.cons (.p (.int .i64)) (.cons (.nilp (.slice none 0 0)) .nil)))))]⟩⟩ false [] (.leaf)) (.two (.leaf) (.leaf))) (.two (.two (.leaf) (.join ⟨[3, 6], ⟨(.cons (.own 0 100 0 0) (.cons (.own 0 101 0 0) .nil)), [(100, false, (.vars (.cons (.p (.int .i64)) (.cons (.p (.int .i64)) (.cons (.p (.sl (.pair (.int .i64) (.int .i64)))) .nil))))), (101, false, (.vars (.cons (.p (.int .i64)) (.cons (.p (.int .i64)) (.cons (.nilp (.slice none 0 0)) .nil)))))]⟩⟩ false [] (.post (.pureCell 100 2) (.two (.reg [(2, { ids := [102], fn := 1 })]) (.leaf))))) (.two (.reg [(6, { ids := [104] })]) (.two (.leaf) (.two (.one (.loop ⟨[3, 6, 9, 10], ⟨(.cons (.own 0 100 0 0) (.cons (.own 0 101 0 0) (.cons (.own 0 104 0 0) (.cons (.p (.int .i64)) .nil)))), [(100, false, (.vars (.cons (.p (.int .i64)) (.cons (.p (.int .i64)) (.cons (.p (.sl (.pair (.int .i64) (.int .i64)))) .nil))))), (101, false, (.vars (.cons (.p (.int .i64)) (.cons (.p (.int .i64)) (.cons (.nilp (.slice none 0 0)) .nil))))), (104, false, (.vars (.cons (.p (.int .i64)) (.cons (.p (.int .i64)) .nil))))]⟩⟩ false [(0, ⟨[3, 6, 9, 10], ⟨(.cons (.own 0 100 0 0) (.cons (.own 0 101 0 0) (.cons (.own 0 104 0 0) (.cons (.p (.int .i64)) .nil)))), [(100, false, (.vars (.cons (.p (.int .i64)) (.cons (.p (.int .i64)) (.cons (.p (.sl (.pair (.int .i64) (.int .i64)))) .nil))))), (101, false, (.vars (.cons (.p (.int .i64)) (.cons (.p (.int .i64)) (.cons (.nilp (.slice none 0 0)) .nil))))), (104, false, (.vars (.cons (.p (.int .i64)) (.cons (.p (.int .i64)) .nil))))]⟩⟩)] (.two (.two (.join ⟨[3, 6, 9, 88], ⟨(.cons (.own 0 100 0 0) (.cons (.own 0 101 0 0) (.cons (.own 0 104 0 0) (.cons (.p .bool) .nil)))), [(100, false, (.vars (.cons (.p (.int .i64)) (.cons (.p (.int .i64)) (.cons (.p (.sl (.pair (.int .i64) (.int .i64)))) .nil))))), (101, false, (.vars (.cons (.p (.int .i64)) (.cons (.p (.int .i64)) (.cons (.nilp (.slice none 0 0)) .nil))))), (104, false, (.vars (.cons (.p (.int .i64)) (.cons (.p (.int .i64)) .nil))))]⟩⟩ false [] (.leaf)) (.leaf)) (.leaf)))) (.two (.leaf) (.two (.reg [(5, { ids := [105] })]) (.two (.reg [(2, { ids := [106] }), (3, { ids := [107] })]) (.two (.reg [(5, { ids := [108] })]) (.leaf)))))))))))), ⟨(.cons (.p (.pair (.int .i64) (.pair (.int .i64) (.sl (.pair (.int .i64) (.int .i64)))))) (.cons (.p (.int .i64)) (.cons (.p (.int .i64)) .nil))), []⟩, [⟨(.cons (.agg (.cons (.p (.int .i64)) (.cons (.p (.int .i64)) (.cons (.p (.sl (.pair (.int .i64) (.int .i64)))) .nil)))) (.cons (.p (.int .i64)) .nil)), []⟩], [1, 0]⟩
def ref08_Clock_Set_ft (fu : Nat) : FnT := ⟨22, ⟨(.cons (.p (.pair (.int .i64) (.pair (.int .i64) (.sl (.pair (.int .i64) (.int .i64)))))) (.cons (.p (.int .i64)) (.cons (.p (.int .i64)) .nil))), []⟩, [⟨(.cons (.agg (.cons (.p (.int .i64)) (.cons (.p (.int .i64)) (.cons (.p (.sl (.pair (.int .i64) (.int .i64)))) .nil)))) (.cons (.p (.int .i64)) .nil)), []⟩], fun t => ref08_Clock_Set fu t.1 t.2.1 t.2.2⟩
theorem ref08_Clock_Set_eq (fu : Nat) : ∀ t, evF Go.Proofs.Try.prog [ref08_Clock_Find_ft fu, ref08_Clock_without_ft fu] fu Go.Proofs.Try.f22 ref08_Clock_Set_fa t = (ref08_Clock_Set_ft fu).spec t := fun t => by kernel_rfl
theorem ref08_Clock_Set_told (fu : Nat) : Told Go.Proofs.Try.prog (ref08_Clock_Set_ft fu) := told_of (allT_cons (ref08_Clock_Find_told fu) (allT_cons (ref08_Clock_without_told fu) allT_nil)) mixed Go.Proofs.Try.func22 (by kernel_rfl) (by kernel_rfl) (ref08_Clock_Set_eq fu)

def ref08_Clock_Unset (fu : Nat) (c : (Int × (Int × List ((Int × Int))))) (id : Int) : Option ((Int × (Int × (List ((Int × Int)) × Bool)))) :=
  (ref08_Clock_Find fu (c.1, (c.2.1, c.2.2)) id).bind fun r =>
  bif (decide (r < 0)) then
    some (c.1, (c.2.1, (c.2.2, false)))
  else
    (ref08_Clock_without fu (c.1, (c.2.1, c.2.2)) r).bind fun r1 =>
    some (r1.1, (r1.2.1, (r1.2.2, true)))
def ref08_Clock_Unset_fa : FnA := ⟨.two (.reg [(0, { ids := [100] }), (1, { ids := [101] })]) (.two (.reg [(2, {  })]) (.two (.two (.leaf) (.two (.leaf) (.leaf))) (.two (.reg [(2, { ids := [102], fn := 1 })]) (.leaf)))), ⟨(.cons (.p (.pair (.int .i64) (.pair (.int .i64) (.sl (.pair (.int .i64) (.int .i64)))))) (.cons (.p (.int .i64)) .nil)), []⟩, [⟨(.cons (.agg (.cons (.p (.int .i64)) (.cons (.p (.int .i64)) (.cons (.p (.sl (.pair (.int .i64) (.int .i64)))) .nil)))) (.cons (.p .bool) .nil)), []⟩], [1, 0]⟩
def ref08_Clock_Unset_ft (fu : Nat) : FnT := ⟨23, ⟨(.cons (.p (.pair (.int .i64) (.pair (.int .i64) (.sl (.pair (.int .i64) (.int .i64)))))) (.cons (.p (.int .i64)) .nil)), []⟩, [⟨(.cons (.agg (.cons (.p (.int .i64)) (.cons (.p (.int .i64)) (.cons (.p (.sl (.pair (.int .i64) (.int .i64)))) .nil)))) (.cons (.p .bool) .nil)), []⟩], fun t => ref08_Clock_Unset fu t.1 t.2⟩
theorem ref08_Clock_Unset_eq (fu : Nat) : ∀ t, evF Go.Proofs.Try.prog [ref08_Clock_Find_ft fu, ref08_Clock_without_ft fu] fu Go.Proofs.Try.f23 ref08_Clock_Unset_fa t = (ref08_Clock_Unset_ft fu).spec t := fun t => by kernel_rfl
theorem ref08_Clock_Unset_told (fu : Nat) : Told Go.Proofs.Try.prog (ref08_Clock_Unset_ft fu) := told_of (allT_cons (ref08_Clock_Find_told fu) (allT_cons (ref08_Clock_without_told fu) allT_nil)) mixed Go.Proofs.Try.func23 (by kernel_rfl) (by kernel_rfl) (ref08_Clock_Unset_eq fu)

def ref08_Clock_told_l0 (fu : Nat) (n : Int) (h : Int) (h1 : Int) (h2 : List ((Int × Int))) (h3 : Int) (h4 : Int) : Option ((Int × (Int × (Int × (List ((Int × Int)) × (Int × Int))))) ⊕ ((Int × (Int × (Int × (List ((Int × Int)) × (Int × Int))))))) :=
  Option.bind (α := ((Bool × (Int × (Int × (List ((Int × Int)) × (Int × Int))))))) (
    bif (decide (n < ((h2.length : Nat) : Int))) then
      (idx? n h2.length).bind fun q =>
      (h2)[q]?.bind fun r =>
      some ((decide (r.1 ≤ h)), (h, (h1, (h2, (h3, h4)))))
    else
      some (false, (h, (h1, (h2, (h3, h4)))))) fun o =>
  bif o.1 then
    some (.inl ((IntKind.wrap .i64 (n + 1)), (o.2.1, (o.2.2.1, (o.2.2.2.1, (o.2.2.2.2.1, o.2.2.2.2.2))))))
  else
    some (.inr (n, (o.2.1, (o.2.2.1, (o.2.2.2.1, (o.2.2.2.2.1, o.2.2.2.2.2))))))
def ref08_Clock_told_l0_it (fu : Nat)  (tt : (Int × (Int × (Int × (List ((Int × Int)) × (Int × Int)))))) : Option ((Int × (Int × (Int × (List ((Int × Int)) × (Int × Int)))))) :=
  iter fu (fun tt => ref08_Clock_told_l0 fu tt.1 tt.2.1 tt.2.2.1 tt.2.2.2.1 tt.2.2.2.2.1 tt.2.2.2.2.2) tt
def ref08_Clock_told (fu : Nat) (c : (Int × (Int × List ((Int × Int))))) : Option ((Int × (Int × (List ((Int × Int)) × List ((Int × Int)))))) :=
  (ref08_Clock_told_l0_it fu  (0, (c.1, (c.2.1, (c.2.2, (0, 0)))))).bind fun o1 =>
  (upto? o1.1 o1.2.2.2.1.length).bind fun q1 =>
  (upto? o1.1 o1.2.2.2.1.length).bind fun q2 =>
  some (o1.2.1, (o1.2.2.1, ((List.drop q2 o1.2.2.2.1), (List.take q1 o1.2.2.2.1))))
def ref08_Clock_told_fa : FnA := ⟨.two (.reg [(0, { ids := [100] }), (1, { ids := [101] })]) (.two (.leaf) (.two (.one (.loop ⟨[1, 2, 4], ⟨(.cons (.own 0 100 0 0) (.cons (.own 0 101 0 0) (.cons (.p (.int .i64)) .nil))), [(100, false, (.vars (.cons (.p (.int .i64)) (.cons (.p (.int .i64)) (.cons (.p (.sl (.pair (.int .i64) (.int .i64)))) .nil))))), (101, false, (.vars (.cons (.p (.int .i64)) (.cons (.p (.int .i64)) (.cons (.nilp (.slice none 0 0)) .nil)))))]⟩⟩ false [(0, ⟨[1, 2, 4], ⟨(.cons (.own 0 100 0 0) (.cons (.own 0 101 0 0) (.cons (.p (.int .i64)) .nil))), [(100, false, (.vars (.cons (.p (.int .i64)) (.cons (.p (.int .i64)) (.cons (.p (.sl (.pair (.int .i64) (.int .i64)))) .nil))))), (101, false, (.vars (.cons (.p (.int .i64)) (.cons (.p (.int .i64)) (.cons (.nilp (.slice none 0 0)) .nil)))))]⟩⟩)] (.two (.two (.join ⟨[1, 2, 21], ⟨(.cons (.own 0 100 0 0) (.cons (.own 0 101 0 0) (.cons (.p .bool) .nil))), [(100, false, (.vars (.cons (.p (.int .i64)) (.cons (.p (.int .i64)) (.cons (.p (.sl (.pair (.int .i64) (.int .i64)))) .nil))))), (101, false, (.vars (.cons (.p (.int .i64)) (.cons (.p (.int .i64)) (.cons (.nilp (.slice none 0 0)) .nil)))))]⟩⟩ false [] (.leaf)) (.leaf)) (.leaf)))) (.two (.leaf) (.two (.leaf) (.leaf))))), ⟨(.cons (.p (.pair (.int .i64) (.pair (.int .i64) (.sl (.pair (.int .i64) (.int .i64)))))) .nil), []⟩, [⟨(.cons (.agg (.cons (.p (.int .i64)) (.cons (.p (.int .i64)) (.cons (.p (.sl (.pair (.int .i64) (.int .i64)))) .nil)))) (.cons (.p (.sl (.pair (.int .i64) (.int .i64)))) .nil)), []⟩], [0, 0]⟩
def ref08_Clock_told_ft (fu : Nat) : FnT := ⟨38, ⟨(.cons (.p (.pair (.int .i64) (.pair (.int .i64) (.sl (.pair (.int .i64) (.int .i64)))))) .nil), []⟩, [⟨(.cons (.agg (.cons (.p (.int .i64)) (.cons (.p (.int .i64)) (.cons (.p (.sl (.pair (.int .i64) (.int .i64)))) .nil)))) (.cons (.p (.sl (.pair (.int .i64) (.int .i64)))) .nil)), []⟩], fun t => ref08_Clock_told fu t⟩
theorem ref08_Clock_told_eq (fu : Nat) : ∀ t, evF Go.Proofs.Try.prog [] fu Go.Proofs.Try.f38 ref08_Clock_told_fa t = (ref08_Clock_told_ft fu).spec t := fun t => by kernel_rfl
theorem ref08_Clock_told_told (fu : Nat) : Told Go.Proofs.Try.prog (ref08_Clock_told_ft fu) := told_of allT_nil mixed Go.Proofs.Try.func38 (by kernel_rfl) (by kernel_rfl) (ref08_Clock_told_eq fu)

def ref08_Clock_Tick (fu : Nat) (c : (Int × (Int × List ((Int × Int))))) : Option ((Int × (Int × (List ((Int × Int)) × List ((Int × Int)))))) :=
  Option.bind (α := ((Int × (Int × (List ((Int × Int)) × (Int × Int)))))) (
    bif (decide (c.1 < 1152921504606846976)) then
      some ((IntKind.wrap .i64 (c.1 + 1)), (c.2.1, (c.2.2, (0, 0))))
    else
      some (c.1, (c.2.1, (c.2.2, (0, 0))))) fun o =>
  (ref08_Clock_told fu (o.1, (o.2.1, o.2.2.1))).bind fun r =>
  some (r.1, (r.2.1, (r.2.2.1, r.2.2.2)))
def ref08_Clock_Tick_fa : FnA := ⟨.two (.reg [(0, { ids := [100] }), (1, { ids := [101] })]) (.two (.two (.leaf) (.join ⟨[1, 2], ⟨(.cons (.own 0 100 0 0) (.cons (.own 0 101 0 0) .nil)), [(100, false, (.vars (.cons (.p (.int .i64)) (.cons (.p (.int .i64)) (.cons (.p (.sl (.pair (.int .i64) (.int .i64)))) .nil))))), (101, false, (.vars (.cons (.p (.int .i64)) (.cons (.p (.int .i64)) (.cons (.nilp (.slice none 0 0)) .nil)))))]⟩⟩ false [] (.leaf))) (.two (.reg [(1, {  })]) (.leaf))), ⟨(.cons (.p (.pair (.int .i64) (.pair (.int .i64) (.sl (.pair (.int .i64) (.int .i64)))))) .nil), []⟩, [⟨(.cons (.agg (.cons (.p (.int .i64)) (.cons (.p (.int .i64)) (.cons (.p (.sl (.pair (.int .i64) (.int .i64)))) .nil)))) (.cons (.p (.sl (.pair (.int .i64) (.int .i64)))) .nil)), []⟩], [0, 0]⟩
def ref08_Clock_Tick_ft (fu : Nat) : FnT := ⟨24, ⟨(.cons (.p (.pair (.int .i64) (.pair (.int .i64) (.sl (.pair (.int .i64) (.int .i64)))))) .nil), []⟩, [⟨(.cons (.agg (.cons (.p (.int .i64)) (.cons (.p (.int .i64)) (.cons (.p (.sl (.pair (.int .i64) (.int .i64)))) .nil)))) (.cons (.p (.sl (.pair (.int .i64) (.int .i64)))) .nil)), []⟩], fun t => ref08_Clock_Tick fu t⟩
theorem ref08_Clock_Tick_eq (fu : Nat) : ∀ t, evF Go.Proofs.Try.prog [ref08_Clock_told_ft fu] fu Go.Proofs.Try.f24 ref08_Clock_Tick_fa t = (ref08_Clock_Tick_ft fu).spec t := fun t => by kernel_rfl
theorem ref08_Clock_Tick_told (fu : Nat) : Told Go.Proofs.Try.prog (ref08_Clock_Tick_ft fu) := told_of (allT_cons (ref08_Clock_told_told fu) allT_nil) mixed Go.Proofs.Try.func24 (by kernel_rfl) (by kernel_rfl) (ref08_Clock_Tick_eq fu)

def ref08_Clock_Skip (fu : Nat) (c : (Int × (Int × List ((Int × Int))))) : Option ((Int × (Int × (List ((Int × Int)) × List ((Int × Int)))))) :=
  bif (((c.2.2.length : Nat) : Int) == 0) then
    some (c.1, (c.2.1, (c.2.2, [])))
  else
    (idx? 0 c.2.2.length).bind fun q =>
    (c.2.2)[q]?.bind fun r =>
    (ref08_Clock_told fu (r.1, (c.2.1, c.2.2))).bind fun r1 =>
    some (r1.1, (r1.2.1, (r1.2.2.1, r1.2.2.2)))
def ref08_Clock_Skip_fa : FnA := ⟨.two (.reg [(0, { ids := [100] }), (1, { ids := [101] })]) (.two (.two (.leaf) (.two (.leaf) (.leaf))) (.two (.leaf) (.two (.reg [(1, {  })]) (.leaf)))), ⟨(.cons (.p (.pair (.int .i64) (.pair (.int .i64) (.sl (.pair (.int .i64) (.int .i64)))))) .nil), []⟩, [⟨(.cons (.agg (.cons (.p (.int .i64)) (.cons (.p (.int .i64)) (.cons (.p (.sl (.pair (.int .i64) (.int .i64)))) .nil)))) (.cons (.p (.sl (.pair (.int .i64) (.int .i64)))) .nil)), []⟩], [0, 0]⟩
def ref08_Clock_Skip_ft (fu : Nat) : FnT := ⟨25, ⟨(.cons (.p (.pair (.int .i64) (.pair (.int .i64) (.sl (.pair (.int .i64) (.int .i64)))))) .nil), []⟩, [⟨(.cons (.agg (.cons (.p (.int .i64)) (.cons (.p (.int .i64)) (.cons (.p (.sl (.pair (.int .i64) (.int .i64)))) .nil)))) (.cons (.p (.sl (.pair (.int .i64) (.int .i64)))) .nil)), []⟩], fun t => ref08_Clock_Skip fu t⟩
theorem ref08_Clock_Skip_eq (fu : Nat) : ∀ t, evF Go.Proofs.Try.prog [ref08_Clock_told_ft fu] fu Go.Proofs.Try.f25 ref08_Clock_Skip_fa t = (ref08_Clock_Skip_ft fu).spec t := fun t => by kernel_rfl
theorem ref08_Clock_Skip_told (fu : Nat) : Told Go.Proofs.Try.prog (ref08_Clock_Skip_ft fu) := told_of (allT_cons (ref08_Clock_told_told fu) allT_nil) mixed Go.Proofs.Try.func25 (by kernel_rfl) (by kernel_rfl) (ref08_Clock_Skip_eq fu)

def low_SameTimers_l0 (fu : Nat) (a : List ((Int × Int))) (b : List ((Int × Int))) (i : Int) : Option (Int ⊕ (Unit ⊕ Bool)) :=
  bif (decide (i < ((a.length : Nat) : Int))) then
    (idx? i a.length).bind fun q =>
    (a)[q]?.bind fun r =>
    (idx? i b.length).bind fun q1 =>
    (b)[q1]?.bind fun r1 =>
    bif (!((r.1 == r1.1) && (r.2 == r1.2))) then
      some (.inr (.inr false))
    else
      some (.inl (IntKind.wrap .i64 (i + 1)))
  else
    some (.inr (.inl ()))
def low_SameTimers_l0_it (fu : Nat) (a : List ((Int × Int))) (b : List ((Int × Int))) (tt : Int) : Option (Unit ⊕ Bool) :=
  iter fu (fun tt => low_SameTimers_l0 fu a b tt) tt
def low_SameTimers (fu : Nat) (a : List ((Int × Int))) (b : List ((Int × Int))) : Option (Bool) :=
  bif (!(((a.length : Nat) : Int) == ((b.length : Nat) : Int))) then
    some false
  else
    (low_SameTimers_l0_it fu a b 0).bind fun o =>
    match o with
    | .inl s =>
      some true
    | .inr o1 =>
      some o1
def low_SameTimers_fa : FnA := ⟨.two (.leaf) (.two (.two (.leaf) (.two (.leaf) (.leaf))) (.two (.two (.leaf) (.one (.loop ⟨[5], ⟨(.cons (.p (.int .i64)) .nil), []⟩⟩ true [(0, ⟨[], ⟨.nil, []⟩⟩)] (.two (.two (.leaf) (.leaf)) (.two (.one (.two (.leaf) (.two (.leaf) (.leaf)))) (.leaf)))))) (.leaf))), ⟨(.cons (.p (.sl (.pair (.int .i64) (.int .i64)))) (.cons (.p (.sl (.pair (.int .i64) (.int .i64)))) .nil)), []⟩, [⟨(.cons (.p .bool) .nil), []⟩], [0]⟩
def low_SameTimers_ft (fu : Nat) : FnT := ⟨27, ⟨(.cons (.p (.sl (.pair (.int .i64) (.int .i64)))) (.cons (.p (.sl (.pair (.int .i64) (.int .i64)))) .nil)), []⟩, [⟨(.cons (.p .bool) .nil), []⟩], fun t => low_SameTimers fu t.1 t.2⟩
theorem low_SameTimers_eq (fu : Nat) : ∀ t, evF Go.Proofs.Try.prog [] fu Go.Proofs.Try.f27 low_SameTimers_fa t = (low_SameTimers_ft fu).spec t := fun t => by kernel_rfl
theorem low_SameTimers_told (fu : Nat) : Told Go.Proofs.Try.prog (low_SameTimers_ft fu) := told_of allT_nil mixed Go.Proofs.Try.func27 (by kernel_rfl) (by kernel_rfl) (low_SameTimers_eq fu)

def law08_ClockPlays_l0 (fu : Nat) (ops : List ((Int × (Int × Int)))) (i : Int) (h : Int) (h1 : Int) (h2 : List ((Int × Int))) : Option ((Int × (Int × (Int × List ((Int × Int))))) ⊕ (Unit ⊕ Bool)) :=
  Option.bind (α := ((Bool × (Int × (Int × List ((Int × Int))))))) (
    bif (decide (i < ((ops.length : Nat) : Int))) then
      some ((decide (i < 150)), (h, (h1, h2)))
    else
      some (false, (h, (h1, h2)))) fun o2 =>
  bif o2.1 then
    (idx? i ops.length).bind fun q =>
    (ops)[q]?.bind fun r5 =>
    Option.bind (α := ((Bool × (Int × (Int × (List ((Int × Int)) × (Int × (Int × Int)))))))) (
      bif (r5.1 == 1) then
        some ((r5.1 == 1), (o2.2.1, (o2.2.2.1, (o2.2.2.2, (r5.1, (r5.2.1, r5.2.2))))))
      else
        Option.bind (α := ((Bool × (Int × (Int × (List ((Int × Int)) × (Int × (Int × Int)))))))) (
          bif (r5.1 == 2) then
            some ((r5.1 == 2), (o2.2.1, (o2.2.2.1, (o2.2.2.2, (r5.1, (r5.2.1, r5.2.2))))))
          else
            Option.bind (α := ((Bool × (Int × (Int × (List ((Int × Int)) × (Int × (Int × Int)))))))) (
              bif (r5.1 == 3) then
                some ((r5.1 == 3), (o2.2.1, (o2.2.2.1, (o2.2.2.2, (r5.1, (r5.2.1, r5.2.2))))))
              else
                some ((r5.1 == 4), (o2.2.1, (o2.2.2.1, (o2.2.2.2, (r5.1, (r5.2.1, r5.2.2))))))) fun o3 =>
            some (o3.1, (o3.2.1, (o3.2.2.1, (o3.2.2.2.1, (o3.2.2.2.2.1, (o3.2.2.2.2.2.1, o3.2.2.2.2.2.2))))))) fun o4 =>
        some (o4.1, (o4.2.1, (o4.2.2.1, (o4.2.2.2.1, (o4.2.2.2.2.1, (o4.2.2.2.2.2.1, o4.2.2.2.2.2.2))))))) fun o5 =>
    Option.bind (α := ((Int × (Int × (List ((Int × Int)) × (Bool × (Bool × (Int × (Int × (List ((Int × Int)) × (Int × (Int × Int)))))))))))) (
      bif o5.1 then
        (clock_Clock_Set_n0 fu o5.2.2.2.2.2.1 o5.2.2.2.2.2.2).bind fun r6 =>
        (ref08_Clock_Set fu (o5.2.1, (o5.2.2.1, o5.2.2.2.1)) o5.2.2.2.2.2.1 o5.2.2.2.2.2.2).bind fun r7 =>
        some (r6, (r7.2.2.2, ([], (true, (true, (r7.1, (r7.2.1, (r7.2.2.1, (o5.2.2.2.2.1, (o5.2.2.2.2.2.1, o5.2.2.2.2.2.2))))))))))
      else
        Option.bind (α := ((List ((Int × Int)) × (Bool × (Bool × (Int × (Int × (List ((Int × Int)) × (Int × (Int × Int)))))))))) (
          bif (r5.1 == 5) then
            (clock_Clock_Unset_n0 fu o5.2.2.2.2.2.1).bind fun r8 =>
            (ref08_Clock_Unset fu (o5.2.1, (o5.2.2.1, o5.2.2.2.1)) o5.2.2.2.2.2.1).bind fun r9 =>
            some ([], (r8, (r9.2.2.2, (r9.1, (r9.2.1, (r9.2.2.1, (o5.2.2.2.2.1, (o5.2.2.2.2.2.1, o5.2.2.2.2.2.2))))))))
          else
            Option.bind (α := ((Bool × (Int × (Int × (List ((Int × Int)) × (Int × (Int × Int)))))))) (
              bif (r5.1 == 6) then
                some ((r5.1 == 6), (o5.2.1, (o5.2.2.1, (o5.2.2.2.1, (o5.2.2.2.2.1, (o5.2.2.2.2.2.1, o5.2.2.2.2.2.2))))))
              else
                Option.bind (α := ((Bool × (Int × (Int × (List ((Int × Int)) × (Int × (Int × Int)))))))) (
                  bif (r5.1 == 7) then
                    some ((r5.1 == 7), (o5.2.1, (o5.2.2.1, (o5.2.2.2.1, (o5.2.2.2.2.1, (o5.2.2.2.2.2.1, o5.2.2.2.2.2.2))))))
                  else
                    some ((r5.1 == 8), (o5.2.1, (o5.2.2.1, (o5.2.2.2.1, (o5.2.2.2.2.1, (o5.2.2.2.2.2.1, o5.2.2.2.2.2.2))))))) fun o6 =>
                some (o6.1, (o6.2.1, (o6.2.2.1, (o6.2.2.2.1, (o6.2.2.2.2.1, (o6.2.2.2.2.2.1, o6.2.2.2.2.2.2))))))) fun o7 =>
            Option.bind (α := ((List ((Int × Int)) × (Int × (Int × (List ((Int × Int)) × (Int × (Int × Int)))))))) (
              bif o7.1 then
                (clock_Clock_Tick_n0 fu).bind fun r10 =>
                (ref08_Clock_Tick fu (o7.2.1, (o7.2.2.1, o7.2.2.2.1))).bind fun r11 =>
                some (r11.2.2.2, (r11.1, (r11.2.1, (r11.2.2.1, (o7.2.2.2.2.1, (o7.2.2.2.2.2.1, o7.2.2.2.2.2.2))))))
              else
                Option.bind (α := ((List ((Int × Int)) × (Int × (Int × (List ((Int × Int)) × (Int × (Int × Int)))))))) (
                  bif (r5.1 == 9) then
                    (clock_Clock_Skip_n0 fu).bind fun r12 =>
                    (ref08_Clock_Skip fu (o7.2.1, (o7.2.2.1, o7.2.2.2.1))).bind fun r13 =>
                    some (r13.2.2.2, (r13.1, (r13.2.1, (r13.2.2.1, (o7.2.2.2.2.1, (o7.2.2.2.2.2.1, o7.2.2.2.2.2.2))))))
                  else
                    some ([], (o7.2.1, (o7.2.2.1, (o7.2.2.2.1, (o7.2.2.2.2.1, (o7.2.2.2.2.2.1, o7.2.2.2.2.2.2))))))) fun o8 =>
                some (o8.1, (o8.2.1, (o8.2.2.1, (o8.2.2.2.1, (o8.2.2.2.2.1, (o8.2.2.2.2.2.1, o8.2.2.2.2.2.2))))))) fun o9 =>
            some (o9.1, (true, (true, (o9.2.1, (o9.2.2.1, (o9.2.2.2.1, (o9.2.2.2.2.1, (o9.2.2.2.2.2.1, o9.2.2.2.2.2.2))))))))) fun o10 =>
        some (0, (0, (o10.1, (o10.2.1, (o10.2.2.1, (o10.2.2.2.1, (o10.2.2.2.2.1, (o10.2.2.2.2.2.1, (o10.2.2.2.2.2.2.1, (o10.2.2.2.2.2.2.2.1, o10.2.2.2.2.2.2.2.2))))))))))) fun o11 =>
    (clock_Clock_Due_n0 fu o11.2.2.2.2.2.2.2.2.2.1).bind fun r14 =>
    (ref08_Clock_Find fu (o11.2.2.2.2.2.1, (o11.2.2.2.2.2.2.1, o11.2.2.2.2.2.2.2.1)) o11.2.2.2.2.2.2.2.2.2.1).bind fun r15 =>
    (clock_Clock_Next_n0 fu).bind fun r16 =>
    Option.bind (α := ((Bool × (Int × (Int × List ((Int × Int))))))) (
      bif (!(o11.1 == o11.2.1)) then
        some (true, (o11.2.2.2.2.2.1, (o11.2.2.2.2.2.2.1, o11.2.2.2.2.2.2.2.1)))
      else
        bif (!(o11.2.2.2.1 == o11.2.2.2.2.1)) then
          some (true, (o11.2.2.2.2.2.1, (o11.2.2.2.2.2.2.1, o11.2.2.2.2.2.2.2.1)))
        else
          (low_SameTimers fu [] o11.2.2.1).bind fun r17 =>
          bif (!r17) then
            some (true, (o11.2.2.2.2.2.1, (o11.2.2.2.2.2.2.1, o11.2.2.2.2.2.2.2.1)))
          else
            (clock_Clock_Now_n0 fu).bind fun r18 =>
            bif (!(r18 == o11.2.2.2.2.2.1)) then
              some (true, (o11.2.2.2.2.2.1, (o11.2.2.2.2.2.2.1, o11.2.2.2.2.2.2.2.1)))
            else
              (clock_Clock_All_n0 fu).bind fun r19 =>
              (low_SameTimers fu [] o11.2.2.2.2.2.2.2.1).bind fun r20 =>
              bif (!r20) then
                some (true, (o11.2.2.2.2.2.1, (o11.2.2.2.2.2.2.1, o11.2.2.2.2.2.2.2.1)))
              else
                bif (!(r14.2 == (decide (r15 ≥ 0)))) then
                  some (true, (o11.2.2.2.2.2.1, (o11.2.2.2.2.2.2.1, o11.2.2.2.2.2.2.2.1)))
                else
                  bif r14.2 then
                    (idx? r15 o11.2.2.2.2.2.2.2.1.length).bind fun q1 =>
                    (o11.2.2.2.2.2.2.2.1)[q1]?.bind fun r21 =>
                    bif (!(r14.1 == r21.1)) then
                      some (true, (o11.2.2.2.2.2.1, (o11.2.2.2.2.2.2.1, o11.2.2.2.2.2.2.2.1)))
                    else
                      bif (!r14.2) then
                        bif (!(r14.1 == 0)) then
                          some (true, (o11.2.2.2.2.2.1, (o11.2.2.2.2.2.2.1, o11.2.2.2.2.2.2.2.1)))
                        else
                          bif (!(r16.2.2 == (decide (((o11.2.2.2.2.2.2.2.1.length : Nat) : Int) > 0)))) then
                            some (true, (o11.2.2.2.2.2.1, (o11.2.2.2.2.2.2.1, o11.2.2.2.2.2.2.2.1)))
                          else
                            bif r16.2.2 then
                              (idx? 0 o11.2.2.2.2.2.2.2.1.length).bind fun q2 =>
                              (o11.2.2.2.2.2.2.2.1)[q2]?.bind fun r22 =>
                              bif (!((r16.1 == r22.1) && (r16.2.1 == r22.2))) then
                                some (true, (o11.2.2.2.2.2.1, (o11.2.2.2.2.2.2.1, o11.2.2.2.2.2.2.2.1)))
                              else
                                bif (!r16.2.2) then
                                  some ((!((r16.1 == 0) && (r16.2.1 == 0))), (o11.2.2.2.2.2.1, (o11.2.2.2.2.2.2.1, o11.2.2.2.2.2.2.2.1)))
                                else
                                  some (false, (o11.2.2.2.2.2.1, (o11.2.2.2.2.2.2.1, o11.2.2.2.2.2.2.2.1)))
                            else
                              bif (!r16.2.2) then
                                some ((!((r16.1 == 0) && (r16.2.1 == 0))), (o11.2.2.2.2.2.1, (o11.2.2.2.2.2.2.1, o11.2.2.2.2.2.2.2.1)))
                              else
                                some (false, (o11.2.2.2.2.2.1, (o11.2.2.2.2.2.2.1, o11.2.2.2.2.2.2.2.1)))
                      else
                        bif (!(r16.2.2 == (decide (((o11.2.2.2.2.2.2.2.1.length : Nat) : Int) > 0)))) then
                          some (true, (o11.2.2.2.2.2.1, (o11.2.2.2.2.2.2.1, o11.2.2.2.2.2.2.2.1)))
                        else
                          bif r16.2.2 then
                            (idx? 0 o11.2.2.2.2.2.2.2.1.length).bind fun q3 =>
                            (o11.2.2.2.2.2.2.2.1)[q3]?.bind fun r23 =>
                            bif (!((r16.1 == r23.1) && (r16.2.1 == r23.2))) then
                              some (true, (o11.2.2.2.2.2.1, (o11.2.2.2.2.2.2.1, o11.2.2.2.2.2.2.2.1)))
                            else
                              bif (!r16.2.2) then
                                some ((!((r16.1 == 0) && (r16.2.1 == 0))), (o11.2.2.2.2.2.1, (o11.2.2.2.2.2.2.1, o11.2.2.2.2.2.2.2.1)))
                              else
                                some (false, (o11.2.2.2.2.2.1, (o11.2.2.2.2.2.2.1, o11.2.2.2.2.2.2.2.1)))
                          else
                            bif (!r16.2.2) then
                              some ((!((r16.1 == 0) && (r16.2.1 == 0))), (o11.2.2.2.2.2.1, (o11.2.2.2.2.2.2.1, o11.2.2.2.2.2.2.2.1)))
                            else
                              some (false, (o11.2.2.2.2.2.1, (o11.2.2.2.2.2.2.1, o11.2.2.2.2.2.2.2.1)))
                  else
                    bif (!r14.2) then
                      bif (!(r14.1 == 0)) then
                        some (true, (o11.2.2.2.2.2.1, (o11.2.2.2.2.2.2.1, o11.2.2.2.2.2.2.2.1)))
                      else
                        bif (!(r16.2.2 == (decide (((o11.2.2.2.2.2.2.2.1.length : Nat) : Int) > 0)))) then
                          some (true, (o11.2.2.2.2.2.1, (o11.2.2.2.2.2.2.1, o11.2.2.2.2.2.2.2.1)))
                        else
                          bif r16.2.2 then
                            (idx? 0 o11.2.2.2.2.2.2.2.1.length).bind fun q4 =>
                            (o11.2.2.2.2.2.2.2.1)[q4]?.bind fun r24 =>
                            bif (!((r16.1 == r24.1) && (r16.2.1 == r24.2))) then
                              some (true, (o11.2.2.2.2.2.1, (o11.2.2.2.2.2.2.1, o11.2.2.2.2.2.2.2.1)))
                            else
                              bif (!r16.2.2) then
                                some ((!((r16.1 == 0) && (r16.2.1 == 0))), (o11.2.2.2.2.2.1, (o11.2.2.2.2.2.2.1, o11.2.2.2.2.2.2.2.1)))
                              else
                                some (false, (o11.2.2.2.2.2.1, (o11.2.2.2.2.2.2.1, o11.2.2.2.2.2.2.2.1)))
                          else
                            bif (!r16.2.2) then
                              some ((!((r16.1 == 0) && (r16.2.1 == 0))), (o11.2.2.2.2.2.1, (o11.2.2.2.2.2.2.1, o11.2.2.2.2.2.2.2.1)))
                            else
                              some (false, (o11.2.2.2.2.2.1, (o11.2.2.2.2.2.2.1, o11.2.2.2.2.2.2.2.1)))
                    else
                      bif (!(r16.2.2 == (decide (((o11.2.2.2.2.2.2.2.1.length : Nat) : Int) > 0)))) then
                        some (true, (o11.2.2.2.2.2.1, (o11.2.2.2.2.2.2.1, o11.2.2.2.2.2.2.2.1)))
                      else
                        bif r16.2.2 then
                          (idx? 0 o11.2.2.2.2.2.2.2.1.length).bind fun q5 =>
                          (o11.2.2.2.2.2.2.2.1)[q5]?.bind fun r25 =>
                          bif (!((r16.1 == r25.1) && (r16.2.1 == r25.2))) then
                            some (true, (o11.2.2.2.2.2.1, (o11.2.2.2.2.2.2.1, o11.2.2.2.2.2.2.2.1)))
                          else
                            bif (!r16.2.2) then
                              some ((!((r16.1 == 0) && (r16.2.1 == 0))), (o11.2.2.2.2.2.1, (o11.2.2.2.2.2.2.1, o11.2.2.2.2.2.2.2.1)))
                            else
                              some (false, (o11.2.2.2.2.2.1, (o11.2.2.2.2.2.2.1, o11.2.2.2.2.2.2.2.1)))
                        else
                          bif (!r16.2.2) then
                            some ((!((r16.1 == 0) && (r16.2.1 == 0))), (o11.2.2.2.2.2.1, (o11.2.2.2.2.2.2.1, o11.2.2.2.2.2.2.2.1)))
                          else
                            some (false, (o11.2.2.2.2.2.1, (o11.2.2.2.2.2.2.1, o11.2.2.2.2.2.2.2.1)))) fun o12 =>
    bif o12.1 then
      some (.inr (.inr false))
    else
      some (.inl ((IntKind.wrap .i64 (i + 1)), (o12.2.1, (o12.2.2.1, o12.2.2.2))))
  else
    some (.inr (.inl ()))
def law08_ClockPlays_l0_it (fu : Nat) (ops : List ((Int × (Int × Int)))) (tt : (Int × (Int × (Int × List ((Int × Int)))))) : Option (Unit ⊕ Bool) :=
  iter fu (fun tt => law08_ClockPlays_l0 fu ops tt.1 tt.2.1 tt.2.2.1 tt.2.2.2) tt
def law08_ClockPlays_l1 (fu : Nat) (ops : List ((Int × (Int × Int)))) (i1 : Int) (h3 : Int) (h4 : Int) (h5 : (List (((Int × Int) × Nat)) × Nat)) (h6 : Int) (h7 : Int) (h8 : List ((Int × Int))) : Option ((Int × (Int × (Int × ((List (((Int × Int) × Nat)) × Nat) × (Int × (Int × List ((Int × Int)))))))) ⊕ (Unit ⊕ Bool)) :=
  Option.bind (α := ((Bool × (Int × (Int × ((List (((Int × Int) × Nat)) × Nat) × (Int × (Int × List ((Int × Int)))))))))) (
    bif (decide (i1 < ((ops.length : Nat) : Int))) then
      some ((decide (i1 < 150)), (h3, (h4, (h5, (h6, (h7, h8))))))
    else
      some (false, (h3, (h4, (h5, (h6, (h7, h8))))))) fun o17 =>
  bif o17.1 then
    (idx? i1 ops.length).bind fun q6 =>
    (ops)[q6]?.bind fun r28 =>
    Option.bind (α := ((Bool × (Int × (Int × ((List (((Int × Int) × Nat)) × Nat) × (Int × (Int × (List ((Int × Int)) × (Int × (Int × Int))))))))))) (
      bif (r28.1 == 1) then
        some ((r28.1 == 1), (o17.2.1, (o17.2.2.1, (o17.2.2.2.1, (o17.2.2.2.2.1, (o17.2.2.2.2.2.1, (o17.2.2.2.2.2.2, (r28.1, (r28.2.1, r28.2.2)))))))))
      else
        Option.bind (α := ((Bool × (Int × (Int × ((List (((Int × Int) × Nat)) × Nat) × (Int × (Int × (List ((Int × Int)) × (Int × (Int × Int))))))))))) (
          bif (r28.1 == 2) then
            some ((r28.1 == 2), (o17.2.1, (o17.2.2.1, (o17.2.2.2.1, (o17.2.2.2.2.1, (o17.2.2.2.2.2.1, (o17.2.2.2.2.2.2, (r28.1, (r28.2.1, r28.2.2)))))))))
          else
            Option.bind (α := ((Bool × (Int × (Int × ((List (((Int × Int) × Nat)) × Nat) × (Int × (Int × (List ((Int × Int)) × (Int × (Int × Int))))))))))) (
              bif (r28.1 == 3) then
                some ((r28.1 == 3), (o17.2.1, (o17.2.2.1, (o17.2.2.2.1, (o17.2.2.2.2.1, (o17.2.2.2.2.2.1, (o17.2.2.2.2.2.2, (r28.1, (r28.2.1, r28.2.2)))))))))
              else
                some ((r28.1 == 4), (o17.2.1, (o17.2.2.1, (o17.2.2.2.1, (o17.2.2.2.2.1, (o17.2.2.2.2.2.1, (o17.2.2.2.2.2.2, (r28.1, (r28.2.1, r28.2.2)))))))))) fun o18 =>
            some (o18.1, (o18.2.1, (o18.2.2.1, (o18.2.2.2.1, (o18.2.2.2.2.1, (o18.2.2.2.2.2.1, (o18.2.2.2.2.2.2.1, (o18.2.2.2.2.2.2.2.1, (o18.2.2.2.2.2.2.2.2.1, o18.2.2.2.2.2.2.2.2.2)))))))))) fun o19 =>
        some (o19.1, (o19.2.1, (o19.2.2.1, (o19.2.2.2.1, (o19.2.2.2.2.1, (o19.2.2.2.2.2.1, (o19.2.2.2.2.2.2.1, (o19.2.2.2.2.2.2.2.1, (o19.2.2.2.2.2.2.2.2.1, o19.2.2.2.2.2.2.2.2.2)))))))))) fun o20 =>
    Option.bind (α := ((Int × (Int × (List ((Int × Int)) × (List ((Int × Int)) × (Bool × (Bool × (Int × (Int × ((List (((Int × Int) × Nat)) × Nat) × (Int × (Int × (List ((Int × Int)) × (Int × (Int × Int)))))))))))))))) (
      bif o20.1 then
        (clock_Clock_Set__cm fu o20.2.2.2.2.2.2.2.2.1 o20.2.2.2.2.2.2.2.2.2 o20.2.1 o20.2.2.1 o20.2.2.2.1).bind fun r29 =>
        (ref08_Clock_Set fu (o20.2.2.2.2.1, (o20.2.2.2.2.2.1, o20.2.2.2.2.2.2.1)) o20.2.2.2.2.2.2.2.2.1 o20.2.2.2.2.2.2.2.2.2).bind fun r30 =>
        some (r29.1, (r30.2.2.2, ([], ([], (true, (true, (r29.2.1, (r29.2.2.1, (r29.2.2.2, (r30.1, (r30.2.1, (r30.2.2.1, (o20.2.2.2.2.2.2.2.1, (o20.2.2.2.2.2.2.2.2.1, o20.2.2.2.2.2.2.2.2.2))))))))))))))
      else
        Option.bind (α := ((List ((Int × Int)) × (List ((Int × Int)) × (Bool × (Bool × (Int × (Int × ((List (((Int × Int) × Nat)) × Nat) × (Int × (Int × (List ((Int × Int)) × (Int × (Int × Int)))))))))))))) (
          bif (r28.1 == 5) then
            (clock_Clock_Unset__cm fu o20.2.2.2.2.2.2.2.2.1 o20.2.1 o20.2.2.1 o20.2.2.2.1).bind fun r31 =>
            (ref08_Clock_Unset fu (o20.2.2.2.2.1, (o20.2.2.2.2.2.1, o20.2.2.2.2.2.2.1)) o20.2.2.2.2.2.2.2.2.1).bind fun r32 =>
            some ([], ([], (r31.1, (r32.2.2.2, (r31.2.1, (r31.2.2.1, (r31.2.2.2, (r32.1, (r32.2.1, (r32.2.2.1, (o20.2.2.2.2.2.2.2.1, (o20.2.2.2.2.2.2.2.2.1, o20.2.2.2.2.2.2.2.2.2))))))))))))
          else
            Option.bind (α := ((Bool × (Int × (Int × ((List (((Int × Int) × Nat)) × Nat) × (Int × (Int × (List ((Int × Int)) × (Int × (Int × Int))))))))))) (
              bif (r28.1 == 6) then
                some ((r28.1 == 6), (o20.2.1, (o20.2.2.1, (o20.2.2.2.1, (o20.2.2.2.2.1, (o20.2.2.2.2.2.1, (o20.2.2.2.2.2.2.1, (o20.2.2.2.2.2.2.2.1, (o20.2.2.2.2.2.2.2.2.1, o20.2.2.2.2.2.2.2.2.2)))))))))
              else
                Option.bind (α := ((Bool × (Int × (Int × ((List (((Int × Int) × Nat)) × Nat) × (Int × (Int × (List ((Int × Int)) × (Int × (Int × Int))))))))))) (
                  bif (r28.1 == 7) then
                    some ((r28.1 == 7), (o20.2.1, (o20.2.2.1, (o20.2.2.2.1, (o20.2.2.2.2.1, (o20.2.2.2.2.2.1, (o20.2.2.2.2.2.2.1, (o20.2.2.2.2.2.2.2.1, (o20.2.2.2.2.2.2.2.2.1, o20.2.2.2.2.2.2.2.2.2)))))))))
                  else
                    some ((r28.1 == 8), (o20.2.1, (o20.2.2.1, (o20.2.2.2.1, (o20.2.2.2.2.1, (o20.2.2.2.2.2.1, (o20.2.2.2.2.2.2.1, (o20.2.2.2.2.2.2.2.1, (o20.2.2.2.2.2.2.2.2.1, o20.2.2.2.2.2.2.2.2.2)))))))))) fun o21 =>
                some (o21.1, (o21.2.1, (o21.2.2.1, (o21.2.2.2.1, (o21.2.2.2.2.1, (o21.2.2.2.2.2.1, (o21.2.2.2.2.2.2.1, (o21.2.2.2.2.2.2.2.1, (o21.2.2.2.2.2.2.2.2.1, o21.2.2.2.2.2.2.2.2.2)))))))))) fun o22 =>
            Option.bind (α := ((List ((Int × Int)) × (List ((Int × Int)) × (Int × (Int × ((List (((Int × Int) × Nat)) × Nat) × (Int × (Int × (List ((Int × Int)) × (Int × (Int × Int)))))))))))) (
              bif o22.1 then
                (clock_Clock_Tick__cm fu o22.2.1 o22.2.2.1 o22.2.2.2.1).bind fun r33 =>
                (ref08_Clock_Tick fu (o22.2.2.2.2.1, (o22.2.2.2.2.2.1, o22.2.2.2.2.2.2.1))).bind fun r34 =>
                some (r33.1, (r34.2.2.2, (r33.2.1, (r33.2.2.1, (r33.2.2.2, (r34.1, (r34.2.1, (r34.2.2.1, (o22.2.2.2.2.2.2.2.1, (o22.2.2.2.2.2.2.2.2.1, o22.2.2.2.2.2.2.2.2.2))))))))))
              else
                Option.bind (α := ((List ((Int × Int)) × (List ((Int × Int)) × (Int × (Int × ((List (((Int × Int) × Nat)) × Nat) × (Int × (Int × (List ((Int × Int)) × (Int × (Int × Int)))))))))))) (
                  bif (r28.1 == 9) then
                    (clock_Clock_Skip__cm fu o22.2.1 o22.2.2.1 o22.2.2.2.1).bind fun r35 =>
                    (ref08_Clock_Skip fu (o22.2.2.2.2.1, (o22.2.2.2.2.2.1, o22.2.2.2.2.2.2.1))).bind fun r36 =>
                    some (r35.1, (r36.2.2.2, (r35.2.1, (r35.2.2.1, (r35.2.2.2, (r36.1, (r36.2.1, (r36.2.2.1, (o22.2.2.2.2.2.2.2.1, (o22.2.2.2.2.2.2.2.2.1, o22.2.2.2.2.2.2.2.2.2))))))))))
                  else
                    some ([], ([], (o22.2.1, (o22.2.2.1, (o22.2.2.2.1, (o22.2.2.2.2.1, (o22.2.2.2.2.2.1, (o22.2.2.2.2.2.2.1, (o22.2.2.2.2.2.2.2.1, (o22.2.2.2.2.2.2.2.2.1, o22.2.2.2.2.2.2.2.2.2))))))))))) fun o23 =>
                some (o23.1, (o23.2.1, (o23.2.2.1, (o23.2.2.2.1, (o23.2.2.2.2.1, (o23.2.2.2.2.2.1, (o23.2.2.2.2.2.2.1, (o23.2.2.2.2.2.2.2.1, (o23.2.2.2.2.2.2.2.2.1, (o23.2.2.2.2.2.2.2.2.2.1, o23.2.2.2.2.2.2.2.2.2.2))))))))))) fun o24 =>
            some (o24.1, (o24.2.1, (true, (true, (o24.2.2.1, (o24.2.2.2.1, (o24.2.2.2.2.1, (o24.2.2.2.2.2.1, (o24.2.2.2.2.2.2.1, (o24.2.2.2.2.2.2.2.1, (o24.2.2.2.2.2.2.2.2.1, (o24.2.2.2.2.2.2.2.2.2.1, o24.2.2.2.2.2.2.2.2.2.2))))))))))))) fun o25 =>
        some (0, (0, (o25.1, (o25.2.1, (o25.2.2.1, (o25.2.2.2.1, (o25.2.2.2.2.1, (o25.2.2.2.2.2.1, (o25.2.2.2.2.2.2.1, (o25.2.2.2.2.2.2.2.1, (o25.2.2.2.2.2.2.2.2.1, (o25.2.2.2.2.2.2.2.2.2.1, (o25.2.2.2.2.2.2.2.2.2.2.1, (o25.2.2.2.2.2.2.2.2.2.2.2.1, o25.2.2.2.2.2.2.2.2.2.2.2.2))))))))))))))) fun o26 =>
    (clock_Clock_Due__cm fu o26.2.2.2.2.2.2.2.2.2.2.2.2.2.1 o26.2.2.2.2.2.2.1 o26.2.2.2.2.2.2.2.1 o26.2.2.2.2.2.2.2.2.1).bind fun r37 =>
    (ref08_Clock_Find fu (o26.2.2.2.2.2.2.2.2.2.1, (o26.2.2.2.2.2.2.2.2.2.2.1, o26.2.2.2.2.2.2.2.2.2.2.2.1)) o26.2.2.2.2.2.2.2.2.2.2.2.2.2.1).bind fun r38 =>
    (clock_Clock_Next__cm fu r37.2.2.1 r37.2.2.2.1 r37.2.2.2.2).bind fun r39 =>
    Option.bind (α := ((Bool × (Int × (Int × ((List (((Int × Int) × Nat)) × Nat) × (Int × (Int × List ((Int × Int)))))))))) (
      bif (!(o26.1 == o26.2.1)) then
        some (true, (r39.2.2.2.1, (r39.2.2.2.2.1, (r39.2.2.2.2.2, (o26.2.2.2.2.2.2.2.2.2.1, (o26.2.2.2.2.2.2.2.2.2.2.1, o26.2.2.2.2.2.2.2.2.2.2.2.1))))))
      else
        bif (!(o26.2.2.2.2.1 == o26.2.2.2.2.2.1)) then
          some (true, (r39.2.2.2.1, (r39.2.2.2.2.1, (r39.2.2.2.2.2, (o26.2.2.2.2.2.2.2.2.2.1, (o26.2.2.2.2.2.2.2.2.2.2.1, o26.2.2.2.2.2.2.2.2.2.2.2.1))))))
        else
          (low_SameTimers fu o26.2.2.1 o26.2.2.2.1).bind fun r40 =>
          bif (!r40) then
            some (true, (r39.2.2.2.1, (r39.2.2.2.2.1, (r39.2.2.2.2.2, (o26.2.2.2.2.2.2.2.2.2.1, (o26.2.2.2.2.2.2.2.2.2.2.1, o26.2.2.2.2.2.2.2.2.2.2.2.1))))))
          else
            (clock_Clock_Now__cm fu r39.2.2.2.1 r39.2.2.2.2.1 r39.2.2.2.2.2).bind fun r41 =>
            bif (!(r41.1 == o26.2.2.2.2.2.2.2.2.2.1)) then
              some (true, (r41.2.1, (r41.2.2.1, (r41.2.2.2, (o26.2.2.2.2.2.2.2.2.2.1, (o26.2.2.2.2.2.2.2.2.2.2.1, o26.2.2.2.2.2.2.2.2.2.2.2.1))))))
            else
              (clock_Clock_All__cm fu r41.2.1 r41.2.2.1 r41.2.2.2).bind fun r42 =>
              (low_SameTimers fu r42.1 o26.2.2.2.2.2.2.2.2.2.2.2.1).bind fun r43 =>
              bif (!r43) then
                some (true, (r42.2.1, (r42.2.2.1, (r42.2.2.2, (o26.2.2.2.2.2.2.2.2.2.1, (o26.2.2.2.2.2.2.2.2.2.2.1, o26.2.2.2.2.2.2.2.2.2.2.2.1))))))
              else
                bif (!(r37.2.1 == (decide (r38 ≥ 0)))) then
                  some (true, (r42.2.1, (r42.2.2.1, (r42.2.2.2, (o26.2.2.2.2.2.2.2.2.2.1, (o26.2.2.2.2.2.2.2.2.2.2.1, o26.2.2.2.2.2.2.2.2.2.2.2.1))))))
                else
                  bif r37.2.1 then
                    (idx? r38 o26.2.2.2.2.2.2.2.2.2.2.2.1.length).bind fun q7 =>
                    (o26.2.2.2.2.2.2.2.2.2.2.2.1)[q7]?.bind fun r44 =>
                    bif (!(r37.1 == r44.1)) then
                      some (true, (r42.2.1, (r42.2.2.1, (r42.2.2.2, (o26.2.2.2.2.2.2.2.2.2.1, (o26.2.2.2.2.2.2.2.2.2.2.1, o26.2.2.2.2.2.2.2.2.2.2.2.1))))))
                    else
                      bif (!r37.2.1) then
                        bif (!(r37.1 == 0)) then
                          some (true, (r42.2.1, (r42.2.2.1, (r42.2.2.2, (o26.2.2.2.2.2.2.2.2.2.1, (o26.2.2.2.2.2.2.2.2.2.2.1, o26.2.2.2.2.2.2.2.2.2.2.2.1))))))
                        else
                          bif (!(r39.2.2.1 == (decide (((o26.2.2.2.2.2.2.2.2.2.2.2.1.length : Nat) : Int) > 0)))) then
                            some (true, (r42.2.1, (r42.2.2.1, (r42.2.2.2, (o26.2.2.2.2.2.2.2.2.2.1, (o26.2.2.2.2.2.2.2.2.2.2.1, o26.2.2.2.2.2.2.2.2.2.2.2.1))))))
                          else
                            bif r39.2.2.1 then
                              (idx? 0 o26.2.2.2.2.2.2.2.2.2.2.2.1.length).bind fun q8 =>
                              (o26.2.2.2.2.2.2.2.2.2.2.2.1)[q8]?.bind fun r45 =>
                              bif (!((r39.1 == r45.1) && (r39.2.1 == r45.2))) then
                                some (true, (r42.2.1, (r42.2.2.1, (r42.2.2.2, (o26.2.2.2.2.2.2.2.2.2.1, (o26.2.2.2.2.2.2.2.2.2.2.1, o26.2.2.2.2.2.2.2.2.2.2.2.1))))))
                              else
                                bif (!r39.2.2.1) then
                                  some ((!((r39.1 == 0) && (r39.2.1 == 0))), (r42.2.1, (r42.2.2.1, (r42.2.2.2, (o26.2.2.2.2.2.2.2.2.2.1, (o26.2.2.2.2.2.2.2.2.2.2.1, o26.2.2.2.2.2.2.2.2.2.2.2.1))))))
                                else
                                  some (false, (r42.2.1, (r42.2.2.1, (r42.2.2.2, (o26.2.2.2.2.2.2.2.2.2.1, (o26.2.2.2.2.2.2.2.2.2.2.1, o26.2.2.2.2.2.2.2.2.2.2.2.1))))))
                            else
                              bif (!r39.2.2.1) then
                                some ((!((r39.1 == 0) && (r39.2.1 == 0))), (r42.2.1, (r42.2.2.1, (r42.2.2.2, (o26.2.2.2.2.2.2.2.2.2.1, (o26.2.2.2.2.2.2.2.2.2.2.1, o26.2.2.2.2.2.2.2.2.2.2.2.1))))))
                              else
                                some (false, (r42.2.1, (r42.2.2.1, (r42.2.2.2, (o26.2.2.2.2.2.2.2.2.2.1, (o26.2.2.2.2.2.2.2.2.2.2.1, o26.2.2.2.2.2.2.2.2.2.2.2.1))))))
                      else
                        bif (!(r39.2.2.1 == (decide (((o26.2.2.2.2.2.2.2.2.2.2.2.1.length : Nat) : Int) > 0)))) then
                          some (true, (r42.2.1, (r42.2.2.1, (r42.2.2.2, (o26.2.2.2.2.2.2.2.2.2.1, (o26.2.2.2.2.2.2.2.2.2.2.1, o26.2.2.2.2.2.2.2.2.2.2.2.1))))))
                        else
                          bif r39.2.2.1 then
                            (idx? 0 o26.2.2.2.2.2.2.2.2.2.2.2.1.length).bind fun q9 =>
                            (o26.2.2.2.2.2.2.2.2.2.2.2.1)[q9]?.bind fun r46 =>
                            bif (!((r39.1 == r46.1) && (r39.2.1 == r46.2))) then
                              some (true, (r42.2.1, (r42.2.2.1, (r42.2.2.2, (o26.2.2.2.2.2.2.2.2.2.1, (o26.2.2.2.2.2.2.2.2.2.2.1, o26.2.2.2.2.2.2.2.2.2.2.2.1))))))
                            else
                              bif (!r39.2.2.1) then
                                some ((!((r39.1 == 0) && (r39.2.1 == 0))), (r42.2.1, (r42.2.2.1, (r42.2.2.2, (o26.2.2.2.2.2.2.2.2.2.1, (o26.2.2.2.2.2.2.2.2.2.2.1, o26.2.2.2.2.2.2.2.2.2.2.2.1))))))
                              else
                                some (false, (r42.2.1, (r42.2.2.1, (r42.2.2.2, (o26.2.2.2.2.2.2.2.2.2.1, (o26.2.2.2.2.2.2.2.2.2.2.1, o26.2.2.2.2.2.2.2.2.2.2.2.1))))))
                          else
                            bif (!r39.2.2.1) then
                              some ((!((r39.1 == 0) && (r39.2.1 == 0))), (r42.2.1, (r42.2.2.1, (r42.2.2.2, (o26.2.2.2.2.2.2.2.2.2.1, (o26.2.2.2.2.2.2.2.2.2.2.1, o26.2.2.2.2.2.2.2.2.2.2.2.1))))))
                            else
                              some (false, (r42.2.1, (r42.2.2.1, (r42.2.2.2, (o26.2.2.2.2.2.2.2.2.2.1, (o26.2.2.2.2.2.2.2.2.2.2.1, o26.2.2.2.2.2.2.2.2.2.2.2.1))))))
                  else
                    bif (!r37.2.1) then
                      bif (!(r37.1 == 0)) then
                        some (true, (r42.2.1, (r42.2.2.1, (r42.2.2.2, (o26.2.2.2.2.2.2.2.2.2.1, (o26.2.2.2.2.2.2.2.2.2.2.1, o26.2.2.2.2.2.2.2.2.2.2.2.1))))))
                      else
                        bif (!(r39.2.2.1 == (decide (((o26.2.2.2.2.2.2.2.2.2.2.2.1.length : Nat) : Int) > 0)))) then
                          some (true, (r42.2.1, (r42.2.2.1, (r42.2.2.2, (o26.2.2.2.2.2.2.2.2.2.1, (o26.2.2.2.2.2.2.2.2.2.2.1, o26.2.2.2.2.2.2.2.2.2.2.2.1))))))
                        else
                          bif r39.2.2.1 then
                            (idx? 0 o26.2.2.2.2.2.2.2.2.2.2.2.1.length).bind fun q10 =>
                            (o26.2.2.2.2.2.2.2.2.2.2.2.1)[q10]?.bind fun r47 =>
                            bif (!((r39.1 == r47.1) && (r39.2.1 == r47.2))) then
                              some (true, (r42.2.1, (r42.2.2.1, (r42.2.2.2, (o26.2.2.2.2.2.2.2.2.2.1, (o26.2.2.2.2.2.2.2.2.2.2.1, o26.2.2.2.2.2.2.2.2.2.2.2.1))))))
                            else
                              bif (!r39.2.2.1) then
                                some ((!((r39.1 == 0) && (r39.2.1 == 0))), (r42.2.1, (r42.2.2.1, (r42.2.2.2, (o26.2.2.2.2.2.2.2.2.2.1, (o26.2.2.2.2.2.2.2.2.2.2.1, o26.2.2.2.2.2.2.2.2.2.2.2.1))))))
                              else
                                some (false, (r42.2.1, (r42.2.2.1, (r42.2.2.2, (o26.2.2.2.2.2.2.2.2.2.1, (o26.2.2.2.2.2.2.2.2.2.2.1, o26.2.2.2.2.2.2.2.2.2.2.2.1))))))
                          else
                            bif (!r39.2.2.1) then
                              some ((!((r39.1 == 0) && (r39.2.1 == 0))), (r42.2.1, (r42.2.2.1, (r42.2.2.2, (o26.2.2.2.2.2.2.2.2.2.1, (o26.2.2.2.2.2.2.2.2.2.2.1, o26.2.2.2.2.2.2.2.2.2.2.2.1))))))
                            else
                              some (false, (r42.2.1, (r42.2.2.1, (r42.2.2.2, (o26.2.2.2.2.2.2.2.2.2.1, (o26.2.2.2.2.2.2.2.2.2.2.1, o26.2.2.2.2.2.2.2.2.2.2.2.1))))))
                    else
                      bif (!(r39.2.2.1 == (decide (((o26.2.2.2.2.2.2.2.2.2.2.2.1.length : Nat) : Int) > 0)))) then
                        some (true, (r42.2.1, (r42.2.2.1, (r42.2.2.2, (o26.2.2.2.2.2.2.2.2.2.1, (o26.2.2.2.2.2.2.2.2.2.2.1, o26.2.2.2.2.2.2.2.2.2.2.2.1))))))
                      else
                        bif r39.2.2.1 then
                          (idx? 0 o26.2.2.2.2.2.2.2.2.2.2.2.1.length).bind fun q11 =>
                          (o26.2.2.2.2.2.2.2.2.2.2.2.1)[q11]?.bind fun r48 =>
                          bif (!((r39.1 == r48.1) && (r39.2.1 == r48.2))) then
                            some (true, (r42.2.1, (r42.2.2.1, (r42.2.2.2, (o26.2.2.2.2.2.2.2.2.2.1, (o26.2.2.2.2.2.2.2.2.2.2.1, o26.2.2.2.2.2.2.2.2.2.2.2.1))))))
                          else
                            bif (!r39.2.2.1) then
                              some ((!((r39.1 == 0) && (r39.2.1 == 0))), (r42.2.1, (r42.2.2.1, (r42.2.2.2, (o26.2.2.2.2.2.2.2.2.2.1, (o26.2.2.2.2.2.2.2.2.2.2.1, o26.2.2.2.2.2.2.2.2.2.2.2.1))))))
                            else
                              some (false, (r42.2.1, (r42.2.2.1, (r42.2.2.2, (o26.2.2.2.2.2.2.2.2.2.1, (o26.2.2.2.2.2.2.2.2.2.2.1, o26.2.2.2.2.2.2.2.2.2.2.2.1))))))
                        else
                          bif (!r39.2.2.1) then
                            some ((!((r39.1 == 0) && (r39.2.1 == 0))), (r42.2.1, (r42.2.2.1, (r42.2.2.2, (o26.2.2.2.2.2.2.2.2.2.1, (o26.2.2.2.2.2.2.2.2.2.2.1, o26.2.2.2.2.2.2.2.2.2.2.2.1))))))
                          else
                            some (false, (r42.2.1, (r42.2.2.1, (r42.2.2.2, (o26.2.2.2.2.2.2.2.2.2.1, (o26.2.2.2.2.2.2.2.2.2.2.1, o26.2.2.2.2.2.2.2.2.2.2.2.1))))))) fun o27 =>
    bif o27.1 then
      some (.inr (.inr false))
    else
      some (.inl ((IntKind.wrap .i64 (i1 + 1)), (o27.2.1, (o27.2.2.1, (o27.2.2.2.1, (o27.2.2.2.2.1, (o27.2.2.2.2.2.1, o27.2.2.2.2.2.2)))))))
  else
    some (.inr (.inl ()))
def law08_ClockPlays_l1_it (fu : Nat) (ops : List ((Int × (Int × Int)))) (tt : (Int × (Int × (Int × ((List (((Int × Int) × Nat)) × Nat) × (Int × (Int × List ((Int × Int))))))))) : Option (Unit ⊕ Bool) :=
  iter fu (fun tt => law08_ClockPlays_l1 fu ops tt.1 tt.2.1 tt.2.2.1 tt.2.2.2.1 tt.2.2.2.2.1 tt.2.2.2.2.2.1 tt.2.2.2.2.2.2) tt
def law08_ClockPlays (fu : Nat) (most : Int) (ops : List ((Int × (Int × Int)))) : Option (Bool) :=
  (clock_New fu most).bind fun r =>
  match r with
  | .inl r1 =>
    (ref08_New fu most).bind fun r3 =>
    Option.bind (α := ((Bool × (Int × Int)))) (
      bif (!(r1 == r3.2.2)) then
        some (true, (r3.1, r3.2.1))
      else
        some ((!(r1 == 0)), (r3.1, r3.2.1))) fun o =>
    bif o.1 then
      Option.bind (α := (Bool)) (
        bif (r1 == r3.2.2) then
          (law08_awake fu).bind fun r4 =>
          some r4
        else
          some false) fun o1 =>
      some o1
    else
      (law08_ClockPlays_l0_it fu ops (0, (o.2.1, (o.2.2, [])))).bind fun o13 =>
      match o13 with
      | .inl s =>
        (law08_awake fu).bind fun r26 =>
        some r26
      | .inr o14 =>
        some o14
  | .inr r2 =>
    (ref08_New fu most).bind fun r27 =>
    Option.bind (α := ((Bool × (Int × (Int × ((List (((Int × Int) × Nat)) × Nat) × (Int × Int))))))) (
      bif (!(r2.1 == r27.2.2)) then
        some (true, (r2.2.1, (r2.2.2.1, (r2.2.2.2, (r27.1, r27.2.1)))))
      else
        some ((!(r2.1 == 0)), (r2.2.1, (r2.2.2.1, (r2.2.2.2, (r27.1, r27.2.1)))))) fun o15 =>
    bif o15.1 then
      Option.bind (α := (Bool)) (
        bif (r2.1 == r27.2.2) then
          some false
        else
          some false) fun o16 =>
      some o16
    else
      (law08_ClockPlays_l1_it fu ops (0, (o15.2.1, (o15.2.2.1, (o15.2.2.2.1, (o15.2.2.2.2.1, (o15.2.2.2.2.2, []))))))).bind fun o28 =>
      match o28 with
      | .inl s1 =>
        (law08_awake fu).bind fun r49 =>
        some r49
      | .inr o29 =>
        some o29
def law08_ClockPlays_fa : FnA := ⟨.two (.leaf) (.two (.reg [(1, { ids := [100, 101] })]) (.sel (.slot 5 (.nilp (.pointer none))) (.two (.reg [(1, { fn := 1 }), (5, { ids := [103] })]) (.two (.two (.join ⟨[7, 38], ⟨(.cons (.own 0 103 0 0) (.cons (.p .bool) .nil)), [(103, false, (.vars (.cons (.p (.int .i64)) (.cons (.p (.int .i64)) (.cons (.nilp (.slice none 0 0)) .nil)))))]⟩⟩ false [] (.leaf)) (.two (.two (.join ⟨[4], ⟨(.cons (.p .bool) .nil), []⟩⟩ false [] (.reg [(8, { fn := 2 })])) (.leaf)) (.leaf))) (.two (.two (.leaf) (.one (.loop ⟨[7, 9], ⟨(.cons (.own 0 103 0 0) (.cons (.p (.int .i64)) .nil)), [(103, false, (.vars (.cons (.p (.int .i64)) (.cons (.p (.int .i64)) (.cons (.p (.sl (.pair (.int .i64) (.int .i64)))) .nil)))))]⟩⟩ true [(0, ⟨[], ⟨.nil, []⟩⟩)] (.two (.two (.join ⟨[7, 56], ⟨(.cons (.own 0 103 0 0) (.cons (.p .bool) .nil)), [(103, false, (.vars (.cons (.p (.int .i64)) (.cons (.p (.int .i64)) (.cons (.p (.sl (.pair (.int .i64) (.int .i64)))) .nil)))))]⟩⟩ false [] (.leaf)) (.leaf)) (.two (.one (.two (.reg [(4, { ids := [104] })]) (.two (.leaf) (.two (.leaf) (.two (.leaf) (.two (.two (.leaf) (.one (.two (.two (.leaf) (.join ⟨[7, 10, 65], ⟨(.cons (.own 0 103 0 0) (.cons (.own 0 104 0 0) (.cons (.p .bool) .nil))), [(103, false, (.vars (.cons (.p (.int .i64)) (.cons (.p (.int .i64)) (.cons (.p (.sl (.pair (.int .i64) (.int .i64)))) .nil))))), (104, false, (.vars (.cons (.p (.int .i64)) (.cons (.p (.int .i64)) (.cons (.p (.int .i64)) .nil)))))]⟩⟩ false [] (.two (.leaf) (.two (.leaf) (.join ⟨[7, 10, 65], ⟨(.cons (.own 0 103 0 0) (.cons (.own 0 104 0 0) (.cons (.p .bool) .nil))), [(103, false, (.vars (.cons (.p (.int .i64)) (.cons (.p (.int .i64)) (.cons (.p (.sl (.pair (.int .i64) (.int .i64)))) .nil))))), (104, false, (.vars (.cons (.p (.int .i64)) (.cons (.p (.int .i64)) (.cons (.p (.int .i64)) .nil)))))]⟩⟩ false [] (.two (.leaf) (.two (.leaf) (.join ⟨[7, 10, 65], ⟨(.cons (.own 0 103 0 0) (.cons (.own 0 104 0 0) (.cons (.p .bool) .nil))), [(103, false, (.vars (.cons (.p (.int .i64)) (.cons (.p (.int .i64)) (.cons (.p (.sl (.pair (.int .i64) (.int .i64)))) .nil))))), (104, false, (.vars (.cons (.p (.int .i64)) (.cons (.p (.int .i64)) (.cons (.p (.int .i64)) .nil)))))]⟩⟩ false [] (.leaf))))))))) (.join ⟨[7, 10, 11, 12, 13, 14, 15, 16], ⟨(.cons (.own 0 103 0 0) (.cons (.own 0 104 0 0) (.cons (.p (.int .i64)) (.cons (.p (.int .i64)) (.cons (.nilp (.slice none 0 0)) (.cons (.p (.sl (.pair (.int .i64) (.int .i64)))) (.cons (.p .bool) (.cons (.p .bool) .nil)))))))), [(103, false, (.vars (.cons (.p (.int .i64)) (.cons (.p (.int .i64)) (.cons (.p (.sl (.pair (.int .i64) (.int .i64)))) .nil))))), (104, false, (.vars (.cons (.p (.int .i64)) (.cons (.p (.int .i64)) (.cons (.p (.int .i64)) .nil)))))]⟩⟩ false [] (.two (.two (.reg [(5, { fn := 3 })]) (.reg [(5, { fn := 4 })])) (.two (.leaf) (.join ⟨[7, 10, 13, 14, 15, 16], ⟨(.cons (.own 0 103 0 0) (.cons (.own 0 104 0 0) (.cons (.nilp (.slice none 0 0)) (.cons (.p (.sl (.pair (.int .i64) (.int .i64)))) (.cons (.p .bool) (.cons (.p .bool) .nil)))))), [(103, false, (.vars (.cons (.p (.int .i64)) (.cons (.p (.int .i64)) (.cons (.p (.sl (.pair (.int .i64) (.int .i64)))) .nil))))), (104, false, (.vars (.cons (.p (.int .i64)) (.cons (.p (.int .i64)) (.cons (.p (.int .i64)) .nil)))))]⟩⟩ false [] (.two (.two (.reg [(3, { fn := 5 })]) (.reg [(3, { fn := 6 })])) (.two (.two (.leaf) (.join ⟨[7, 10, 98], ⟨(.cons (.own 0 103 0 0) (.cons (.own 0 104 0 0) (.cons (.p .bool) .nil))), [(103, false, (.vars (.cons (.p (.int .i64)) (.cons (.p (.int .i64)) (.cons (.p (.sl (.pair (.int .i64) (.int .i64)))) .nil))))), (104, false, (.vars (.cons (.p (.int .i64)) (.cons (.p (.int .i64)) (.cons (.p (.int .i64)) .nil)))))]⟩⟩ false [] (.two (.leaf) (.two (.leaf) (.join ⟨[7, 10, 98], ⟨(.cons (.own 0 103 0 0) (.cons (.own 0 104 0 0) (.cons (.p .bool) .nil))), [(103, false, (.vars (.cons (.p (.int .i64)) (.cons (.p (.int .i64)) (.cons (.p (.sl (.pair (.int .i64) (.int .i64)))) .nil))))), (104, false, (.vars (.cons (.p (.int .i64)) (.cons (.p (.int .i64)) (.cons (.p (.int .i64)) .nil)))))]⟩⟩ false [] (.leaf)))))) (.join ⟨[7, 10, 13, 14], ⟨(.cons (.own 0 103 0 0) (.cons (.own 0 104 0 0) (.cons (.nilp (.slice none 0 0)) (.cons (.p (.sl (.pair (.int .i64) (.int .i64)))) .nil)))), [(103, false, (.vars (.cons (.p (.int .i64)) (.cons (.p (.int .i64)) (.cons (.p (.sl (.pair (.int .i64) (.int .i64)))) .nil))))), (104, false, (.vars (.cons (.p (.int .i64)) (.cons (.p (.int .i64)) (.cons (.p (.int .i64)) .nil)))))]⟩⟩ false [] (.two (.two (.reg [(1, { fn := 7 })]) (.reg [(1, { fn := 8 })])) (.two (.leaf) (.join ⟨[7, 10, 13, 14], ⟨(.cons (.own 0 103 0 0) (.cons (.own 0 104 0 0) (.cons (.nilp (.slice none 0 0)) (.cons (.p (.sl (.pair (.int .i64) (.int .i64)))) .nil)))), [(103, false, (.vars (.cons (.p (.int .i64)) (.cons (.p (.int .i64)) (.cons (.p (.sl (.pair (.int .i64) (.int .i64)))) .nil))))), (104, false, (.vars (.cons (.p (.int .i64)) (.cons (.p (.int .i64)) (.cons (.p (.int .i64)) .nil)))))]⟩⟩ false [] (.two (.two (.reg [(1, { fn := 9 })]) (.reg [(1, { fn := 10 })])) (.leaf))))))))))))))) (.two (.reg [(3, { fn := 11 })]) (.two (.reg [(3, { fn := 12 })]) (.two (.reg [(1, { fn := 13 }), (5, { ids := [105] })]) (.two (.join ⟨[7, 217], ⟨(.cons (.own 0 103 0 0) (.cons (.p .bool) .nil)), [(103, false, (.vars (.cons (.p (.int .i64)) (.cons (.p (.int .i64)) (.cons (.p (.sl (.pair (.int .i64) (.int .i64)))) .nil)))))]⟩⟩ false [] (.reg [(11, { fn := 14 }), (16, { fn := 15 }), (23, { fn := 16 }), (26, { fn := 14 })])) (.two (.leaf) (.leaf)))))))))))) (.leaf)))))) (.two (.reg [(0, { fn := 2 })]) (.leaf))))) (.two (.reg [(1, { fn := 1 }), (5, { ids := [103] })]) (.two (.two (.join ⟨[5, 7, 38], ⟨(.cons (.own 0 100 0 0) (.cons (.own 0 103 0 0) (.cons (.p .bool) .nil))), [(100, false, (.vars (.cons (.p (.int .i64)) (.cons (.mp 101) (.cons (.p (.int .i64)) .nil))))), (101, false, (.map (.int .i64) (.int .i64))), (103, false, (.vars (.cons (.p (.int .i64)) (.cons (.p (.int .i64)) (.cons (.nilp (.slice none 0 0)) .nil)))))]⟩⟩ false [] (.leaf)) (.two (.two (.join ⟨[4], ⟨(.cons (.p .bool) .nil), []⟩⟩ false [] (.leaf)) (.leaf)) (.leaf))) (.two (.two (.leaf) (.one (.loop ⟨[5, 7, 9], ⟨(.cons (.own 0 100 0 0) (.cons (.own 0 103 0 0) (.cons (.p (.int .i64)) .nil))), [(100, false, (.vars (.cons (.p (.int .i64)) (.cons (.mp 101) (.cons (.p (.int .i64)) .nil))))), (101, false, (.map (.int .i64) (.int .i64))), (103, false, (.vars (.cons (.p (.int .i64)) (.cons (.p (.int .i64)) (.cons (.p (.sl (.pair (.int .i64) (.int .i64)))) .nil)))))]⟩⟩ true [(0, ⟨[], ⟨.nil, []⟩⟩)] (.two (.two (.join ⟨[5, 7, 56], ⟨(.cons (.own 0 100 0 0) (.cons (.own 0 103 0 0) (.cons (.p .bool) .nil))), [(100, false, (.vars (.cons (.p (.int .i64)) (.cons (.mp 101) (.cons (.p (.int .i64)) .nil))))), (101, false, (.map (.int .i64) (.int .i64))), (103, false, (.vars (.cons (.p (.int .i64)) (.cons (.p (.int .i64)) (.cons (.p (.sl (.pair (.int .i64) (.int .i64)))) .nil)))))]⟩⟩ false [] (.leaf)) (.leaf)) (.two (.one (.two (.reg [(4, { ids := [104] })]) (.two (.leaf) (.two (.leaf) (.two (.leaf) (.two (.two (.leaf) (.one (.two (.two (.leaf) (.join ⟨[5, 7, 10, 65], ⟨(.cons (.own 0 100 0 0) (.cons (.own 0 103 0 0) (.cons (.own 0 104 0 0) (.cons (.p .bool) .nil)))), [(100, false, (.vars (.cons (.p (.int .i64)) (.cons (.mp 101) (.cons (.p (.int .i64)) .nil))))), (101, false, (.map (.int .i64) (.int .i64))), (103, false, (.vars (.cons (.p (.int .i64)) (.cons (.p (.int .i64)) (.cons (.p (.sl (.pair (.int .i64) (.int .i64)))) .nil))))), (104, false, (.vars (.cons (.p (.int .i64)) (.cons (.p (.int .i64)) (.cons (.p (.int .i64)) .nil)))))]⟩⟩ false [] (.two (.leaf) (.two (.leaf) (.join ⟨[5, 7, 10, 65], ⟨(.cons (.own 0 100 0 0) (.cons (.own 0 103 0 0) (.cons (.own 0 104 0 0) (.cons (.p .bool) .nil)))), [(100, false, (.vars (.cons (.p (.int .i64)) (.cons (.mp 101) (.cons (.p (.int .i64)) .nil))))), (101, false, (.map (.int .i64) (.int .i64))), (103, false, (.vars (.cons (.p (.int .i64)) (.cons (.p (.int .i64)) (.cons (.p (.sl (.pair (.int .i64) (.int .i64)))) .nil))))), (104, false, (.vars (.cons (.p (.int .i64)) (.cons (.p (.int .i64)) (.cons (.p (.int .i64)) .nil)))))]⟩⟩ false [] (.two (.leaf) (.two (.leaf) (.join ⟨[5, 7, 10, 65], ⟨(.cons (.own 0 100 0 0) (.cons (.own 0 103 0 0) (.cons (.own 0 104 0 0) (.cons (.p .bool) .nil)))), [(100, false, (.vars (.cons (.p (.int .i64)) (.cons (.mp 101) (.cons (.p (.int .i64)) .nil))))), (101, false, (.map (.int .i64) (.int .i64))), (103, false, (.vars (.cons (.p (.int .i64)) (.cons (.p (.int .i64)) (.cons (.p (.sl (.pair (.int .i64) (.int .i64)))) .nil))))), (104, false, (.vars (.cons (.p (.int .i64)) (.cons (.p (.int .i64)) (.cons (.p (.int .i64)) .nil)))))]⟩⟩ false [] (.leaf))))))))) (.join ⟨[5, 7, 10, 11, 12, 13, 14, 15, 16], ⟨(.cons (.own 0 100 0 0) (.cons (.own 0 103 0 0) (.cons (.own 0 104 0 0) (.cons (.p (.int .i64)) (.cons (.p (.int .i64)) (.cons (.p (.sl (.pair (.int .i64) (.int .i64)))) (.cons (.p (.sl (.pair (.int .i64) (.int .i64)))) (.cons (.p .bool) (.cons (.p .bool) .nil))))))))), [(100, false, (.vars (.cons (.p (.int .i64)) (.cons (.mp 101) (.cons (.p (.int .i64)) .nil))))), (101, false, (.map (.int .i64) (.int .i64))), (103, false, (.vars (.cons (.p (.int .i64)) (.cons (.p (.int .i64)) (.cons (.p (.sl (.pair (.int .i64) (.int .i64)))) .nil))))), (104, false, (.vars (.cons (.p (.int .i64)) (.cons (.p (.int .i64)) (.cons (.p (.int .i64)) .nil)))))]⟩⟩ false [] (.two (.two (.reg [(5, { sh := [100, 101], fn := 17 })]) (.reg [(5, { fn := 4 })])) (.two (.leaf) (.join ⟨[5, 7, 10, 13, 14, 15, 16], ⟨(.cons (.own 0 100 0 0) (.cons (.own 0 103 0 0) (.cons (.own 0 104 0 0) (.cons (.p (.sl (.pair (.int .i64) (.int .i64)))) (.cons (.p (.sl (.pair (.int .i64) (.int .i64)))) (.cons (.p .bool) (.cons (.p .bool) .nil))))))), [(100, false, (.vars (.cons (.p (.int .i64)) (.cons (.mp 101) (.cons (.p (.int .i64)) .nil))))), (101, false, (.map (.int .i64) (.int .i64))), (103, false, (.vars (.cons (.p (.int .i64)) (.cons (.p (.int .i64)) (.cons (.p (.sl (.pair (.int .i64) (.int .i64)))) .nil))))), (104, false, (.vars (.cons (.p (.int .i64)) (.cons (.p (.int .i64)) (.cons (.p (.int .i64)) .nil)))))]⟩⟩ false [] (.two (.two (.reg [(3, { sh := [100, 101], fn := 18 })]) (.reg [(3, { fn := 6 })])) (.two (.two (.leaf) (.join ⟨[5, 7, 10, 98], ⟨(.cons (.own 0 100 0 0) (.cons (.own 0 103 0 0) (.cons (.own 0 104 0 0) (.cons (.p .bool) .nil)))), [(100, false, (.vars (.cons (.p (.int .i64)) (.cons (.mp 101) (.cons (.p (.int .i64)) .nil))))), (101, false, (.map (.int .i64) (.int .i64))), (103, false, (.vars (.cons (.p (.int .i64)) (.cons (.p (.int .i64)) (.cons (.p (.sl (.pair (.int .i64) (.int .i64)))) .nil))))), (104, false, (.vars (.cons (.p (.int .i64)) (.cons (.p (.int .i64)) (.cons (.p (.int .i64)) .nil)))))]⟩⟩ false [] (.two (.leaf) (.two (.leaf) (.join ⟨[5, 7, 10, 98], ⟨(.cons (.own 0 100 0 0) (.cons (.own 0 103 0 0) (.cons (.own 0 104 0 0) (.cons (.p .bool) .nil)))), [(100, false, (.vars (.cons (.p (.int .i64)) (.cons (.mp 101) (.cons (.p (.int .i64)) .nil))))), (101, false, (.map (.int .i64) (.int .i64))), (103, false, (.vars (.cons (.p (.int .i64)) (.cons (.p (.int .i64)) (.cons (.p (.sl (.pair (.int .i64) (.int .i64)))) .nil))))), (104, false, (.vars (.cons (.p (.int .i64)) (.cons (.p (.int .i64)) (.cons (.p (.int .i64)) .nil)))))]⟩⟩ false [] (.leaf)))))) (.join ⟨[5, 7, 10, 13, 14], ⟨(.cons (.own 0 100 0 0) (.cons (.own 0 103 0 0) (.cons (.own 0 104 0 0) (.cons (.p (.sl (.pair (.int .i64) (.int .i64)))) (.cons (.p (.sl (.pair (.int .i64) (.int .i64)))) .nil))))), [(100, false, (.vars (.cons (.p (.int .i64)) (.cons (.mp 101) (.cons (.p (.int .i64)) .nil))))), (101, false, (.map (.int .i64) (.int .i64))), (103, false, (.vars (.cons (.p (.int .i64)) (.cons (.p (.int .i64)) (.cons (.p (.sl (.pair (.int .i64) (.int .i64)))) .nil))))), (104, false, (.vars (.cons (.p (.int .i64)) (.cons (.p (.int .i64)) (.cons (.p (.int .i64)) .nil)))))]⟩⟩ false [] (.two (.two (.reg [(1, { sh := [100, 101], fn := 19 })]) (.reg [(1, { fn := 8 })])) (.two (.leaf) (.join ⟨[5, 7, 10, 13, 14], ⟨(.cons (.own 0 100 0 0) (.cons (.own 0 103 0 0) (.cons (.own 0 104 0 0) (.cons (.p (.sl (.pair (.int .i64) (.int .i64)))) (.cons (.p (.sl (.pair (.int .i64) (.int .i64)))) .nil))))), [(100, false, (.vars (.cons (.p (.int .i64)) (.cons (.mp 101) (.cons (.p (.int .i64)) .nil))))), (101, false, (.map (.int .i64) (.int .i64))), (103, false, (.vars (.cons (.p (.int .i64)) (.cons (.p (.int .i64)) (.cons (.p (.sl (.pair (.int .i64) (.int .i64)))) .nil))))), (104, false, (.vars (.cons (.p (.int .i64)) (.cons (.p (.int .i64)) (.cons (.p (.int .i64)) .nil)))))]⟩⟩ false [] (.two (.two (.reg [(1, { sh := [100, 101], fn := 20 })]) (.reg [(1, { fn := 10 })])) (.leaf))))))))))))))) (.two (.reg [(3, { sh := [100, 101], fn := 21 })]) (.two (.reg [(3, { fn := 12 })]) (.two (.reg [(1, { sh := [100, 101], fn := 22 }), (5, { ids := [105] })]) (.two (.join ⟨[5, 7, 217], ⟨(.cons (.own 0 100 0 0) (.cons (.own 0 103 0 0) (.cons (.p .bool) .nil))), [(100, false, (.vars (.cons (.p (.int .i64)) (.cons (.mp 101) (.cons (.p (.int .i64)) .nil))))), (101, false, (.map (.int .i64) (.int .i64))), (103, false, (.vars (.cons (.p (.int .i64)) (.cons (.p (.int .i64)) (.cons (.p (.sl (.pair (.int .i64) (.int .i64)))) .nil)))))]⟩⟩ false [] (.reg [(11, { fn := 14 }), (16, { sh := [100, 101], fn := 23 }), (23, { sh := [100, 101], fn := 24 }), (26, { fn := 14 })])) (.two (.leaf) (.leaf)))))))))))) (.leaf)))))) (.two (.reg [(0, { fn := 2 })]) (.leaf))))))), ⟨(.cons (.p (.int .i64)) (.cons (.p (.sl (.pair (.int .i64) (.pair (.int .i64) (.int .i64))))) .nil)), []⟩, [⟨(.cons (.p .bool) .nil), []⟩], [0]⟩
def law08_ClockPlays_ft (fu : Nat) : FnT := ⟨4, ⟨(.cons (.p (.int .i64)) (.cons (.p (.sl (.pair (.int .i64) (.pair (.int .i64) (.int .i64))))) .nil)), []⟩, [⟨(.cons (.p .bool) .nil), []⟩], fun t => law08_ClockPlays fu t.1 t.2⟩
theorem law08_ClockPlays_eq (fu : Nat) : ∀ t, evF Go.Proofs.Try.prog [clock_New_ft fu, ref08_New_ft fu, law08_awake_ft fu, clock_Clock_Set_n0_ft fu, ref08_Clock_Set_ft fu, clock_Clock_Unset_n0_ft fu, ref08_Clock_Unset_ft fu, clock_Clock_Tick_n0_ft fu, ref08_Clock_Tick_ft fu, clock_Clock_Skip_n0_ft fu, ref08_Clock_Skip_ft fu, clock_Clock_Due_n0_ft fu, ref08_Clock_Find_ft fu, clock_Clock_Next_n0_ft fu, low_SameTimers_ft fu, clock_Clock_Now_n0_ft fu, clock_Clock_All_n0_ft fu, clock_Clock_Set__cm_ft fu, clock_Clock_Unset__cm_ft fu, clock_Clock_Tick__cm_ft fu, clock_Clock_Skip__cm_ft fu, clock_Clock_Due__cm_ft fu, clock_Clock_Next__cm_ft fu, clock_Clock_Now__cm_ft fu, clock_Clock_All__cm_ft fu] fu Go.Proofs.Try.f4 law08_ClockPlays_fa t = (law08_ClockPlays_ft fu).spec t := fun t => by kernel_rfl
theorem law08_ClockPlays_told (fu : Nat) : Told Go.Proofs.Try.prog (law08_ClockPlays_ft fu) := told_of (allT_cons (clock_New_told fu) (allT_cons (ref08_New_told fu) (allT_cons (law08_awake_told fu) (allT_cons (clock_Clock_Set_n0_told fu) (allT_cons (ref08_Clock_Set_told fu) (allT_cons (clock_Clock_Unset_n0_told fu) (allT_cons (ref08_Clock_Unset_told fu) (allT_cons (clock_Clock_Tick_n0_told fu) (allT_cons (ref08_Clock_Tick_told fu) (allT_cons (clock_Clock_Skip_n0_told fu) (allT_cons (ref08_Clock_Skip_told fu) (allT_cons (clock_Clock_Due_n0_told fu) (allT_cons (ref08_Clock_Find_told fu) (allT_cons (clock_Clock_Next_n0_told fu) (allT_cons (low_SameTimers_told fu) (allT_cons (clock_Clock_Now_n0_told fu) (allT_cons (clock_Clock_All_n0_told fu) (allT_cons (clock_Clock_Set__cm_told fu) (allT_cons (clock_Clock_Unset__cm_told fu) (allT_cons (clock_Clock_Tick__cm_told fu) (allT_cons (clock_Clock_Skip__cm_told fu) (allT_cons (clock_Clock_Due__cm_told fu) (allT_cons (clock_Clock_Next__cm_told fu) (allT_cons (clock_Clock_Now__cm_told fu) (allT_cons (clock_Clock_All__cm_told fu) allT_nil))))))))))))))))))))))))) mixed Go.Proofs.Try.func4 (by kernel_rfl) (by kernel_rfl) (law08_ClockPlays_eq fu)

def clock_Clock_none__cn (fu : Nat) (h : Int) (h1 : Int) : Option ((Bool × (Int × Int))) :=
  some (true, (h, h1))
def clock_Clock_none__cn_fa : FnA := ⟨.two (.leaf) (.leaf), ⟨(.cons (.own 0 0 0 0) .nil), [(0, false, (.vars (.cons (.p (.int .i64)) (.cons (.nilp (.map none)) (.cons (.p (.int .i64)) .nil)))))]⟩, [⟨(.cons (.p .bool) .nil), [(0, false, (.vars (.cons (.p (.int .i64)) (.cons (.nilp (.map none)) (.cons (.p (.int .i64)) .nil)))))]⟩], [0]⟩
def clock_Clock_none__cn_ft (fu : Nat) : FnT := ⟨30, ⟨(.cons (.own 0 0 0 0) .nil), [(0, false, (.vars (.cons (.p (.int .i64)) (.cons (.nilp (.map none)) (.cons (.p (.int .i64)) .nil)))))]⟩, [⟨(.cons (.p .bool) .nil), [(0, false, (.vars (.cons (.p (.int .i64)) (.cons (.nilp (.map none)) (.cons (.p (.int .i64)) .nil)))))]⟩], fun t => clock_Clock_none__cn fu t.1 t.2⟩
theorem clock_Clock_none__cn_eq (fu : Nat) : ∀ t, evF Go.Proofs.Try.prog [] fu Go.Proofs.Try.f30 clock_Clock_none__cn_fa t = (clock_Clock_none__cn_ft fu).spec t := fun t => by kernel_rfl
theorem clock_Clock_none__cn_told (fu : Nat) : Told Go.Proofs.Try.prog (clock_Clock_none__cn_ft fu) := told_of allT_nil mixed Go.Proofs.Try.func30 (by kernel_rfl) (by kernel_rfl) (clock_Clock_none__cn_eq fu)

def clock_Clock_Due__cn (fu : Nat) (id : Int) (h : Int) (h1 : Int) : Option ((Int × (Bool × (Int × Int)))) :=
  (clock_Clock_none__cn fu h h1).bind fun r =>
  bif r.1 then
    some (0, (false, (r.2.1, r.2.2)))
  else
    some (0, (false, (r.2.1, r.2.2)))
def clock_Clock_Due__cn_fa : FnA := ⟨.two (.leaf) (.two (.two (.reg [(1, { sh := [0] })]) (.two (.leaf) (.leaf))) (.two (.leaf) (.leaf))), ⟨(.cons (.own 0 0 0 0) (.cons (.p (.int .i64)) .nil)), [(0, false, (.vars (.cons (.p (.int .i64)) (.cons (.nilp (.map none)) (.cons (.p (.int .i64)) .nil)))))]⟩, [⟨(.cons (.p (.int .i64)) (.cons (.p .bool) .nil)), [(0, false, (.vars (.cons (.p (.int .i64)) (.cons (.nilp (.map none)) (.cons (.p (.int .i64)) .nil)))))]⟩], [0, 0]⟩
def clock_Clock_Due__cn_ft (fu : Nat) : FnT := ⟨18, ⟨(.cons (.own 0 0 0 0) (.cons (.p (.int .i64)) .nil)), [(0, false, (.vars (.cons (.p (.int .i64)) (.cons (.nilp (.map none)) (.cons (.p (.int .i64)) .nil)))))]⟩, [⟨(.cons (.p (.int .i64)) (.cons (.p .bool) .nil)), [(0, false, (.vars (.cons (.p (.int .i64)) (.cons (.nilp (.map none)) (.cons (.p (.int .i64)) .nil)))))]⟩], fun t => clock_Clock_Due__cn fu t.1 t.2.1 t.2.2⟩
theorem clock_Clock_Due__cn_eq (fu : Nat) : ∀ t, evF Go.Proofs.Try.prog [clock_Clock_none__cn_ft fu] fu Go.Proofs.Try.f18 clock_Clock_Due__cn_fa t = (clock_Clock_Due__cn_ft fu).spec t := fun t => by kernel_rfl
theorem clock_Clock_Due__cn_told (fu : Nat) : Told Go.Proofs.Try.prog (clock_Clock_Due__cn_ft fu) := told_of (allT_cons (clock_Clock_none__cn_told fu) allT_nil) mixed Go.Proofs.Try.func18 (by kernel_rfl) (by kernel_rfl) (clock_Clock_Due__cn_eq fu)

def clock_Clock_All__cn (fu : Nat) (h : Int) (h1 : Int) : Option ((Int × Int)) :=
  (clock_Clock_none__cn fu h h1).bind fun r =>
  bif r.1 then
    some (r.2.1, r.2.2)
  else
    none
def clock_Clock_All__cn_fa : FnA := ⟨.two (.leaf) (.two (.two (.reg [(1, { sh := [0] })]) (.two (.leaf) (.leaf))) (.two (.leaf) (.two (.leaf) (.leaf)))), ⟨(.cons (.own 0 0 0 0) .nil), [(0, false, (.vars (.cons (.p (.int .i64)) (.cons (.nilp (.map none)) (.cons (.p (.int .i64)) .nil)))))]⟩, [⟨(.cons (.nilp (.slice none 0 0)) .nil), [(0, false, (.vars (.cons (.p (.int .i64)) (.cons (.nilp (.map none)) (.cons (.p (.int .i64)) .nil)))))]⟩], [1]⟩
def clock_Clock_All__cn_ft (fu : Nat) : FnT := ⟨16, ⟨(.cons (.own 0 0 0 0) .nil), [(0, false, (.vars (.cons (.p (.int .i64)) (.cons (.nilp (.map none)) (.cons (.p (.int .i64)) .nil)))))]⟩, [⟨(.cons (.nilp (.slice none 0 0)) .nil), [(0, false, (.vars (.cons (.p (.int .i64)) (.cons (.nilp (.map none)) (.cons (.p (.int .i64)) .nil)))))]⟩], fun t => clock_Clock_All__cn fu t.1 t.2⟩
theorem clock_Clock_All__cn_eq (fu : Nat) : ∀ t, evF Go.Proofs.Try.prog [clock_Clock_none__cn_ft fu] fu Go.Proofs.Try.f16 clock_Clock_All__cn_fa t = (clock_Clock_All__cn_ft fu).spec t := fun t => by kernel_rfl
theorem clock_Clock_All__cn_told (fu : Nat) : Told Go.Proofs.Try.prog (clock_Clock_All__cn_ft fu) := told_of (allT_cons (clock_Clock_none__cn_told fu) allT_nil) mixed Go.Proofs.Try.func16 (by kernel_rfl) (by kernel_rfl) (clock_Clock_All__cn_eq fu)

def clock_Clock_Next__cn (fu : Nat) (h : Int) (h1 : Int) : Option ((Int × (Int × (Bool × (Int × Int))))) :=
  (clock_Clock_All__cn fu h h1).bind fun r =>
  some (0, (0, (false, (r.1, r.2))))
def clock_Clock_Next__cn_fa : FnA := ⟨.two (.reg [(0, { ids := [100] })]) (.two (.reg [(1, { sh := [0] })]) (.two (.two (.leaf) (.two (.leaf) (.leaf))) (.leaf))), ⟨(.cons (.own 0 0 0 0) .nil), [(0, false, (.vars (.cons (.p (.int .i64)) (.cons (.nilp (.map none)) (.cons (.p (.int .i64)) .nil)))))]⟩, [⟨(.cons (.agg (.cons (.p (.int .i64)) (.cons (.p (.int .i64)) .nil))) (.cons (.p .bool) .nil)), [(0, false, (.vars (.cons (.p (.int .i64)) (.cons (.nilp (.map none)) (.cons (.p (.int .i64)) .nil)))))]⟩], [0, 0]⟩
def clock_Clock_Next__cn_ft (fu : Nat) : FnT := ⟨19, ⟨(.cons (.own 0 0 0 0) .nil), [(0, false, (.vars (.cons (.p (.int .i64)) (.cons (.nilp (.map none)) (.cons (.p (.int .i64)) .nil)))))]⟩, [⟨(.cons (.agg (.cons (.p (.int .i64)) (.cons (.p (.int .i64)) .nil))) (.cons (.p .bool) .nil)), [(0, false, (.vars (.cons (.p (.int .i64)) (.cons (.nilp (.map none)) (.cons (.p (.int .i64)) .nil)))))]⟩], fun t => clock_Clock_Next__cn fu t.1 t.2⟩
theorem clock_Clock_Next__cn_eq (fu : Nat) : ∀ t, evF Go.Proofs.Try.prog [clock_Clock_All__cn_ft fu] fu Go.Proofs.Try.f19 clock_Clock_Next__cn_fa t = (clock_Clock_Next__cn_ft fu).spec t := fun t => by kernel_rfl
theorem clock_Clock_Next__cn_told (fu : Nat) : Told Go.Proofs.Try.prog (clock_Clock_Next__cn_ft fu) := told_of (allT_cons (clock_Clock_All__cn_told fu) allT_nil) mixed Go.Proofs.Try.func19 (by kernel_rfl) (by kernel_rfl) (clock_Clock_Next__cn_eq fu)

def clock_Clock_Set__cn (fu : Nat) (id : Int) (in_ : Int) (h : Int) (h1 : Int) : Option ((Int × (Int × Int))) :=
  (clock_Clock_none__cn fu h h1).bind fun r =>
  bif r.1 then
    some (1, (r.2.1, r.2.2))
  else
    Option.bind (α := ((Bool × (Int × Int)))) (
      bif (decide (in_ < 1)) then
        some (true, (r.2.1, r.2.2))
      else
        some ((decide (in_ > (IntKind.wrap .i64 (1152921504606846976 - r.2.1)))), (r.2.1, r.2.2))) fun o =>
    bif o.1 then
      some (2, (o.2.1, o.2.2))
    else
      bif (decide (0 ≥ o.2.2)) then
        some (71, (o.2.1, o.2.2))
      else
        none
def clock_Clock_Set__cn_fa : FnA := ⟨.two (.leaf) (.two (.two (.reg [(1, { sh := [0] })]) (.two (.leaf) (.leaf))) (.two (.leaf) (.two (.one (.two (.join ⟨[0, 20], ⟨(.cons (.own 0 0 0 0) (.cons (.p .bool) .nil)), [(0, false, (.vars (.cons (.p (.int .i64)) (.cons (.nilp (.map none)) (.cons (.p (.int .i64)) .nil)))))]⟩⟩ false [] (.leaf)) (.two (.leaf) (.two (.leaf) (.two (.leaf) (.leaf)))))) (.leaf)))), ⟨(.cons (.own 0 0 0 0) (.cons (.p (.int .i64)) (.cons (.p (.int .i64)) .nil))), [(0, false, (.vars (.cons (.p (.int .i64)) (.cons (.nilp (.map none)) (.cons (.p (.int .i64)) .nil)))))]⟩, [⟨(.cons (.p (.int .i64)) .nil), [(0, false, (.vars (.cons (.p (.int .i64)) (.cons (.nilp (.map none)) (.cons (.p (.int .i64)) .nil)))))]⟩], [0]⟩
def clock_Clock_Set__cn_ft (fu : Nat) : FnT := ⟨11, ⟨(.cons (.own 0 0 0 0) (.cons (.p (.int .i64)) (.cons (.p (.int .i64)) .nil))), [(0, false, (.vars (.cons (.p (.int .i64)) (.cons (.nilp (.map none)) (.cons (.p (.int .i64)) .nil)))))]⟩, [⟨(.cons (.p (.int .i64)) .nil), [(0, false, (.vars (.cons (.p (.int .i64)) (.cons (.nilp (.map none)) (.cons (.p (.int .i64)) .nil)))))]⟩], fun t => clock_Clock_Set__cn fu t.1 t.2.1 t.2.2.1 t.2.2.2⟩
theorem clock_Clock_Set__cn_eq (fu : Nat) : ∀ t, evF Go.Proofs.Try.prog [clock_Clock_none__cn_ft fu] fu Go.Proofs.Try.f11 clock_Clock_Set__cn_fa t = (clock_Clock_Set__cn_ft fu).spec t := fun t => by kernel_rfl
theorem clock_Clock_Set__cn_told (fu : Nat) : Told Go.Proofs.Try.prog (clock_Clock_Set__cn_ft fu) := told_of (allT_cons (clock_Clock_none__cn_told fu) allT_nil) mixed Go.Proofs.Try.func11 (by kernel_rfl) (by kernel_rfl) (clock_Clock_Set__cn_eq fu)

def clock_Clock_Unset__cn (fu : Nat) (id : Int) (h : Int) (h1 : Int) : Option ((Bool × (Int × Int))) :=
  (clock_Clock_none__cn fu h h1).bind fun r =>
  bif r.1 then
    some (false, (r.2.1, r.2.2))
  else
    some (false, (r.2.1, r.2.2))
def clock_Clock_Unset__cn_fa : FnA := ⟨.two (.leaf) (.two (.two (.reg [(1, { sh := [0] })]) (.two (.leaf) (.leaf))) (.two (.leaf) (.two (.leaf) (.leaf)))), ⟨(.cons (.own 0 0 0 0) (.cons (.p (.int .i64)) .nil)), [(0, false, (.vars (.cons (.p (.int .i64)) (.cons (.nilp (.map none)) (.cons (.p (.int .i64)) .nil)))))]⟩, [⟨(.cons (.p .bool) .nil), [(0, false, (.vars (.cons (.p (.int .i64)) (.cons (.nilp (.map none)) (.cons (.p (.int .i64)) .nil)))))]⟩], [0]⟩
def clock_Clock_Unset__cn_ft (fu : Nat) : FnT := ⟨12, ⟨(.cons (.own 0 0 0 0) (.cons (.p (.int .i64)) .nil)), [(0, false, (.vars (.cons (.p (.int .i64)) (.cons (.nilp (.map none)) (.cons (.p (.int .i64)) .nil)))))]⟩, [⟨(.cons (.p .bool) .nil), [(0, false, (.vars (.cons (.p (.int .i64)) (.cons (.nilp (.map none)) (.cons (.p (.int .i64)) .nil)))))]⟩], fun t => clock_Clock_Unset__cn fu t.1 t.2.1 t.2.2⟩
theorem clock_Clock_Unset__cn_eq (fu : Nat) : ∀ t, evF Go.Proofs.Try.prog [clock_Clock_none__cn_ft fu] fu Go.Proofs.Try.f12 clock_Clock_Unset__cn_fa t = (clock_Clock_Unset__cn_ft fu).spec t := fun t => by kernel_rfl
theorem clock_Clock_Unset__cn_told (fu : Nat) : Told Go.Proofs.Try.prog (clock_Clock_Unset__cn_ft fu) := told_of (allT_cons (clock_Clock_none__cn_told fu) allT_nil) mixed Go.Proofs.Try.func12 (by kernel_rfl) (by kernel_rfl) (clock_Clock_Unset__cn_eq fu)

def clock_Clock_told__cn_l0 (fu : Nat) (n : Int) (h2 : Int) (h3 : Int) : Option ((Int × (Int × Int)) ⊕ ((Int × (Int × Int)))) :=
  bif (decide (n < 0)) then
    none
  else
    some (.inr (n, (h2, h3)))
def clock_Clock_told__cn_l0_it (fu : Nat)  (tt : (Int × (Int × Int))) : Option ((Int × (Int × Int))) :=
  iter fu (fun tt => clock_Clock_told__cn_l0 fu tt.1 tt.2.1 tt.2.2) tt
def clock_Clock_told__cn (fu : Nat) (now : Int) (h : Int) (h1 : Int) : Option (Empty) :=
  (clock_Clock_All__cn fu now h1).bind fun r =>
  (clock_Clock_told__cn_l0_it fu  (0, (r.1, r.2))).bind fun o =>
  none
def clock_Clock_told__cn_fa : FnA := ⟨.two (.leaf) (.two (.leaf) (.two (.reg [(1, { sh := [0] })]) (.two (.leaf) (.two (.one (.loop ⟨[0, 6], ⟨(.cons (.own 0 0 0 0) (.cons (.p (.int .i64)) .nil)), [(0, false, (.vars (.cons (.p (.int .i64)) (.cons (.nilp (.map none)) (.cons (.p (.int .i64)) .nil)))))]⟩⟩ false [(0, ⟨[0, 6], ⟨(.cons (.own 0 0 0 0) (.cons (.p (.int .i64)) .nil)), [(0, false, (.vars (.cons (.p (.int .i64)) (.cons (.nilp (.map none)) (.cons (.p (.int .i64)) .nil)))))]⟩⟩)] (.two (.two (.leaf) (.leaf)) (.leaf)))) (.leaf))))), ⟨(.cons (.own 0 0 0 0) (.cons (.p (.int .i64)) .nil)), [(0, false, (.vars (.cons (.p (.int .i64)) (.cons (.nilp (.map none)) (.cons (.p (.int .i64)) .nil)))))]⟩, [], [0]⟩
def clock_Clock_told__cn_ft (fu : Nat) : FnT := ⟨31, ⟨(.cons (.own 0 0 0 0) (.cons (.p (.int .i64)) .nil)), [(0, false, (.vars (.cons (.p (.int .i64)) (.cons (.nilp (.map none)) (.cons (.p (.int .i64)) .nil)))))]⟩, [], fun t => clock_Clock_told__cn fu t.1 t.2.1 t.2.2⟩
theorem clock_Clock_told__cn_eq (fu : Nat) : ∀ t, evF Go.Proofs.Try.prog [clock_Clock_All__cn_ft fu] fu Go.Proofs.Try.f31 clock_Clock_told__cn_fa t = (clock_Clock_told__cn_ft fu).spec t := fun t => by kernel_rfl
theorem clock_Clock_told__cn_told (fu : Nat) : Told Go.Proofs.Try.prog (clock_Clock_told__cn_ft fu) := told_of (allT_cons (clock_Clock_All__cn_told fu) allT_nil) mixed Go.Proofs.Try.func31 (by kernel_rfl) (by kernel_rfl) (clock_Clock_told__cn_eq fu)

def clock_Clock_Tick__cn (fu : Nat) (h : Int) (h1 : Int) : Option ((Int × Int)) :=
  (clock_Clock_none__cn fu h h1).bind fun r =>
  bif r.1 then
    some (r.2.1, r.2.2)
  else
    (clock_Clock_told__cn fu (if 1152921504606846976 < (IntKind.wrap .i64 (r.2.1 + 1)) then 1152921504606846976 else (IntKind.wrap .i64 (r.2.1 + 1))) r.2.1 r.2.2).bind fun r1 =>
    Empty.elim r1
def clock_Clock_Tick__cn_fa : FnA := ⟨.two (.leaf) (.two (.two (.reg [(1, { sh := [0] })]) (.two (.leaf) (.leaf))) (.two (.reg [(7, { sh := [0], fn := 1 })]) (.leaf))), ⟨(.cons (.own 0 0 0 0) .nil), [(0, false, (.vars (.cons (.p (.int .i64)) (.cons (.nilp (.map none)) (.cons (.p (.int .i64)) .nil)))))]⟩, [⟨(.cons (.nilp (.slice none 0 0)) .nil), [(0, false, (.vars (.cons (.p (.int .i64)) (.cons (.nilp (.map none)) (.cons (.p (.int .i64)) .nil)))))]⟩], [0]⟩
def clock_Clock_Tick__cn_ft (fu : Nat) : FnT := ⟨17, ⟨(.cons (.own 0 0 0 0) .nil), [(0, false, (.vars (.cons (.p (.int .i64)) (.cons (.nilp (.map none)) (.cons (.p (.int .i64)) .nil)))))]⟩, [⟨(.cons (.nilp (.slice none 0 0)) .nil), [(0, false, (.vars (.cons (.p (.int .i64)) (.cons (.nilp (.map none)) (.cons (.p (.int .i64)) .nil)))))]⟩], fun t => clock_Clock_Tick__cn fu t.1 t.2⟩
theorem clock_Clock_Tick__cn_eq (fu : Nat) : ∀ t, evF Go.Proofs.Try.prog [clock_Clock_none__cn_ft fu, clock_Clock_told__cn_ft fu] fu Go.Proofs.Try.f17 clock_Clock_Tick__cn_fa t = (clock_Clock_Tick__cn_ft fu).spec t := fun t => by kernel_rfl
theorem clock_Clock_Tick__cn_told (fu : Nat) : Told Go.Proofs.Try.prog (clock_Clock_Tick__cn_ft fu) := told_of (allT_cons (clock_Clock_none__cn_told fu) (allT_cons (clock_Clock_told__cn_told fu) allT_nil)) mixed Go.Proofs.Try.func17 (by kernel_rfl) (by kernel_rfl) (clock_Clock_Tick__cn_eq fu)

def clock_Clock_Skip__cn (fu : Nat) (h : Int) (h1 : Int) : Option ((Int × Int)) :=
  (clock_Clock_Next__cn fu h h1).bind fun r =>
  bif (!r.2.2.1) then
    some (r.2.2.2.1, r.2.2.2.2)
  else
    (clock_Clock_told__cn fu r.1 r.2.2.2.1 r.2.2.2.2).bind fun r1 =>
    Empty.elim r1
def clock_Clock_Skip__cn_fa : FnA := ⟨.two (.leaf) (.two (.reg [(1, { sh := [0] }), (5, { ids := [100] })]) (.two (.two (.leaf) (.two (.leaf) (.leaf))) (.two (.reg [(3, { sh := [0], fn := 1 })]) (.leaf)))), ⟨(.cons (.own 0 0 0 0) .nil), [(0, false, (.vars (.cons (.p (.int .i64)) (.cons (.nilp (.map none)) (.cons (.p (.int .i64)) .nil)))))]⟩, [⟨(.cons (.nilp (.slice none 0 0)) .nil), [(0, false, (.vars (.cons (.p (.int .i64)) (.cons (.nilp (.map none)) (.cons (.p (.int .i64)) .nil)))))]⟩], [0]⟩
def clock_Clock_Skip__cn_ft (fu : Nat) : FnT := ⟨14, ⟨(.cons (.own 0 0 0 0) .nil), [(0, false, (.vars (.cons (.p (.int .i64)) (.cons (.nilp (.map none)) (.cons (.p (.int .i64)) .nil)))))]⟩, [⟨(.cons (.nilp (.slice none 0 0)) .nil), [(0, false, (.vars (.cons (.p (.int .i64)) (.cons (.nilp (.map none)) (.cons (.p (.int .i64)) .nil)))))]⟩], fun t => clock_Clock_Skip__cn fu t.1 t.2⟩
theorem clock_Clock_Skip__cn_eq (fu : Nat) : ∀ t, evF Go.Proofs.Try.prog [clock_Clock_Next__cn_ft fu, clock_Clock_told__cn_ft fu] fu Go.Proofs.Try.f14 clock_Clock_Skip__cn_fa t = (clock_Clock_Skip__cn_ft fu).spec t := fun t => by kernel_rfl
theorem clock_Clock_Skip__cn_told (fu : Nat) : Told Go.Proofs.Try.prog (clock_Clock_Skip__cn_ft fu) := told_of (allT_cons (clock_Clock_Next__cn_told fu) (allT_cons (clock_Clock_told__cn_told fu) allT_nil)) mixed Go.Proofs.Try.func14 (by kernel_rfl) (by kernel_rfl) (clock_Clock_Skip__cn_eq fu)

def clock_Clock_Now__cn (fu : Nat) (h : Int) (h1 : Int) : Option ((Int × (Int × Int))) :=
  (clock_Clock_none__cn fu h h1).bind fun r =>
  bif r.1 then
    some (0, (r.2.1, r.2.2))
  else
    some (r.2.1, (r.2.1, r.2.2))
def clock_Clock_Now__cn_fa : FnA := ⟨.two (.leaf) (.two (.two (.reg [(1, { sh := [0] })]) (.two (.leaf) (.leaf))) (.leaf)), ⟨(.cons (.own 0 0 0 0) .nil), [(0, false, (.vars (.cons (.p (.int .i64)) (.cons (.nilp (.map none)) (.cons (.p (.int .i64)) .nil)))))]⟩, [⟨(.cons (.p (.int .i64)) .nil), [(0, false, (.vars (.cons (.p (.int .i64)) (.cons (.nilp (.map none)) (.cons (.p (.int .i64)) .nil)))))]⟩], [0]⟩
def clock_Clock_Now__cn_ft (fu : Nat) : FnT := ⟨15, ⟨(.cons (.own 0 0 0 0) .nil), [(0, false, (.vars (.cons (.p (.int .i64)) (.cons (.nilp (.map none)) (.cons (.p (.int .i64)) .nil)))))]⟩, [⟨(.cons (.p (.int .i64)) .nil), [(0, false, (.vars (.cons (.p (.int .i64)) (.cons (.nilp (.map none)) (.cons (.p (.int .i64)) .nil)))))]⟩], fun t => clock_Clock_Now__cn fu t.1 t.2⟩
theorem clock_Clock_Now__cn_eq (fu : Nat) : ∀ t, evF Go.Proofs.Try.prog [clock_Clock_none__cn_ft fu] fu Go.Proofs.Try.f15 clock_Clock_Now__cn_fa t = (clock_Clock_Now__cn_ft fu).spec t := fun t => by kernel_rfl
theorem clock_Clock_Now__cn_told (fu : Nat) : Told Go.Proofs.Try.prog (clock_Clock_Now__cn_ft fu) := told_of (allT_cons (clock_Clock_none__cn_told fu) allT_nil) mixed Go.Proofs.Try.func15 (by kernel_rfl) (by kernel_rfl) (clock_Clock_Now__cn_eq fu)

def law08_ClockNone (fu : Nat) (id : Int) (in_ : Int) : Option (Bool) :=
  (clock_Clock_Due_n0 fu id).bind fun r =>
  (clock_Clock_Next_n0 fu).bind fun r1 =>
  Option.bind (α := ((Bool × (Int × Int)))) (
    (clock_Clock_Set_n0 fu id in_).bind fun r2 =>
    bif (!(r2 == 1)) then
      some (true, (0, 0))
    else
      (clock_Clock_Unset_n0 fu id).bind fun r3 =>
      bif r3 then
        some (true, (0, 0))
      else
        bif r.2 then
          some (true, (0, 0))
        else
          bif r1.2.2 then
            some (true, (0, 0))
          else
            bif (!(r.1 == 0)) then
              some (true, (0, 0))
            else
              bif (!((r1.1 == 0) && (r1.2.1 == 0))) then
                some (true, (0, 0))
              else
                (clock_Clock_Tick_n0 fu).bind fun r4 =>
                (clock_Clock_Skip_n0 fu).bind fun r5 =>
                (clock_Clock_All_n0 fu).bind fun r6 =>
                (clock_Clock_Now_n0 fu).bind fun r7 =>
                some ((!(r7 == 0)), (0, 0))) fun o =>
  bif o.1 then
    some false
  else
    (clock_Clock_Due__cn fu id o.2.1 o.2.2).bind fun r8 =>
    (clock_Clock_Next__cn fu r8.2.2.1 r8.2.2.2).bind fun r9 =>
    Option.bind (α := ((Bool × (Int × Int)))) (
      (clock_Clock_Set__cn fu id in_ r9.2.2.2.1 r9.2.2.2.2).bind fun r10 =>
      bif (!(r10.1 == 1)) then
        some (true, (r10.2.1, r10.2.2))
      else
        (clock_Clock_Unset__cn fu id r10.2.1 r10.2.2).bind fun r11 =>
        bif r11.1 then
          some (true, (r11.2.1, r11.2.2))
        else
          bif r8.2.1 then
            some (true, (r11.2.1, r11.2.2))
          else
            bif r9.2.2.1 then
              some (true, (r11.2.1, r11.2.2))
            else
              bif (!(r8.1 == 0)) then
                some (true, (r11.2.1, r11.2.2))
              else
                bif (!((r9.1 == 0) && (r9.2.1 == 0))) then
                  some (true, (r11.2.1, r11.2.2))
                else
                  (clock_Clock_Tick__cn fu r11.2.1 r11.2.2).bind fun r12 =>
                  (clock_Clock_Skip__cn fu r12.1 r12.2).bind fun r13 =>
                  (clock_Clock_All__cn fu r13.1 r13.2).bind fun r14 =>
                  (clock_Clock_Now__cn fu r14.1 r14.2).bind fun r15 =>
                  some ((!(r15.1 == 0)), (r15.2.1, r15.2.2))) fun o1 =>
    bif o1.1 then
      some false
    else
      (law08_awake fu).bind fun r16 =>
      some r16
def law08_ClockNone_fa : FnA := ⟨.two (.leaf) (.two (.leaf) (.two (.two (.reg [(2, { ids := [100] }), (3, { ids := [101], md := [1] })]) (.one (.round (.two (.leaf) (.two (.leaf) (.two (.one (.two (.leaf) (.two (.reg [(2, {  })]) (.two (.reg [(1, { fn := 1 }), (5, { ids := [102] })]) (.two (.join ⟨[15, 75], ⟨(.cons (.slf 1 101) (.cons (.p .bool) .nil)), [(101, false, (.vars (.cons (.nilp (.pointer none)) (.cons (.own 0 100 0 0) .nil)))), (100, false, (.vars (.cons (.p (.int .i64)) (.cons (.nilp (.map none)) (.cons (.p (.int .i64)) .nil)))))]⟩⟩ false [] (.reg [(3, { fn := 2 }), (8, { fn := 3 }), (27, { fn := 4 }), (30, { fn := 5 }), (34, { fn := 6 }), (41, { fn := 7 })])) (.two (.leaf) (.leaf))))))) (.leaf)))) (.round (.two (.leaf) (.two (.leaf) (.two (.one (.two (.leaf) (.two (.reg [(2, { sh := [100], fn := 8 })]) (.two (.reg [(1, { sh := [100], fn := 9 }), (5, { ids := [103] })]) (.two (.join ⟨[15, 75], ⟨(.cons (.slf 1 101) (.cons (.p .bool) .nil)), [(101, false, (.vars (.cons (.nilp (.pointer none)) (.cons (.own 0 100 0 0) .nil)))), (100, false, (.vars (.cons (.p (.int .i64)) (.cons (.nilp (.map none)) (.cons (.p (.int .i64)) .nil)))))]⟩⟩ false [] (.reg [(3, { sh := [100], fn := 10 }), (8, { sh := [100], fn := 11 }), (27, { sh := [100], fn := 12 }), (30, { sh := [100], fn := 13 }), (34, { sh := [100], fn := 14 }), (41, { sh := [100], fn := 15 })])) (.two (.leaf) (.leaf))))))) (.leaf)))) (.round (.two (.leaf) (.two (.leaf) (.leaf))) (.leaf)))))) (.two (.reg [(0, { fn := 16 })]) (.leaf)))), ⟨(.cons (.p (.int .i64)) (.cons (.p (.int .i64)) .nil)), []⟩, [⟨(.cons (.p .bool) .nil), []⟩], [0]⟩
def law08_ClockNone_ft (fu : Nat) : FnT := ⟨5, ⟨(.cons (.p (.int .i64)) (.cons (.p (.int .i64)) .nil)), []⟩, [⟨(.cons (.p .bool) .nil), []⟩], fun t => law08_ClockNone fu t.1 t.2⟩
theorem law08_ClockNone_eq (fu : Nat) : ∀ t, evF Go.Proofs.Try.prog [clock_Clock_Due_n0_ft fu, clock_Clock_Next_n0_ft fu, clock_Clock_Set_n0_ft fu, clock_Clock_Unset_n0_ft fu, clock_Clock_Tick_n0_ft fu, clock_Clock_Skip_n0_ft fu, clock_Clock_All_n0_ft fu, clock_Clock_Now_n0_ft fu, clock_Clock_Due__cn_ft fu, clock_Clock_Next__cn_ft fu, clock_Clock_Set__cn_ft fu, clock_Clock_Unset__cn_ft fu, clock_Clock_Tick__cn_ft fu, clock_Clock_Skip__cn_ft fu, clock_Clock_All__cn_ft fu, clock_Clock_Now__cn_ft fu, law08_awake_ft fu] fu Go.Proofs.Try.f5 law08_ClockNone_fa t = (law08_ClockNone_ft fu).spec t := fun t => by kernel_rfl
theorem law08_ClockNone_told (fu : Nat) : Told Go.Proofs.Try.prog (law08_ClockNone_ft fu) := told_of (allT_cons (clock_Clock_Due_n0_told fu) (allT_cons (clock_Clock_Next_n0_told fu) (allT_cons (clock_Clock_Set_n0_told fu) (allT_cons (clock_Clock_Unset_n0_told fu) (allT_cons (clock_Clock_Tick_n0_told fu) (allT_cons (clock_Clock_Skip_n0_told fu) (allT_cons (clock_Clock_All_n0_told fu) (allT_cons (clock_Clock_Now_n0_told fu) (allT_cons (clock_Clock_Due__cn_told fu) (allT_cons (clock_Clock_Next__cn_told fu) (allT_cons (clock_Clock_Set__cn_told fu) (allT_cons (clock_Clock_Unset__cn_told fu) (allT_cons (clock_Clock_Tick__cn_told fu) (allT_cons (clock_Clock_Skip__cn_told fu) (allT_cons (clock_Clock_All__cn_told fu) (allT_cons (clock_Clock_Now__cn_told fu) (allT_cons (law08_awake_told fu) allT_nil))))))))))))))))) mixed Go.Proofs.Try.func5 (by kernel_rfl) (by kernel_rfl) (law08_ClockNone_eq fu)

def low_Pick (fu : Nat) (x : Int) (n : Int) : Option (Int) :=
  bif (decide (n ≤ 0)) then
    some 0
  else
    need (!(decide (n = 0))) <|
    bif (decide ((Int.tmod x n) < 0)) then
      some (IntKind.wrap .i64 ((Int.tmod x n) + n))
    else
      some (Int.tmod x n)
def low_Pick_fa : FnA := ⟨.two (.leaf) (.two (.two (.leaf) (.two (.leaf) (.leaf))) (.two (.leaf) (.two (.two (.leaf) (.leaf)) (.leaf)))), ⟨(.cons (.p (.int .i64)) (.cons (.p (.int .i64)) .nil)), []⟩, [⟨(.cons (.p (.int .i64)) .nil), []⟩], [0]⟩
def low_Pick_ft (fu : Nat) : FnT := ⟨29, ⟨(.cons (.p (.int .i64)) (.cons (.p (.int .i64)) .nil)), []⟩, [⟨(.cons (.p (.int .i64)) .nil), []⟩], fun t => low_Pick fu t.1 t.2⟩
theorem low_Pick_eq (fu : Nat) : ∀ t, evF Go.Proofs.Try.prog [] fu Go.Proofs.Try.f29 low_Pick_fa t = (low_Pick_ft fu).spec t := fun t => by kernel_rfl
theorem low_Pick_told (fu : Nat) : Told Go.Proofs.Try.prog (low_Pick_ft fu) := told_of allT_nil mixed Go.Proofs.Try.func29 (by kernel_rfl) (by kernel_rfl) (low_Pick_eq fu)

def law08_does_n0 (fu : Nat) (o : (Int × (Int × Int))) : Option (Unit) :=
  Option.bind (α := ((Bool × (Int × (Int × Int))))) (
    bif (decide (o.1 ≥ 1)) then
      some ((decide (o.1 ≤ 4)), (o.1, (o.2.1, o.2.2)))
    else
      some (false, (o.1, (o.2.1, o.2.2)))) fun o1 =>
  bif o1.1 then
    (low_Pick fu (Int.tmod o1.2.2.2 1000) 20).bind fun r =>
    (clock_Clock_Set_n0 fu o1.2.2.1 (IntKind.wrap .i64 (1 + r))).bind fun r1 =>
    some ()
  else
    bif (o1.2.1 == 5) then
      (clock_Clock_Unset_n0 fu o1.2.2.1).bind fun r2 =>
      some ()
    else
      some ()
def law08_does_n0_fa : FnA := ⟨.two (.reg [(0, { ids := [100] })]) (.one (.two (.join ⟨[3, 4], ⟨(.cons (.own 0 100 0 0) (.cons (.p .bool) .nil)), [(100, false, (.vars (.cons (.p (.int .i64)) (.cons (.p (.int .i64)) (.cons (.p (.int .i64)) .nil)))))]⟩⟩ false [] (.leaf)) (.two (.reg [(6, {  }), (8, { fn := 1 })]) (.two (.leaf) (.two (.reg [(3, { fn := 2 })]) (.leaf)))))), ⟨(.cons (.nilp (.pointer none)) (.cons (.p (.pair (.int .i64) (.pair (.int .i64) (.int .i64)))) .nil)), []⟩, [⟨.nil, []⟩], []⟩
def law08_does_n0_ft (fu : Nat) : FnT := ⟨28, ⟨(.cons (.nilp (.pointer none)) (.cons (.p (.pair (.int .i64) (.pair (.int .i64) (.int .i64)))) .nil)), []⟩, [⟨.nil, []⟩], fun t => law08_does_n0 fu t⟩
theorem law08_does_n0_eq (fu : Nat) : ∀ t, evF Go.Proofs.Try.prog [low_Pick_ft fu, clock_Clock_Set_n0_ft fu, clock_Clock_Unset_n0_ft fu] fu Go.Proofs.Try.f28 law08_does_n0_fa t = (law08_does_n0_ft fu).spec t := fun t => by kernel_rfl
theorem law08_does_n0_told (fu : Nat) : Told Go.Proofs.Try.prog (law08_does_n0_ft fu) := told_of (allT_cons (low_Pick_told fu) (allT_cons (clock_Clock_Set_n0_told fu) (allT_cons (clock_Clock_Unset_n0_told fu) allT_nil))) mixed Go.Proofs.Try.func28 (by kernel_rfl) (by kernel_rfl) (law08_does_n0_eq fu)

def law08_does__cm (fu : Nat) (o : (Int × (Int × Int))) (h : Int) (h1 : Int) (h2 : (List (((Int × Int) × Nat)) × Nat)) : Option ((Int × (Int × (List (((Int × Int) × Nat)) × Nat)))) :=
  Option.bind (α := ((Bool × (Int × (Int × ((List (((Int × Int) × Nat)) × Nat) × (Int × (Int × Int)))))))) (
    bif (decide (o.1 ≥ 1)) then
      some ((decide (o.1 ≤ 4)), (h, (h1, (h2, (o.1, (o.2.1, o.2.2))))))
    else
      some (false, (h, (h1, (h2, (o.1, (o.2.1, o.2.2))))))) fun o1 =>
  bif o1.1 then
    (low_Pick fu (Int.tmod o1.2.2.2.2.2.2 1000) 20).bind fun r =>
    (clock_Clock_Set__cm fu o1.2.2.2.2.2.1 (IntKind.wrap .i64 (1 + r)) o1.2.1 o1.2.2.1 o1.2.2.2.1).bind fun r1 =>
    some (r1.2.1, (r1.2.2.1, r1.2.2.2))
  else
    bif (o1.2.2.2.2.1 == 5) then
      (clock_Clock_Unset__cm fu o1.2.2.2.2.2.1 o1.2.1 o1.2.2.1 o1.2.2.2.1).bind fun r2 =>
      some (r2.2.1, (r2.2.2.1, r2.2.2.2))
    else
      some (o1.2.1, (o1.2.2.1, o1.2.2.2.1))
def law08_does__cm_fa : FnA := ⟨.two (.reg [(0, { ids := [100] })]) (.one (.two (.join ⟨[0, 3, 4], ⟨(.cons (.own 0 0 0 0) (.cons (.own 0 100 0 0) (.cons (.p .bool) .nil))), [(0, false, (.vars (.cons (.p (.int .i64)) (.cons (.mp 1) (.cons (.p (.int .i64)) .nil))))), (1, false, (.map (.int .i64) (.int .i64))), (100, false, (.vars (.cons (.p (.int .i64)) (.cons (.p (.int .i64)) (.cons (.p (.int .i64)) .nil)))))]⟩⟩ false [] (.leaf)) (.two (.reg [(6, {  }), (8, { sh := [0, 1], fn := 1 })]) (.two (.leaf) (.two (.reg [(3, { sh := [0, 1], fn := 2 })]) (.leaf)))))), ⟨(.cons (.own 0 0 0 0) (.cons (.p (.pair (.int .i64) (.pair (.int .i64) (.int .i64)))) .nil)), [(0, false, (.vars (.cons (.p (.int .i64)) (.cons (.mp 1) (.cons (.p (.int .i64)) .nil))))), (1, false, (.map (.int .i64) (.int .i64)))]⟩, [⟨.nil, [(0, false, (.vars (.cons (.p (.int .i64)) (.cons (.mp 1) (.cons (.p (.int .i64)) .nil))))), (1, false, (.map (.int .i64) (.int .i64)))]⟩], []⟩
def law08_does__cm_ft (fu : Nat) : FnT := ⟨28, ⟨(.cons (.own 0 0 0 0) (.cons (.p (.pair (.int .i64) (.pair (.int .i64) (.int .i64)))) .nil)), [(0, false, (.vars (.cons (.p (.int .i64)) (.cons (.mp 1) (.cons (.p (.int .i64)) .nil))))), (1, false, (.map (.int .i64) (.int .i64)))]⟩, [⟨.nil, [(0, false, (.vars (.cons (.p (.int .i64)) (.cons (.mp 1) (.cons (.p (.int .i64)) .nil))))), (1, false, (.map (.int .i64) (.int .i64)))]⟩], fun t => law08_does__cm fu t.1 t.2.1 t.2.2.1 t.2.2.2⟩
theorem law08_does__cm_eq (fu : Nat) : ∀ t, evF Go.Proofs.Try.prog [low_Pick_ft fu, clock_Clock_Set__cm_ft fu, clock_Clock_Unset__cm_ft fu] fu Go.Proofs.Try.f28 law08_does__cm_fa t = (law08_does__cm_ft fu).spec t := fun t => by kernel_rfl
theorem law08_does__cm_told (fu : Nat) : Told Go.Proofs.Try.prog (law08_does__cm_ft fu) := told_of (allT_cons (low_Pick_told fu) (allT_cons (clock_Clock_Set__cm_told fu) (allT_cons (clock_Clock_Unset__cm_told fu) allT_nil))) mixed Go.Proofs.Try.func28 (by kernel_rfl) (by kernel_rfl) (law08_does__cm_eq fu)

def law08_ClockOnce_l0 (fu : Nat) (x : Int) (h1 : (List (((Int × Int) × Nat)) × Nat)) : Option ((Int × (List (((Int × Int) × Nat)) × Nat)) ⊕ ((List (((Int × Int) × Nat)) × Nat))) :=
  bif (decide (x < 0)) then
    none
  else
    some (.inr h1)
def law08_ClockOnce_l0_it (fu : Nat)  (tt : (Int × (List (((Int × Int) × Nat)) × Nat))) : Option ((List (((Int × Int) × Nat)) × Nat)) :=
  iter fu (fun tt => law08_ClockOnce_l0 fu tt.1 tt.2) tt
def law08_ClockOnce_l1 (fu : Nat) (h2 : (List (((Int × Int) × Nat)) × Nat)) (en2 : ((Int × Int) × Nat)) : Option ((List (((Int × Int) × Nat)) × Nat) ⊕ (((List (((Int × Int) × Nat)) × Nat) ⊕ ((Int × (List (((Int × Int) × Nat)) × Nat)) ⊕ ((List (((Int × Int) × Nat)) × Nat) ⊕ Bool))))) :=
  (clock_Clock_Now_n0 fu).bind fun r15 =>
  bif (decide (en2.1.2 ≤ r15)) then
    some (.inr (.inr (.inr (.inr false))))
  else
    some (.inl h2)
def law08_ClockOnce_l1_hd (o3 : (List (((Int × Int) × Nat)) × Nat)) (h2 : (List (((Int × Int) × Nat)) × Nat)) : Option (List (((Int × Int) × Nat))) :=
  (need (Nat.beq h2.2 o3.2) (some h2.1))
def law08_ClockOnce_l2 (fu : Nat) (ops : List ((Int × (Int × Int)))) (i : Int) (h : (List (((Int × Int) × Nat)) × Nat)) : Option ((Int × (List (((Int × Int) × Nat)) × Nat)) ⊕ ((List (((Int × Int) × Nat)) × Nat) ⊕ Bool)) :=
  bif (decide (i < 130)) then
    Option.bind (α := ((List (((Int × Int) × Nat)) × Nat) ⊕ ((Int × (List (((Int × Int) × Nat)) × Nat)) ⊕ ((List (((Int × Int) × Nat)) × Nat) ⊕ Bool)))) (
      Option.bind (α := ((Bool × (List (((Int × Int) × Nat)) × Nat)))) (
        bif (decide (i < ((ops.length : Nat) : Int))) then
          bif (decide (i < 100)) then
            (idx? i ops.length).bind fun q =>
            (ops)[q]?.bind fun r3 =>
            some ((decide (r3.1 < 6)), h)
          else
            some (false, h)
        else
          some (false, h)) fun o =>
      bif o.1 then
        (idx? i ops.length).bind fun q1 =>
        (ops)[q1]?.bind fun r4 =>
        (law08_does_n0 fu r4).bind fun r5 =>
        (idx? i ops.length).bind fun q2 =>
        (ops)[q2]?.bind fun r6 =>
        (clock_Clock_Due_n0 fu r6.2.1).bind fun r7 =>
        Option.bind (α := ((List (((Int × Int) × Nat)) × Nat))) (
          bif r7.2 then
            (idx? i ops.length).bind fun q3 =>
            (ops)[q3]?.bind fun r8 =>
            some (mput (k := (.int .i64)) (v := (.int .i64)) o.2 r8.2.1 r7.1)
          else
            (idx? i ops.length).bind fun q4 =>
            (ops)[q4]?.bind fun r9 =>
            some (mdel (k := (.int .i64)) (v := (.int .i64)) o.2 r9.2.1)) fun o1 =>
        Option.bind (α := ((Bool × (List (((Int × Int) × Nat)) × Nat)))) (
          bif r7.2 then
            (clock_Clock_Now_n0 fu).bind fun r10 =>
            bif (decide (r7.1 ≤ r10)) then
              some (true, o1)
            else
              (clock_Clock_Now_n0 fu).bind fun r11 =>
              some ((decide (r7.1 > (IntKind.wrap .i64 (r11 + 20)))), o1)
          else
            some (false, o1)) fun o2 =>
        bif o2.1 then
          some (.inr (.inr (.inr false)))
        else
          some (.inl o2.2)
      else
        (clock_Clock_Now_n0 fu).bind fun r12 =>
        (clock_Clock_Tick_n0 fu).bind fun r13 =>
        (clock_Clock_Now_n0 fu).bind fun r14 =>
        bif (!(r14 == (IntKind.wrap .i64 (r12 + 1)))) then
          some (.inr (.inr (.inr false)))
        else
          (law08_ClockOnce_l0_it fu  (0, o.2)).bind fun o3 =>
          mAll (fun (tt : (List (((Int × Int) × Nat)) × Nat)) => law08_ClockOnce_l1_hd o3 tt) (fun (tt : (List (((Int × Int) × Nat)) × Nat)) (ee : ((Int × Int) × Nat)) => law08_ClockOnce_l1 fu tt ee) o3 fun o4 =>
          match o4 with
          | .inl s =>
            some (.inl s)
          | .inr o5 =>
            some o5) fun o6 =>
    match o6 with
    | .inl s1 =>
      some (.inl ((IntKind.wrap .i64 (i + 1)), s1))
    | .inr o7 =>
      some o7
  else
    some (.inr (.inl h))
def law08_ClockOnce_l2_it (fu : Nat) (ops : List ((Int × (Int × Int)))) (tt : (Int × (List (((Int × Int) × Nat)) × Nat))) : Option ((List (((Int × Int) × Nat)) × Nat) ⊕ Bool) :=
  iter fu (fun tt => law08_ClockOnce_l2 fu ops tt.1 tt.2) tt
def law08_ClockOnce_l3 (fu : Nat) (r28 : (List ((Int × Int)) × (Int × (Int × (List (((Int × Int) × Nat)) × Nat))))) (x1 : Int) (h7 : Int) (h8 : Int) (h9 : (List (((Int × Int) × Nat)) × Nat)) (h10 : (List (((Int × Int) × Nat)) × Nat)) : Option ((Int × (Int × (Int × ((List (((Int × Int) × Nat)) × Nat) × (List (((Int × Int) × Nat)) × Nat))))) ⊕ ((Int × (Int × ((List (((Int × Int) × Nat)) × Nat) × (List (((Int × Int) × Nat)) × Nat)))) ⊕ ((Int × (Int × ((List (((Int × Int) × Nat)) × Nat) × (List (((Int × Int) × Nat)) × Nat)))) ⊕ ((Int × (Int × (Int × ((List (((Int × Int) × Nat)) × Nat) × (List (((Int × Int) × Nat)) × Nat))))) ⊕ ((Int × (Int × ((List (((Int × Int) × Nat)) × Nat) × (List (((Int × Int) × Nat)) × Nat)))) ⊕ Bool))))) :=
  bif (decide (x1 < ((r28.1.length : Nat) : Int))) then
    (idx? x1 r28.1.length).bind fun q10 =>
    (r28.1)[q10]?.bind fun r30 =>
    Option.bind (α := ((Bool × (Int × (Int × ((List (((Int × Int) × Nat)) × Nat) × ((List (((Int × Int) × Nat)) × Nat) × (Int × Int)))))))) (
      bif (!(Option.isSome (mget (k := (.int .i64)) (v := (.int .i64)) h10 r30.2))) then
        some (true, (h7, (h8, (h9, (h10, (r30.1, r30.2))))))
      else
        (clock_Clock_Now__cm fu h7 h8 h9).bind fun r31 =>
        bif (!((Option.getD (mget (k := (.int .i64)) (v := (.int .i64)) h10 r30.2) 0) == r31.1)) then
          some (true, (r31.2.1, (r31.2.2.1, (r31.2.2.2, (h10, (r30.1, r30.2))))))
        else
          bif (!(r30.1 == (Option.getD (mget (k := (.int .i64)) (v := (.int .i64)) h10 r30.2) 0))) then
            some (true, (r31.2.1, (r31.2.2.1, (r31.2.2.2, (h10, (r30.1, r30.2))))))
          else
            bif (decide (x1 > 0)) then
              (idx? (IntKind.wrap .i64 (x1 - 1)) r28.1.length).bind fun q11 =>
              (r28.1)[q11]?.bind fun r32 =>
              some ((decide (r32.2 ≥ r30.2)), (r31.2.1, (r31.2.2.1, (r31.2.2.2, (h10, (r30.1, r30.2))))))
            else
              some (false, (r31.2.1, (r31.2.2.1, (r31.2.2.2, (h10, (r30.1, r30.2))))))) fun o13 =>
    bif o13.1 then
      some (.inr (.inr (.inr (.inr (.inr false)))))
    else
      some (.inl ((IntKind.wrap .i64 (x1 + 1)), (o13.2.1, (o13.2.2.1, (o13.2.2.2.1, (mdel (k := (.int .i64)) (v := (.int .i64)) o13.2.2.2.2.1 o13.2.2.2.2.2.2))))))
  else
    some (.inr (.inl (h7, (h8, (h9, h10)))))
def law08_ClockOnce_l3_it (fu : Nat) (r28 : (List ((Int × Int)) × (Int × (Int × (List (((Int × Int) × Nat)) × Nat))))) (tt : (Int × (Int × (Int × ((List (((Int × Int) × Nat)) × Nat) × (List (((Int × Int) × Nat)) × Nat)))))) : Option ((Int × (Int × ((List (((Int × Int) × Nat)) × Nat) × (List (((Int × Int) × Nat)) × Nat)))) ⊕ ((Int × (Int × ((List (((Int × Int) × Nat)) × Nat) × (List (((Int × Int) × Nat)) × Nat)))) ⊕ ((Int × (Int × (Int × ((List (((Int × Int) × Nat)) × Nat) × (List (((Int × Int) × Nat)) × Nat))))) ⊕ ((Int × (Int × ((List (((Int × Int) × Nat)) × Nat) × (List (((Int × Int) × Nat)) × Nat)))) ⊕ Bool)))) :=
  iter fu (fun tt => law08_ClockOnce_l3 fu r28 tt.1 tt.2.1 tt.2.2.1 tt.2.2.2.1 tt.2.2.2.2) tt
def law08_ClockOnce_l4 (fu : Nat) (h11 : Int) (h12 : Int) (h13 : (List (((Int × Int) × Nat)) × Nat)) (h14 : (List (((Int × Int) × Nat)) × Nat)) (en5 : ((Int × Int) × Nat)) : Option ((Int × (Int × ((List (((Int × Int) × Nat)) × Nat) × (List (((Int × Int) × Nat)) × Nat)))) ⊕ (((Int × (Int × ((List (((Int × Int) × Nat)) × Nat) × (List (((Int × Int) × Nat)) × Nat)))) ⊕ ((Int × (Int × (Int × ((List (((Int × Int) × Nat)) × Nat) × (List (((Int × Int) × Nat)) × Nat))))) ⊕ ((Int × (Int × ((List (((Int × Int) × Nat)) × Nat) × (List (((Int × Int) × Nat)) × Nat)))) ⊕ Bool))))) :=
  (clock_Clock_Now__cm fu h11 h12 h13).bind fun r33 =>
  bif (decide (en5.1.2 ≤ r33.1)) then
    some (.inr (.inr (.inr (.inr false))))
  else
    some (.inl (r33.2.1, (r33.2.2.1, (r33.2.2.2, h14))))
def law08_ClockOnce_l4_hd (s3 : (Int × (Int × ((List (((Int × Int) × Nat)) × Nat) × (List (((Int × Int) × Nat)) × Nat))))) (h11 : Int) (h12 : Int) (h13 : (List (((Int × Int) × Nat)) × Nat)) (h14 : (List (((Int × Int) × Nat)) × Nat)) : Option (List (((Int × Int) × Nat))) :=
  (need (Nat.beq h14.2 s3.2.2.2.2) (some h14.1))
def law08_ClockOnce_l5 (fu : Nat) (ops : List ((Int × (Int × Int)))) (i1 : Int) (h3 : Int) (h4 : Int) (h5 : (List (((Int × Int) × Nat)) × Nat)) (h6 : (List (((Int × Int) × Nat)) × Nat)) : Option ((Int × (Int × (Int × ((List (((Int × Int) × Nat)) × Nat) × (List (((Int × Int) × Nat)) × Nat))))) ⊕ ((Int × (Int × ((List (((Int × Int) × Nat)) × Nat) × (List (((Int × Int) × Nat)) × Nat)))) ⊕ Bool)) :=
  bif (decide (i1 < 130)) then
    Option.bind (α := ((Int × (Int × ((List (((Int × Int) × Nat)) × Nat) × (List (((Int × Int) × Nat)) × Nat)))) ⊕ ((Int × (Int × (Int × ((List (((Int × Int) × Nat)) × Nat) × (List (((Int × Int) × Nat)) × Nat))))) ⊕ ((Int × (Int × ((List (((Int × Int) × Nat)) × Nat) × (List (((Int × Int) × Nat)) × Nat)))) ⊕ Bool)))) (
      Option.bind (α := ((Bool × (Int × (Int × ((List (((Int × Int) × Nat)) × Nat) × (List (((Int × Int) × Nat)) × Nat))))))) (
        bif (decide (i1 < ((ops.length : Nat) : Int))) then
          bif (decide (i1 < 100)) then
            (idx? i1 ops.length).bind fun q5 =>
            (ops)[q5]?.bind fun r18 =>
            some ((decide (r18.1 < 6)), (h3, (h4, (h5, h6))))
          else
            some (false, (h3, (h4, (h5, h6))))
        else
          some (false, (h3, (h4, (h5, h6))))) fun o10 =>
      bif o10.1 then
        (idx? i1 ops.length).bind fun q6 =>
        (ops)[q6]?.bind fun r19 =>
        (law08_does__cm fu r19 o10.2.1 o10.2.2.1 o10.2.2.2.1).bind fun r20 =>
        (idx? i1 ops.length).bind fun q7 =>
        (ops)[q7]?.bind fun r21 =>
        (clock_Clock_Due__cm fu r21.2.1 r20.1 r20.2.1 r20.2.2).bind fun r22 =>
        Option.bind (α := ((Int × (Int × ((List (((Int × Int) × Nat)) × Nat) × (List (((Int × Int) × Nat)) × Nat)))))) (
          bif r22.2.1 then
            (idx? i1 ops.length).bind fun q8 =>
            (ops)[q8]?.bind fun r23 =>
            some (r22.2.2.1, (r22.2.2.2.1, (r22.2.2.2.2, (mput (k := (.int .i64)) (v := (.int .i64)) o10.2.2.2.2 r23.2.1 r22.1))))
          else
            (idx? i1 ops.length).bind fun q9 =>
            (ops)[q9]?.bind fun r24 =>
            some (r22.2.2.1, (r22.2.2.2.1, (r22.2.2.2.2, (mdel (k := (.int .i64)) (v := (.int .i64)) o10.2.2.2.2 r24.2.1))))) fun o11 =>
        Option.bind (α := ((Bool × (Int × (Int × ((List (((Int × Int) × Nat)) × Nat) × (List (((Int × Int) × Nat)) × Nat))))))) (
          bif r22.2.1 then
            (clock_Clock_Now__cm fu o11.1 o11.2.1 o11.2.2.1).bind fun r25 =>
            bif (decide (r22.1 ≤ r25.1)) then
              some (true, (r25.2.1, (r25.2.2.1, (r25.2.2.2, o11.2.2.2))))
            else
              (clock_Clock_Now__cm fu r25.2.1 r25.2.2.1 r25.2.2.2).bind fun r26 =>
              some ((decide (r22.1 > (IntKind.wrap .i64 (r26.1 + 20)))), (r26.2.1, (r26.2.2.1, (r26.2.2.2, o11.2.2.2))))
          else
            some (false, (o11.1, (o11.2.1, (o11.2.2.1, o11.2.2.2))))) fun o12 =>
        bif o12.1 then
          some (.inr (.inr (.inr false)))
        else
          some (.inl (o12.2.1, (o12.2.2.1, (o12.2.2.2.1, o12.2.2.2.2))))
      else
        (clock_Clock_Now__cm fu o10.2.1 o10.2.2.1 o10.2.2.2.1).bind fun r27 =>
        (clock_Clock_Tick__cm fu r27.2.1 r27.2.2.1 r27.2.2.2).bind fun r28 =>
        (clock_Clock_Now__cm fu r28.2.1 r28.2.2.1 r28.2.2.2).bind fun r29 =>
        bif (!(r29.1 == (IntKind.wrap .i64 (r27.1 + 1)))) then
          some (.inr (.inr (.inr false)))
        else
          (law08_ClockOnce_l3_it fu r28 (0, (r29.2.1, (r29.2.2.1, (r29.2.2.2, o10.2.2.2.2))))).bind fun o14 =>
          match o14 with
          | .inl s3 =>
            mAll (fun (tt : (Int × (Int × ((List (((Int × Int) × Nat)) × Nat) × (List (((Int × Int) × Nat)) × Nat))))) => law08_ClockOnce_l4_hd s3 tt.1 tt.2.1 tt.2.2.1 tt.2.2.2) (fun (tt : (Int × (Int × ((List (((Int × Int) × Nat)) × Nat) × (List (((Int × Int) × Nat)) × Nat))))) (ee : ((Int × Int) × Nat)) => law08_ClockOnce_l4 fu tt.1 tt.2.1 tt.2.2.1 tt.2.2.2 ee) (s3.1, (s3.2.1, (s3.2.2.1, s3.2.2.2))) fun o16 =>
            match o16 with
            | .inl s4 =>
              some (.inl (s4.1, (s4.2.1, (s4.2.2.1, s4.2.2.2))))
            | .inr o17 =>
              some o17
          | .inr o15 =>
            some o15) fun o18 =>
    match o18 with
    | .inl s5 =>
      some (.inl ((IntKind.wrap .i64 (i1 + 1)), (s5.1, (s5.2.1, (s5.2.2.1, s5.2.2.2)))))
    | .inr o19 =>
      some o19
  else
    some (.inr (.inl (h3, (h4, (h5, h6)))))
def law08_ClockOnce_l5_it (fu : Nat) (ops : List ((Int × (Int × Int)))) (tt : (Int × (Int × (Int × ((List (((Int × Int) × Nat)) × Nat) × (List (((Int × Int) × Nat)) × Nat)))))) : Option ((Int × (Int × ((List (((Int × Int) × Nat)) × Nat) × (List (((Int × Int) × Nat)) × Nat)))) ⊕ Bool) :=
  iter fu (fun tt => law08_ClockOnce_l5 fu ops tt.1 tt.2.1 tt.2.2.1 tt.2.2.2.1 tt.2.2.2.2) tt
def law08_ClockOnce (fu : Nat) (ops : List ((Int × (Int × Int)))) : Option (Bool) :=
  (clock_New fu 200).bind fun r =>
  match r with
  | .inl r1 =>
    bif (!(r1 == 0)) then
      some false
    else
      (law08_ClockOnce_l2_it fu ops (0, ([], 0))).bind fun o8 =>
      match o8 with
      | .inl s2 =>
        (clock_Clock_All_n0 fu).bind fun r16 =>
        bif (((s2.1.length : Nat) : Int) == 0) then
          (law08_awake fu).bind fun r17 =>
          some r17
        else
          some false
      | .inr o9 =>
        some o9
  | .inr r2 =>
    bif (!(r2.1 == 0)) then
      some false
    else
      (law08_ClockOnce_l5_it fu ops (0, (r2.2.1, (r2.2.2.1, (r2.2.2.2, ([], 0)))))).bind fun o20 =>
      match o20 with
      | .inl s6 =>
        (clock_Clock_All__cm fu s6.1 s6.2.1 s6.2.2.1).bind fun r34 =>
        bif (((s6.2.2.2.1.length : Nat) : Int) == ((r34.1.length : Nat) : Int)) then
          (law08_awake fu).bind fun r35 =>
          some r35
        else
          some false
      | .inr o21 =>
        some o21
def law08_ClockOnce_fa : FnA := ⟨.two (.leaf) (.two (.reg [(0, { ids := [100, 101] })]) (.sel (.slot 3 (.nilp (.pointer none))) (.two (.two (.leaf) (.two (.leaf) (.leaf))) (.two (.reg [(0, { ids := [103] })]) (.two (.two (.leaf) (.one (.loop ⟨[5, 6], ⟨(.cons (.mp 103) (.cons (.p (.int .i64)) .nil)), [(103, false, (.map (.int .i64) (.int .i64)))]⟩⟩ true [(0, ⟨[5], ⟨(.cons (.mp 103) .nil), [(103, false, (.map (.int .i64) (.int .i64)))]⟩⟩)] (.two (.two (.leaf) (.leaf)) (.two (.join ⟨[5], ⟨(.cons (.mp 103) .nil), [(103, false, (.map (.int .i64) (.int .i64)))]⟩⟩ true [] (.one (.two (.two (.join ⟨[5, 43], ⟨(.cons (.mp 103) (.cons (.p .bool) .nil)), [(103, false, (.map (.int .i64) (.int .i64)))]⟩⟩ false [] (.leaf)) (.two (.two (.reg [(5, { fn := 1 })]) (.two (.reg [(6, { fn := 2 })]) (.two (.two (.leaf) (.join ⟨[5], ⟨(.cons (.mp 103) .nil), [(103, false, (.map (.int .i64) (.int .i64)))]⟩⟩ false [] (.leaf))) (.two (.two (.join ⟨[5, 87], ⟨(.cons (.mp 103) (.cons (.p .bool) .nil)), [(103, false, (.map (.int .i64) (.int .i64)))]⟩⟩ false [] (.reg [(4, { fn := 3 }), (9, { fn := 3 })])) (.two (.leaf) (.leaf))) (.leaf))))) (.leaf))) (.two (.reg [(1, { fn := 3 })]) (.two (.reg [(1, { fn := 4 })]) (.two (.two (.reg [(1, { fn := 3 })]) (.two (.leaf) (.leaf))) (.two (.two (.leaf) (.one (.loop ⟨[5, 99], ⟨(.cons (.mp 103) (.cons (.p (.int .i64)) .nil)), [(103, false, (.map (.int .i64) (.int .i64)))]⟩⟩ false [(2, ⟨[5], ⟨(.cons (.mp 103) .nil), [(103, false, (.map (.int .i64) (.int .i64)))]⟩⟩)] (.two (.leaf) (.two (.leaf) (.two (.one (.leaf)) (.leaf))))))) (.mr [] [] (.int .i64) (.int .i64) 103 ⟨[5, 144], ⟨(.cons (.mp 103) (.cons (.mp 103) .nil)), [(103, false, (.map (.int .i64) (.int .i64)))]⟩⟩ true [] (.two (.reg [(2, { fn := 3 })]) (.two (.leaf) (.leaf))))))))))) (.leaf)))))) (.two (.reg [(3, { fn := 5 }), (7, { fn := 6 })]) (.leaf))))) (.two (.two (.leaf) (.two (.leaf) (.leaf))) (.two (.reg [(0, { ids := [103] })]) (.two (.two (.leaf) (.one (.loop ⟨[3, 5, 6], ⟨(.cons (.own 0 100 0 0) (.cons (.mp 103) (.cons (.p (.int .i64)) .nil))), [(100, false, (.vars (.cons (.p (.int .i64)) (.cons (.mp 101) (.cons (.p (.int .i64)) .nil))))), (101, false, (.map (.int .i64) (.int .i64))), (103, false, (.map (.int .i64) (.int .i64)))]⟩⟩ true [(0, ⟨[3, 5], ⟨(.cons (.own 0 100 0 0) (.cons (.mp 103) .nil)), [(100, false, (.vars (.cons (.p (.int .i64)) (.cons (.mp 101) (.cons (.p (.int .i64)) .nil))))), (101, false, (.map (.int .i64) (.int .i64))), (103, false, (.map (.int .i64) (.int .i64)))]⟩⟩)] (.two (.two (.leaf) (.leaf)) (.two (.join ⟨[3, 5], ⟨(.cons (.own 0 100 0 0) (.cons (.mp 103) .nil)), [(100, false, (.vars (.cons (.p (.int .i64)) (.cons (.mp 101) (.cons (.p (.int .i64)) .nil))))), (101, false, (.map (.int .i64) (.int .i64))), (103, false, (.map (.int .i64) (.int .i64)))]⟩⟩ true [] (.one (.two (.two (.join ⟨[3, 5, 43], ⟨(.cons (.own 0 100 0 0) (.cons (.mp 103) (.cons (.p .bool) .nil))), [(100, false, (.vars (.cons (.p (.int .i64)) (.cons (.mp 101) (.cons (.p (.int .i64)) .nil))))), (101, false, (.map (.int .i64) (.int .i64))), (103, false, (.map (.int .i64) (.int .i64)))]⟩⟩ false [] (.leaf)) (.two (.two (.reg [(5, { sh := [100, 101], fn := 7 })]) (.two (.reg [(6, { sh := [100, 101], fn := 8 })]) (.two (.two (.leaf) (.join ⟨[3, 5], ⟨(.cons (.own 0 100 0 0) (.cons (.mp 103) .nil)), [(100, false, (.vars (.cons (.p (.int .i64)) (.cons (.mp 101) (.cons (.p (.int .i64)) .nil))))), (101, false, (.map (.int .i64) (.int .i64))), (103, false, (.map (.int .i64) (.int .i64)))]⟩⟩ false [] (.leaf))) (.two (.two (.join ⟨[3, 5, 87], ⟨(.cons (.own 0 100 0 0) (.cons (.mp 103) (.cons (.p .bool) .nil))), [(100, false, (.vars (.cons (.p (.int .i64)) (.cons (.mp 101) (.cons (.p (.int .i64)) .nil))))), (101, false, (.map (.int .i64) (.int .i64))), (103, false, (.map (.int .i64) (.int .i64)))]⟩⟩ false [] (.reg [(4, { sh := [100, 101], fn := 9 }), (9, { sh := [100, 101], fn := 9 })])) (.two (.leaf) (.leaf))) (.leaf))))) (.leaf))) (.two (.reg [(1, { sh := [100, 101], fn := 9 })]) (.two (.reg [(1, { sh := [100, 101], fn := 10 })]) (.two (.two (.reg [(1, { sh := [100, 101], fn := 9 })]) (.two (.leaf) (.leaf))) (.two (.two (.leaf) (.one (.loop ⟨[3, 5, 99], ⟨(.cons (.own 0 100 0 0) (.cons (.mp 103) (.cons (.p (.int .i64)) .nil))), [(100, false, (.vars (.cons (.p (.int .i64)) (.cons (.mp 101) (.cons (.p (.int .i64)) .nil))))), (101, false, (.map (.int .i64) (.int .i64))), (103, false, (.map (.int .i64) (.int .i64)))]⟩⟩ true [(2, ⟨[3, 5], ⟨(.cons (.own 0 100 0 0) (.cons (.mp 103) .nil)), [(100, false, (.vars (.cons (.p (.int .i64)) (.cons (.mp 101) (.cons (.p (.int .i64)) .nil))))), (101, false, (.map (.int .i64) (.int .i64))), (103, false, (.map (.int .i64) (.int .i64)))]⟩⟩)] (.two (.leaf) (.two (.leaf) (.two (.one (.two (.reg [(3, { ids := [104] })]) (.two (.leaf) (.two (.two (.join ⟨[3, 5, 12, 139], ⟨(.cons (.own 0 100 0 0) (.cons (.mp 103) (.cons (.own 0 104 0 0) (.cons (.p .bool) .nil)))), [(100, false, (.vars (.cons (.p (.int .i64)) (.cons (.mp 101) (.cons (.p (.int .i64)) .nil))))), (101, false, (.map (.int .i64) (.int .i64))), (103, false, (.map (.int .i64) (.int .i64))), (104, false, (.vars (.cons (.p (.int .i64)) (.cons (.p (.int .i64)) .nil))))]⟩⟩ false [] (.reg [(5, { sh := [100, 101], fn := 9 })])) (.two (.leaf) (.leaf))) (.leaf))))) (.leaf))))))) (.mr [] [] (.int .i64) (.int .i64) 103 ⟨[3, 5, 144], ⟨(.cons (.own 0 100 0 0) (.cons (.mp 103) (.cons (.mp 103) .nil))), [(100, false, (.vars (.cons (.p (.int .i64)) (.cons (.mp 101) (.cons (.p (.int .i64)) .nil))))), (101, false, (.map (.int .i64) (.int .i64))), (103, false, (.map (.int .i64) (.int .i64)))]⟩⟩ true [] (.two (.reg [(2, { sh := [100, 101], fn := 9 })]) (.two (.leaf) (.leaf))))))))))) (.leaf)))))) (.two (.reg [(3, { sh := [100, 101], fn := 11 }), (7, { fn := 6 })]) (.leaf))))))), ⟨(.cons (.p (.sl (.pair (.int .i64) (.pair (.int .i64) (.int .i64))))) .nil), []⟩, [⟨(.cons (.p .bool) .nil), []⟩], [0]⟩
def law08_ClockOnce_ft (fu : Nat) : FnT := ⟨6, ⟨(.cons (.p (.sl (.pair (.int .i64) (.pair (.int .i64) (.int .i64))))) .nil), []⟩, [⟨(.cons (.p .bool) .nil), []⟩], fun t => law08_ClockOnce fu t⟩
theorem law08_ClockOnce_eq (fu : Nat) : ∀ t, evF Go.Proofs.Try.prog [clock_New_ft fu, law08_does_n0_ft fu, clock_Clock_Due_n0_ft fu, clock_Clock_Now_n0_ft fu, clock_Clock_Tick_n0_ft fu, clock_Clock_All_n0_ft fu, law08_awake_ft fu, law08_does__cm_ft fu, clock_Clock_Due__cm_ft fu, clock_Clock_Now__cm_ft fu, clock_Clock_Tick__cm_ft fu, clock_Clock_All__cm_ft fu] fu Go.Proofs.Try.f6 law08_ClockOnce_fa t = (law08_ClockOnce_ft fu).spec t := fun t => by kernel_rfl
theorem law08_ClockOnce_told (fu : Nat) : Told Go.Proofs.Try.prog (law08_ClockOnce_ft fu) := told_of (allT_cons (clock_New_told fu) (allT_cons (law08_does_n0_told fu) (allT_cons (clock_Clock_Due_n0_told fu) (allT_cons (clock_Clock_Now_n0_told fu) (allT_cons (clock_Clock_Tick_n0_told fu) (allT_cons (clock_Clock_All_n0_told fu) (allT_cons (law08_awake_told fu) (allT_cons (law08_does__cm_told fu) (allT_cons (clock_Clock_Due__cm_told fu) (allT_cons (clock_Clock_Now__cm_told fu) (allT_cons (clock_Clock_Tick__cm_told fu) (allT_cons (clock_Clock_All__cm_told fu) allT_nil)))))))))))) mixed Go.Proofs.Try.func6 (by kernel_rfl) (by kernel_rfl) (law08_ClockOnce_eq fu)

def law08_ClockSkips_l0 (fu : Nat) (ops : List ((Int × (Int × Int)))) (i : Int) : Option (Int ⊕ (Unit)) :=
  Option.bind (α := (Bool)) (
    bif (decide (i < ((ops.length : Nat) : Int))) then
      some (decide (i < 50))
    else
      some false) fun o1 =>
  bif o1 then
    (idx? i ops.length).bind fun q =>
    (ops)[q]?.bind fun r6 =>
    (law08_does_n0 fu r6).bind fun r7 =>
    (idx? i ops.length).bind fun q1 =>
    (ops)[q1]?.bind fun r8 =>
    (law08_does_n0 fu r8).bind fun r9 =>
    (idx? i ops.length).bind fun q2 =>
    (ops)[q2]?.bind fun r10 =>
    Option.bind (α := (Unit)) (
      bif (decide (r10.1 ≥ 6)) then
        (clock_Clock_Tick_n0 fu).bind fun r11 =>
        (clock_Clock_Tick_n0 fu).bind fun r12 =>
        some ()
      else
        some ()) fun o2 =>
    some (.inl (IntKind.wrap .i64 (i + 1)))
  else
    some (.inr ())
def law08_ClockSkips_l0_it (fu : Nat) (ops : List ((Int × (Int × Int)))) (tt : Int) : Option (Unit) :=
  iter fu (fun tt => law08_ClockSkips_l0 fu ops tt) tt
def law08_ClockSkips_l1 (fu : Nat) (k : Int) : Option (Int ⊕ (Unit)) :=
  Option.bind (α := (Bool)) (
    bif (decide (k < 25)) then
      some true
    else
      some false) fun o5 =>
  bif o5 then
    (clock_Clock_Tick_n0 fu).bind fun r18 =>
    some (.inl (IntKind.wrap .i64 (k + 1)))
  else
    some (.inr ())
def law08_ClockSkips_l1_it (fu : Nat)  (tt : Int) : Option (Unit) :=
  iter fu (fun tt => law08_ClockSkips_l1 fu tt) tt
def law08_ClockSkips_l2 (fu : Nat) (n : Int) : Option (Int ⊕ (Unit ⊕ Bool)) :=
  bif (decide (n < 60)) then
    (clock_Clock_Next_n0 fu).bind fun r13 =>
    (clock_Clock_Skip_n0 fu).bind fun r14 =>
    bif (!(r13.2.2 == false)) then
      some (.inr (.inr false))
    else
      bif (!r13.2.2) then
        Option.bind (α := (Bool)) (
          (clock_Clock_Now_n0 fu).bind fun r15 =>
          (clock_Clock_Now_n0 fu).bind fun r16 =>
          bif (r15 == r16) then
            (law08_awake fu).bind fun r17 =>
            some r17
          else
            some false) fun o4 =>
        some (.inr (.inr o4))
      else
        (law08_ClockSkips_l1_it fu  0).bind fun o6 =>
        Option.bind (α := (Bool)) (
          (low_SameTimers fu [] []).bind fun r19 =>
          bif (!r19) then
            some true
          else
            (clock_Clock_Now_n0 fu).bind fun r20 =>
            (clock_Clock_Now_n0 fu).bind fun r21 =>
            bif (!(r20 == r21)) then
              some true
            else
              (clock_Clock_All_n0 fu).bind fun r22 =>
              (clock_Clock_All_n0 fu).bind fun r23 =>
              (low_SameTimers fu [] []).bind fun r24 =>
              some (!r24)) fun o7 =>
        bif o7 then
          some (.inr (.inr false))
        else
          some (.inl (IntKind.wrap .i64 (n + 1)))
  else
    some (.inr (.inl ()))
def law08_ClockSkips_l2_it (fu : Nat)  (tt : Int) : Option (Unit ⊕ Bool) :=
  iter fu (fun tt => law08_ClockSkips_l2 fu tt) tt
def law08_ClockSkips_l3 (fu : Nat) (ops : List ((Int × (Int × Int)))) (i1 : Int) (h : Int) (h1 : Int) (h2 : (List (((Int × Int) × Nat)) × Nat)) : Option ((Int × (Int × (Int × (List (((Int × Int) × Nat)) × Nat)))) ⊕ ((Int × (Int × (List (((Int × Int) × Nat)) × Nat))))) :=
  Option.bind (α := ((Bool × (Int × (Int × (List (((Int × Int) × Nat)) × Nat)))))) (
    bif (decide (i1 < ((ops.length : Nat) : Int))) then
      some ((decide (i1 < 50)), (h, (h1, h2)))
    else
      some (false, (h, (h1, h2)))) fun o11 =>
  bif o11.1 then
    (idx? i1 ops.length).bind fun q3 =>
    (ops)[q3]?.bind fun r26 =>
    (law08_does_n0 fu r26).bind fun r27 =>
    (idx? i1 ops.length).bind fun q4 =>
    (ops)[q4]?.bind fun r28 =>
    (law08_does__cm fu r28 o11.2.1 o11.2.2.1 o11.2.2.2).bind fun r29 =>
    (idx? i1 ops.length).bind fun q5 =>
    (ops)[q5]?.bind fun r30 =>
    Option.bind (α := ((Int × (Int × (List (((Int × Int) × Nat)) × Nat))))) (
      bif (decide (r30.1 ≥ 6)) then
        (clock_Clock_Tick_n0 fu).bind fun r31 =>
        (clock_Clock_Tick__cm fu r29.1 r29.2.1 r29.2.2).bind fun r32 =>
        some (r32.2.1, (r32.2.2.1, r32.2.2.2))
      else
        some (r29.1, (r29.2.1, r29.2.2))) fun o12 =>
    some (.inl ((IntKind.wrap .i64 (i1 + 1)), (o12.1, (o12.2.1, o12.2.2))))
  else
    some (.inr (o11.2.1, (o11.2.2.1, o11.2.2.2)))
def law08_ClockSkips_l3_it (fu : Nat) (ops : List ((Int × (Int × Int)))) (tt : (Int × (Int × (Int × (List (((Int × Int) × Nat)) × Nat))))) : Option ((Int × (Int × (List (((Int × Int) × Nat)) × Nat)))) :=
  iter fu (fun tt => law08_ClockSkips_l3 fu ops tt.1 tt.2.1 tt.2.2.1 tt.2.2.2) tt
def law08_ClockSkips_l4 (fu : Nat) (y : List ((Int × Int))) (k1 : Int) (h6 : Int) (h7 : Int) (h8 : (List (((Int × Int) × Nat)) × Nat)) : Option ((List ((Int × Int)) × (Int × (Int × (Int × (List (((Int × Int) × Nat)) × Nat))))) ⊕ ((List ((Int × Int)) × (Int × (Int × (List (((Int × Int) × Nat)) × Nat)))))) :=
  Option.bind (α := ((Bool × (Int × (Int × (List (((Int × Int) × Nat)) × Nat)))))) (
    bif (decide (k1 < 25)) then
      some ((((y.length : Nat) : Int) == 0), (h6, (h7, h8)))
    else
      some (false, (h6, (h7, h8)))) fun o15 =>
  bif o15.1 then
    (clock_Clock_Tick__cm fu o15.2.1 o15.2.2.1 o15.2.2.2).bind fun r38 =>
    some (.inl (r38.1, ((IntKind.wrap .i64 (k1 + 1)), (r38.2.1, (r38.2.2.1, r38.2.2.2)))))
  else
    some (.inr (y, (o15.2.1, (o15.2.2.1, o15.2.2.2))))
def law08_ClockSkips_l4_it (fu : Nat)  (tt : (List ((Int × Int)) × (Int × (Int × (Int × (List (((Int × Int) × Nat)) × Nat)))))) : Option ((List ((Int × Int)) × (Int × (Int × (List (((Int × Int) × Nat)) × Nat))))) :=
  iter fu (fun tt => law08_ClockSkips_l4 fu tt.1 tt.2.1 tt.2.2.1 tt.2.2.2.1 tt.2.2.2.2) tt
def law08_ClockSkips_l5 (fu : Nat) (n1 : Int) (h3 : Int) (h4 : Int) (h5 : (List (((Int × Int) × Nat)) × Nat)) : Option ((Int × (Int × (Int × (List (((Int × Int) × Nat)) × Nat)))) ⊕ (Unit ⊕ Bool)) :=
  bif (decide (n1 < 60)) then
    (clock_Clock_Next_n0 fu).bind fun r33 =>
    (clock_Clock_Skip_n0 fu).bind fun r34 =>
    bif (!(r33.2.2 == false)) then
      some (.inr (.inr false))
    else
      bif (!r33.2.2) then
        Option.bind (α := (Bool)) (
          (clock_Clock_Now_n0 fu).bind fun r35 =>
          (clock_Clock_Now__cm fu h3 h4 h5).bind fun r36 =>
          bif (r35 == r36.1) then
            (law08_awake fu).bind fun r37 =>
            some r37
          else
            some false) fun o14 =>
        some (.inr (.inr o14))
      else
        (law08_ClockSkips_l4_it fu  ([], (0, (h3, (h4, h5))))).bind fun o16 =>
        Option.bind (α := ((Bool × (Int × (Int × (List (((Int × Int) × Nat)) × Nat)))))) (
          (low_SameTimers fu [] o16.1).bind fun r39 =>
          bif (!r39) then
            some (true, (o16.2.1, (o16.2.2.1, o16.2.2.2)))
          else
            (clock_Clock_Now_n0 fu).bind fun r40 =>
            (clock_Clock_Now__cm fu o16.2.1 o16.2.2.1 o16.2.2.2).bind fun r41 =>
            bif (!(r40 == r41.1)) then
              some (true, (r41.2.1, (r41.2.2.1, r41.2.2.2)))
            else
              (clock_Clock_All_n0 fu).bind fun r42 =>
              (clock_Clock_All__cm fu r41.2.1 r41.2.2.1 r41.2.2.2).bind fun r43 =>
              (low_SameTimers fu [] r43.1).bind fun r44 =>
              some ((!r44), (r43.2.1, (r43.2.2.1, r43.2.2.2)))) fun o17 =>
        bif o17.1 then
          some (.inr (.inr false))
        else
          some (.inl ((IntKind.wrap .i64 (n1 + 1)), (o17.2.1, (o17.2.2.1, o17.2.2.2))))
  else
    some (.inr (.inl ()))
def law08_ClockSkips_l5_it (fu : Nat)  (tt : (Int × (Int × (Int × (List (((Int × Int) × Nat)) × Nat))))) : Option (Unit ⊕ Bool) :=
  iter fu (fun tt => law08_ClockSkips_l5 fu tt.1 tt.2.1 tt.2.2.1 tt.2.2.2) tt
def law08_ClockSkips_l6 (fu : Nat) (ops : List ((Int × (Int × Int)))) (i2 : Int) (h9 : Int) (h10 : Int) (h11 : (List (((Int × Int) × Nat)) × Nat)) : Option ((Int × (Int × (Int × (List (((Int × Int) × Nat)) × Nat)))) ⊕ ((Int × (Int × (List (((Int × Int) × Nat)) × Nat))))) :=
  Option.bind (α := ((Bool × (Int × (Int × (List (((Int × Int) × Nat)) × Nat)))))) (
    bif (decide (i2 < ((ops.length : Nat) : Int))) then
      some ((decide (i2 < 50)), (h9, (h10, h11)))
    else
      some (false, (h9, (h10, h11)))) fun o21 =>
  bif o21.1 then
    (idx? i2 ops.length).bind fun q6 =>
    (ops)[q6]?.bind fun r49 =>
    (law08_does__cm fu r49 o21.2.1 o21.2.2.1 o21.2.2.2).bind fun r50 =>
    (idx? i2 ops.length).bind fun q7 =>
    (ops)[q7]?.bind fun r51 =>
    (law08_does_n0 fu r51).bind fun r52 =>
    (idx? i2 ops.length).bind fun q8 =>
    (ops)[q8]?.bind fun r53 =>
    Option.bind (α := ((Int × (Int × (List (((Int × Int) × Nat)) × Nat))))) (
      bif (decide (r53.1 ≥ 6)) then
        (clock_Clock_Tick__cm fu r50.1 r50.2.1 r50.2.2).bind fun r54 =>
        (clock_Clock_Tick_n0 fu).bind fun r55 =>
        some (r54.2.1, (r54.2.2.1, r54.2.2.2))
      else
        some (r50.1, (r50.2.1, r50.2.2))) fun o22 =>
    some (.inl ((IntKind.wrap .i64 (i2 + 1)), (o22.1, (o22.2.1, o22.2.2))))
  else
    some (.inr (o21.2.1, (o21.2.2.1, o21.2.2.2)))
def law08_ClockSkips_l6_it (fu : Nat) (ops : List ((Int × (Int × Int)))) (tt : (Int × (Int × (Int × (List (((Int × Int) × Nat)) × Nat))))) : Option ((Int × (Int × (List (((Int × Int) × Nat)) × Nat)))) :=
  iter fu (fun tt => law08_ClockSkips_l6 fu ops tt.1 tt.2.1 tt.2.2.1 tt.2.2.2) tt
def law08_ClockSkips_l7 (fu : Nat) (k2 : Int) (h15 : Int) (h16 : Int) (h17 : (List (((Int × Int) × Nat)) × Nat)) : Option ((Int × (Int × (Int × (List (((Int × Int) × Nat)) × Nat)))) ⊕ ((Int × (Int × (List (((Int × Int) × Nat)) × Nat))))) :=
  Option.bind (α := ((Bool × (Int × (Int × (List (((Int × Int) × Nat)) × Nat)))))) (
    bif (decide (k2 < 25)) then
      some (true, (h15, (h16, h17)))
    else
      some (false, (h15, (h16, h17)))) fun o25 =>
  bif o25.1 then
    (clock_Clock_Tick_n0 fu).bind fun r61 =>
    some (.inl ((IntKind.wrap .i64 (k2 + 1)), (o25.2.1, (o25.2.2.1, o25.2.2.2))))
  else
    some (.inr (o25.2.1, (o25.2.2.1, o25.2.2.2)))
def law08_ClockSkips_l7_it (fu : Nat)  (tt : (Int × (Int × (Int × (List (((Int × Int) × Nat)) × Nat))))) : Option ((Int × (Int × (List (((Int × Int) × Nat)) × Nat)))) :=
  iter fu (fun tt => law08_ClockSkips_l7 fu tt.1 tt.2.1 tt.2.2.1 tt.2.2.2) tt
def law08_ClockSkips_l8 (fu : Nat) (n2 : Int) (h12 : Int) (h13 : Int) (h14 : (List (((Int × Int) × Nat)) × Nat)) : Option ((Int × (Int × (Int × (List (((Int × Int) × Nat)) × Nat)))) ⊕ (Unit ⊕ Bool)) :=
  bif (decide (n2 < 60)) then
    (clock_Clock_Next__cm fu h12 h13 h14).bind fun r56 =>
    (clock_Clock_Skip__cm fu r56.2.2.2.1 r56.2.2.2.2.1 r56.2.2.2.2.2).bind fun r57 =>
    bif (!(r56.2.2.1 == (decide (((r57.1.length : Nat) : Int) > 0)))) then
      some (.inr (.inr false))
    else
      bif (!r56.2.2.1) then
        Option.bind (α := (Bool)) (
          (clock_Clock_Now__cm fu r57.2.1 r57.2.2.1 r57.2.2.2).bind fun r58 =>
          (clock_Clock_Now_n0 fu).bind fun r59 =>
          bif (r58.1 == r59) then
            (law08_awake fu).bind fun r60 =>
            some r60
          else
            some false) fun o24 =>
        some (.inr (.inr o24))
      else
        (law08_ClockSkips_l7_it fu  (0, (r57.2.1, (r57.2.2.1, r57.2.2.2)))).bind fun o26 =>
        Option.bind (α := ((Bool × (Int × (Int × (List (((Int × Int) × Nat)) × Nat)))))) (
          (low_SameTimers fu r57.1 []).bind fun r62 =>
          bif (!r62) then
            some (true, (o26.1, (o26.2.1, o26.2.2)))
          else
            (clock_Clock_Now__cm fu o26.1 o26.2.1 o26.2.2).bind fun r63 =>
            (clock_Clock_Now_n0 fu).bind fun r64 =>
            bif (!(r63.1 == r64)) then
              some (true, (r63.2.1, (r63.2.2.1, r63.2.2.2)))
            else
              (clock_Clock_All__cm fu r63.2.1 r63.2.2.1 r63.2.2.2).bind fun r65 =>
              (clock_Clock_All_n0 fu).bind fun r66 =>
              (low_SameTimers fu r65.1 []).bind fun r67 =>
              some ((!r67), (r65.2.1, (r65.2.2.1, r65.2.2.2)))) fun o27 =>
        bif o27.1 then
          some (.inr (.inr false))
        else
          some (.inl ((IntKind.wrap .i64 (n2 + 1)), (o27.2.1, (o27.2.2.1, o27.2.2.2))))
  else
    some (.inr (.inl ()))
def law08_ClockSkips_l8_it (fu : Nat)  (tt : (Int × (Int × (Int × (List (((Int × Int) × Nat)) × Nat))))) : Option (Unit ⊕ Bool) :=
  iter fu (fun tt => law08_ClockSkips_l8 fu tt.1 tt.2.1 tt.2.2.1 tt.2.2.2) tt
def law08_ClockSkips_l9 (fu : Nat) (ops : List ((Int × (Int × Int)))) (i3 : Int) (h18 : Int) (h19 : Int) (h20 : (List (((Int × Int) × Nat)) × Nat)) (h21 : Int) (h22 : Int) (h23 : (List (((Int × Int) × Nat)) × Nat)) : Option ((Int × (Int × (Int × ((List (((Int × Int) × Nat)) × Nat) × (Int × (Int × (List (((Int × Int) × Nat)) × Nat))))))) ⊕ ((Int × (Int × ((List (((Int × Int) × Nat)) × Nat) × (Int × (Int × (List (((Int × Int) × Nat)) × Nat)))))))) :=
  Option.bind (α := ((Bool × (Int × (Int × ((List (((Int × Int) × Nat)) × Nat) × (Int × (Int × (List (((Int × Int) × Nat)) × Nat))))))))) (
    bif (decide (i3 < ((ops.length : Nat) : Int))) then
      some ((decide (i3 < 50)), (h18, (h19, (h20, (h21, (h22, h23))))))
    else
      some (false, (h18, (h19, (h20, (h21, (h22, h23))))))) fun o31 =>
  bif o31.1 then
    (idx? i3 ops.length).bind fun q9 =>
    (ops)[q9]?.bind fun r69 =>
    (law08_does__cm fu r69 o31.2.1 o31.2.2.1 o31.2.2.2.1).bind fun r70 =>
    (idx? i3 ops.length).bind fun q10 =>
    (ops)[q10]?.bind fun r71 =>
    (law08_does__cm fu r71 o31.2.2.2.2.1 o31.2.2.2.2.2.1 o31.2.2.2.2.2.2).bind fun r72 =>
    (idx? i3 ops.length).bind fun q11 =>
    (ops)[q11]?.bind fun r73 =>
    Option.bind (α := ((Int × (Int × ((List (((Int × Int) × Nat)) × Nat) × (Int × (Int × (List (((Int × Int) × Nat)) × Nat)))))))) (
      bif (decide (r73.1 ≥ 6)) then
        (clock_Clock_Tick__cm fu r70.1 r70.2.1 r70.2.2).bind fun r74 =>
        (clock_Clock_Tick__cm fu r72.1 r72.2.1 r72.2.2).bind fun r75 =>
        some (r74.2.1, (r74.2.2.1, (r74.2.2.2, (r75.2.1, (r75.2.2.1, r75.2.2.2)))))
      else
        some (r70.1, (r70.2.1, (r70.2.2, (r72.1, (r72.2.1, r72.2.2)))))) fun o32 =>
    some (.inl ((IntKind.wrap .i64 (i3 + 1)), (o32.1, (o32.2.1, (o32.2.2.1, (o32.2.2.2.1, (o32.2.2.2.2.1, o32.2.2.2.2.2)))))))
  else
    some (.inr (o31.2.1, (o31.2.2.1, (o31.2.2.2.1, (o31.2.2.2.2.1, (o31.2.2.2.2.2.1, o31.2.2.2.2.2.2))))))
def law08_ClockSkips_l9_it (fu : Nat) (ops : List ((Int × (Int × Int)))) (tt : (Int × (Int × (Int × ((List (((Int × Int) × Nat)) × Nat) × (Int × (Int × (List (((Int × Int) × Nat)) × Nat)))))))) : Option ((Int × (Int × ((List (((Int × Int) × Nat)) × Nat) × (Int × (Int × (List (((Int × Int) × Nat)) × Nat))))))) :=
  iter fu (fun tt => law08_ClockSkips_l9 fu ops tt.1 tt.2.1 tt.2.2.1 tt.2.2.2.1 tt.2.2.2.2.1 tt.2.2.2.2.2.1 tt.2.2.2.2.2.2) tt
def law08_ClockSkips_l10 (fu : Nat) (y1 : List ((Int × Int))) (k3 : Int) (h30 : Int) (h31 : Int) (h32 : (List (((Int × Int) × Nat)) × Nat)) (h33 : Int) (h34 : Int) (h35 : (List (((Int × Int) × Nat)) × Nat)) : Option ((List ((Int × Int)) × (Int × (Int × (Int × ((List (((Int × Int) × Nat)) × Nat) × (Int × (Int × (List (((Int × Int) × Nat)) × Nat)))))))) ⊕ ((List ((Int × Int)) × (Int × (Int × ((List (((Int × Int) × Nat)) × Nat) × (Int × (Int × (List (((Int × Int) × Nat)) × Nat))))))))) :=
  Option.bind (α := ((Bool × (Int × (Int × ((List (((Int × Int) × Nat)) × Nat) × (Int × (Int × (List (((Int × Int) × Nat)) × Nat))))))))) (
    bif (decide (k3 < 25)) then
      some ((((y1.length : Nat) : Int) == 0), (h30, (h31, (h32, (h33, (h34, h35))))))
    else
      some (false, (h30, (h31, (h32, (h33, (h34, h35))))))) fun o35 =>
  bif o35.1 then
    (clock_Clock_Tick__cm fu o35.2.2.2.2.1 o35.2.2.2.2.2.1 o35.2.2.2.2.2.2).bind fun r81 =>
    some (.inl (r81.1, ((IntKind.wrap .i64 (k3 + 1)), (o35.2.1, (o35.2.2.1, (o35.2.2.2.1, (r81.2.1, (r81.2.2.1, r81.2.2.2))))))))
  else
    some (.inr (y1, (o35.2.1, (o35.2.2.1, (o35.2.2.2.1, (o35.2.2.2.2.1, (o35.2.2.2.2.2.1, o35.2.2.2.2.2.2)))))))
def law08_ClockSkips_l10_it (fu : Nat)  (tt : (List ((Int × Int)) × (Int × (Int × (Int × ((List (((Int × Int) × Nat)) × Nat) × (Int × (Int × (List (((Int × Int) × Nat)) × Nat))))))))) : Option ((List ((Int × Int)) × (Int × (Int × ((List (((Int × Int) × Nat)) × Nat) × (Int × (Int × (List (((Int × Int) × Nat)) × Nat)))))))) :=
  iter fu (fun tt => law08_ClockSkips_l10 fu tt.1 tt.2.1 tt.2.2.1 tt.2.2.2.1 tt.2.2.2.2.1 tt.2.2.2.2.2.1 tt.2.2.2.2.2.2.1 tt.2.2.2.2.2.2.2) tt
def law08_ClockSkips_l11 (fu : Nat) (n3 : Int) (h24 : Int) (h25 : Int) (h26 : (List (((Int × Int) × Nat)) × Nat)) (h27 : Int) (h28 : Int) (h29 : (List (((Int × Int) × Nat)) × Nat)) : Option ((Int × (Int × (Int × ((List (((Int × Int) × Nat)) × Nat) × (Int × (Int × (List (((Int × Int) × Nat)) × Nat))))))) ⊕ (Unit ⊕ Bool)) :=
  bif (decide (n3 < 60)) then
    (clock_Clock_Next__cm fu h24 h25 h26).bind fun r76 =>
    (clock_Clock_Skip__cm fu r76.2.2.2.1 r76.2.2.2.2.1 r76.2.2.2.2.2).bind fun r77 =>
    bif (!(r76.2.2.1 == (decide (((r77.1.length : Nat) : Int) > 0)))) then
      some (.inr (.inr false))
    else
      bif (!r76.2.2.1) then
        Option.bind (α := (Bool)) (
          (clock_Clock_Now__cm fu r77.2.1 r77.2.2.1 r77.2.2.2).bind fun r78 =>
          (clock_Clock_Now__cm fu h27 h28 h29).bind fun r79 =>
          bif (r78.1 == r79.1) then
            (law08_awake fu).bind fun r80 =>
            some r80
          else
            some false) fun o34 =>
        some (.inr (.inr o34))
      else
        (law08_ClockSkips_l10_it fu  ([], (0, (r77.2.1, (r77.2.2.1, (r77.2.2.2, (h27, (h28, h29)))))))).bind fun o36 =>
        Option.bind (α := ((Bool × (Int × (Int × ((List (((Int × Int) × Nat)) × Nat) × (Int × (Int × (List (((Int × Int) × Nat)) × Nat))))))))) (
          (low_SameTimers fu r77.1 o36.1).bind fun r82 =>
          bif (!r82) then
            some (true, (o36.2.1, (o36.2.2.1, (o36.2.2.2.1, (o36.2.2.2.2.1, (o36.2.2.2.2.2.1, o36.2.2.2.2.2.2))))))
          else
            (clock_Clock_Now__cm fu o36.2.1 o36.2.2.1 o36.2.2.2.1).bind fun r83 =>
            (clock_Clock_Now__cm fu o36.2.2.2.2.1 o36.2.2.2.2.2.1 o36.2.2.2.2.2.2).bind fun r84 =>
            bif (!(r83.1 == r84.1)) then
              some (true, (r83.2.1, (r83.2.2.1, (r83.2.2.2, (r84.2.1, (r84.2.2.1, r84.2.2.2))))))
            else
              (clock_Clock_All__cm fu r83.2.1 r83.2.2.1 r83.2.2.2).bind fun r85 =>
              (clock_Clock_All__cm fu r84.2.1 r84.2.2.1 r84.2.2.2).bind fun r86 =>
              (low_SameTimers fu r85.1 r86.1).bind fun r87 =>
              some ((!r87), (r85.2.1, (r85.2.2.1, (r85.2.2.2, (r86.2.1, (r86.2.2.1, r86.2.2.2))))))) fun o37 =>
        bif o37.1 then
          some (.inr (.inr false))
        else
          some (.inl ((IntKind.wrap .i64 (n3 + 1)), (o37.2.1, (o37.2.2.1, (o37.2.2.2.1, (o37.2.2.2.2.1, (o37.2.2.2.2.2.1, o37.2.2.2.2.2.2)))))))
  else
    some (.inr (.inl ()))
def law08_ClockSkips_l11_it (fu : Nat)  (tt : (Int × (Int × (Int × ((List (((Int × Int) × Nat)) × Nat) × (Int × (Int × (List (((Int × Int) × Nat)) × Nat)))))))) : Option (Unit ⊕ Bool) :=
  iter fu (fun tt => law08_ClockSkips_l11 fu tt.1 tt.2.1 tt.2.2.1 tt.2.2.2.1 tt.2.2.2.2.1 tt.2.2.2.2.2.1 tt.2.2.2.2.2.2) tt
def law08_ClockSkips (fu : Nat) (ops : List ((Int × (Int × Int)))) : Option (Bool) :=
  (clock_New fu 100).bind fun r =>
  match r with
  | .inl r1 =>
    (clock_New fu 100).bind fun r3 =>
    match r3 with
    | .inl r4 =>
      Option.bind (α := (Bool)) (
        bif (!(r1 == 0)) then
          some true
        else
          some (!(r4 == 0))) fun o =>
      bif o then
        some false
      else
        (law08_ClockSkips_l0_it fu ops 0).bind fun o3 =>
        (law08_ClockSkips_l2_it fu  0).bind fun o8 =>
        match o8 with
        | .inl s =>
          (law08_awake fu).bind fun r25 =>
          some r25
        | .inr o9 =>
          some o9
    | .inr r5 =>
      Option.bind (α := ((Bool × (Int × (Int × (List (((Int × Int) × Nat)) × Nat)))))) (
        bif (!(r1 == 0)) then
          some (true, (r5.2.1, (r5.2.2.1, r5.2.2.2)))
        else
          some ((!(r5.1 == 0)), (r5.2.1, (r5.2.2.1, r5.2.2.2)))) fun o10 =>
      bif o10.1 then
        some false
      else
        (law08_ClockSkips_l3_it fu ops (0, (o10.2.1, (o10.2.2.1, o10.2.2.2)))).bind fun o13 =>
        (law08_ClockSkips_l5_it fu  (0, (o13.1, (o13.2.1, o13.2.2)))).bind fun o18 =>
        match o18 with
        | .inl s1 =>
          (law08_awake fu).bind fun r45 =>
          some r45
        | .inr o19 =>
          some o19
  | .inr r2 =>
    (clock_New fu 100).bind fun r46 =>
    match r46 with
    | .inl r47 =>
      Option.bind (α := ((Bool × (Int × (Int × (List (((Int × Int) × Nat)) × Nat)))))) (
        bif (!(r2.1 == 0)) then
          some (true, (r2.2.1, (r2.2.2.1, r2.2.2.2)))
        else
          some ((!(r47 == 0)), (r2.2.1, (r2.2.2.1, r2.2.2.2)))) fun o20 =>
      bif o20.1 then
        some false
      else
        (law08_ClockSkips_l6_it fu ops (0, (o20.2.1, (o20.2.2.1, o20.2.2.2)))).bind fun o23 =>
        (law08_ClockSkips_l8_it fu  (0, (o23.1, (o23.2.1, o23.2.2)))).bind fun o28 =>
        match o28 with
        | .inl s2 =>
          (law08_awake fu).bind fun r68 =>
          some r68
        | .inr o29 =>
          some o29
    | .inr r48 =>
      Option.bind (α := ((Bool × (Int × (Int × ((List (((Int × Int) × Nat)) × Nat) × (Int × (Int × (List (((Int × Int) × Nat)) × Nat))))))))) (
        bif (!(r2.1 == 0)) then
          some (true, (r2.2.1, (r2.2.2.1, (r2.2.2.2, (r48.2.1, (r48.2.2.1, r48.2.2.2))))))
        else
          some ((!(r48.1 == 0)), (r2.2.1, (r2.2.2.1, (r2.2.2.2, (r48.2.1, (r48.2.2.1, r48.2.2.2))))))) fun o30 =>
      bif o30.1 then
        some false
      else
        (law08_ClockSkips_l9_it fu ops (0, (o30.2.1, (o30.2.2.1, (o30.2.2.2.1, (o30.2.2.2.2.1, (o30.2.2.2.2.2.1, o30.2.2.2.2.2.2))))))).bind fun o33 =>
        (law08_ClockSkips_l11_it fu  (0, (o33.1, (o33.2.1, (o33.2.2.1, (o33.2.2.2.1, (o33.2.2.2.2.1, o33.2.2.2.2.2))))))).bind fun o38 =>
        match o38 with
        | .inl s3 =>
          (law08_awake fu).bind fun r88 =>
          some r88
        | .inr o39 =>
          some o39
def law08_ClockSkips_fa : FnA := ⟨.two (.leaf) (.two (.reg [(0, { ids := [100, 101] })]) (.sel (.slot 3 (.nilp (.pointer none))) (.two (.reg [(0, { ids := [103, 104] })]) (.sel (.slot 5 (.nilp (.pointer none))) (.two (.two (.join ⟨[27], ⟨(.cons (.p .bool) .nil), []⟩⟩ false [] (.leaf)) (.two (.leaf) (.leaf))) (.two (.two (.leaf) (.one (.loop ⟨[7], ⟨(.cons (.p (.int .i64)) .nil), []⟩⟩ false [(0, ⟨[], ⟨.nil, []⟩⟩)] (.two (.two (.join ⟨[35], ⟨(.cons (.p .bool) .nil), []⟩⟩ false [] (.leaf)) (.leaf)) (.two (.one (.two (.reg [(5, { fn := 1 })]) (.two (.reg [(5, { fn := 1 })]) (.two (.leaf) (.join ⟨[], ⟨.nil, []⟩⟩ false [] (.two (.two (.reg [(1, { fn := 2 })]) (.reg [(1, { fn := 2 })])) (.leaf))))))) (.leaf)))))) (.two (.two (.leaf) (.one (.loop ⟨[8], ⟨(.cons (.p (.int .i64)) .nil), []⟩⟩ true [(2, ⟨[], ⟨.nil, []⟩⟩)] (.two (.two (.leaf) (.leaf)) (.two (.one (.two (.reg [(1, { fn := 3 }), (5, { ids := [106] })]) (.two (.reg [(1, { fn := 4 })]) (.two (.two (.leaf) (.two (.leaf) (.leaf))) (.two (.two (.leaf) (.two (.two (.join ⟨[2], ⟨(.cons (.p .bool) .nil), []⟩⟩ false [] (.reg [(1, { fn := 5 }), (3, { fn := 5 }), (6, { fn := 6 })])) (.leaf)) (.leaf))) (.two (.leaf) (.two (.two (.leaf) (.one (.loop ⟨[12, 13], ⟨(.cons (.nilp (.slice none 0 0)) (.cons (.p (.int .i64)) .nil)), []⟩⟩ false [(4, ⟨[12], ⟨(.cons (.nilp (.slice none 0 0)) .nil), []⟩⟩)] (.two (.two (.join ⟨[92], ⟨(.cons (.p .bool) .nil), []⟩⟩ false [] (.leaf)) (.leaf)) (.two (.one (.reg [(1, { fn := 2 })])) (.leaf)))))) (.two (.join ⟨[115], ⟨(.cons (.p .bool) .nil), []⟩⟩ false [] (.reg [(2, { fn := 7 }), (6, { fn := 5 }), (8, { fn := 5 }), (13, { fn := 8 }), (15, { fn := 8 }), (16, { fn := 7 })])) (.two (.leaf) (.leaf)))))))))) (.leaf)))))) (.two (.reg [(0, { fn := 6 })]) (.leaf))))) (.two (.two (.join ⟨[5, 27], ⟨(.cons (.own 0 103 0 0) (.cons (.p .bool) .nil)), [(103, false, (.vars (.cons (.p (.int .i64)) (.cons (.mp 104) (.cons (.p (.int .i64)) .nil))))), (104, false, (.map (.int .i64) (.int .i64)))]⟩⟩ false [] (.leaf)) (.two (.leaf) (.leaf))) (.two (.two (.leaf) (.one (.loop ⟨[5, 7], ⟨(.cons (.own 0 103 0 0) (.cons (.p (.int .i64)) .nil)), [(103, false, (.vars (.cons (.p (.int .i64)) (.cons (.mp 104) (.cons (.p (.int .i64)) .nil))))), (104, false, (.map (.int .i64) (.int .i64)))]⟩⟩ false [(0, ⟨[5], ⟨(.cons (.own 0 103 0 0) .nil), [(103, false, (.vars (.cons (.p (.int .i64)) (.cons (.mp 104) (.cons (.p (.int .i64)) .nil))))), (104, false, (.map (.int .i64) (.int .i64)))]⟩⟩)] (.two (.two (.join ⟨[5, 35], ⟨(.cons (.own 0 103 0 0) (.cons (.p .bool) .nil)), [(103, false, (.vars (.cons (.p (.int .i64)) (.cons (.mp 104) (.cons (.p (.int .i64)) .nil))))), (104, false, (.map (.int .i64) (.int .i64)))]⟩⟩ false [] (.leaf)) (.leaf)) (.two (.one (.two (.reg [(5, { fn := 1 })]) (.two (.reg [(5, { sh := [103, 104], fn := 9 })]) (.two (.leaf) (.join ⟨[5], ⟨(.cons (.own 0 103 0 0) .nil), [(103, false, (.vars (.cons (.p (.int .i64)) (.cons (.mp 104) (.cons (.p (.int .i64)) .nil))))), (104, false, (.map (.int .i64) (.int .i64)))]⟩⟩ false [] (.two (.two (.reg [(1, { fn := 2 })]) (.reg [(1, { sh := [103, 104], fn := 10 })])) (.leaf))))))) (.leaf)))))) (.two (.two (.leaf) (.one (.loop ⟨[5, 8], ⟨(.cons (.own 0 103 0 0) (.cons (.p (.int .i64)) .nil)), [(103, false, (.vars (.cons (.p (.int .i64)) (.cons (.mp 104) (.cons (.p (.int .i64)) .nil))))), (104, false, (.map (.int .i64) (.int .i64)))]⟩⟩ true [(2, ⟨[], ⟨.nil, []⟩⟩)] (.two (.two (.leaf) (.leaf)) (.two (.one (.two (.reg [(1, { fn := 3 }), (5, { ids := [106] })]) (.two (.reg [(1, { fn := 4 })]) (.two (.two (.leaf) (.two (.leaf) (.leaf))) (.two (.two (.leaf) (.two (.two (.join ⟨[2], ⟨(.cons (.p .bool) .nil), []⟩⟩ false [] (.reg [(1, { fn := 5 }), (3, { sh := [103, 104], fn := 11 }), (6, { fn := 6 })])) (.leaf)) (.leaf))) (.two (.leaf) (.two (.two (.leaf) (.one (.loop ⟨[5, 12, 13], ⟨(.cons (.own 0 103 0 0) (.cons (.p (.sl (.pair (.int .i64) (.int .i64)))) (.cons (.p (.int .i64)) .nil))), [(103, false, (.vars (.cons (.p (.int .i64)) (.cons (.mp 104) (.cons (.p (.int .i64)) .nil))))), (104, false, (.map (.int .i64) (.int .i64)))]⟩⟩ false [(4, ⟨[5, 12], ⟨(.cons (.own 0 103 0 0) (.cons (.p (.sl (.pair (.int .i64) (.int .i64)))) .nil)), [(103, false, (.vars (.cons (.p (.int .i64)) (.cons (.mp 104) (.cons (.p (.int .i64)) .nil))))), (104, false, (.map (.int .i64) (.int .i64)))]⟩⟩)] (.two (.two (.join ⟨[5, 92], ⟨(.cons (.own 0 103 0 0) (.cons (.p .bool) .nil)), [(103, false, (.vars (.cons (.p (.int .i64)) (.cons (.mp 104) (.cons (.p (.int .i64)) .nil))))), (104, false, (.map (.int .i64) (.int .i64)))]⟩⟩ false [] (.leaf)) (.leaf)) (.two (.one (.reg [(1, { sh := [103, 104], fn := 10 })])) (.leaf)))))) (.two (.join ⟨[5, 115], ⟨(.cons (.own 0 103 0 0) (.cons (.p .bool) .nil)), [(103, false, (.vars (.cons (.p (.int .i64)) (.cons (.mp 104) (.cons (.p (.int .i64)) .nil))))), (104, false, (.map (.int .i64) (.int .i64)))]⟩⟩ false [] (.reg [(2, { fn := 7 }), (6, { fn := 5 }), (8, { sh := [103, 104], fn := 11 }), (13, { fn := 8 }), (15, { sh := [103, 104], fn := 12 }), (16, { fn := 7 })])) (.two (.leaf) (.leaf)))))))))) (.leaf)))))) (.two (.reg [(0, { fn := 6 })]) (.leaf))))))) (.two (.reg [(0, { ids := [103, 104] })]) (.sel (.slot 5 (.nilp (.pointer none))) (.two (.two (.join ⟨[3, 27], ⟨(.cons (.own 0 100 0 0) (.cons (.p .bool) .nil)), [(100, false, (.vars (.cons (.p (.int .i64)) (.cons (.mp 101) (.cons (.p (.int .i64)) .nil))))), (101, false, (.map (.int .i64) (.int .i64)))]⟩⟩ false [] (.leaf)) (.two (.leaf) (.leaf))) (.two (.two (.leaf) (.one (.loop ⟨[3, 7], ⟨(.cons (.own 0 100 0 0) (.cons (.p (.int .i64)) .nil)), [(100, false, (.vars (.cons (.p (.int .i64)) (.cons (.mp 101) (.cons (.p (.int .i64)) .nil))))), (101, false, (.map (.int .i64) (.int .i64)))]⟩⟩ false [(0, ⟨[3], ⟨(.cons (.own 0 100 0 0) .nil), [(100, false, (.vars (.cons (.p (.int .i64)) (.cons (.mp 101) (.cons (.p (.int .i64)) .nil))))), (101, false, (.map (.int .i64) (.int .i64)))]⟩⟩)] (.two (.two (.join ⟨[3, 35], ⟨(.cons (.own 0 100 0 0) (.cons (.p .bool) .nil)), [(100, false, (.vars (.cons (.p (.int .i64)) (.cons (.mp 101) (.cons (.p (.int .i64)) .nil))))), (101, false, (.map (.int .i64) (.int .i64)))]⟩⟩ false [] (.leaf)) (.leaf)) (.two (.one (.two (.reg [(5, { sh := [100, 101], fn := 9 })]) (.two (.reg [(5, { fn := 1 })]) (.two (.leaf) (.join ⟨[3], ⟨(.cons (.own 0 100 0 0) .nil), [(100, false, (.vars (.cons (.p (.int .i64)) (.cons (.mp 101) (.cons (.p (.int .i64)) .nil))))), (101, false, (.map (.int .i64) (.int .i64)))]⟩⟩ false [] (.two (.two (.reg [(1, { sh := [100, 101], fn := 10 })]) (.reg [(1, { fn := 2 })])) (.leaf))))))) (.leaf)))))) (.two (.two (.leaf) (.one (.loop ⟨[3, 8], ⟨(.cons (.own 0 100 0 0) (.cons (.p (.int .i64)) .nil)), [(100, false, (.vars (.cons (.p (.int .i64)) (.cons (.mp 101) (.cons (.p (.int .i64)) .nil))))), (101, false, (.map (.int .i64) (.int .i64)))]⟩⟩ true [(2, ⟨[], ⟨.nil, []⟩⟩)] (.two (.two (.leaf) (.leaf)) (.two (.one (.two (.reg [(1, { sh := [100, 101], fn := 13 }), (5, { ids := [106] })]) (.two (.reg [(1, { sh := [100, 101], fn := 14 })]) (.two (.two (.leaf) (.two (.leaf) (.leaf))) (.two (.two (.leaf) (.two (.two (.join ⟨[2], ⟨(.cons (.p .bool) .nil), []⟩⟩ false [] (.reg [(1, { sh := [100, 101], fn := 11 }), (3, { fn := 5 }), (6, { fn := 6 })])) (.leaf)) (.leaf))) (.two (.leaf) (.two (.two (.leaf) (.one (.loop ⟨[3, 12, 13], ⟨(.cons (.own 0 100 0 0) (.cons (.nilp (.slice none 0 0)) (.cons (.p (.int .i64)) .nil))), [(100, false, (.vars (.cons (.p (.int .i64)) (.cons (.mp 101) (.cons (.p (.int .i64)) .nil))))), (101, false, (.map (.int .i64) (.int .i64)))]⟩⟩ false [(4, ⟨[3, 12], ⟨(.cons (.own 0 100 0 0) (.cons (.nilp (.slice none 0 0)) .nil)), [(100, false, (.vars (.cons (.p (.int .i64)) (.cons (.mp 101) (.cons (.p (.int .i64)) .nil))))), (101, false, (.map (.int .i64) (.int .i64)))]⟩⟩)] (.two (.two (.join ⟨[3, 92], ⟨(.cons (.own 0 100 0 0) (.cons (.p .bool) .nil)), [(100, false, (.vars (.cons (.p (.int .i64)) (.cons (.mp 101) (.cons (.p (.int .i64)) .nil))))), (101, false, (.map (.int .i64) (.int .i64)))]⟩⟩ false [] (.leaf)) (.leaf)) (.two (.one (.reg [(1, { fn := 2 })])) (.leaf)))))) (.two (.join ⟨[3, 115], ⟨(.cons (.own 0 100 0 0) (.cons (.p .bool) .nil)), [(100, false, (.vars (.cons (.p (.int .i64)) (.cons (.mp 101) (.cons (.p (.int .i64)) .nil))))), (101, false, (.map (.int .i64) (.int .i64)))]⟩⟩ false [] (.reg [(2, { fn := 7 }), (6, { sh := [100, 101], fn := 11 }), (8, { fn := 5 }), (13, { sh := [100, 101], fn := 12 }), (15, { fn := 8 }), (16, { fn := 7 })])) (.two (.leaf) (.leaf)))))))))) (.leaf)))))) (.two (.reg [(0, { fn := 6 })]) (.leaf))))) (.two (.two (.join ⟨[3, 5, 27], ⟨(.cons (.own 0 100 0 0) (.cons (.own 0 103 0 0) (.cons (.p .bool) .nil))), [(100, false, (.vars (.cons (.p (.int .i64)) (.cons (.mp 101) (.cons (.p (.int .i64)) .nil))))), (101, false, (.map (.int .i64) (.int .i64))), (103, false, (.vars (.cons (.p (.int .i64)) (.cons (.mp 104) (.cons (.p (.int .i64)) .nil))))), (104, false, (.map (.int .i64) (.int .i64)))]⟩⟩ false [] (.leaf)) (.two (.leaf) (.leaf))) (.two (.two (.leaf) (.one (.loop ⟨[3, 5, 7], ⟨(.cons (.own 0 100 0 0) (.cons (.own 0 103 0 0) (.cons (.p (.int .i64)) .nil))), [(100, false, (.vars (.cons (.p (.int .i64)) (.cons (.mp 101) (.cons (.p (.int .i64)) .nil))))), (101, false, (.map (.int .i64) (.int .i64))), (103, false, (.vars (.cons (.p (.int .i64)) (.cons (.mp 104) (.cons (.p (.int .i64)) .nil))))), (104, false, (.map (.int .i64) (.int .i64)))]⟩⟩ false [(0, ⟨[3, 5], ⟨(.cons (.own 0 100 0 0) (.cons (.own 0 103 0 0) .nil)), [(100, false, (.vars (.cons (.p (.int .i64)) (.cons (.mp 101) (.cons (.p (.int .i64)) .nil))))), (101, false, (.map (.int .i64) (.int .i64))), (103, false, (.vars (.cons (.p (.int .i64)) (.cons (.mp 104) (.cons (.p (.int .i64)) .nil))))), (104, false, (.map (.int .i64) (.int .i64)))]⟩⟩)] (.two (.two (.join ⟨[3, 5, 35], ⟨(.cons (.own 0 100 0 0) (.cons (.own 0 103 0 0) (.cons (.p .bool) .nil))), [(100, false, (.vars (.cons (.p (.int .i64)) (.cons (.mp 101) (.cons (.p (.int .i64)) .nil))))), (101, false, (.map (.int .i64) (.int .i64))), (103, false, (.vars (.cons (.p (.int .i64)) (.cons (.mp 104) (.cons (.p (.int .i64)) .nil))))), (104, false, (.map (.int .i64) (.int .i64)))]⟩⟩ false [] (.leaf)) (.leaf)) (.two (.one (.two (.reg [(5, { sh := [100, 101], fn := 9 })]) (.two (.reg [(5, { sh := [103, 104], fn := 9 })]) (.two (.leaf) (.join ⟨[3, 5], ⟨(.cons (.own 0 100 0 0) (.cons (.own 0 103 0 0) .nil)), [(100, false, (.vars (.cons (.p (.int .i64)) (.cons (.mp 101) (.cons (.p (.int .i64)) .nil))))), (101, false, (.map (.int .i64) (.int .i64))), (103, false, (.vars (.cons (.p (.int .i64)) (.cons (.mp 104) (.cons (.p (.int .i64)) .nil))))), (104, false, (.map (.int .i64) (.int .i64)))]⟩⟩ false [] (.two (.two (.reg [(1, { sh := [100, 101], fn := 10 })]) (.reg [(1, { sh := [103, 104], fn := 10 })])) (.leaf))))))) (.leaf)))))) (.two (.two (.leaf) (.one (.loop ⟨[3, 5, 8], ⟨(.cons (.own 0 100 0 0) (.cons (.own 0 103 0 0) (.cons (.p (.int .i64)) .nil))), [(100, false, (.vars (.cons (.p (.int .i64)) (.cons (.mp 101) (.cons (.p (.int .i64)) .nil))))), (101, false, (.map (.int .i64) (.int .i64))), (103, false, (.vars (.cons (.p (.int .i64)) (.cons (.mp 104) (.cons (.p (.int .i64)) .nil))))), (104, false, (.map (.int .i64) (.int .i64)))]⟩⟩ true [(2, ⟨[], ⟨.nil, []⟩⟩)] (.two (.two (.leaf) (.leaf)) (.two (.one (.two (.reg [(1, { sh := [100, 101], fn := 13 }), (5, { ids := [106] })]) (.two (.reg [(1, { sh := [100, 101], fn := 14 })]) (.two (.two (.leaf) (.two (.leaf) (.leaf))) (.two (.two (.leaf) (.two (.two (.join ⟨[2], ⟨(.cons (.p .bool) .nil), []⟩⟩ false [] (.reg [(1, { sh := [100, 101], fn := 11 }), (3, { sh := [103, 104], fn := 11 }), (6, { fn := 6 })])) (.leaf)) (.leaf))) (.two (.leaf) (.two (.two (.leaf) (.one (.loop ⟨[3, 5, 12, 13], ⟨(.cons (.own 0 100 0 0) (.cons (.own 0 103 0 0) (.cons (.p (.sl (.pair (.int .i64) (.int .i64)))) (.cons (.p (.int .i64)) .nil)))), [(100, false, (.vars (.cons (.p (.int .i64)) (.cons (.mp 101) (.cons (.p (.int .i64)) .nil))))), (101, false, (.map (.int .i64) (.int .i64))), (103, false, (.vars (.cons (.p (.int .i64)) (.cons (.mp 104) (.cons (.p (.int .i64)) .nil))))), (104, false, (.map (.int .i64) (.int .i64)))]⟩⟩ false [(4, ⟨[3, 5, 12], ⟨(.cons (.own 0 100 0 0) (.cons (.own 0 103 0 0) (.cons (.p (.sl (.pair (.int .i64) (.int .i64)))) .nil))), [(100, false, (.vars (.cons (.p (.int .i64)) (.cons (.mp 101) (.cons (.p (.int .i64)) .nil))))), (101, false, (.map (.int .i64) (.int .i64))), (103, false, (.vars (.cons (.p (.int .i64)) (.cons (.mp 104) (.cons (.p (.int .i64)) .nil))))), (104, false, (.map (.int .i64) (.int .i64)))]⟩⟩)] (.two (.two (.join ⟨[3, 5, 92], ⟨(.cons (.own 0 100 0 0) (.cons (.own 0 103 0 0) (.cons (.p .bool) .nil))), [(100, false, (.vars (.cons (.p (.int .i64)) (.cons (.mp 101) (.cons (.p (.int .i64)) .nil))))), (101, false, (.map (.int .i64) (.int .i64))), (103, false, (.vars (.cons (.p (.int .i64)) (.cons (.mp 104) (.cons (.p (.int .i64)) .nil))))), (104, false, (.map (.int .i64) (.int .i64)))]⟩⟩ false [] (.leaf)) (.leaf)) (.two (.one (.reg [(1, { sh := [103, 104], fn := 10 })])) (.leaf)))))) (.two (.join ⟨[3, 5, 115], ⟨(.cons (.own 0 100 0 0) (.cons (.own 0 103 0 0) (.cons (.p .bool) .nil))), [(100, false, (.vars (.cons (.p (.int .i64)) (.cons (.mp 101) (.cons (.p (.int .i64)) .nil))))), (101, false, (.map (.int .i64) (.int .i64))), (103, false, (.vars (.cons (.p (.int .i64)) (.cons (.mp 104) (.cons (.p (.int .i64)) .nil))))), (104, false, (.map (.int .i64) (.int .i64)))]⟩⟩ false [] (.reg [(2, { fn := 7 }), (6, { sh := [100, 101], fn := 11 }), (8, { sh := [103, 104], fn := 11 }), (13, { sh := [100, 101], fn := 12 }), (15, { sh := [103, 104], fn := 12 }), (16, { fn := 7 })])) (.two (.leaf) (.leaf)))))))))) (.leaf)))))) (.two (.reg [(0, { fn := 6 })]) (.leaf))))))))), ⟨(.cons (.p (.sl (.pair (.int .i64) (.pair (.int .i64) (.int .i64))))) .nil), []⟩, [⟨(.cons (.p .bool) .nil), []⟩], [0]⟩
def law08_ClockSkips_ft (fu : Nat) : FnT := ⟨7, ⟨(.cons (.p (.sl (.pair (.int .i64) (.pair (.int .i64) (.int .i64))))) .nil), []⟩, [⟨(.cons (.p .bool) .nil), []⟩], fun t => law08_ClockSkips fu t⟩
theorem law08_ClockSkips_eq (fu : Nat) : ∀ t, evF Go.Proofs.Try.prog [clock_New_ft fu, law08_does_n0_ft fu, clock_Clock_Tick_n0_ft fu, clock_Clock_Next_n0_ft fu, clock_Clock_Skip_n0_ft fu, clock_Clock_Now_n0_ft fu, law08_awake_ft fu, low_SameTimers_ft fu, clock_Clock_All_n0_ft fu, law08_does__cm_ft fu, clock_Clock_Tick__cm_ft fu, clock_Clock_Now__cm_ft fu, clock_Clock_All__cm_ft fu, clock_Clock_Next__cm_ft fu, clock_Clock_Skip__cm_ft fu] fu Go.Proofs.Try.f7 law08_ClockSkips_fa t = (law08_ClockSkips_ft fu).spec t := fun t => by kernel_rfl
theorem law08_ClockSkips_told (fu : Nat) : Told Go.Proofs.Try.prog (law08_ClockSkips_ft fu) := told_of (allT_cons (clock_New_told fu) (allT_cons (law08_does_n0_told fu) (allT_cons (clock_Clock_Tick_n0_told fu) (allT_cons (clock_Clock_Next_n0_told fu) (allT_cons (clock_Clock_Skip_n0_told fu) (allT_cons (clock_Clock_Now_n0_told fu) (allT_cons (law08_awake_told fu) (allT_cons (low_SameTimers_told fu) (allT_cons (clock_Clock_All_n0_told fu) (allT_cons (law08_does__cm_told fu) (allT_cons (clock_Clock_Tick__cm_told fu) (allT_cons (clock_Clock_Now__cm_told fu) (allT_cons (clock_Clock_All__cm_told fu) (allT_cons (clock_Clock_Next__cm_told fu) (allT_cons (clock_Clock_Skip__cm_told fu) allT_nil))))))))))))))) mixed Go.Proofs.Try.func7 (by kernel_rfl) (by kernel_rfl) (law08_ClockSkips_eq fu)
end
end Go.Ab.D
