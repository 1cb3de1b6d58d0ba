/- Functions of the program as plain Lean functions: each equation is checked by the kernel; what is told of a function follows from it. -/
import Derived.Test.YtndinkcemkfpdaaE3
import Derived.Test.YtndinkcemkfpdaaProg
import Derived.KernelRfl
set_option linter.all false
set_option maxRecDepth 100000
set_option maxHeartbeats 4000000
namespace Go.Ab.D
open Go Go.Ab
noncomputable section
theorem mixed : Go.Proofs.Try.prog.follows .mixedOrders = true := by kernel_rfl
def net_New_1 (fu : Nat) (k : Int) (high : Int) : Option (Bool) :=
  bif (decide (0 < k)) then
    some (decide (k ≤ high))
  else
    some false
def net_New_1_fa : FnA := ⟨.two (.leaf) (.leaf), ⟨(.cons (.p (.int .i64)) (.cons (.p (.int .i64)) .nil)), []⟩, [⟨(.cons (.p .bool) .nil), []⟩], [0]⟩
def net_New_1_ft (fu : Nat) : FnT := ⟨38, ⟨(.cons (.p (.int .i64)) (.cons (.p (.int .i64)) .nil)), []⟩, [⟨(.cons (.p .bool) .nil), []⟩], fun t => net_New_1 fu t.1 t.2⟩
theorem net_New_1_eq (fu : Nat) : ∀ t, evF Go.Proofs.Try.prog [] fu Go.Proofs.Try.f38 net_New_1_fa t = (net_New_1_ft fu).spec t := fun t => by kernel_rfl
theorem net_New_1_told (fu : Nat) : Told Go.Proofs.Try.prog (net_New_1_ft fu) := told_of allT_nil mixed Go.Proofs.Try.func38 (by kernel_rfl) (by kernel_rfl) (net_New_1_eq fu)

def net_New (fu : Nat) (ends : Int) (most : Int) : Option (Int ⊕ (Int × (Int × (Int × (List (((Int × Int) × Nat)) × Nat))))) :=
  Option.bind (α := (Bool)) (
    (net_New_1 fu ends 300).bind fun r =>
    bif (!r) then
      some true
    else
      (net_New_1 fu most 10000).bind fun r1 =>
      some (!r1)) fun o =>
  bif o then
    some (.inl 2)
  else
    some (.inr (0, (ends, (most, ([], 0)))))
def net_New_fa : FnA := ⟨.two (.leaf) (.two (.leaf) (.two (.two (.join ⟨[16], ⟨(.cons (.p .bool) .nil), []⟩⟩ false [] (.reg [(2, {  }), (7, {  })])) (.two (.leaf) (.leaf))) (.two (.reg [(2, { ids := [100] }), (4, { ids := [101] })]) (.leaf)))), ⟨(.cons (.p (.int .i64)) (.cons (.p (.int .i64)) .nil)), []⟩, [⟨(.cons (.nilp (.pointer none)) (.cons (.p (.int .i64)) .nil)), []⟩, ⟨(.cons (.own 0 0 0 0) (.cons (.p (.int .i64)) .nil)), [(0, false, (.vars (.cons (.p (.int .i64)) (.cons (.p (.int .i64)) (.cons (.nilp (.slice none 0 0)) (.cons (.mp 1) .nil)))))), (1, false, (.map (.int .i64) (.int .i64)))]⟩], [0, 0]⟩
def net_New_ft (fu : Nat) : FnT := ⟨11, ⟨(.cons (.p (.int .i64)) (.cons (.p (.int .i64)) .nil)), []⟩, [⟨(.cons (.nilp (.pointer none)) (.cons (.p (.int .i64)) .nil)), []⟩, ⟨(.cons (.own 0 0 0 0) (.cons (.p (.int .i64)) .nil)), [(0, false, (.vars (.cons (.p (.int .i64)) (.cons (.p (.int .i64)) (.cons (.nilp (.slice none 0 0)) (.cons (.mp 1) .nil)))))), (1, false, (.map (.int .i64) (.int .i64)))]⟩], fun t => net_New fu t.1 t.2⟩
theorem net_New_eq (fu : Nat) : ∀ t, evF Go.Proofs.Try.prog [net_New_1_ft fu] fu Go.Proofs.Try.f11 net_New_fa t = (net_New_ft fu).spec t := fun t => by kernel_rfl
theorem net_New_told (fu : Nat) : Told Go.Proofs.Try.prog (net_New_ft fu) := told_of (allT_cons (net_New_1_told fu) allT_nil) mixed Go.Proofs.Try.func11 (by kernel_rfl) (by kernel_rfl) (net_New_eq fu)

def net_Net_made_n0 (fu : Nat)  : Option (Bool) :=
  some false
def net_Net_made_n0_fa : FnA := ⟨.two (.leaf) (.leaf), ⟨(.cons (.nilp (.pointer none)) .nil), []⟩, [⟨(.cons (.p .bool) .nil), []⟩], [0]⟩
def net_Net_made_n0_ft (fu : Nat) : FnT := ⟨39, ⟨(.cons (.nilp (.pointer none)) .nil), []⟩, [⟨(.cons (.p .bool) .nil), []⟩], fun t => net_Net_made_n0 fu ⟩
theorem net_Net_made_n0_eq (fu : Nat) : ∀ t, evF Go.Proofs.Try.prog [] fu Go.Proofs.Try.f39 net_Net_made_n0_fa t = (net_Net_made_n0_ft fu).spec t := fun t => by kernel_rfl
theorem net_Net_made_n0_told (fu : Nat) : Told Go.Proofs.Try.prog (net_Net_made_n0_ft fu) := told_of allT_nil mixed Go.Proofs.Try.func39 (by kernel_rfl) (by kernel_rfl) (net_Net_made_n0_eq fu)

def net_Net_full_n0 (fu : Nat) (to_ : Int) : Option (Empty) :=
  none
def net_Net_full_n0_fa : FnA := ⟨.two (.leaf) (.leaf), ⟨(.cons (.nilp (.pointer none)) (.cons (.p (.int .i64)) .nil)), []⟩, [], [0]⟩
def net_Net_full_n0_ft (fu : Nat) : FnT := ⟨50, ⟨(.cons (.nilp (.pointer none)) (.cons (.p (.int .i64)) .nil)), []⟩, [], fun t => net_Net_full_n0 fu t⟩
theorem net_Net_full_n0_eq (fu : Nat) : ∀ t, evF Go.Proofs.Try.prog [] fu Go.Proofs.Try.f50 net_Net_full_n0_fa t = (net_Net_full_n0_ft fu).spec t := fun t => by kernel_rfl
theorem net_Net_full_n0_told (fu : Nat) : Told Go.Proofs.Try.prog (net_Net_full_n0_ft fu) := told_of allT_nil mixed Go.Proofs.Try.func50 (by kernel_rfl) (by kernel_rfl) (net_Net_full_n0_eq fu)

def net_Net_lay_n0 (fu : Nat) (d : (Int × (Int × List (UInt8)))) : Option (Empty) :=
  (net_Net_full_n0 fu d.2.1).bind fun r =>
  Empty.elim r
def net_Net_lay_n0_fa : FnA := ⟨.two (.reg [(0, { ids := [100] })]) (.two (.two (.reg [(3, {  })]) (.leaf)) (.leaf)), ⟨(.cons (.nilp (.pointer none)) (.cons (.p (.pair (.int .i64) (.pair (.int .i64) (.sl .byte)))) .nil)), []⟩, [], [0]⟩
def net_Net_lay_n0_ft (fu : Nat) : FnT := ⟨40, ⟨(.cons (.nilp (.pointer none)) (.cons (.p (.pair (.int .i64) (.pair (.int .i64) (.sl .byte)))) .nil)), []⟩, [], fun t => net_Net_lay_n0 fu t⟩
theorem net_Net_lay_n0_eq (fu : Nat) : ∀ t, evF Go.Proofs.Try.prog [net_Net_full_n0_ft fu] fu Go.Proofs.Try.f40 net_Net_lay_n0_fa t = (net_Net_lay_n0_ft fu).spec t := fun t => by kernel_rfl
theorem net_Net_lay_n0_told (fu : Nat) : Told Go.Proofs.Try.prog (net_Net_lay_n0_ft fu) := told_of (allT_cons (net_Net_full_n0_told fu) allT_nil) mixed Go.Proofs.Try.func40 (by kernel_rfl) (by kernel_rfl) (net_Net_lay_n0_eq fu)

def net_Net_Send_n0_l0 (fu : Nat) (from_ : Int) (to_ : Int) (x : Int) : Option (Int ⊕ (Unit ⊕ Int)) :=
  bif (decide (x < 2)) then
    (idx? x 2).bind fun q =>
    ([from_, to_])[q]?.bind fun x1 =>
    bif (decide (x1 < 0)) then
      some (.inr (.inr 2))
    else
      none
  else
    some (.inr (.inl ()))
def net_Net_Send_n0_l0_it (fu : Nat) (from_ : Int) (to_ : Int) (tt : Int) : Option (Unit ⊕ Int) :=
  iter fu (fun tt => net_Net_Send_n0_l0 fu from_ to_ tt) tt
def net_Net_Send_n0 (fu : Nat) (from_ : Int) (to_ : Int) (b : List (UInt8)) : Option (Int) :=
  (net_Net_made_n0 fu).bind fun r =>
  bif (!r) then
    some 1
  else
    (net_Net_Send_n0_l0_it fu from_ to_ 0).bind fun o =>
    match o with
    | .inl s =>
      bif (decide (((b.length : Nat) : Int) > 131072)) then
        some 3
      else
        (net_Net_lay_n0 fu (from_, (to_, b))).bind fun r1 =>
        Empty.elim r1
    | .inr o1 =>
      some o1
def net_Net_Send_n0_fa : FnA := ⟨.two (.leaf) (.two (.two (.reg [(1, {  })]) (.two (.leaf) (.leaf))) (.two (.two (.leaf) (.one (.loop ⟨[17], ⟨(.cons (.p (.int .i64)) .nil), []⟩⟩ true [(0, ⟨[], ⟨.nil, []⟩⟩)] (.two (.leaf) (.two (.leaf) (.two (.one (.two (.leaf) (.two (.leaf) (.two (.leaf) (.leaf))))) (.leaf))))))) (.two (.two (.leaf) (.two (.leaf) (.leaf))) (.two (.reg [(5, { fn := 1 })]) (.leaf))))), ⟨(.cons (.nilp (.pointer none)) (.cons (.p (.int .i64)) (.cons (.p (.int .i64)) (.cons (.p (.sl .byte)) .nil)))), []⟩, [⟨(.cons (.p (.int .i64)) .nil), []⟩], [0]⟩
def net_Net_Send_n0_ft (fu : Nat) : FnT := ⟨12, ⟨(.cons (.nilp (.pointer none)) (.cons (.p (.int .i64)) (.cons (.p (.int .i64)) (.cons (.p (.sl .byte)) .nil)))), []⟩, [⟨(.cons (.p (.int .i64)) .nil), []⟩], fun t => net_Net_Send_n0 fu t.1 t.2.1 t.2.2⟩
theorem net_Net_Send_n0_eq (fu : Nat) : ∀ t, evF Go.Proofs.Try.prog [net_Net_made_n0_ft fu, net_Net_lay_n0_ft fu] fu Go.Proofs.Try.f12 net_Net_Send_n0_fa t = (net_Net_Send_n0_ft fu).spec t := fun t => by kernel_rfl
theorem net_Net_Send_n0_told (fu : Nat) : Told Go.Proofs.Try.prog (net_Net_Send_n0_ft fu) := told_of (allT_cons (net_Net_made_n0_told fu) (allT_cons (net_Net_lay_n0_told fu) allT_nil)) mixed Go.Proofs.Try.func12 (by kernel_rfl) (by kernel_rfl) (net_Net_Send_n0_eq fu)

def net_Net_there_n0 (fu : Nat) (i : Int) : Option (Bool) :=
  (net_Net_made_n0 fu).bind fun r =>
  bif r then
    none
  else
    some false
def net_Net_there_n0_fa : FnA := ⟨.two (.leaf) (.two (.reg [(1, {  })]) (.leaf)), ⟨(.cons (.nilp (.pointer none)) (.cons (.p (.int .i64)) .nil)), []⟩, [⟨(.cons (.p .bool) .nil), []⟩], [0]⟩
def net_Net_there_n0_ft (fu : Nat) : FnT := ⟨41, ⟨(.cons (.nilp (.pointer none)) (.cons (.p (.int .i64)) .nil)), []⟩, [⟨(.cons (.p .bool) .nil), []⟩], fun t => net_Net_there_n0 fu t⟩
theorem net_Net_there_n0_eq (fu : Nat) : ∀ t, evF Go.Proofs.Try.prog [net_Net_made_n0_ft fu] fu Go.Proofs.Try.f41 net_Net_there_n0_fa t = (net_Net_there_n0_ft fu).spec t := fun t => by kernel_rfl
theorem net_Net_there_n0_told (fu : Nat) : Told Go.Proofs.Try.prog (net_Net_there_n0_ft fu) := told_of (allT_cons (net_Net_made_n0_told fu) allT_nil) mixed Go.Proofs.Try.func41 (by kernel_rfl) (by kernel_rfl) (net_Net_there_n0_eq fu)

def net_Net_Drop_n0 (fu : Nat) (i : Int) : Option (Bool) :=
  (net_Net_there_n0 fu i).bind fun r =>
  bif (!r) then
    some false
  else
    none
def net_Net_Drop_n0_fa : FnA := ⟨.two (.leaf) (.two (.two (.reg [(2, {  })]) (.two (.leaf) (.leaf))) (.leaf)), ⟨(.cons (.nilp (.pointer none)) (.cons (.p (.int .i64)) .nil)), []⟩, [⟨(.cons (.p .bool) .nil), []⟩], [0]⟩
def net_Net_Drop_n0_ft (fu : Nat) : FnT := ⟨13, ⟨(.cons (.nilp (.pointer none)) (.cons (.p (.int .i64)) .nil)), []⟩, [⟨(.cons (.p .bool) .nil), []⟩], fun t => net_Net_Drop_n0 fu t⟩
theorem net_Net_Drop_n0_eq (fu : Nat) : ∀ t, evF Go.Proofs.Try.prog [net_Net_there_n0_ft fu] fu Go.Proofs.Try.f13 net_Net_Drop_n0_fa t = (net_Net_Drop_n0_ft fu).spec t := fun t => by kernel_rfl
theorem net_Net_Drop_n0_told (fu : Nat) : Told Go.Proofs.Try.prog (net_Net_Drop_n0_ft fu) := told_of (allT_cons (net_Net_there_n0_told fu) allT_nil) mixed Go.Proofs.Try.func13 (by kernel_rfl) (by kernel_rfl) (net_Net_Drop_n0_eq fu)

def net_Net_Flying_n0 (fu : Nat)  : Option (Int) :=
  (net_Net_made_n0 fu).bind fun r =>
  bif (!r) then
    some 0
  else
    none
def net_Net_Flying_n0_fa : FnA := ⟨.two (.leaf) (.two (.two (.reg [(1, {  })]) (.two (.leaf) (.leaf))) (.leaf)), ⟨(.cons (.nilp (.pointer none)) .nil), []⟩, [⟨(.cons (.p (.int .i64)) .nil), []⟩], [0]⟩
def net_Net_Flying_n0_ft (fu : Nat) : FnT := ⟨14, ⟨(.cons (.nilp (.pointer none)) .nil), []⟩, [⟨(.cons (.p (.int .i64)) .nil), []⟩], fun t => net_Net_Flying_n0 fu ⟩
theorem net_Net_Flying_n0_eq (fu : Nat) : ∀ t, evF Go.Proofs.Try.prog [net_Net_made_n0_ft fu] fu Go.Proofs.Try.f14 net_Net_Flying_n0_fa t = (net_Net_Flying_n0_ft fu).spec t := fun t => by kernel_rfl
theorem net_Net_Flying_n0_told (fu : Nat) : Told Go.Proofs.Try.prog (net_Net_Flying_n0_ft fu) := told_of (allT_cons (net_Net_made_n0_told fu) allT_nil) mixed Go.Proofs.Try.func14 (by kernel_rfl) (by kernel_rfl) (net_Net_Flying_n0_eq fu)

def net_Net_Copy_n0 (fu : Nat) (i : Int) : Option (Int) :=
  (net_Net_made_n0 fu).bind fun r =>
  bif (!r) then
    some 1
  else
    (net_Net_there_n0 fu i).bind fun r1 =>
    bif (!r1) then
      some 2
    else
      none
def net_Net_Copy_n0_fa : FnA := ⟨.two (.leaf) (.two (.one (.two (.reg [(1, {  })]) (.two (.leaf) (.two (.reg [(2, { fn := 1 })]) (.two (.leaf) (.leaf)))))) (.leaf)), ⟨(.cons (.nilp (.pointer none)) (.cons (.p (.int .i64)) .nil)), []⟩, [⟨(.cons (.p (.int .i64)) .nil), []⟩], [0]⟩
def net_Net_Copy_n0_ft (fu : Nat) : FnT := ⟨15, ⟨(.cons (.nilp (.pointer none)) (.cons (.p (.int .i64)) .nil)), []⟩, [⟨(.cons (.p (.int .i64)) .nil), []⟩], fun t => net_Net_Copy_n0 fu t⟩
theorem net_Net_Copy_n0_eq (fu : Nat) : ∀ t, evF Go.Proofs.Try.prog [net_Net_made_n0_ft fu, net_Net_there_n0_ft fu] fu Go.Proofs.Try.f15 net_Net_Copy_n0_fa t = (net_Net_Copy_n0_ft fu).spec t := fun t => by kernel_rfl
theorem net_Net_Copy_n0_told (fu : Nat) : Told Go.Proofs.Try.prog (net_Net_Copy_n0_ft fu) := told_of (allT_cons (net_Net_made_n0_told fu) (allT_cons (net_Net_there_n0_told fu) allT_nil)) mixed Go.Proofs.Try.func15 (by kernel_rfl) (by kernel_rfl) (net_Net_Copy_n0_eq fu)

def net_Net_Look_n0 (fu : Nat) (i : Int) : Option ((Int × (Int × Bool))) :=
  (net_Net_there_n0 fu i).bind fun r =>
  bif (!r) then
    some (0, (0, false))
  else
    none
def net_Net_Look_n0_fa : FnA := ⟨.two (.reg [(0, { ids := [100] })]) (.two (.two (.reg [(2, {  })]) (.two (.leaf) (.leaf))) (.leaf)), ⟨(.cons (.nilp (.pointer none)) (.cons (.p (.int .i64)) .nil)), []⟩, [⟨(.cons (.agg (.cons (.p (.int .i64)) (.cons (.p (.int .i64)) (.cons (.nilp (.slice none 0 0)) .nil)))) (.cons (.p .bool) .nil)), []⟩], [0, 0]⟩
def net_Net_Look_n0_ft (fu : Nat) : FnT := ⟨17, ⟨(.cons (.nilp (.pointer none)) (.cons (.p (.int .i64)) .nil)), []⟩, [⟨(.cons (.agg (.cons (.p (.int .i64)) (.cons (.p (.int .i64)) (.cons (.nilp (.slice none 0 0)) .nil)))) (.cons (.p .bool) .nil)), []⟩], fun t => net_Net_Look_n0 fu t⟩
theorem net_Net_Look_n0_eq (fu : Nat) : ∀ t, evF Go.Proofs.Try.prog [net_Net_there_n0_ft fu] fu Go.Proofs.Try.f17 net_Net_Look_n0_fa t = (net_Net_Look_n0_ft fu).spec t := fun t => by kernel_rfl
theorem net_Net_Look_n0_told (fu : Nat) : Told Go.Proofs.Try.prog (net_Net_Look_n0_ft fu) := told_of (allT_cons (net_Net_there_n0_told fu) allT_nil) mixed Go.Proofs.Try.func17 (by kernel_rfl) (by kernel_rfl) (net_Net_Look_n0_eq fu)

def net_Net_Take_n0 (fu : Nat) (i : Int) : Option ((Int × (Int × Bool))) :=
  (net_Net_Look_n0 fu i).bind fun r =>
  bif r.2.2 then
    (net_Net_Drop_n0 fu i).bind fun r1 =>
    some (r.1, (r.2.1, r1))
  else
    some (r.1, (r.2.1, false))
def net_Net_Take_n0_fa : FnA := ⟨.two (.reg [(0, { ids := [100] })]) (.two (.reg [(2, {  }), (6, { ids := [101] })]) (.two (.reg [(5, { fn := 1 })]) (.leaf))), ⟨(.cons (.nilp (.pointer none)) (.cons (.p (.int .i64)) .nil)), []⟩, [⟨(.cons (.agg (.cons (.p (.int .i64)) (.cons (.p (.int .i64)) (.cons (.nilp (.slice none 0 0)) .nil)))) (.cons (.p .bool) .nil)), []⟩], [0, 0]⟩
def net_Net_Take_n0_ft (fu : Nat) : FnT := ⟨16, ⟨(.cons (.nilp (.pointer none)) (.cons (.p (.int .i64)) .nil)), []⟩, [⟨(.cons (.agg (.cons (.p (.int .i64)) (.cons (.p (.int .i64)) (.cons (.nilp (.slice none 0 0)) .nil)))) (.cons (.p .bool) .nil)), []⟩], fun t => net_Net_Take_n0 fu t⟩
theorem net_Net_Take_n0_eq (fu : Nat) : ∀ t, evF Go.Proofs.Try.prog [net_Net_Look_n0_ft fu, net_Net_Drop_n0_ft fu] fu Go.Proofs.Try.f16 net_Net_Take_n0_fa t = (net_Net_Take_n0_ft fu).spec t := fun t => by kernel_rfl
theorem net_Net_Take_n0_told (fu : Nat) : Told Go.Proofs.Try.prog (net_Net_Take_n0_ft fu) := told_of (allT_cons (net_Net_Look_n0_told fu) (allT_cons (net_Net_Drop_n0_told fu) allT_nil)) mixed Go.Proofs.Try.func16 (by kernel_rfl) (by kernel_rfl) (net_Net_Take_n0_eq fu)

def net_Net_Waiting_n0 (fu : Nat) (to_ : Int) : Option (Int) :=
  (net_Net_made_n0 fu).bind fun r =>
  bif (!r) then
    some 0
  else
    none
def net_Net_Waiting_n0_fa : FnA := ⟨.two (.leaf) (.two (.two (.reg [(1, {  })]) (.two (.leaf) (.leaf))) (.leaf)), ⟨(.cons (.nilp (.pointer none)) (.cons (.p (.int .i64)) .nil)), []⟩, [⟨(.cons (.p (.int .i64)) .nil), []⟩], [0]⟩
def net_Net_Waiting_n0_ft (fu : Nat) : FnT := ⟨18, ⟨(.cons (.nilp (.pointer none)) (.cons (.p (.int .i64)) .nil)), []⟩, [⟨(.cons (.p (.int .i64)) .nil), []⟩], fun t => net_Net_Waiting_n0 fu t⟩
theorem net_Net_Waiting_n0_eq (fu : Nat) : ∀ t, evF Go.Proofs.Try.prog [net_Net_made_n0_ft fu] fu Go.Proofs.Try.f18 net_Net_Waiting_n0_fa t = (net_Net_Waiting_n0_ft fu).spec t := fun t => by kernel_rfl
theorem net_Net_Waiting_n0_told (fu : Nat) : Told Go.Proofs.Try.prog (net_Net_Waiting_n0_ft fu) := told_of (allT_cons (net_Net_made_n0_told fu) allT_nil) mixed Go.Proofs.Try.func18 (by kernel_rfl) (by kernel_rfl) (net_Net_Waiting_n0_eq fu)

def net_Net_Forget_n0 (fu : Nat) (to_ : Int) : Option (Int) :=
  (net_Net_Waiting_n0 fu to_).bind fun r =>
  bif (decide (r > 0)) then
    none
  else
    some r
def net_Net_Forget_n0_fa : FnA := ⟨.two (.reg [(0, { ids := [100] })]) (.two (.reg [(2, {  })]) (.two (.two (.leaf) (.two (.leaf) (.leaf))) (.leaf))), ⟨(.cons (.nilp (.pointer none)) (.cons (.p (.int .i64)) .nil)), []⟩, [⟨(.cons (.p (.int .i64)) .nil), []⟩], [0]⟩
def net_Net_Forget_n0_ft (fu : Nat) : FnT := ⟨19, ⟨(.cons (.nilp (.pointer none)) (.cons (.p (.int .i64)) .nil)), []⟩, [⟨(.cons (.p (.int .i64)) .nil), []⟩], fun t => net_Net_Forget_n0 fu t⟩
theorem net_Net_Forget_n0_eq (fu : Nat) : ∀ t, evF Go.Proofs.Try.prog [net_Net_Waiting_n0_ft fu] fu Go.Proofs.Try.f19 net_Net_Forget_n0_fa t = (net_Net_Forget_n0_ft fu).spec t := fun t => by kernel_rfl
theorem net_Net_Forget_n0_told (fu : Nat) : Told Go.Proofs.Try.prog (net_Net_Forget_n0_ft fu) := told_of (allT_cons (net_Net_Waiting_n0_told fu) allT_nil) mixed Go.Proofs.Try.func19 (by kernel_rfl) (by kernel_rfl) (net_Net_Forget_n0_eq fu)

def law07_like (fu : Nat) (a : (Int × (Int × List (UInt8)))) (b : (Int × (Int × List (UInt8)))) : Option (Bool) :=
  bif (a.1 == b.1) then
    bif (a.2.1 == b.2.1) then
      some (a.2.2 == b.2.2)
    else
      some false
  else
    some false
def law07_like_fa : FnA := ⟨.two (.reg [(0, { ids := [100] }), (1, { ids := [101] })]) (.leaf), ⟨(.cons (.p (.pair (.int .i64) (.pair (.int .i64) (.sl .byte)))) (.cons (.p (.pair (.int .i64) (.pair (.int .i64) (.sl .byte)))) .nil)), []⟩, [⟨(.cons (.p .bool) .nil), []⟩], [0]⟩
def law07_like_ft (fu : Nat) : FnT := ⟨27, ⟨(.cons (.p (.pair (.int .i64) (.pair (.int .i64) (.sl .byte)))) (.cons (.p (.pair (.int .i64) (.pair (.int .i64) (.sl .byte)))) .nil)), []⟩, [⟨(.cons (.p .bool) .nil), []⟩], fun t => law07_like fu t.1 t.2⟩
theorem law07_like_eq (fu : Nat) : ∀ t, evF Go.Proofs.Try.prog [] fu Go.Proofs.Try.f27 law07_like_fa t = (law07_like_ft fu).spec t := fun t => by kernel_rfl
theorem law07_like_told (fu : Nat) : Told Go.Proofs.Try.prog (law07_like_ft fu) := told_of allT_nil mixed Go.Proofs.Try.func27 (by kernel_rfl) (by kernel_rfl) (law07_like_eq fu)

def law07_is_n0 (fu : Nat) (i : Int) (from_ : Int) (to_ : Int) (b : List UInt8) : Option (Bool) :=
  (net_Net_Look_n0 fu i).bind fun r =>
  bif r.2.2 then
    need (Nat.ble b.length room) <|
    (law07_like fu (r.1, (r.2.1, [])) (from_, (to_, b))).bind fun r1 =>
    some r1
  else
    some false
def law07_is_n0_fa : FnA := ⟨.two (.leaf) (.two (.reg [(2, {  }), (6, { ids := [100] })]) (.two (.reg [(6, { ids := [101] }), (8, { md := [0, 2], fn := 1 })]) (.leaf))), ⟨(.cons (.nilp (.pointer none)) (.cons (.p (.int .i64)) (.cons (.p (.int .i64)) (.cons (.p (.int .i64)) (.cons (.p .str) .nil))))), []⟩, [⟨(.cons (.p .bool) .nil), []⟩], [0]⟩
def law07_is_n0_ft (fu : Nat) : FnT := ⟨46, ⟨(.cons (.nilp (.pointer none)) (.cons (.p (.int .i64)) (.cons (.p (.int .i64)) (.cons (.p (.int .i64)) (.cons (.p .str) .nil))))), []⟩, [⟨(.cons (.p .bool) .nil), []⟩], fun t => law07_is_n0 fu t.1 t.2.1 t.2.2.1 t.2.2.2⟩
theorem law07_is_n0_eq (fu : Nat) : ∀ t, evF Go.Proofs.Try.prog [net_Net_Look_n0_ft fu, law07_like_ft fu] fu Go.Proofs.Try.f46 law07_is_n0_fa t = (law07_is_n0_ft fu).spec t := fun t => by kernel_rfl
theorem law07_is_n0_told (fu : Nat) : Told Go.Proofs.Try.prog (law07_is_n0_ft fu) := told_of (allT_cons (net_Net_Look_n0_told fu) (allT_cons (law07_like_told fu) allT_nil)) mixed Go.Proofs.Try.func46 (by kernel_rfl) (by kernel_rfl) (law07_is_n0_eq fu)

def slices_Clone__byte_byte (fu : Nat) (s : List (UInt8)) : Option (List (UInt8)) :=
  nilQ s.length fun isNil =>
  bif isNil then
    some []
  else
    need ((Nat.ble ((0 + s.length) * 1) room) && (Nat.ble (0 + s.length) room)) <|
    some s
def slices_Clone__byte_byte_fa : FnA := ⟨.two (.leaf) (.two (.two (.leaf) (.two (.leaf) (.leaf))) (.two (.reg [(0, { ids := [100] }), (2, { ids := [101] })]) (.leaf))), ⟨(.cons (.p (.sl .byte)) .nil), []⟩, [⟨(.cons (.slf 1 0) .nil), [(0, false, (.rows 5 .byte))]⟩], [15]⟩
def slices_Clone__byte_byte_ft (fu : Nat) : FnT := ⟨43, ⟨(.cons (.p (.sl .byte)) .nil), []⟩, [⟨(.cons (.slf 1 0) .nil), [(0, false, (.rows 5 .byte))]⟩], fun t => slices_Clone__byte_byte fu t⟩
theorem slices_Clone__byte_byte_eq (fu : Nat) : ∀ t, evF Go.Proofs.Try.prog [] fu Go.Proofs.Try.f43 slices_Clone__byte_byte_fa t = (slices_Clone__byte_byte_ft fu).spec t := fun t => by kernel_rfl
theorem slices_Clone__byte_byte_told (fu : Nat) : Told Go.Proofs.Try.prog (slices_Clone__byte_byte_ft fu) := told_of allT_nil mixed Go.Proofs.Try.func43 (by kernel_rfl) (by kernel_rfl) (slices_Clone__byte_byte_eq fu)

def net_Net_made__com (fu : Nat) (h : Int) (h1 : Int) (h2 : List ((Int × (Int × List (UInt8))))) (h3 : (List (((Int × Int) × Nat)) × Nat)) : Option ((Bool × (Int × (Int × (List ((Int × (Int × List (UInt8)))) × (List (((Int × Int) × Nat)) × Nat)))))) :=
  some (true, (h, (h1, (h2, h3))))
def net_Net_made__com_fa : FnA := ⟨.two (.leaf) (.leaf), ⟨(.cons (.own 0 0 0 0) .nil), [(0, false, (.vars (.cons (.p (.int .i64)) (.cons (.p (.int .i64)) (.cons (.slf 3 1) (.cons (.mp 2) .nil)))))), (1, false, (.rows 34 (.pair (.int .i64) (.pair (.int .i64) (.sl .byte))))), (2, false, (.map (.int .i64) (.int .i64)))]⟩, [⟨(.cons (.p .bool) .nil), [(0, false, (.vars (.cons (.p (.int .i64)) (.cons (.p (.int .i64)) (.cons (.slf 3 1) (.cons (.mp 2) .nil)))))), (1, false, (.rows 34 (.pair (.int .i64) (.pair (.int .i64) (.sl .byte))))), (2, false, (.map (.int .i64) (.int .i64)))]⟩], [0]⟩
def net_Net_made__com_ft (fu : Nat) : FnT := ⟨39, ⟨(.cons (.own 0 0 0 0) .nil), [(0, false, (.vars (.cons (.p (.int .i64)) (.cons (.p (.int .i64)) (.cons (.slf 3 1) (.cons (.mp 2) .nil)))))), (1, false, (.rows 34 (.pair (.int .i64) (.pair (.int .i64) (.sl .byte))))), (2, false, (.map (.int .i64) (.int .i64)))]⟩, [⟨(.cons (.p .bool) .nil), [(0, false, (.vars (.cons (.p (.int .i64)) (.cons (.p (.int .i64)) (.cons (.slf 3 1) (.cons (.mp 2) .nil)))))), (1, false, (.rows 34 (.pair (.int .i64) (.pair (.int .i64) (.sl .byte))))), (2, false, (.map (.int .i64) (.int .i64)))]⟩], fun t => net_Net_made__com fu t.1 t.2.1 t.2.2.1 t.2.2.2⟩
theorem net_Net_made__com_eq (fu : Nat) : ∀ t, evF Go.Proofs.Try.prog [] fu Go.Proofs.Try.f39 net_Net_made__com_fa t = (net_Net_made__com_ft fu).spec t := fun t => by kernel_rfl
theorem net_Net_made__com_told (fu : Nat) : Told Go.Proofs.Try.prog (net_Net_made__com_ft fu) := told_of allT_nil mixed Go.Proofs.Try.func39 (by kernel_rfl) (by kernel_rfl) (net_Net_made__com_eq fu)

def net_Net_Flying__com (fu : Nat) (h : Int) (h1 : Int) (h2 : List ((Int × (Int × List (UInt8))))) (h3 : (List (((Int × Int) × Nat)) × Nat)) : Option ((Int × (Int × (Int × (List ((Int × (Int × List (UInt8)))) × (List (((Int × Int) × Nat)) × Nat)))))) :=
  (net_Net_made__com fu h h1 h2 h3).bind fun r =>
  bif (!r.1) then
    some (0, (r.2.1, (r.2.2.1, (r.2.2.2.1, r.2.2.2.2))))
  else
    some (((r.2.2.2.1.length : Nat) : Int), (r.2.1, (r.2.2.1, (r.2.2.2.1, r.2.2.2.2))))
def net_Net_Flying__com_fa : FnA := ⟨.two (.leaf) (.two (.two (.reg [(1, { sh := [0, 1, 2] })]) (.two (.leaf) (.leaf))) (.leaf)), ⟨(.cons (.own 0 0 0 0) .nil), [(0, false, (.vars (.cons (.p (.int .i64)) (.cons (.p (.int .i64)) (.cons (.slf 3 1) (.cons (.mp 2) .nil)))))), (1, false, (.rows 34 (.pair (.int .i64) (.pair (.int .i64) (.sl .byte))))), (2, false, (.map (.int .i64) (.int .i64)))]⟩, [⟨(.cons (.p (.int .i64)) .nil), [(0, false, (.vars (.cons (.p (.int .i64)) (.cons (.p (.int .i64)) (.cons (.slf 3 1) (.cons (.mp 2) .nil)))))), (1, false, (.rows 34 (.pair (.int .i64) (.pair (.int .i64) (.sl .byte))))), (2, false, (.map (.int .i64) (.int .i64)))]⟩], [0]⟩
def net_Net_Flying__com_ft (fu : Nat) : FnT := ⟨14, ⟨(.cons (.own 0 0 0 0) .nil), [(0, false, (.vars (.cons (.p (.int .i64)) (.cons (.p (.int .i64)) (.cons (.slf 3 1) (.cons (.mp 2) .nil)))))), (1, false, (.rows 34 (.pair (.int .i64) (.pair (.int .i64) (.sl .byte))))), (2, false, (.map (.int .i64) (.int .i64)))]⟩, [⟨(.cons (.p (.int .i64)) .nil), [(0, false, (.vars (.cons (.p (.int .i64)) (.cons (.p (.int .i64)) (.cons (.slf 3 1) (.cons (.mp 2) .nil)))))), (1, false, (.rows 34 (.pair (.int .i64) (.pair (.int .i64) (.sl .byte))))), (2, false, (.map (.int .i64) (.int .i64)))]⟩], fun t => net_Net_Flying__com fu t.1 t.2.1 t.2.2.1 t.2.2.2⟩
theorem net_Net_Flying__com_eq (fu : Nat) : ∀ t, evF Go.Proofs.Try.prog [net_Net_made__com_ft fu] fu Go.Proofs.Try.f14 net_Net_Flying__com_fa t = (net_Net_Flying__com_ft fu).spec t := fun t => by kernel_rfl
theorem net_Net_Flying__com_told (fu : Nat) : Told Go.Proofs.Try.prog (net_Net_Flying__com_ft fu) := told_of (allT_cons (net_Net_made__com_told fu) allT_nil) mixed Go.Proofs.Try.func14 (by kernel_rfl) (by kernel_rfl) (net_Net_Flying__com_eq fu)

def net_Net_there__com (fu : Nat) (i : Int) (h : Int) (h1 : Int) (h2 : List ((Int × (Int × List (UInt8))))) (h3 : (List (((Int × Int) × Nat)) × Nat)) : Option ((Bool × (Int × (Int × (List ((Int × (Int × List (UInt8)))) × (List (((Int × Int) × Nat)) × Nat)))))) :=
  (net_Net_made__com fu h h1 h2 h3).bind fun r =>
  bif r.1 then
    some ((decide ((IntKind.wrap .u64 i) < (IntKind.wrap .u64 ((r.2.2.2.1.length : Nat) : Int)))), (r.2.1, (r.2.2.1, (r.2.2.2.1, r.2.2.2.2))))
  else
    some (false, (r.2.1, (r.2.2.1, (r.2.2.2.1, r.2.2.2.2))))
def net_Net_there__com_fa : FnA := ⟨.two (.leaf) (.two (.reg [(1, { sh := [0, 1, 2] })]) (.leaf)), ⟨(.cons (.own 0 0 0 0) (.cons (.p (.int .i64)) .nil)), [(0, false, (.vars (.cons (.p (.int .i64)) (.cons (.p (.int .i64)) (.cons (.slf 3 1) (.cons (.mp 2) .nil)))))), (1, false, (.rows 34 (.pair (.int .i64) (.pair (.int .i64) (.sl .byte))))), (2, false, (.map (.int .i64) (.int .i64)))]⟩, [⟨(.cons (.p .bool) .nil), [(0, false, (.vars (.cons (.p (.int .i64)) (.cons (.p (.int .i64)) (.cons (.slf 3 1) (.cons (.mp 2) .nil)))))), (1, false, (.rows 34 (.pair (.int .i64) (.pair (.int .i64) (.sl .byte))))), (2, false, (.map (.int .i64) (.int .i64)))]⟩], [0]⟩
def net_Net_there__com_ft (fu : Nat) : FnT := ⟨41, ⟨(.cons (.own 0 0 0 0) (.cons (.p (.int .i64)) .nil)), [(0, false, (.vars (.cons (.p (.int .i64)) (.cons (.p (.int .i64)) (.cons (.slf 3 1) (.cons (.mp 2) .nil)))))), (1, false, (.rows 34 (.pair (.int .i64) (.pair (.int .i64) (.sl .byte))))), (2, false, (.map (.int .i64) (.int .i64)))]⟩, [⟨(.cons (.p .bool) .nil), [(0, false, (.vars (.cons (.p (.int .i64)) (.cons (.p (.int .i64)) (.cons (.slf 3 1) (.cons (.mp 2) .nil)))))), (1, false, (.rows 34 (.pair (.int .i64) (.pair (.int .i64) (.sl .byte))))), (2, false, (.map (.int .i64) (.int .i64)))]⟩], fun t => net_Net_there__com fu t.1 t.2.1 t.2.2.1 t.2.2.2.1 t.2.2.2.2⟩
theorem net_Net_there__com_eq (fu : Nat) : ∀ t, evF Go.Proofs.Try.prog [net_Net_made__com_ft fu] fu Go.Proofs.Try.f41 net_Net_there__com_fa t = (net_Net_there__com_ft fu).spec t := fun t => by kernel_rfl
theorem net_Net_there__com_told (fu : Nat) : Told Go.Proofs.Try.prog (net_Net_there__com_ft fu) := told_of (allT_cons (net_Net_made__com_told fu) allT_nil) mixed Go.Proofs.Try.func41 (by kernel_rfl) (by kernel_rfl) (net_Net_there__com_eq fu)

def net_Net_full__com (fu : Nat) (to_ : Int) (h : Int) (h1 : Int) (h2 : List ((Int × (Int × List (UInt8))))) (h3 : (List (((Int × Int) × Nat)) × Nat)) : Option ((Bool × (Int × (Int × (List ((Int × (Int × List (UInt8)))) × (List (((Int × Int) × Nat)) × Nat)))))) :=
  bif ((Option.getD (mget (k := (.int .i64)) (v := (.int .i64)) h3 to_) 0) == h1) then
    some (true, (h, (h1, (h2, h3))))
  else
    some ((((h2.length : Nat) : Int) == 10000), (h, (h1, (h2, h3))))
def net_Net_full__com_fa : FnA := ⟨.two (.leaf) (.leaf), ⟨(.cons (.own 0 0 0 0) (.cons (.p (.int .i64)) .nil)), [(0, false, (.vars (.cons (.p (.int .i64)) (.cons (.p (.int .i64)) (.cons (.slf 3 1) (.cons (.mp 2) .nil)))))), (1, false, (.rows 34 (.pair (.int .i64) (.pair (.int .i64) (.sl .byte))))), (2, false, (.map (.int .i64) (.int .i64)))]⟩, [⟨(.cons (.p .bool) .nil), [(0, false, (.vars (.cons (.p (.int .i64)) (.cons (.p (.int .i64)) (.cons (.slf 3 1) (.cons (.mp 2) .nil)))))), (1, false, (.rows 34 (.pair (.int .i64) (.pair (.int .i64) (.sl .byte))))), (2, false, (.map (.int .i64) (.int .i64)))]⟩], [0]⟩
def net_Net_full__com_ft (fu : Nat) : FnT := ⟨50, ⟨(.cons (.own 0 0 0 0) (.cons (.p (.int .i64)) .nil)), [(0, false, (.vars (.cons (.p (.int .i64)) (.cons (.p (.int .i64)) (.cons (.slf 3 1) (.cons (.mp 2) .nil)))))), (1, false, (.rows 34 (.pair (.int .i64) (.pair (.int .i64) (.sl .byte))))), (2, false, (.map (.int .i64) (.int .i64)))]⟩, [⟨(.cons (.p .bool) .nil), [(0, false, (.vars (.cons (.p (.int .i64)) (.cons (.p (.int .i64)) (.cons (.slf 3 1) (.cons (.mp 2) .nil)))))), (1, false, (.rows 34 (.pair (.int .i64) (.pair (.int .i64) (.sl .byte))))), (2, false, (.map (.int .i64) (.int .i64)))]⟩], fun t => net_Net_full__com fu t.1 t.2.1 t.2.2.1 t.2.2.2.1 t.2.2.2.2⟩
theorem net_Net_full__com_eq (fu : Nat) : ∀ t, evF Go.Proofs.Try.prog [] fu Go.Proofs.Try.f50 net_Net_full__com_fa t = (net_Net_full__com_ft fu).spec t := fun t => by kernel_rfl
theorem net_Net_full__com_told (fu : Nat) : Told Go.Proofs.Try.prog (net_Net_full__com_ft fu) := told_of allT_nil mixed Go.Proofs.Try.func50 (by kernel_rfl) (by kernel_rfl) (net_Net_full__com_eq fu)

def net_Net_lay__com (fu : Nat) (d : (Int × (Int × List (UInt8)))) (h : Int) (h1 : Int) (h2 : List ((Int × (Int × List (UInt8))))) (h3 : (List (((Int × Int) × Nat)) × Nat)) : Option ((Int × (Int × (Int × (List ((Int × (Int × List (UInt8)))) × (List (((Int × Int) × Nat)) × Nat))))) ⊕ (Int × (Int × (Int × ((List (((Int × Int) × Nat)) × Nat) × List ((Int × (Int × List (UInt8))))))))) :=
  (net_Net_full__com fu d.2.1 h h1 h2 h3).bind fun r =>
  bif r.1 then
    some (.inl (5, (r.2.1, (r.2.2.1, (r.2.2.2.1, r.2.2.2.2)))))
  else
    (slices_Clone__byte_byte fu d.2.2).bind fun r1 =>
    need ((Nat.ble ((r.2.2.2.1.length + 1) * 40) room) && (Nat.ble (r.2.2.2.1.length + 1) room)) <|
    some (.inr (0, (r.2.1, (r.2.2.1, ((mput (k := (.int .i64)) (v := (.int .i64)) r.2.2.2.2 d.2.1 (IntKind.wrap .i64 ((Option.getD (mget (k := (.int .i64)) (v := (.int .i64)) r.2.2.2.2 d.2.1) 0) + 1))), (r.2.2.2.1 ++ [(d.1, (d.2.1, r1))]))))))
def net_Net_lay__com_fa : FnA := ⟨.two (.reg [(0, { ids := [100] })]) (.two (.two (.reg [(3, { sh := [0, 1, 2] })]) (.two (.leaf) (.leaf))) (.two (.reg [(2, { ids := [101], fn := 1 })]) (.two (.reg [(6, { ids := [102] }), (7, { ids := [103] })]) (.two (.leaf) (.leaf))))), ⟨(.cons (.own 0 0 0 0) (.cons (.p (.pair (.int .i64) (.pair (.int .i64) (.sl .byte)))) .nil)), [(0, false, (.vars (.cons (.p (.int .i64)) (.cons (.p (.int .i64)) (.cons (.slf 3 1) (.cons (.mp 2) .nil)))))), (1, false, (.rows 34 (.pair (.int .i64) (.pair (.int .i64) (.sl .byte))))), (2, false, (.map (.int .i64) (.int .i64)))]⟩, [⟨(.cons (.p (.int .i64)) .nil), [(0, false, (.vars (.cons (.p (.int .i64)) (.cons (.p (.int .i64)) (.cons (.slf 3 1) (.cons (.mp 2) .nil)))))), (1, false, (.rows 34 (.pair (.int .i64) (.pair (.int .i64) (.sl .byte))))), (2, false, (.map (.int .i64) (.int .i64)))]⟩, ⟨(.cons (.p (.int .i64)) .nil), [(0, false, (.vars (.cons (.p (.int .i64)) (.cons (.p (.int .i64)) (.cons (.slf 3 3) (.cons (.mp 2) .nil)))))), (2, false, (.map (.int .i64) (.int .i64))), (3, false, (.rows 34 (.pair (.int .i64) (.pair (.int .i64) (.sl .byte)))))]⟩], [0]⟩
def net_Net_lay__com_ft (fu : Nat) : FnT := ⟨40, ⟨(.cons (.own 0 0 0 0) (.cons (.p (.pair (.int .i64) (.pair (.int .i64) (.sl .byte)))) .nil)), [(0, false, (.vars (.cons (.p (.int .i64)) (.cons (.p (.int .i64)) (.cons (.slf 3 1) (.cons (.mp 2) .nil)))))), (1, false, (.rows 34 (.pair (.int .i64) (.pair (.int .i64) (.sl .byte))))), (2, false, (.map (.int .i64) (.int .i64)))]⟩, [⟨(.cons (.p (.int .i64)) .nil), [(0, false, (.vars (.cons (.p (.int .i64)) (.cons (.p (.int .i64)) (.cons (.slf 3 1) (.cons (.mp 2) .nil)))))), (1, false, (.rows 34 (.pair (.int .i64) (.pair (.int .i64) (.sl .byte))))), (2, false, (.map (.int .i64) (.int .i64)))]⟩, ⟨(.cons (.p (.int .i64)) .nil), [(0, false, (.vars (.cons (.p (.int .i64)) (.cons (.p (.int .i64)) (.cons (.slf 3 3) (.cons (.mp 2) .nil)))))), (2, false, (.map (.int .i64) (.int .i64))), (3, false, (.rows 34 (.pair (.int .i64) (.pair (.int .i64) (.sl .byte)))))]⟩], fun t => net_Net_lay__com fu t.1 t.2.1 t.2.2.1 t.2.2.2.1 t.2.2.2.2⟩
theorem net_Net_lay__com_eq (fu : Nat) : ∀ t, evF Go.Proofs.Try.prog [net_Net_full__com_ft fu, slices_Clone__byte_byte_ft fu] fu Go.Proofs.Try.f40 net_Net_lay__com_fa t = (net_Net_lay__com_ft fu).spec t := fun t => by kernel_rfl
theorem net_Net_lay__com_told (fu : Nat) : Told Go.Proofs.Try.prog (net_Net_lay__com_ft fu) := told_of (allT_cons (net_Net_full__com_told fu) (allT_cons (slices_Clone__byte_byte_told fu) allT_nil)) mixed Go.Proofs.Try.func40 (by kernel_rfl) (by kernel_rfl) (net_Net_lay__com_eq fu)

def net_Net_Copy__com (fu : Nat) (i : Int) (h : Int) (h1 : Int) (h2 : List ((Int × (Int × List (UInt8))))) (h3 : (List (((Int × Int) × Nat)) × Nat)) : Option ((Int × (Int × (Int × (List ((Int × (Int × List (UInt8)))) × (List (((Int × Int) × Nat)) × Nat))))) ⊕ (Int × (Int × (Int × ((List (((Int × Int) × Nat)) × Nat) × List ((Int × (Int × List (UInt8))))))))) :=
  (net_Net_made__com fu h h1 h2 h3).bind fun r =>
  bif (!r.1) then
    some (.inl (1, (r.2.1, (r.2.2.1, (r.2.2.2.1, r.2.2.2.2)))))
  else
    (net_Net_there__com fu i r.2.1 r.2.2.1 r.2.2.2.1 r.2.2.2.2).bind fun r1 =>
    bif (!r1.1) then
      some (.inl (2, (r1.2.1, (r1.2.2.1, (r1.2.2.2.1, r1.2.2.2.2)))))
    else
      (idx? i r1.2.2.2.1.length).bind fun q =>
      (r1.2.2.2.1)[q]?.bind fun r2 =>
      (net_Net_lay__com fu r2 r1.2.1 r1.2.2.1 r1.2.2.2.1 r1.2.2.2.2).bind fun r3 =>
      match r3 with
      | .inl r4 =>
        some (.inl (r4.1, (r4.2.1, (r4.2.2.1, (r4.2.2.2.1, r4.2.2.2.2)))))
      | .inr r5 =>
        some (.inr (r5.1, (r5.2.1, (r5.2.2.1, (r5.2.2.2.1, r5.2.2.2.2)))))
def net_Net_Copy__com_fa : FnA := ⟨.two (.leaf) (.two (.one (.two (.reg [(1, { sh := [0, 1, 2] })]) (.two (.leaf) (.two (.reg [(2, { sh := [0, 1, 2], fn := 1 })]) (.two (.leaf) (.leaf)))))) (.two (.reg [(8, { ids := [100], sh := [0, 1, 2], fn := 2 })]) (.leaf))), ⟨(.cons (.own 0 0 0 0) (.cons (.p (.int .i64)) .nil)), [(0, false, (.vars (.cons (.p (.int .i64)) (.cons (.p (.int .i64)) (.cons (.slf 3 1) (.cons (.mp 2) .nil)))))), (1, false, (.rows 34 (.pair (.int .i64) (.pair (.int .i64) (.sl .byte))))), (2, false, (.map (.int .i64) (.int .i64)))]⟩, [⟨(.cons (.p (.int .i64)) .nil), [(0, false, (.vars (.cons (.p (.int .i64)) (.cons (.p (.int .i64)) (.cons (.slf 3 1) (.cons (.mp 2) .nil)))))), (1, false, (.rows 34 (.pair (.int .i64) (.pair (.int .i64) (.sl .byte))))), (2, false, (.map (.int .i64) (.int .i64)))]⟩, ⟨(.cons (.p (.int .i64)) .nil), [(0, false, (.vars (.cons (.p (.int .i64)) (.cons (.p (.int .i64)) (.cons (.slf 3 3) (.cons (.mp 2) .nil)))))), (2, false, (.map (.int .i64) (.int .i64))), (3, false, (.rows 34 (.pair (.int .i64) (.pair (.int .i64) (.sl .byte)))))]⟩], [0]⟩
def net_Net_Copy__com_ft (fu : Nat) : FnT := ⟨15, ⟨(.cons (.own 0 0 0 0) (.cons (.p (.int .i64)) .nil)), [(0, false, (.vars (.cons (.p (.int .i64)) (.cons (.p (.int .i64)) (.cons (.slf 3 1) (.cons (.mp 2) .nil)))))), (1, false, (.rows 34 (.pair (.int .i64) (.pair (.int .i64) (.sl .byte))))), (2, false, (.map (.int .i64) (.int .i64)))]⟩, [⟨(.cons (.p (.int .i64)) .nil), [(0, false, (.vars (.cons (.p (.int .i64)) (.cons (.p (.int .i64)) (.cons (.slf 3 1) (.cons (.mp 2) .nil)))))), (1, false, (.rows 34 (.pair (.int .i64) (.pair (.int .i64) (.sl .byte))))), (2, false, (.map (.int .i64) (.int .i64)))]⟩, ⟨(.cons (.p (.int .i64)) .nil), [(0, false, (.vars (.cons (.p (.int .i64)) (.cons (.p (.int .i64)) (.cons (.slf 3 3) (.cons (.mp 2) .nil)))))), (2, false, (.map (.int .i64) (.int .i64))), (3, false, (.rows 34 (.pair (.int .i64) (.pair (.int .i64) (.sl .byte)))))]⟩], fun t => net_Net_Copy__com fu t.1 t.2.1 t.2.2.1 t.2.2.2.1 t.2.2.2.2⟩
theorem net_Net_Copy__com_eq (fu : Nat) : ∀ t, evF Go.Proofs.Try.prog [net_Net_made__com_ft fu, net_Net_there__com_ft fu, net_Net_lay__com_ft fu] fu Go.Proofs.Try.f15 net_Net_Copy__com_fa t = (net_Net_Copy__com_ft fu).spec t := fun t => by kernel_rfl
theorem net_Net_Copy__com_told (fu : Nat) : Told Go.Proofs.Try.prog (net_Net_Copy__com_ft fu) := told_of (allT_cons (net_Net_made__com_told fu) (allT_cons (net_Net_there__com_told fu) (allT_cons (net_Net_lay__com_told fu) allT_nil))) mixed Go.Proofs.Try.func15 (by kernel_rfl) (by kernel_rfl) (net_Net_Copy__com_eq fu)

def net_Net_Send__com_l0 (fu : Nat) (from_ : Int) (to_ : Int) (x : Int) (h4 : Int) (h5 : Int) (h6 : List ((Int × (Int × List (UInt8))))) (h7 : (List (((Int × Int) × Nat)) × Nat)) : Option ((Int × (Int × (Int × (List ((Int × (Int × List (UInt8)))) × (List (((Int × Int) × Nat)) × Nat))))) ⊕ ((Int × (Int × (List ((Int × (Int × List (UInt8)))) × (List (((Int × Int) × Nat)) × Nat)))) ⊕ (Int × (Int × (Int × (List ((Int × (Int × List (UInt8)))) × (List (((Int × Int) × Nat)) × Nat))))) ⊕ (Int × (Int × (Int × ((List (((Int × Int) × Nat)) × Nat) × List ((Int × (Int × List (UInt8)))))))))) :=
  bif (decide (x < 2)) then
    (idx? x 2).bind fun q =>
    ([from_, to_])[q]?.bind fun x1 =>
    Option.bind (α := ((Bool × (Int × (Int × (List ((Int × (Int × List (UInt8)))) × (List (((Int × Int) × Nat)) × Nat))))))) (
      bif (decide (x1 < 0)) then
        some (true, (h4, (h5, (h6, h7))))
      else
        some ((decide (x1 ≥ h4)), (h4, (h5, (h6, h7))))) fun o =>
    bif o.1 then
      some (.inr (.inr (.inl (2, (o.2.1, (o.2.2.1, (o.2.2.2.1, o.2.2.2.2)))))))
    else
      some (.inl ((IntKind.wrap .i64 (x + 1)), (o.2.1, (o.2.2.1, (o.2.2.2.1, o.2.2.2.2)))))
  else
    some (.inr (.inl (h4, (h5, (h6, h7)))))
def net_Net_Send__com_l0_it (fu : Nat) (from_ : Int) (to_ : Int) (tt : (Int × (Int × (Int × (List ((Int × (Int × List (UInt8)))) × (List (((Int × Int) × Nat)) × Nat)))))) : Option ((Int × (Int × (List ((Int × (Int × List (UInt8)))) × (List (((Int × Int) × Nat)) × Nat)))) ⊕ (Int × (Int × (Int × (List ((Int × (Int × List (UInt8)))) × (List (((Int × Int) × Nat)) × Nat))))) ⊕ (Int × (Int × (Int × ((List (((Int × Int) × Nat)) × Nat) × List ((Int × (Int × List (UInt8))))))))) :=
  iter fu (fun tt => net_Net_Send__com_l0 fu from_ to_ tt.1 tt.2.1 tt.2.2.1 tt.2.2.2.1 tt.2.2.2.2) tt
def net_Net_Send__com (fu : Nat) (from_ : Int) (to_ : Int) (b : List (UInt8)) (h : Int) (h1 : Int) (h2 : List ((Int × (Int × List (UInt8))))) (h3 : (List (((Int × Int) × Nat)) × Nat)) : Option ((Int × (Int × (Int × (List ((Int × (Int × List (UInt8)))) × (List (((Int × Int) × Nat)) × Nat))))) ⊕ (Int × (Int × (Int × ((List (((Int × Int) × Nat)) × Nat) × List ((Int × (Int × List (UInt8))))))))) :=
  (net_Net_made__com fu h h1 h2 h3).bind fun r =>
  bif (!r.1) then
    some (.inl (1, (r.2.1, (r.2.2.1, (r.2.2.2.1, r.2.2.2.2)))))
  else
    (net_Net_Send__com_l0_it fu from_ to_ (0, (r.2.1, (r.2.2.1, (r.2.2.2.1, r.2.2.2.2))))).bind fun o1 =>
    match o1 with
    | .inl s =>
      bif (decide (((b.length : Nat) : Int) > 131072)) then
        some (.inl (3, (s.1, (s.2.1, (s.2.2.1, s.2.2.2)))))
      else
        (net_Net_lay__com fu (from_, (to_, b)) s.1 s.2.1 s.2.2.1 s.2.2.2).bind fun r1 =>
        match r1 with
        | .inl r2 =>
          some (.inl (r2.1, (r2.2.1, (r2.2.2.1, (r2.2.2.2.1, r2.2.2.2.2)))))
        | .inr r3 =>
          some (.inr (r3.1, (r3.2.1, (r3.2.2.1, (r3.2.2.2.1, r3.2.2.2.2)))))
    | .inr o2 =>
      some o2
def net_Net_Send__com_fa : FnA := ⟨.two (.leaf) (.two (.two (.reg [(1, { sh := [0, 1, 2] })]) (.two (.leaf) (.leaf))) (.two (.two (.leaf) (.one (.loop ⟨[0, 17], ⟨(.cons (.own 0 0 0 0) (.cons (.p (.int .i64)) .nil)), [(0, false, (.vars (.cons (.p (.int .i64)) (.cons (.p (.int .i64)) (.cons (.slf 3 1) (.cons (.mp 2) .nil)))))), (1, false, (.rows 34 (.pair (.int .i64) (.pair (.int .i64) (.sl .byte))))), (2, false, (.map (.int .i64) (.int .i64)))]⟩⟩ true [(0, ⟨[0], ⟨(.cons (.own 0 0 0 0) .nil), [(0, false, (.vars (.cons (.p (.int .i64)) (.cons (.p (.int .i64)) (.cons (.slf 3 1) (.cons (.mp 2) .nil)))))), (1, false, (.rows 34 (.pair (.int .i64) (.pair (.int .i64) (.sl .byte))))), (2, false, (.map (.int .i64) (.int .i64)))]⟩⟩)] (.two (.leaf) (.two (.leaf) (.two (.one (.two (.leaf) (.two (.join ⟨[0, 29], ⟨(.cons (.own 0 0 0 0) (.cons (.p .bool) .nil)), [(0, false, (.vars (.cons (.p (.int .i64)) (.cons (.p (.int .i64)) (.cons (.slf 3 1) (.cons (.mp 2) .nil)))))), (1, false, (.rows 34 (.pair (.int .i64) (.pair (.int .i64) (.sl .byte))))), (2, false, (.map (.int .i64) (.int .i64)))]⟩⟩ false [] (.leaf)) (.two (.leaf) (.leaf))))) (.leaf))))))) (.two (.two (.leaf) (.two (.leaf) (.leaf))) (.two (.reg [(5, { ids := [100], sh := [0, 1, 2], fn := 1 })]) (.leaf))))), ⟨(.cons (.own 0 0 0 0) (.cons (.p (.int .i64)) (.cons (.p (.int .i64)) (.cons (.p (.sl .byte)) .nil)))), [(0, false, (.vars (.cons (.p (.int .i64)) (.cons (.p (.int .i64)) (.cons (.slf 3 1) (.cons (.mp 2) .nil)))))), (1, false, (.rows 34 (.pair (.int .i64) (.pair (.int .i64) (.sl .byte))))), (2, false, (.map (.int .i64) (.int .i64)))]⟩, [⟨(.cons (.p (.int .i64)) .nil), [(0, false, (.vars (.cons (.p (.int .i64)) (.cons (.p (.int .i64)) (.cons (.slf 3 1) (.cons (.mp 2) .nil)))))), (1, false, (.rows 34 (.pair (.int .i64) (.pair (.int .i64) (.sl .byte))))), (2, false, (.map (.int .i64) (.int .i64)))]⟩, ⟨(.cons (.p (.int .i64)) .nil), [(0, false, (.vars (.cons (.p (.int .i64)) (.cons (.p (.int .i64)) (.cons (.slf 3 3) (.cons (.mp 2) .nil)))))), (2, false, (.map (.int .i64) (.int .i64))), (3, false, (.rows 34 (.pair (.int .i64) (.pair (.int .i64) (.sl .byte)))))]⟩], [0]⟩
def net_Net_Send__com_ft (fu : Nat) : FnT := ⟨12, ⟨(.cons (.own 0 0 0 0) (.cons (.p (.int .i64)) (.cons (.p (.int .i64)) (.cons (.p (.sl .byte)) .nil)))), [(0, false, (.vars (.cons (.p (.int .i64)) (.cons (.p (.int .i64)) (.cons (.slf 3 1) (.cons (.mp 2) .nil)))))), (1, false, (.rows 34 (.pair (.int .i64) (.pair (.int .i64) (.sl .byte))))), (2, false, (.map (.int .i64) (.int .i64)))]⟩, [⟨(.cons (.p (.int .i64)) .nil), [(0, false, (.vars (.cons (.p (.int .i64)) (.cons (.p (.int .i64)) (.cons (.slf 3 1) (.cons (.mp 2) .nil)))))), (1, false, (.rows 34 (.pair (.int .i64) (.pair (.int .i64) (.sl .byte))))), (2, false, (.map (.int .i64) (.int .i64)))]⟩, ⟨(.cons (.p (.int .i64)) .nil), [(0, false, (.vars (.cons (.p (.int .i64)) (.cons (.p (.int .i64)) (.cons (.slf 3 3) (.cons (.mp 2) .nil)))))), (2, false, (.map (.int .i64) (.int .i64))), (3, false, (.rows 34 (.pair (.int .i64) (.pair (.int .i64) (.sl .byte)))))]⟩], fun t => net_Net_Send__com fu t.1 t.2.1 t.2.2.1 t.2.2.2.1 t.2.2.2.2.1 t.2.2.2.2.2.1 t.2.2.2.2.2.2⟩
theorem net_Net_Send__com_eq (fu : Nat) : ∀ t, evF Go.Proofs.Try.prog [net_Net_made__com_ft fu, net_Net_lay__com_ft fu] fu Go.Proofs.Try.f12 net_Net_Send__com_fa t = (net_Net_Send__com_ft fu).spec t := fun t => by kernel_rfl
theorem net_Net_Send__com_told (fu : Nat) : Told Go.Proofs.Try.prog (net_Net_Send__com_ft fu) := told_of (allT_cons (net_Net_made__com_told fu) (allT_cons (net_Net_lay__com_told fu) allT_nil)) mixed Go.Proofs.Try.func12 (by kernel_rfl) (by kernel_rfl) (net_Net_Send__com_eq fu)

def net_Net_Look__com (fu : Nat) (i : Int) (h : Int) (h1 : Int) (h2 : List ((Int × (Int × List (UInt8))))) (h3 : (List (((Int × Int) × Nat)) × Nat)) : Option ((Int × (Int × (List (UInt8) × (Bool × (Int × (Int × (List ((Int × (Int × List (UInt8)))) × (List (((Int × Int) × Nat)) × Nat))))))))) :=
  (net_Net_there__com fu i h h1 h2 h3).bind fun r =>
  bif (!r.1) then
    some (0, (0, ([], (false, (r.2.1, (r.2.2.1, (r.2.2.2.1, r.2.2.2.2)))))))
  else
    (idx? i r.2.2.2.1.length).bind fun q =>
    (r.2.2.2.1)[q]?.bind fun r1 =>
    (slices_Clone__byte_byte fu r1.2.2).bind fun r2 =>
    some (r1.1, (r1.2.1, (r2, (true, (r.2.1, (r.2.2.1, (r.2.2.2.1, r.2.2.2.2)))))))
def net_Net_Look__com_fa : FnA := ⟨.two (.reg [(0, { ids := [100] })]) (.two (.two (.reg [(2, { sh := [0, 1, 2] })]) (.two (.leaf) (.leaf))) (.two (.reg [(7, { ids := [101] })]) (.two (.reg [(6, { ids := [102], fn := 1 })]) (.leaf)))), ⟨(.cons (.own 0 0 0 0) (.cons (.p (.int .i64)) .nil)), [(0, false, (.vars (.cons (.p (.int .i64)) (.cons (.p (.int .i64)) (.cons (.slf 3 1) (.cons (.mp 2) .nil)))))), (1, false, (.rows 34 (.pair (.int .i64) (.pair (.int .i64) (.sl .byte))))), (2, false, (.map (.int .i64) (.int .i64)))]⟩, [⟨(.cons (.agg (.cons (.p (.int .i64)) (.cons (.p (.int .i64)) (.cons (.p (.sl .byte)) .nil)))) (.cons (.p .bool) .nil)), [(0, false, (.vars (.cons (.p (.int .i64)) (.cons (.p (.int .i64)) (.cons (.slf 3 1) (.cons (.mp 2) .nil)))))), (1, false, (.rows 34 (.pair (.int .i64) (.pair (.int .i64) (.sl .byte))))), (2, false, (.map (.int .i64) (.int .i64)))]⟩], [1, 0]⟩
def net_Net_Look__com_ft (fu : Nat) : FnT := ⟨17, ⟨(.cons (.own 0 0 0 0) (.cons (.p (.int .i64)) .nil)), [(0, false, (.vars (.cons (.p (.int .i64)) (.cons (.p (.int .i64)) (.cons (.slf 3 1) (.cons (.mp 2) .nil)))))), (1, false, (.rows 34 (.pair (.int .i64) (.pair (.int .i64) (.sl .byte))))), (2, false, (.map (.int .i64) (.int .i64)))]⟩, [⟨(.cons (.agg (.cons (.p (.int .i64)) (.cons (.p (.int .i64)) (.cons (.p (.sl .byte)) .nil)))) (.cons (.p .bool) .nil)), [(0, false, (.vars (.cons (.p (.int .i64)) (.cons (.p (.int .i64)) (.cons (.slf 3 1) (.cons (.mp 2) .nil)))))), (1, false, (.rows 34 (.pair (.int .i64) (.pair (.int .i64) (.sl .byte))))), (2, false, (.map (.int .i64) (.int .i64)))]⟩], fun t => net_Net_Look__com fu t.1 t.2.1 t.2.2.1 t.2.2.2.1 t.2.2.2.2⟩
theorem net_Net_Look__com_eq (fu : Nat) : ∀ t, evF Go.Proofs.Try.prog [net_Net_there__com_ft fu, slices_Clone__byte_byte_ft fu] fu Go.Proofs.Try.f17 net_Net_Look__com_fa t = (net_Net_Look__com_ft fu).spec t := fun t => by kernel_rfl
theorem net_Net_Look__com_told (fu : Nat) : Told Go.Proofs.Try.prog (net_Net_Look__com_ft fu) := told_of (allT_cons (net_Net_there__com_told fu) (allT_cons (slices_Clone__byte_byte_told fu) allT_nil)) mixed Go.Proofs.Try.func17 (by kernel_rfl) (by kernel_rfl) (net_Net_Look__com_eq fu)

def law07_is__com (fu : Nat) (i : Int) (from_ : Int) (to_ : Int) (b : List UInt8) (h : Int) (h1 : Int) (h2 : List ((Int × (Int × List (UInt8))))) (h3 : (List (((Int × Int) × Nat)) × Nat)) : Option ((Bool × (Int × (Int × (List ((Int × (Int × List (UInt8)))) × (List (((Int × Int) × Nat)) × Nat)))))) :=
  (net_Net_Look__com fu i h h1 h2 h3).bind fun r =>
  bif r.2.2.2.1 then
    need (Nat.ble b.length room) <|
    (law07_like fu (r.1, (r.2.1, r.2.2.1)) (from_, (to_, b))).bind fun r1 =>
    some (r1, (r.2.2.2.2.1, (r.2.2.2.2.2.1, (r.2.2.2.2.2.2.1, r.2.2.2.2.2.2.2))))
  else
    some (false, (r.2.2.2.2.1, (r.2.2.2.2.2.1, (r.2.2.2.2.2.2.1, r.2.2.2.2.2.2.2))))
def law07_is__com_fa : FnA := ⟨.two (.leaf) (.two (.reg [(2, { sh := [0, 1, 2] }), (6, { ids := [100] })]) (.two (.reg [(6, { ids := [101] }), (8, { md := [0, 2], fn := 1 })]) (.leaf))), ⟨(.cons (.own 0 0 0 0) (.cons (.p (.int .i64)) (.cons (.p (.int .i64)) (.cons (.p (.int .i64)) (.cons (.p .str) .nil))))), [(0, false, (.vars (.cons (.p (.int .i64)) (.cons (.p (.int .i64)) (.cons (.slf 3 1) (.cons (.mp 2) .nil)))))), (1, false, (.rows 34 (.pair (.int .i64) (.pair (.int .i64) (.sl .byte))))), (2, false, (.map (.int .i64) (.int .i64)))]⟩, [⟨(.cons (.p .bool) .nil), [(0, false, (.vars (.cons (.p (.int .i64)) (.cons (.p (.int .i64)) (.cons (.slf 3 1) (.cons (.mp 2) .nil)))))), (1, false, (.rows 34 (.pair (.int .i64) (.pair (.int .i64) (.sl .byte))))), (2, false, (.map (.int .i64) (.int .i64)))]⟩], [0]⟩
def law07_is__com_ft (fu : Nat) : FnT := ⟨46, ⟨(.cons (.own 0 0 0 0) (.cons (.p (.int .i64)) (.cons (.p (.int .i64)) (.cons (.p (.int .i64)) (.cons (.p .str) .nil))))), [(0, false, (.vars (.cons (.p (.int .i64)) (.cons (.p (.int .i64)) (.cons (.slf 3 1) (.cons (.mp 2) .nil)))))), (1, false, (.rows 34 (.pair (.int .i64) (.pair (.int .i64) (.sl .byte))))), (2, false, (.map (.int .i64) (.int .i64)))]⟩, [⟨(.cons (.p .bool) .nil), [(0, false, (.vars (.cons (.p (.int .i64)) (.cons (.p (.int .i64)) (.cons (.slf 3 1) (.cons (.mp 2) .nil)))))), (1, false, (.rows 34 (.pair (.int .i64) (.pair (.int .i64) (.sl .byte))))), (2, false, (.map (.int .i64) (.int .i64)))]⟩], fun t => law07_is__com fu t.1 t.2.1 t.2.2.1 t.2.2.2.1 t.2.2.2.2.1 t.2.2.2.2.2.1 t.2.2.2.2.2.2.1 t.2.2.2.2.2.2.2⟩
theorem law07_is__com_eq (fu : Nat) : ∀ t, evF Go.Proofs.Try.prog [net_Net_Look__com_ft fu, law07_like_ft fu] fu Go.Proofs.Try.f46 law07_is__com_fa t = (law07_is__com_ft fu).spec t := fun t => by kernel_rfl
theorem law07_is__com_told (fu : Nat) : Told Go.Proofs.Try.prog (law07_is__com_ft fu) := told_of (allT_cons (net_Net_Look__com_told fu) (allT_cons (law07_like_told fu) allT_nil)) mixed Go.Proofs.Try.func46 (by kernel_rfl) (by kernel_rfl) (law07_is__com_eq fu)

def net_Net_Waiting__com (fu : Nat) (to_ : Int) (h : Int) (h1 : Int) (h2 : List ((Int × (Int × List (UInt8))))) (h3 : (List (((Int × Int) × Nat)) × Nat)) : Option ((Int × (Int × (Int × (List ((Int × (Int × List (UInt8)))) × (List (((Int × Int) × Nat)) × Nat)))))) :=
  (net_Net_made__com fu h h1 h2 h3).bind fun r =>
  bif (!r.1) then
    some (0, (r.2.1, (r.2.2.1, (r.2.2.2.1, r.2.2.2.2))))
  else
    some ((Option.getD (mget (k := (.int .i64)) (v := (.int .i64)) r.2.2.2.2 to_) 0), (r.2.1, (r.2.2.1, (r.2.2.2.1, r.2.2.2.2))))
def net_Net_Waiting__com_fa : FnA := ⟨.two (.leaf) (.two (.two (.reg [(1, { sh := [0, 1, 2] })]) (.two (.leaf) (.leaf))) (.leaf)), ⟨(.cons (.own 0 0 0 0) (.cons (.p (.int .i64)) .nil)), [(0, false, (.vars (.cons (.p (.int .i64)) (.cons (.p (.int .i64)) (.cons (.slf 3 1) (.cons (.mp 2) .nil)))))), (1, false, (.rows 34 (.pair (.int .i64) (.pair (.int .i64) (.sl .byte))))), (2, false, (.map (.int .i64) (.int .i64)))]⟩, [⟨(.cons (.p (.int .i64)) .nil), [(0, false, (.vars (.cons (.p (.int .i64)) (.cons (.p (.int .i64)) (.cons (.slf 3 1) (.cons (.mp 2) .nil)))))), (1, false, (.rows 34 (.pair (.int .i64) (.pair (.int .i64) (.sl .byte))))), (2, false, (.map (.int .i64) (.int .i64)))]⟩], [0]⟩
def net_Net_Waiting__com_ft (fu : Nat) : FnT := ⟨18, ⟨(.cons (.own 0 0 0 0) (.cons (.p (.int .i64)) .nil)), [(0, false, (.vars (.cons (.p (.int .i64)) (.cons (.p (.int .i64)) (.cons (.slf 3 1) (.cons (.mp 2) .nil)))))), (1, false, (.rows 34 (.pair (.int .i64) (.pair (.int .i64) (.sl .byte))))), (2, false, (.map (.int .i64) (.int .i64)))]⟩, [⟨(.cons (.p (.int .i64)) .nil), [(0, false, (.vars (.cons (.p (.int .i64)) (.cons (.p (.int .i64)) (.cons (.slf 3 1) (.cons (.mp 2) .nil)))))), (1, false, (.rows 34 (.pair (.int .i64) (.pair (.int .i64) (.sl .byte))))), (2, false, (.map (.int .i64) (.int .i64)))]⟩], fun t => net_Net_Waiting__com fu t.1 t.2.1 t.2.2.1 t.2.2.2.1 t.2.2.2.2⟩
theorem net_Net_Waiting__com_eq (fu : Nat) : ∀ t, evF Go.Proofs.Try.prog [net_Net_made__com_ft fu] fu Go.Proofs.Try.f18 net_Net_Waiting__com_fa t = (net_Net_Waiting__com_ft fu).spec t := fun t => by kernel_rfl
theorem net_Net_Waiting__com_told (fu : Nat) : Told Go.Proofs.Try.prog (net_Net_Waiting__com_ft fu) := told_of (allT_cons (net_Net_made__com_told fu) allT_nil) mixed Go.Proofs.Try.func18 (by kernel_rfl) (by kernel_rfl) (net_Net_Waiting__com_eq fu)

def slices_Grow__api_Datum_api_Datum_n0 (fu : Nat) (n : Int) : Option (List ((Int × (Int × List (UInt8))))) :=
  bif (decide (n < 0)) then
    none
  else
    bif (decide ((IntKind.wrap .i64 (n - 0)) > 0)) then
      (upto? (IntKind.wrap .i64 (n - 0)) room).bind fun q =>
      need ((Nat.ble (q * 40) room) && (Nat.ble q room)) <|
      (upto? 0 (List.replicate (α := (Int × (Int × List (UInt8)))) q (0, (0, []))).length).bind fun q1 =>
      need (Nat.ble q1 (List.replicate (α := (Int × (Int × List (UInt8)))) q (0, (0, []))).length) <|
      some (List.take q1 (List.replicate (α := (Int × (Int × List (UInt8)))) q (0, (0, []))))
    else
      some []
def slices_Grow__api_Datum_api_Datum_n0_fa : FnA := ⟨.two (.leaf) (.two (.two (.leaf) (.leaf)) (.two (.two (.leaf) (.two (.leaf) (.two (.reg [(5, { ids := [100] })]) (.leaf)))) (.leaf))), ⟨(.cons (.nilp (.slice none 0 0)) (.cons (.p (.int .i64)) .nil)), []⟩, [⟨(.cons (.slf 3 0) .nil), [(0, false, (.rows 34 (.pair (.int .i64) (.pair (.int .i64) (.sl .byte)))))]⟩], [44]⟩
def slices_Grow__api_Datum_api_Datum_n0_ft (fu : Nat) : FnT := ⟨51, ⟨(.cons (.nilp (.slice none 0 0)) (.cons (.p (.int .i64)) .nil)), []⟩, [⟨(.cons (.slf 3 0) .nil), [(0, false, (.rows 34 (.pair (.int .i64) (.pair (.int .i64) (.sl .byte)))))]⟩], fun t => slices_Grow__api_Datum_api_Datum_n0 fu t⟩
theorem slices_Grow__api_Datum_api_Datum_n0_eq (fu : Nat) : ∀ t, evF Go.Proofs.Try.prog [] fu Go.Proofs.Try.f51 slices_Grow__api_Datum_api_Datum_n0_fa t = (slices_Grow__api_Datum_api_Datum_n0_ft fu).spec t := fun t => by kernel_rfl
theorem slices_Grow__api_Datum_api_Datum_n0_told (fu : Nat) : Told Go.Proofs.Try.prog (slices_Grow__api_Datum_api_Datum_n0_ft fu) := told_of allT_nil mixed Go.Proofs.Try.func51 (by kernel_rfl) (by kernel_rfl) (slices_Grow__api_Datum_api_Datum_n0_eq fu)

def slices_Concat__api_Datum_api_Datum_l0 (fu : Nat) (slices : List (List ((Int × (Int × List (UInt8)))))) (size : Int) (x : Int) : Option ((Int × Int) ⊕ (Int)) :=
  bif (decide (x < ((slices.length : Nat) : Int))) then
    (idx? x slices.length).bind fun q =>
    (slices)[q]?.bind fun r =>
    bif (decide ((IntKind.wrap .i64 (size + ((r.length : Nat) : Int))) < 0)) then
      none
    else
      some (.inl ((IntKind.wrap .i64 (size + ((r.length : Nat) : Int))), (IntKind.wrap .i64 (x + 1))))
  else
    some (.inr size)
def slices_Concat__api_Datum_api_Datum_l0_it (fu : Nat) (slices : List (List ((Int × (Int × List (UInt8)))))) (tt : (Int × Int)) : Option (Int) :=
  iter fu (fun tt => slices_Concat__api_Datum_api_Datum_l0 fu slices tt.1 tt.2) tt
def slices_Concat__api_Datum_api_Datum_l1 (fu : Nat) (slices : List (List ((Int × (Int × List (UInt8)))))) (x1 : Int) (h : List ((Int × (Int × List (UInt8))))) : Option ((Int × List ((Int × (Int × List (UInt8))))) ⊕ (List ((Int × (Int × List (UInt8)))))) :=
  bif (decide (x1 < ((slices.length : Nat) : Int))) then
    (idx? x1 slices.length).bind fun q1 =>
    (slices)[q1]?.bind fun r2 =>
    need ((Nat.ble ((h.length + r2.length) * 40) room) && (Nat.ble (h.length + r2.length) room)) <|
    some (.inl ((IntKind.wrap .i64 (x1 + 1)), (h ++ r2)))
  else
    some (.inr h)
def slices_Concat__api_Datum_api_Datum_l1_it (fu : Nat) (slices : List (List ((Int × (Int × List (UInt8)))))) (tt : (Int × List ((Int × (Int × List (UInt8)))))) : Option (List ((Int × (Int × List (UInt8))))) :=
  iter fu (fun tt => slices_Concat__api_Datum_api_Datum_l1 fu slices tt.1 tt.2) tt
def slices_Concat__api_Datum_api_Datum (fu : Nat) (slices : List (List ((Int × (Int × List (UInt8)))))) : Option (List ((Int × (Int × List (UInt8))))) :=
  (slices_Concat__api_Datum_api_Datum_l0_it fu slices (0, 0)).bind fun o =>
  (slices_Grow__api_Datum_api_Datum_n0 fu o).bind fun r1 =>
  (slices_Concat__api_Datum_api_Datum_l1_it fu slices (0, r1)).bind fun o1 =>
  some o1
def slices_Concat__api_Datum_api_Datum_fa : FnA := ⟨.two (.leaf) (.two (.leaf) (.two (.two (.leaf) (.one (.loop ⟨[3, 11], ⟨(.cons (.p (.int .i64)) (.cons (.p (.int .i64)) .nil)), []⟩⟩ false [(0, ⟨[3], ⟨(.cons (.p (.int .i64)) .nil), []⟩⟩)] (.two (.leaf) (.two (.leaf) (.two (.one (.two (.leaf) (.two (.leaf) (.two (.leaf) (.leaf))))) (.leaf))))))) (.two (.reg [(1, { ids := [100] })]) (.two (.two (.leaf) (.one (.loop ⟨[6, 27], ⟨(.cons (.slf 3 100) (.cons (.p (.int .i64)) .nil)), [(100, false, (.rows 34 (.pair (.int .i64) (.pair (.int .i64) (.sl .byte)))))]⟩⟩ false [(2, ⟨[6], ⟨(.cons (.slf 3 100) .nil), [(100, false, (.rows 34 (.pair (.int .i64) (.pair (.int .i64) (.sl .byte)))))]⟩⟩)] (.two (.leaf) (.two (.leaf) (.two (.one (.two (.leaf) (.reg [(2, { ids := [101] })]))) (.leaf))))))) (.leaf))))), ⟨(.cons (.p (.sl (.sl (.pair (.int .i64) (.pair (.int .i64) (.sl .byte)))))) .nil), []⟩, [⟨(.cons (.slf 3 0) .nil), [(0, false, (.rows 34 (.pair (.int .i64) (.pair (.int .i64) (.sl .byte)))))]⟩], [0]⟩
def slices_Concat__api_Datum_api_Datum_ft (fu : Nat) : FnT := ⟨42, ⟨(.cons (.p (.sl (.sl (.pair (.int .i64) (.pair (.int .i64) (.sl .byte)))))) .nil), []⟩, [⟨(.cons (.slf 3 0) .nil), [(0, false, (.rows 34 (.pair (.int .i64) (.pair (.int .i64) (.sl .byte)))))]⟩], fun t => slices_Concat__api_Datum_api_Datum fu t⟩
theorem slices_Concat__api_Datum_api_Datum_eq (fu : Nat) : ∀ t, evF Go.Proofs.Try.prog [slices_Grow__api_Datum_api_Datum_n0_ft fu] fu Go.Proofs.Try.f42 slices_Concat__api_Datum_api_Datum_fa t = (slices_Concat__api_Datum_api_Datum_ft fu).spec t := fun t => by kernel_rfl
theorem slices_Concat__api_Datum_api_Datum_told (fu : Nat) : Told Go.Proofs.Try.prog (slices_Concat__api_Datum_api_Datum_ft fu) := told_of (allT_cons (slices_Grow__api_Datum_api_Datum_n0_told fu) allT_nil) mixed Go.Proofs.Try.func42 (by kernel_rfl) (by kernel_rfl) (slices_Concat__api_Datum_api_Datum_eq fu)

def net_Net_Drop__com (fu : Nat) (i : Int) (h : Int) (h1 : Int) (h2 : List ((Int × (Int × List (UInt8))))) (h3 : (List (((Int × Int) × Nat)) × Nat)) : Option ((Bool × (Int × (Int × (List ((Int × (Int × List (UInt8)))) × (List (((Int × Int) × Nat)) × Nat))))) ⊕ (Bool × (Int × (Int × ((List (((Int × Int) × Nat)) × Nat) × (List ((Int × (Int × List (UInt8)))) × List ((Int × (Int × List (UInt8)))))))))) :=
  (net_Net_there__com fu i h h1 h2 h3).bind fun r =>
  bif (!r.1) then
    some (.inl (false, (r.2.1, (r.2.2.1, (r.2.2.2.1, r.2.2.2.2)))))
  else
    (idx? i r.2.2.2.1.length).bind fun q =>
    (r.2.2.2.1)[q]?.bind fun r1 =>
    (upto? i r.2.2.2.1.length).bind fun q1 =>
    (upto? (IntKind.wrap .i64 (i + 1)) r.2.2.2.1.length).bind fun q2 =>
    need (Nat.ble (0 + q1) r.2.2.2.1.length) <|
    need (Nat.ble (q2 + (r.2.2.2.1.length - q2)) r.2.2.2.1.length) <|
    (slices_Concat__api_Datum_api_Datum fu [(List.take q1 (List.drop 0 r.2.2.2.1)), (List.take (r.2.2.2.1.length - q2) (List.drop q2 r.2.2.2.1))]).bind fun r2 =>
    some (.inr (true, (r.2.1, (r.2.2.1, ((mput (k := (.int .i64)) (v := (.int .i64)) r.2.2.2.2 r1.2.1 (IntKind.wrap .i64 ((Option.getD (mget (k := (.int .i64)) (v := (.int .i64)) r.2.2.2.2 r1.2.1) 0) - 1))), (r.2.2.2.1, r2))))))
def net_Net_Drop__com_fa : FnA := ⟨.two (.leaf) (.two (.two (.reg [(2, { sh := [0, 1, 2] })]) (.two (.leaf) (.leaf))) (.two (.leaf) (.two (.reg [(14, { ids := [100] }), (15, { ids := [101], md := [1], fn := 1 })]) (.leaf)))), ⟨(.cons (.own 0 0 0 0) (.cons (.p (.int .i64)) .nil)), [(0, false, (.vars (.cons (.p (.int .i64)) (.cons (.p (.int .i64)) (.cons (.slf 3 1) (.cons (.mp 2) .nil)))))), (1, false, (.rows 34 (.pair (.int .i64) (.pair (.int .i64) (.sl .byte))))), (2, false, (.map (.int .i64) (.int .i64)))]⟩, [⟨(.cons (.p .bool) .nil), [(0, false, (.vars (.cons (.p (.int .i64)) (.cons (.p (.int .i64)) (.cons (.slf 3 1) (.cons (.mp 2) .nil)))))), (1, false, (.rows 34 (.pair (.int .i64) (.pair (.int .i64) (.sl .byte))))), (2, false, (.map (.int .i64) (.int .i64)))]⟩, ⟨(.cons (.p .bool) .nil), [(0, false, (.vars (.cons (.p (.int .i64)) (.cons (.p (.int .i64)) (.cons (.slf 3 3) (.cons (.mp 2) .nil)))))), (2, false, (.map (.int .i64) (.int .i64))), (1, true, (.rows 34 (.pair (.int .i64) (.pair (.int .i64) (.sl .byte))))), (3, false, (.rows 34 (.pair (.int .i64) (.pair (.int .i64) (.sl .byte)))))]⟩], [0]⟩
def net_Net_Drop__com_ft (fu : Nat) : FnT := ⟨13, ⟨(.cons (.own 0 0 0 0) (.cons (.p (.int .i64)) .nil)), [(0, false, (.vars (.cons (.p (.int .i64)) (.cons (.p (.int .i64)) (.cons (.slf 3 1) (.cons (.mp 2) .nil)))))), (1, false, (.rows 34 (.pair (.int .i64) (.pair (.int .i64) (.sl .byte))))), (2, false, (.map (.int .i64) (.int .i64)))]⟩, [⟨(.cons (.p .bool) .nil), [(0, false, (.vars (.cons (.p (.int .i64)) (.cons (.p (.int .i64)) (.cons (.slf 3 1) (.cons (.mp 2) .nil)))))), (1, false, (.rows 34 (.pair (.int .i64) (.pair (.int .i64) (.sl .byte))))), (2, false, (.map (.int .i64) (.int .i64)))]⟩, ⟨(.cons (.p .bool) .nil), [(0, false, (.vars (.cons (.p (.int .i64)) (.cons (.p (.int .i64)) (.cons (.slf 3 3) (.cons (.mp 2) .nil)))))), (2, false, (.map (.int .i64) (.int .i64))), (1, true, (.rows 34 (.pair (.int .i64) (.pair (.int .i64) (.sl .byte))))), (3, false, (.rows 34 (.pair (.int .i64) (.pair (.int .i64) (.sl .byte)))))]⟩], fun t => net_Net_Drop__com fu t.1 t.2.1 t.2.2.1 t.2.2.2.1 t.2.2.2.2⟩
theorem net_Net_Drop__com_eq (fu : Nat) : ∀ t, evF Go.Proofs.Try.prog [net_Net_there__com_ft fu, slices_Concat__api_Datum_api_Datum_ft fu] fu Go.Proofs.Try.f13 net_Net_Drop__com_fa t = (net_Net_Drop__com_ft fu).spec t := fun t => by kernel_rfl
theorem net_Net_Drop__com_told (fu : Nat) : Told Go.Proofs.Try.prog (net_Net_Drop__com_ft fu) := told_of (allT_cons (net_Net_there__com_told fu) (allT_cons (slices_Concat__api_Datum_api_Datum_told fu) allT_nil)) mixed Go.Proofs.Try.func13 (by kernel_rfl) (by kernel_rfl) (net_Net_Drop__com_eq fu)

def net_Net_Take__com (fu : Nat) (i : Int) (h : Int) (h1 : Int) (h2 : List ((Int × (Int × List (UInt8))))) (h3 : (List (((Int × Int) × Nat)) × Nat)) : Option ((Int × (Int × (List (UInt8) × (Bool × (Int × (Int × (List ((Int × (Int × List (UInt8)))) × (List (((Int × Int) × Nat)) × Nat)))))))) ⊕ (Int × (Int × (List (UInt8) × (Bool × (Int × (Int × ((List (((Int × Int) × Nat)) × Nat) × (List ((Int × (Int × List (UInt8)))) × List ((Int × (Int × List (UInt8))))))))))))) :=
  (net_Net_Look__com fu i h h1 h2 h3).bind fun r =>
  bif r.2.2.2.1 then
    (net_Net_Drop__com fu i r.2.2.2.2.1 r.2.2.2.2.2.1 r.2.2.2.2.2.2.1 r.2.2.2.2.2.2.2).bind fun r1 =>
    match r1 with
    | .inl r2 =>
      some (.inl (r.1, (r.2.1, (r.2.2.1, (r2.1, (r2.2.1, (r2.2.2.1, (r2.2.2.2.1, r2.2.2.2.2))))))))
    | .inr r3 =>
      some (.inr (r.1, (r.2.1, (r.2.2.1, (r3.1, (r3.2.1, (r3.2.2.1, (r3.2.2.2.1, (r3.2.2.2.2.1, r3.2.2.2.2.2)))))))))
  else
    some (.inl (r.1, (r.2.1, (r.2.2.1, (false, (r.2.2.2.2.1, (r.2.2.2.2.2.1, (r.2.2.2.2.2.2.1, r.2.2.2.2.2.2.2))))))))
def net_Net_Take__com_fa : FnA := ⟨.two (.reg [(0, { ids := [100] })]) (.two (.reg [(2, { sh := [0, 1, 2] }), (6, { ids := [101] })]) (.two (.reg [(5, { ids := [102], sh := [0, 1, 2], fn := 1 })]) (.leaf))), ⟨(.cons (.own 0 0 0 0) (.cons (.p (.int .i64)) .nil)), [(0, false, (.vars (.cons (.p (.int .i64)) (.cons (.p (.int .i64)) (.cons (.slf 3 1) (.cons (.mp 2) .nil)))))), (1, false, (.rows 34 (.pair (.int .i64) (.pair (.int .i64) (.sl .byte))))), (2, false, (.map (.int .i64) (.int .i64)))]⟩, [⟨(.cons (.agg (.cons (.p (.int .i64)) (.cons (.p (.int .i64)) (.cons (.p (.sl .byte)) .nil)))) (.cons (.p .bool) .nil)), [(0, false, (.vars (.cons (.p (.int .i64)) (.cons (.p (.int .i64)) (.cons (.slf 3 1) (.cons (.mp 2) .nil)))))), (1, false, (.rows 34 (.pair (.int .i64) (.pair (.int .i64) (.sl .byte))))), (2, false, (.map (.int .i64) (.int .i64)))]⟩, ⟨(.cons (.agg (.cons (.p (.int .i64)) (.cons (.p (.int .i64)) (.cons (.p (.sl .byte)) .nil)))) (.cons (.p .bool) .nil)), [(0, false, (.vars (.cons (.p (.int .i64)) (.cons (.p (.int .i64)) (.cons (.slf 3 3) (.cons (.mp 2) .nil)))))), (2, false, (.map (.int .i64) (.int .i64))), (1, true, (.rows 34 (.pair (.int .i64) (.pair (.int .i64) (.sl .byte))))), (3, false, (.rows 34 (.pair (.int .i64) (.pair (.int .i64) (.sl .byte)))))]⟩], [0, 0]⟩
def net_Net_Take__com_ft (fu : Nat) : FnT := ⟨16, ⟨(.cons (.own 0 0 0 0) (.cons (.p (.int .i64)) .nil)), [(0, false, (.vars (.cons (.p (.int .i64)) (.cons (.p (.int .i64)) (.cons (.slf 3 1) (.cons (.mp 2) .nil)))))), (1, false, (.rows 34 (.pair (.int .i64) (.pair (.int .i64) (.sl .byte))))), (2, false, (.map (.int .i64) (.int .i64)))]⟩, [⟨(.cons (.agg (.cons (.p (.int .i64)) (.cons (.p (.int .i64)) (.cons (.p (.sl .byte)) .nil)))) (.cons (.p .bool) .nil)), [(0, false, (.vars (.cons (.p (.int .i64)) (.cons (.p (.int .i64)) (.cons (.slf 3 1) (.cons (.mp 2) .nil)))))), (1, false, (.rows 34 (.pair (.int .i64) (.pair (.int .i64) (.sl .byte))))), (2, false, (.map (.int .i64) (.int .i64)))]⟩, ⟨(.cons (.agg (.cons (.p (.int .i64)) (.cons (.p (.int .i64)) (.cons (.p (.sl .byte)) .nil)))) (.cons (.p .bool) .nil)), [(0, false, (.vars (.cons (.p (.int .i64)) (.cons (.p (.int .i64)) (.cons (.slf 3 3) (.cons (.mp 2) .nil)))))), (2, false, (.map (.int .i64) (.int .i64))), (1, true, (.rows 34 (.pair (.int .i64) (.pair (.int .i64) (.sl .byte))))), (3, false, (.rows 34 (.pair (.int .i64) (.pair (.int .i64) (.sl .byte)))))]⟩], fun t => net_Net_Take__com fu t.1 t.2.1 t.2.2.1 t.2.2.2.1 t.2.2.2.2⟩
theorem net_Net_Take__com_eq (fu : Nat) : ∀ t, evF Go.Proofs.Try.prog [net_Net_Look__com_ft fu, net_Net_Drop__com_ft fu] fu Go.Proofs.Try.f16 net_Net_Take__com_fa t = (net_Net_Take__com_ft fu).spec t := fun t => by kernel_rfl
theorem net_Net_Take__com_told (fu : Nat) : Told Go.Proofs.Try.prog (net_Net_Take__com_ft fu) := told_of (allT_cons (net_Net_Look__com_told fu) (allT_cons (net_Net_Drop__com_told fu) allT_nil)) mixed Go.Proofs.Try.func16 (by kernel_rfl) (by kernel_rfl) (net_Net_Take__com_eq fu)

def net_Net_Forget_1 (fu : Nat) (d : (Int × (Int × List (UInt8)))) (h : Int) : Option ((Bool × Int)) :=
  some ((d.2.1 == h), h)
def net_Net_Forget_1_fa : FnA := ⟨.two (.reg [(0, { ids := [100] })]) (.leaf), ⟨(.cons (.p (.pair (.int .i64) (.pair (.int .i64) (.sl .byte)))) (.cons (.own 0 0 0 0) .nil)), [(0, false, (.vars (.cons (.p (.int .i64)) .nil)))]⟩, [⟨(.cons (.p .bool) .nil), [(0, false, (.vars (.cons (.p (.int .i64)) .nil)))]⟩], [0]⟩
def net_Net_Forget_1_ft (fu : Nat) : FnT := ⟨45, ⟨(.cons (.p (.pair (.int .i64) (.pair (.int .i64) (.sl .byte)))) (.cons (.own 0 0 0 0) .nil)), [(0, false, (.vars (.cons (.p (.int .i64)) .nil)))]⟩, [⟨(.cons (.p .bool) .nil), [(0, false, (.vars (.cons (.p (.int .i64)) .nil)))]⟩], fun t => net_Net_Forget_1 fu t.1 t.2⟩
theorem net_Net_Forget_1_eq (fu : Nat) : ∀ t, evF Go.Proofs.Try.prog [] fu Go.Proofs.Try.f45 net_Net_Forget_1_fa t = (net_Net_Forget_1_ft fu).spec t := fun t => by kernel_rfl
theorem net_Net_Forget_1_told (fu : Nat) : Told Go.Proofs.Try.prog (net_Net_Forget_1_ft fu) := told_of allT_nil mixed Go.Proofs.Try.func45 (by kernel_rfl) (by kernel_rfl) (net_Net_Forget_1_eq fu)

def slices_IndexFunc__api_Datum_api_Datum_o0f11_l0 (fu : Nat) (h : List ((Int × (Int × List (UInt8))))) (x : Int) (h2 : List ((Int × (Int × List (UInt8))))) (h3 : Int) : Option ((Int × (List ((Int × (Int × List (UInt8)))) × Int)) ⊕ ((List ((Int × (Int × List (UInt8)))) × Int) ⊕ (Int × (List ((Int × (Int × List (UInt8)))) × Int)))) :=
  bif (decide (x < ((h.length : Nat) : Int))) then
    (idx? x h2.length).bind fun q =>
    (h2)[q]?.bind fun r =>
    (net_Net_Forget_1 fu r h3).bind fun r1 =>
    bif r1.1 then
      some (.inr (.inr (x, (h2, r1.2))))
    else
      some (.inl ((IntKind.wrap .i64 (x + 1)), (h2, r1.2)))
  else
    some (.inr (.inl (h2, h3)))
def slices_IndexFunc__api_Datum_api_Datum_o0f11_l0_it (fu : Nat) (h : List ((Int × (Int × List (UInt8))))) (tt : (Int × (List ((Int × (Int × List (UInt8)))) × Int))) : Option ((List ((Int × (Int × List (UInt8)))) × Int) ⊕ (Int × (List ((Int × (Int × List (UInt8)))) × Int))) :=
  iter fu (fun tt => slices_IndexFunc__api_Datum_api_Datum_o0f11_l0 fu h tt.1 tt.2.1 tt.2.2) tt
def slices_IndexFunc__api_Datum_api_Datum_o0f11 (fu : Nat) (h : List ((Int × (Int × List (UInt8))))) (h1 : Int) : Option ((Int × (List ((Int × (Int × List (UInt8)))) × Int))) :=
  (slices_IndexFunc__api_Datum_api_Datum_o0f11_l0_it fu h (0, (h, h1))).bind fun o =>
  match o with
  | .inl s =>
    some ((-1), (s.1, s.2))
  | .inr o1 =>
    some o1
def slices_IndexFunc__api_Datum_api_Datum_o0f11_fa : FnA := ⟨.two (.leaf) (.two (.two (.leaf) (.one (.loop ⟨[0, 1, 8], ⟨(.cons (.slf 3 0) (.cons (.fn 45 .nil (.cons (.own 0 1 0 0) .nil)) (.cons (.p (.int .i64)) .nil))), [(0, false, (.rows 34 (.pair (.int .i64) (.pair (.int .i64) (.sl .byte))))), (1, false, (.vars (.cons (.p (.int .i64)) .nil)))]⟩⟩ true [(0, ⟨[0, 1], ⟨(.cons (.slf 3 0) (.cons (.fn 45 .nil (.cons (.own 0 1 0 0) .nil)) .nil)), [(0, false, (.rows 34 (.pair (.int .i64) (.pair (.int .i64) (.sl .byte))))), (1, false, (.vars (.cons (.p (.int .i64)) .nil)))]⟩⟩)] (.two (.leaf) (.two (.leaf) (.two (.one (.two (.leaf) (.two (.reg [(5, { sh := [1] })]) (.two (.leaf) (.leaf))))) (.leaf))))))) (.leaf)), ⟨(.cons (.slf 3 0) (.cons (.fn 45 .nil (.cons (.own 0 1 0 0) .nil)) .nil)), [(0, false, (.rows 34 (.pair (.int .i64) (.pair (.int .i64) (.sl .byte))))), (1, false, (.vars (.cons (.p (.int .i64)) .nil)))]⟩, [⟨(.cons (.p (.int .i64)) .nil), [(0, false, (.rows 34 (.pair (.int .i64) (.pair (.int .i64) (.sl .byte))))), (1, false, (.vars (.cons (.p (.int .i64)) .nil)))]⟩], [0]⟩
def slices_IndexFunc__api_Datum_api_Datum_o0f11_ft (fu : Nat) : FnT := ⟨52, ⟨(.cons (.slf 3 0) (.cons (.fn 45 .nil (.cons (.own 0 1 0 0) .nil)) .nil)), [(0, false, (.rows 34 (.pair (.int .i64) (.pair (.int .i64) (.sl .byte))))), (1, false, (.vars (.cons (.p (.int .i64)) .nil)))]⟩, [⟨(.cons (.p (.int .i64)) .nil), [(0, false, (.rows 34 (.pair (.int .i64) (.pair (.int .i64) (.sl .byte))))), (1, false, (.vars (.cons (.p (.int .i64)) .nil)))]⟩], fun t => slices_IndexFunc__api_Datum_api_Datum_o0f11 fu t.1 t.2⟩
theorem slices_IndexFunc__api_Datum_api_Datum_o0f11_eq (fu : Nat) : ∀ t, evF Go.Proofs.Try.prog [net_Net_Forget_1_ft fu] fu Go.Proofs.Try.f52 slices_IndexFunc__api_Datum_api_Datum_o0f11_fa t = (slices_IndexFunc__api_Datum_api_Datum_o0f11_ft fu).spec t := fun t => by kernel_rfl
theorem slices_IndexFunc__api_Datum_api_Datum_o0f11_told (fu : Nat) : Told Go.Proofs.Try.prog (slices_IndexFunc__api_Datum_api_Datum_o0f11_ft fu) := told_of (allT_cons (net_Net_Forget_1_told fu) allT_nil) mixed Go.Proofs.Try.func52 (by kernel_rfl) (by kernel_rfl) (slices_IndexFunc__api_Datum_api_Datum_o0f11_eq fu)

def slices_DeleteFunc__api_Datum_api_Datum_o0f11_l0 (fu : Nat) (i : Int) (j : Int) (h2 : List ((Int × (Int × List (UInt8))))) (h3 : Int) : Option ((Int × (Int × (List ((Int × (Int × List (UInt8)))) × Int))) ⊕ ((Int × (List ((Int × (Int × List (UInt8)))) × Int)))) :=
  bif (decide (j < ((h2.length : Nat) : Int))) then
    (idx? j h2.length).bind fun q =>
    (h2)[q]?.bind fun r1 =>
    (net_Net_Forget_1 fu (r1.1, (r1.2.1, r1.2.2)) h3).bind fun r2 =>
    Option.bind (α := ((Int × (List ((Int × (Int × List (UInt8)))) × Int)))) (
      bif (!r2.1) then
        (idx? i h2.length).bind fun q1 =>
        (h2)[q1]?.bind fun r3 =>
        some ((IntKind.wrap .i64 (i + 1)), ((List.set h2 q1 (r1.1, (r1.2.1, r1.2.2))), r2.2))
      else
        some (i, (h2, r2.2))) fun o =>
    some (.inl (o.1, ((IntKind.wrap .i64 (j + 1)), (o.2.1, o.2.2))))
  else
    some (.inr (i, (h2, h3)))
def slices_DeleteFunc__api_Datum_api_Datum_o0f11_l0_it (fu : Nat)  (tt : (Int × (Int × (List ((Int × (Int × List (UInt8)))) × Int)))) : Option ((Int × (List ((Int × (Int × List (UInt8)))) × Int))) :=
  iter fu (fun tt => slices_DeleteFunc__api_Datum_api_Datum_o0f11_l0 fu tt.1 tt.2.1 tt.2.2.1 tt.2.2.2) tt
def slices_DeleteFunc__api_Datum_api_Datum_o0f11 (fu : Nat) (h : List ((Int × (Int × List (UInt8))))) (h1 : Int) : Option ((List ((Int × (Int × List (UInt8)))) × Int) ⊕ (Int × List ((Int × (Int × List (UInt8)))))) :=
  (slices_IndexFunc__api_Datum_api_Datum_o0f11 fu h h1).bind fun r =>
  bif (r.1 == (-1)) then
    some (.inl (r.2.1, r.2.2))
  else
    (slices_DeleteFunc__api_Datum_api_Datum_o0f11_l0_it fu  (r.1, ((IntKind.wrap .i64 (r.1 + 1)), (r.2.1, r.2.2)))).bind fun o1 =>
    (upto? o1.1 o1.2.1.length).bind fun q2 =>
    need (Nat.ble (q2 + (o1.2.1.length - q2)) o1.2.1.length) <|
    (upto? o1.1 (splice o1.2.1 q2 (List.replicate (α := (Int × (Int × List (UInt8)))) (o1.2.1.length - q2) (0, (0, [])))).length).bind fun q3 =>
    need (Nat.ble q3 (splice o1.2.1 q2 (List.replicate (α := (Int × (Int × List (UInt8)))) (o1.2.1.length - q2) (0, (0, [])))).length) <|
    some (.inr (o1.2.2, (List.take q3 (splice o1.2.1 q2 (List.replicate (α := (Int × (Int × List (UInt8)))) (o1.2.1.length - q2) (0, (0, [])))))))
def slices_DeleteFunc__api_Datum_api_Datum_o0f11_fa : FnA := ⟨.two (.leaf) (.two (.reg [(2, { sh := [0, 1] })]) (.two (.two (.leaf) (.two (.leaf) (.leaf))) (.two (.two (.leaf) (.one (.loop ⟨[0, 1, 5, 6], ⟨(.cons (.slf 3 0) (.cons (.fn 45 .nil (.cons (.own 0 1 0 0) .nil)) (.cons (.p (.int .i64)) (.cons (.p (.int .i64)) .nil)))), [(0, false, (.rows 34 (.pair (.int .i64) (.pair (.int .i64) (.sl .byte))))), (1, false, (.vars (.cons (.p (.int .i64)) .nil)))]⟩⟩ false [(0, ⟨[0, 1, 5], ⟨(.cons (.slf 3 0) (.cons (.fn 45 .nil (.cons (.own 0 1 0 0) .nil)) (.cons (.p (.int .i64)) .nil))), [(0, false, (.rows 34 (.pair (.int .i64) (.pair (.int .i64) (.sl .byte))))), (1, false, (.vars (.cons (.p (.int .i64)) .nil)))]⟩⟩)] (.two (.two (.leaf) (.leaf)) (.two (.one (.two (.reg [(4, { ids := [100] })]) (.two (.reg [(2, { sh := [1], fn := 1 })]) (.join ⟨[0, 1, 5], ⟨(.cons (.slf 3 0) (.cons (.fn 45 .nil (.cons (.own 0 1 0 0) .nil)) (.cons (.p (.int .i64)) .nil))), [(0, false, (.rows 34 (.pair (.int .i64) (.pair (.int .i64) (.sl .byte))))), (1, false, (.vars (.cons (.p (.int .i64)) .nil)))]⟩⟩ false [] (.two (.leaf) (.leaf)))))) (.leaf)))))) (.two (.leaf) (.leaf))))), ⟨(.cons (.slf 3 0) (.cons (.fn 45 .nil (.cons (.own 0 1 0 0) .nil)) .nil)), [(0, false, (.rows 34 (.pair (.int .i64) (.pair (.int .i64) (.sl .byte))))), (1, false, (.vars (.cons (.p (.int .i64)) .nil)))]⟩, [⟨(.cons (.slf 3 0) .nil), [(0, false, (.rows 34 (.pair (.int .i64) (.pair (.int .i64) (.sl .byte))))), (1, false, (.vars (.cons (.p (.int .i64)) .nil)))]⟩, ⟨(.cons (.slf 3 2) .nil), [(1, false, (.vars (.cons (.p (.int .i64)) .nil))), (2, false, (.rows 34 (.pair (.int .i64) (.pair (.int .i64) (.sl .byte)))))]⟩], [44]⟩
def slices_DeleteFunc__api_Datum_api_Datum_o0f11_ft (fu : Nat) : FnT := ⟨44, ⟨(.cons (.slf 3 0) (.cons (.fn 45 .nil (.cons (.own 0 1 0 0) .nil)) .nil)), [(0, false, (.rows 34 (.pair (.int .i64) (.pair (.int .i64) (.sl .byte))))), (1, false, (.vars (.cons (.p (.int .i64)) .nil)))]⟩, [⟨(.cons (.slf 3 0) .nil), [(0, false, (.rows 34 (.pair (.int .i64) (.pair (.int .i64) (.sl .byte))))), (1, false, (.vars (.cons (.p (.int .i64)) .nil)))]⟩, ⟨(.cons (.slf 3 2) .nil), [(1, false, (.vars (.cons (.p (.int .i64)) .nil))), (2, false, (.rows 34 (.pair (.int .i64) (.pair (.int .i64) (.sl .byte)))))]⟩], fun t => slices_DeleteFunc__api_Datum_api_Datum_o0f11 fu t.1 t.2⟩
theorem slices_DeleteFunc__api_Datum_api_Datum_o0f11_eq (fu : Nat) : ∀ t, evF Go.Proofs.Try.prog [slices_IndexFunc__api_Datum_api_Datum_o0f11_ft fu, net_Net_Forget_1_ft fu] fu Go.Proofs.Try.f44 slices_DeleteFunc__api_Datum_api_Datum_o0f11_fa t = (slices_DeleteFunc__api_Datum_api_Datum_o0f11_ft fu).spec t := fun t => by kernel_rfl
theorem slices_DeleteFunc__api_Datum_api_Datum_o0f11_told (fu : Nat) : Told Go.Proofs.Try.prog (slices_DeleteFunc__api_Datum_api_Datum_o0f11_ft fu) := told_of (allT_cons (slices_IndexFunc__api_Datum_api_Datum_o0f11_told fu) (allT_cons (net_Net_Forget_1_told fu) allT_nil)) mixed Go.Proofs.Try.func44 (by kernel_rfl) (by kernel_rfl) (slices_DeleteFunc__api_Datum_api_Datum_o0f11_eq fu)

def net_Net_Forget__com (fu : Nat) (to_ : Int) (h : Int) (h1 : Int) (h2 : List ((Int × (Int × List (UInt8))))) (h3 : (List (((Int × Int) × Nat)) × Nat)) : Option ((Int × (Int × (Int × ((List (((Int × Int) × Nat)) × Nat) × List ((Int × (Int × List (UInt8))))))))) :=
  (net_Net_Waiting__com fu to_ h h1 h2 h3).bind fun r =>
  bif (decide (r.1 > 0)) then
    Option.bind (α := ((Int × (Int × (List ((Int × (Int × List (UInt8)))) × ((List (((Int × Int) × Nat)) × Nat) × Int)))))) (
      (slices_DeleteFunc__api_Datum_api_Datum_o0f11 fu r.2.2.2.1 to_).bind fun r1 =>
      match r1 with
      | .inl r2 =>
        some (r.2.1, (r.2.2.1, (r2.1, (r.2.2.2.2, r2.2))))
      | .inr r3 =>
        some (r.2.1, (r.2.2.1, (r3.2, (r.2.2.2.2, r3.1))))) fun o =>
    some (r.1, (o.1, (o.2.1, ((mdel (k := (.int .i64)) (v := (.int .i64)) o.2.2.2.1 o.2.2.2.2), o.2.2.1))))
  else
    some (r.1, (r.2.1, (r.2.2.1, (r.2.2.2.2, r.2.2.2.1))))
def net_Net_Forget__com_fa : FnA := ⟨.two (.reg [(0, { ids := [100] })]) (.two (.reg [(2, { sh := [0, 1, 2] })]) (.two (.two (.leaf) (.pre (.renum 1 101) (.two (.two (.join ⟨[0, 3], ⟨(.cons (.own 0 0 0 0) (.cons (.own 0 100 0 0) .nil)), [(0, false, (.vars (.cons (.p (.int .i64)) (.cons (.p (.int .i64)) (.cons (.slf 3 101) (.cons (.mp 2) .nil)))))), (101, false, (.rows 34 (.pair (.int .i64) (.pair (.int .i64) (.sl .byte))))), (2, false, (.map (.int .i64) (.int .i64))), (100, false, (.vars (.cons (.p (.int .i64)) .nil)))]⟩⟩ false [] (.reg [(6, { ids := [102], sh := [101, 100], fn := 1 })])) (.leaf)) (.leaf)))) (.leaf))), ⟨(.cons (.own 0 0 0 0) (.cons (.p (.int .i64)) .nil)), [(0, false, (.vars (.cons (.p (.int .i64)) (.cons (.p (.int .i64)) (.cons (.slf 3 1) (.cons (.mp 2) .nil)))))), (1, false, (.rows 34 (.pair (.int .i64) (.pair (.int .i64) (.sl .byte))))), (2, false, (.map (.int .i64) (.int .i64)))]⟩, [⟨(.cons (.p (.int .i64)) .nil), [(0, false, (.vars (.cons (.p (.int .i64)) (.cons (.p (.int .i64)) (.cons (.slf 3 3) (.cons (.mp 2) .nil)))))), (2, false, (.map (.int .i64) (.int .i64))), (3, false, (.rows 34 (.pair (.int .i64) (.pair (.int .i64) (.sl .byte)))))]⟩], [0]⟩
def net_Net_Forget__com_ft (fu : Nat) : FnT := ⟨19, ⟨(.cons (.own 0 0 0 0) (.cons (.p (.int .i64)) .nil)), [(0, false, (.vars (.cons (.p (.int .i64)) (.cons (.p (.int .i64)) (.cons (.slf 3 1) (.cons (.mp 2) .nil)))))), (1, false, (.rows 34 (.pair (.int .i64) (.pair (.int .i64) (.sl .byte))))), (2, false, (.map (.int .i64) (.int .i64)))]⟩, [⟨(.cons (.p (.int .i64)) .nil), [(0, false, (.vars (.cons (.p (.int .i64)) (.cons (.p (.int .i64)) (.cons (.slf 3 3) (.cons (.mp 2) .nil)))))), (2, false, (.map (.int .i64) (.int .i64))), (3, false, (.rows 34 (.pair (.int .i64) (.pair (.int .i64) (.sl .byte)))))]⟩], fun t => net_Net_Forget__com fu t.1 t.2.1 t.2.2.1 t.2.2.2.1 t.2.2.2.2⟩
theorem net_Net_Forget__com_eq (fu : Nat) : ∀ t, evF Go.Proofs.Try.prog [net_Net_Waiting__com_ft fu, slices_DeleteFunc__api_Datum_api_Datum_o0f11_ft fu] fu Go.Proofs.Try.f19 net_Net_Forget__com_fa t = (net_Net_Forget__com_ft fu).spec t := fun t => by kernel_rfl
theorem net_Net_Forget__com_told (fu : Nat) : Told Go.Proofs.Try.prog (net_Net_Forget__com_ft fu) := told_of (allT_cons (net_Net_Waiting__com_told fu) (allT_cons (slices_DeleteFunc__api_Datum_api_Datum_o0f11_told fu) allT_nil)) mixed Go.Proofs.Try.func19 (by kernel_rfl) (by kernel_rfl) (net_Net_Forget__com_eq fu)

def law07_awake (fu : Nat)  : Option (Bool) :=
  (net_New fu 2 2).bind fun r =>
  match r with
  | .inl r1 =>
    Option.bind (α := (Bool)) (
      bif (!(r1 == 0)) then
        some true
      else
        (net_Net_Send_n0 fu 0 1 [(UInt8.ofNat 97)]).bind fun r3 =>
        bif (!(r3 == 0)) then
          some true
        else
          (net_Net_Send_n0 fu 1 0 [(UInt8.ofNat 98)]).bind fun r4 =>
          bif (!(r4 == 0)) then
            some true
          else
            (net_Net_Flying_n0 fu).bind fun r5 =>
            bif (!(r5 == 2)) then
              some true
            else
              (net_Net_Copy_n0 fu 0).bind fun r6 =>
              some (!(r6 == 0))) fun o =>
    bif o then
      some false
    else
      Option.bind (α := (Bool)) (
        (net_Net_Flying_n0 fu).bind fun r7 =>
        bif (r7 == 3) then
          (law07_is_n0 fu 0 0 1 [97]).bind fun r8 =>
          bif r8 then
            (law07_is_n0 fu 1 1 0 [98]).bind fun r9 =>
            bif r9 then
              (law07_is_n0 fu 2 0 1 [97]).bind fun r10 =>
              bif r10 then
                (net_Net_Waiting_n0 fu 1).bind fun r11 =>
                some (r11 == 2)
              else
                some false
            else
              some false
          else
            some false
        else
          some false) fun o1 =>
      (net_Net_Send_n0 fu 0 1 [(UInt8.ofNat 99)]).bind fun r12 =>
      (net_Net_Take_n0 fu 1).bind fun r13 =>
      Option.bind (α := (Bool)) (
        bif (!o1) then
          some true
        else
          bif (!(r12 == 5)) then
            some true
          else
            bif (!r13.2.2) then
              some true
            else
              (law07_like fu (r13.1, (r13.2.1, [])) (1, (0, [(UInt8.ofNat 98)]))).bind fun r14 =>
              bif (!r14) then
                some true
              else
                (net_Net_Drop_n0 fu 0).bind fun r15 =>
                bif (!r15) then
                  some true
                else
                  (net_Net_Forget_n0 fu 1).bind fun r16 =>
                  some (!(r16 == 1))) fun o2 =>
      bif o2 then
        some false
      else
        (net_Net_Look_n0 fu 0).bind fun r17 =>
        bif (!r17.2.2) then
          (net_Net_Flying_n0 fu).bind fun r18 =>
          some (r18 == 0)
        else
          some false
  | .inr r2 =>
    Option.bind (α := ((Bool × (Int × (Int × (List ((Int × (Int × List (UInt8)))) × (List (((Int × Int) × Nat)) × Nat))))))) (
      bif (!(r2.1 == 0)) then
        some (true, (r2.2.1, (r2.2.2.1, ([], r2.2.2.2))))
      else
        (net_Net_Send__com fu 0 1 [(UInt8.ofNat 97)] r2.2.1 r2.2.2.1 [] r2.2.2.2).bind fun r19 =>
        match r19 with
        | .inl r20 =>
          bif (!(r20.1 == 0)) then
            some (true, (r20.2.1, (r20.2.2.1, (r20.2.2.2.1, r20.2.2.2.2))))
          else
            (net_Net_Send__com fu 1 0 [(UInt8.ofNat 98)] r20.2.1 r20.2.2.1 r20.2.2.2.1 r20.2.2.2.2).bind fun r22 =>
            match r22 with
            | .inl r23 =>
              bif (!(r23.1 == 0)) then
                some (true, (r23.2.1, (r23.2.2.1, (r23.2.2.2.1, r23.2.2.2.2))))
              else
                (net_Net_Flying__com fu r23.2.1 r23.2.2.1 r23.2.2.2.1 r23.2.2.2.2).bind fun r25 =>
                bif (!(r25.1 == 2)) then
                  some (true, (r25.2.1, (r25.2.2.1, (r25.2.2.2.1, r25.2.2.2.2))))
                else
                  (net_Net_Copy__com fu 0 r25.2.1 r25.2.2.1 r25.2.2.2.1 r25.2.2.2.2).bind fun r26 =>
                  match r26 with
                  | .inl r27 =>
                    some ((!(r27.1 == 0)), (r27.2.1, (r27.2.2.1, (r27.2.2.2.1, r27.2.2.2.2))))
                  | .inr r28 =>
                    some ((!(r28.1 == 0)), (r28.2.1, (r28.2.2.1, (r28.2.2.2.2, r28.2.2.2.1))))
            | .inr r24 =>
              bif (!(r24.1 == 0)) then
                some (true, (r24.2.1, (r24.2.2.1, (r24.2.2.2.2, r24.2.2.2.1))))
              else
                (net_Net_Flying__com fu r24.2.1 r24.2.2.1 r24.2.2.2.2 r24.2.2.2.1).bind fun r29 =>
                bif (!(r29.1 == 2)) then
                  some (true, (r29.2.1, (r29.2.2.1, (r29.2.2.2.1, r29.2.2.2.2))))
                else
                  (net_Net_Copy__com fu 0 r29.2.1 r29.2.2.1 r29.2.2.2.1 r29.2.2.2.2).bind fun r30 =>
                  match r30 with
                  | .inl r31 =>
                    some ((!(r31.1 == 0)), (r31.2.1, (r31.2.2.1, (r31.2.2.2.1, r31.2.2.2.2))))
                  | .inr r32 =>
                    some ((!(r32.1 == 0)), (r32.2.1, (r32.2.2.1, (r32.2.2.2.2, r32.2.2.2.1))))
        | .inr r21 =>
          bif (!(r21.1 == 0)) then
            some (true, (r21.2.1, (r21.2.2.1, (r21.2.2.2.2, r21.2.2.2.1))))
          else
            (net_Net_Send__com fu 1 0 [(UInt8.ofNat 98)] r21.2.1 r21.2.2.1 r21.2.2.2.2 r21.2.2.2.1).bind fun r33 =>
            match r33 with
            | .inl r34 =>
              bif (!(r34.1 == 0)) then
                some (true, (r34.2.1, (r34.2.2.1, (r34.2.2.2.1, r34.2.2.2.2))))
              else
                (net_Net_Flying__com fu r34.2.1 r34.2.2.1 r34.2.2.2.1 r34.2.2.2.2).bind fun r36 =>
                bif (!(r36.1 == 2)) then
                  some (true, (r36.2.1, (r36.2.2.1, (r36.2.2.2.1, r36.2.2.2.2))))
                else
                  (net_Net_Copy__com fu 0 r36.2.1 r36.2.2.1 r36.2.2.2.1 r36.2.2.2.2).bind fun r37 =>
                  match r37 with
                  | .inl r38 =>
                    some ((!(r38.1 == 0)), (r38.2.1, (r38.2.2.1, (r38.2.2.2.1, r38.2.2.2.2))))
                  | .inr r39 =>
                    some ((!(r39.1 == 0)), (r39.2.1, (r39.2.2.1, (r39.2.2.2.2, r39.2.2.2.1))))
            | .inr r35 =>
              bif (!(r35.1 == 0)) then
                some (true, (r35.2.1, (r35.2.2.1, (r35.2.2.2.2, r35.2.2.2.1))))
              else
                (net_Net_Flying__com fu r35.2.1 r35.2.2.1 r35.2.2.2.2 r35.2.2.2.1).bind fun r40 =>
                bif (!(r40.1 == 2)) then
                  some (true, (r40.2.1, (r40.2.2.1, (r40.2.2.2.1, r40.2.2.2.2))))
                else
                  (net_Net_Copy__com fu 0 r40.2.1 r40.2.2.1 r40.2.2.2.1 r40.2.2.2.2).bind fun r41 =>
                  match r41 with
                  | .inl r42 =>
                    some ((!(r42.1 == 0)), (r42.2.1, (r42.2.2.1, (r42.2.2.2.1, r42.2.2.2.2))))
                  | .inr r43 =>
                    some ((!(r43.1 == 0)), (r43.2.1, (r43.2.2.1, (r43.2.2.2.2, r43.2.2.2.1))))) fun o3 =>
    bif o3.1 then
      some false
    else
      Option.bind (α := ((Bool × (Int × (Int × (List ((Int × (Int × List (UInt8)))) × (List (((Int × Int) × Nat)) × Nat))))))) (
        (net_Net_Flying__com fu o3.2.1 o3.2.2.1 o3.2.2.2.1 o3.2.2.2.2).bind fun r44 =>
        bif (r44.1 == 3) then
          (law07_is__com fu 0 0 1 [97] r44.2.1 r44.2.2.1 r44.2.2.2.1 r44.2.2.2.2).bind fun r45 =>
          bif r45.1 then
            (law07_is__com fu 1 1 0 [98] r45.2.1 r45.2.2.1 r45.2.2.2.1 r45.2.2.2.2).bind fun r46 =>
            bif r46.1 then
              (law07_is__com fu 2 0 1 [97] r46.2.1 r46.2.2.1 r46.2.2.2.1 r46.2.2.2.2).bind fun r47 =>
              bif r47.1 then
                (net_Net_Waiting__com fu 1 r47.2.1 r47.2.2.1 r47.2.2.2.1 r47.2.2.2.2).bind fun r48 =>
                some ((r48.1 == 2), (r48.2.1, (r48.2.2.1, (r48.2.2.2.1, r48.2.2.2.2))))
              else
                some (false, (r47.2.1, (r47.2.2.1, (r47.2.2.2.1, r47.2.2.2.2))))
            else
              some (false, (r46.2.1, (r46.2.2.1, (r46.2.2.2.1, r46.2.2.2.2))))
          else
            some (false, (r45.2.1, (r45.2.2.1, (r45.2.2.2.1, r45.2.2.2.2))))
        else
          some (false, (r44.2.1, (r44.2.2.1, (r44.2.2.2.1, r44.2.2.2.2))))) fun o4 =>
      Option.bind (α := ((Int × (Int × (Int × (List ((Int × (Int × List (UInt8)))) × (List (((Int × Int) × Nat)) × Nat))))))) (
        (net_Net_Send__com fu 0 1 [(UInt8.ofNat 99)] o4.2.1 o4.2.2.1 o4.2.2.2.1 o4.2.2.2.2).bind fun r49 =>
        match r49 with
        | .inl r50 =>
          some (r50.1, (r50.2.1, (r50.2.2.1, (r50.2.2.2.1, r50.2.2.2.2))))
        | .inr r51 =>
          some (r51.1, (r51.2.1, (r51.2.2.1, (r51.2.2.2.2, r51.2.2.2.1))))) fun o5 =>
      Option.bind (α := ((Bool × (Int × (Int × (List ((Int × (Int × List (UInt8)))) × ((List (((Int × Int) × Nat)) × Nat) × (Int × (Int × List (UInt8)))))))))) (
        (net_Net_Take__com fu 1 o5.2.1 o5.2.2.1 o5.2.2.2.1 o5.2.2.2.2).bind fun r52 =>
        match r52 with
        | .inl r53 =>
          some (r53.2.2.2.1, (r53.2.2.2.2.1, (r53.2.2.2.2.2.1, (r53.2.2.2.2.2.2.1, (r53.2.2.2.2.2.2.2, (r53.1, (r53.2.1, r53.2.2.1)))))))
        | .inr r54 =>
          some (r54.2.2.2.1, (r54.2.2.2.2.1, (r54.2.2.2.2.2.1, (r54.2.2.2.2.2.2.2.2, (r54.2.2.2.2.2.2.1, (r54.1, (r54.2.1, r54.2.2.1)))))))) fun o6 =>
      Option.bind (α := ((Bool × (Int × (Int × (List ((Int × (Int × List (UInt8)))) × (List (((Int × Int) × Nat)) × Nat))))))) (
        bif (!o4.1) then
          some (true, (o6.2.1, (o6.2.2.1, (o6.2.2.2.1, o6.2.2.2.2.1))))
        else
          bif (!(o5.1 == 5)) then
            some (true, (o6.2.1, (o6.2.2.1, (o6.2.2.2.1, o6.2.2.2.2.1))))
          else
            bif (!o6.1) then
              some (true, (o6.2.1, (o6.2.2.1, (o6.2.2.2.1, o6.2.2.2.2.1))))
            else
              (law07_like fu (o6.2.2.2.2.2.1, (o6.2.2.2.2.2.2.1, o6.2.2.2.2.2.2.2)) (1, (0, [(UInt8.ofNat 98)]))).bind fun r55 =>
              bif (!r55) then
                some (true, (o6.2.1, (o6.2.2.1, (o6.2.2.2.1, o6.2.2.2.2.1))))
              else
                (net_Net_Drop__com fu 0 o6.2.1 o6.2.2.1 o6.2.2.2.1 o6.2.2.2.2.1).bind fun r56 =>
                match r56 with
                | .inl r57 =>
                  bif (!r57.1) then
                    some (true, (r57.2.1, (r57.2.2.1, (r57.2.2.2.1, r57.2.2.2.2))))
                  else
                    (net_Net_Forget__com fu 1 r57.2.1 r57.2.2.1 r57.2.2.2.1 r57.2.2.2.2).bind fun r59 =>
                    some ((!(r59.1 == 1)), (r59.2.1, (r59.2.2.1, (r59.2.2.2.2, r59.2.2.2.1))))
                | .inr r58 =>
                  bif (!r58.1) then
                    some (true, (r58.2.1, (r58.2.2.1, (r58.2.2.2.2.2, r58.2.2.2.1))))
                  else
                    (net_Net_Forget__com fu 1 r58.2.1 r58.2.2.1 r58.2.2.2.2.2 r58.2.2.2.1).bind fun r60 =>
                    some ((!(r60.1 == 1)), (r60.2.1, (r60.2.2.1, (r60.2.2.2.2, r60.2.2.2.1))))) fun o7 =>
      bif o7.1 then
        some false
      else
        (net_Net_Look__com fu 0 o7.2.1 o7.2.2.1 o7.2.2.2.1 o7.2.2.2.2).bind fun r61 =>
        bif (!r61.2.2.2.1) then
          (net_Net_Flying__com fu r61.2.2.2.2.1 r61.2.2.2.2.2.1 r61.2.2.2.2.2.2.1 r61.2.2.2.2.2.2.2).bind fun r62 =>
          some (r62.1 == 0)
        else
          some false
def law07_awake_fa : FnA := ⟨.two (.leaf) (.two (.reg [(0, { ids := [100, 101] })]) (.sel (.slot 1 (.nilp (.pointer none))) (.two (.two (.join ⟨[36], ⟨(.cons (.p .bool) .nil), []⟩⟩ false [] (.reg [(4, { ids := [103] }), (6, { md := [0, 0, 0, 2], fn := 1 }), (11, { ids := [104] }), (13, { md := [0, 0, 0, 2], fn := 1 }), (18, { fn := 2 }), (23, { fn := 3 })])) (.two (.leaf) (.leaf))) (.two (.join ⟨[3], ⟨(.cons (.p .bool) .nil), []⟩⟩ false [] (.reg [(1, { fn := 2 }), (5, { fn := 4 }), (9, { fn := 4 }), (13, { fn := 4 }), (17, { fn := 5 })])) (.two (.reg [(1, { ids := [105] }), (3, { md := [0, 0, 0, 2], fn := 1 })]) (.two (.reg [(1, { fn := 6 }), (5, { ids := [106] })]) (.two (.two (.join ⟨[93], ⟨(.cons (.p .bool) .nil), []⟩⟩ false [] (.reg [(12, { ids := [107] }), (15, { md := [0, 2], fn := 7 }), (20, { fn := 8 }), (25, { fn := 9 })])) (.two (.leaf) (.leaf))) (.two (.reg [(1, { fn := 10 })]) (.two (.reg [(4, { fn := 2 })]) (.leaf)))))))) (.pre (.ownCell 100 2 34 103) (.two (.two (.join ⟨[1, 36], ⟨(.cons (.own 0 100 0 0) (.cons (.p .bool) .nil)), [(100, false, (.vars (.cons (.p (.int .i64)) (.cons (.p (.int .i64)) (.cons (.slf 3 103) (.cons (.mp 101) .nil)))))), (103, false, (.rows 34 (.pair (.int .i64) (.pair (.int .i64) (.sl .byte))))), (101, false, (.map (.int .i64) (.int .i64)))]⟩⟩ false [] (.reg [(4, { ids := [104] }), (6, { ids := [105], sh := [100, 103, 101], md := [0, 0, 0, 1], fn := 11 }), (11, { ids := [106] }), (13, { ids := [107], sh := [100, 103, 101], md := [0, 0, 0, 1], fn := 11, more := [{ ids := [107], sh := [100, 105, 101], md := [0, 0, 0, 1], fn := 11 }] }), (18, { sh := [100, 103, 101], fn := 12, more := [{ sh := [100, 107, 101], fn := 12 }, { sh := [100, 105, 101], fn := 12 }] }), (23, { ids := [108], sh := [100, 103, 101], fn := 13, more := [{ ids := [108], sh := [100, 107, 101], fn := 13 }, { ids := [108], sh := [100, 105, 101], fn := 13 }] })])) (.two (.leaf) (.leaf))) (.two (.join ⟨[1, 3], ⟨(.cons (.own 0 100 0 0) (.cons (.p .bool) .nil)), [(100, false, (.vars (.cons (.p (.int .i64)) (.cons (.p (.int .i64)) (.cons (.slf 3 103) (.cons (.mp 101) .nil)))))), (103, false, (.rows 34 (.pair (.int .i64) (.pair (.int .i64) (.sl .byte))))), (101, false, (.map (.int .i64) (.int .i64)))]⟩⟩ false [] (.reg [(1, { sh := [100, 103, 101], fn := 12 }), (5, { sh := [100, 103, 101], fn := 14 }), (9, { sh := [100, 103, 101], fn := 14 }), (13, { sh := [100, 103, 101], fn := 14 }), (17, { sh := [100, 103, 101], fn := 15 })])) (.two (.join ⟨[1, 4], ⟨(.cons (.own 0 100 0 0) (.cons (.p (.int .i64)) .nil)), [(100, false, (.vars (.cons (.p (.int .i64)) (.cons (.p (.int .i64)) (.cons (.slf 3 103) (.cons (.mp 101) .nil)))))), (103, false, (.rows 34 (.pair (.int .i64) (.pair (.int .i64) (.sl .byte))))), (101, false, (.map (.int .i64) (.int .i64)))]⟩⟩ false [] (.reg [(1, { ids := [109] }), (3, { ids := [110], sh := [100, 103, 101], md := [0, 0, 0, 1], fn := 11 })])) (.two (.join ⟨[1, 5, 6], ⟨(.cons (.own 0 100 0 0) (.cons (.own 0 112 0 0) (.cons (.p .bool) .nil))), [(100, false, (.vars (.cons (.p (.int .i64)) (.cons (.p (.int .i64)) (.cons (.slf 3 103) (.cons (.mp 101) .nil)))))), (103, false, (.rows 34 (.pair (.int .i64) (.pair (.int .i64) (.sl .byte))))), (101, false, (.map (.int .i64) (.int .i64))), (112, false, (.vars (.cons (.p (.int .i64)) (.cons (.p (.int .i64)) (.cons (.p (.sl .byte)) .nil)))))]⟩⟩ false [] (.reg [(1, { ids := [111], sh := [100, 103, 101], fn := 16 }), (5, { ids := [112] })])) (.two (.two (.join ⟨[1, 93], ⟨(.cons (.own 0 100 0 0) (.cons (.p .bool) .nil)), [(100, false, (.vars (.cons (.p (.int .i64)) (.cons (.p (.int .i64)) (.cons (.slf 3 103) (.cons (.mp 101) .nil)))))), (103, false, (.rows 34 (.pair (.int .i64) (.pair (.int .i64) (.sl .byte))))), (101, false, (.map (.int .i64) (.int .i64)))]⟩⟩ false [] (.reg [(12, { ids := [113] }), (15, { md := [0, 2], fn := 7 }), (20, { ids := [114], sh := [100, 103, 101], fn := 17 }), (25, { ids := [115], sh := [100, 103, 101], fn := 18, more := [{ ids := [115], sh := [100, 114, 101], fn := 18 }] })])) (.two (.leaf) (.leaf))) (.two (.reg [(1, { sh := [100, 103, 101], fn := 19 })]) (.two (.reg [(4, { sh := [100, 103, 101], fn := 12 })]) (.leaf))))))))))), ⟨.nil, []⟩, [⟨(.cons (.p .bool) .nil), []⟩], [0]⟩
def law07_awake_ft (fu : Nat) : FnT := ⟨20, ⟨.nil, []⟩, [⟨(.cons (.p .bool) .nil), []⟩], fun t => law07_awake fu ⟩
theorem law07_awake_eq (fu : Nat) : ∀ t, evF Go.Proofs.Try.prog [net_New_ft fu, net_Net_Send_n0_ft fu, net_Net_Flying_n0_ft fu, net_Net_Copy_n0_ft fu, law07_is_n0_ft fu, net_Net_Waiting_n0_ft fu, net_Net_Take_n0_ft fu, law07_like_ft fu, net_Net_Drop_n0_ft fu, net_Net_Forget_n0_ft fu, net_Net_Look_n0_ft fu, net_Net_Send__com_ft fu, net_Net_Flying__com_ft fu, net_Net_Copy__com_ft fu, law07_is__com_ft fu, net_Net_Waiting__com_ft fu, net_Net_Take__com_ft fu, net_Net_Drop__com_ft fu, net_Net_Forget__com_ft fu, net_Net_Look__com_ft fu] fu Go.Proofs.Try.f20 law07_awake_fa t = (law07_awake_ft fu).spec t := fun t => by kernel_rfl
theorem law07_awake_told (fu : Nat) : Told Go.Proofs.Try.prog (law07_awake_ft fu) := told_of (allT_cons (net_New_told fu) (allT_cons (net_Net_Send_n0_told fu) (allT_cons (net_Net_Flying_n0_told fu) (allT_cons (net_Net_Copy_n0_told fu) (allT_cons (law07_is_n0_told fu) (allT_cons (net_Net_Waiting_n0_told fu) (allT_cons (net_Net_Take_n0_told fu) (allT_cons (law07_like_told fu) (allT_cons (net_Net_Drop_n0_told fu) (allT_cons (net_Net_Forget_n0_told fu) (allT_cons (net_Net_Look_n0_told fu) (allT_cons (net_Net_Send__com_told fu) (allT_cons (net_Net_Flying__com_told fu) (allT_cons (net_Net_Copy__com_told fu) (allT_cons (law07_is__com_told fu) (allT_cons (net_Net_Waiting__com_told fu) (allT_cons (net_Net_Take__com_told fu) (allT_cons (net_Net_Drop__com_told fu) (allT_cons (net_Net_Forget__com_told fu) (allT_cons (net_Net_Look__com_told fu) allT_nil)))))))))))))))))))) mixed Go.Proofs.Try.func20 (by kernel_rfl) (by kernel_rfl) (law07_awake_eq fu)

def law07_NetNumbers_l0 (fu : Nat) (x : Int) (h : List (List (Int))) : Option ((Int × List (List (Int))) ⊕ (Unit ⊕ Bool)) :=
  bif (decide (x < 5)) then
    (idx? x h.length).bind fun q =>
    (h)[q]?.bind fun r =>
    need (Nat.beq (List.replicate (α := Int) 2 0).length 2) <|
    need (Nat.beq r.length 2) <|
    (r)[0]?.bind fun r1 =>
    (r)[1]?.bind fun r2 =>
    (net_New fu r1 r2).bind fun r3 =>
    match r3 with
    | .inl r4 =>
      bif (!(r4 == 2)) then
        some (.inr (.inr (decide (x < 0))))
      else
        some (.inl ((IntKind.wrap .i64 (x + 1)), h))
    | .inr r5 =>
      some (.inr (.inr (decide (x < 0))))
  else
    some (.inr (.inl ()))
def law07_NetNumbers_l0_it (fu : Nat)  (tt : (Int × List (List (Int)))) : Option (Unit ⊕ Bool) :=
  iter fu (fun tt => law07_NetNumbers_l0 fu tt.1 tt.2) tt
def law07_NetNumbers_l1 (fu : Nat) (i : Int) : Option (Int ⊕ (Unit ⊕ Bool)) :=
  bif (decide (i < 10000)) then
    (net_Net_Send_n0 fu (Int.tmod i 300) (Int.tmod i 7) []).bind fun r15 =>
    bif (!(r15 == 0)) then
      some (.inr (.inr false))
    else
      some (.inl (IntKind.wrap .i64 (i + 1)))
  else
    some (.inr (.inl ()))
def law07_NetNumbers_l1_it (fu : Nat)  (tt : Int) : Option (Unit ⊕ Bool) :=
  iter fu (fun tt => law07_NetNumbers_l1 fu tt) tt
def law07_NetNumbers_l2 (fu : Nat) (i1 : Int) (h1 : Int) (h2 : Int) (h3 : List ((Int × (Int × List (UInt8))))) (h4 : (List (((Int × Int) × Nat)) × Nat)) : Option ((Int × (Int × (Int × (List ((Int × (Int × List (UInt8)))) × (List (((Int × Int) × Nat)) × Nat))))) ⊕ ((Int × (Int × (List ((Int × (Int × List (UInt8)))) × (List (((Int × Int) × Nat)) × Nat)))) ⊕ Bool)) :=
  bif (decide (i1 < 10000)) then
    Option.bind (α := ((Bool × (Int × (Int × (List ((Int × (Int × List (UInt8)))) × (List (((Int × Int) × Nat)) × Nat))))))) (
      (net_Net_Send__com fu (Int.tmod i1 300) (Int.tmod i1 7) [] h1 h2 h3 h4).bind fun r224 =>
      match r224 with
      | .inl r225 =>
        some ((!(r225.1 == 0)), (r225.2.1, (r225.2.2.1, (r225.2.2.2.1, r225.2.2.2.2))))
      | .inr r226 =>
        some ((!(r226.1 == 0)), (r226.2.1, (r226.2.2.1, (r226.2.2.2.2, r226.2.2.2.1))))) fun o8 =>
    bif o8.1 then
      some (.inr (.inr false))
    else
      some (.inl ((IntKind.wrap .i64 (i1 + 1)), (o8.2.1, (o8.2.2.1, (o8.2.2.2.1, o8.2.2.2.2)))))
  else
    some (.inr (.inl (h1, (h2, (h3, h4)))))
def law07_NetNumbers_l2_it (fu : Nat)  (tt : (Int × (Int × (Int × (List ((Int × (Int × List (UInt8)))) × (List (((Int × Int) × Nat)) × Nat)))))) : Option ((Int × (Int × (List ((Int × (Int × List (UInt8)))) × (List (((Int × Int) × Nat)) × Nat)))) ⊕ Bool) :=
  iter fu (fun tt => law07_NetNumbers_l2 fu tt.1 tt.2.1 tt.2.2.1 tt.2.2.2.1 tt.2.2.2.2) tt
def law07_NetNumbers (fu : Nat)  : Option (Bool) :=
  (law07_NetNumbers_l0_it fu  (0, [[0, 1], [301, 1], [1, 0], [1, 10001], [(-1), (-1)]])).bind fun o =>
  match o with
  | .inl s =>
    (net_New fu 300 10000).bind fun r6 =>
    match r6 with
    | .inl r7 =>
      Option.bind (α := (Bool)) (
        bif (!(r7 == 0)) then
          some true
        else
          (net_Net_Send_n0 fu (-1) 0 []).bind fun r9 =>
          bif (!(r9 == 2)) then
            some true
          else
            (net_Net_Send_n0 fu 0 300 []).bind fun r10 =>
            bif (!(r10 == 2)) then
              some true
            else
              (net_Net_Send_n0 fu 0 (-1) (List.replicate (α := UInt8) 131073 0)).bind fun r11 =>
              bif (!(r11 == 2)) then
                some true
              else
                (net_Net_Send_n0 fu 0 299 (List.replicate (α := UInt8) 131073 0)).bind fun r12 =>
                bif (!(r12 == 3)) then
                  some true
                else
                  (net_Net_Send_n0 fu 299 0 (List.replicate (α := UInt8) 131072 0)).bind fun r13 =>
                  bif (!(r13 == 0)) then
                    some true
                  else
                    (net_Net_Drop_n0 fu 0).bind fun r14 =>
                    some (!r14)) fun o2 =>
      bif o2 then
        some false
      else
        (law07_NetNumbers_l1_it fu  0).bind fun o3 =>
        match o3 with
        | .inl s1 =>
          Option.bind (α := (Bool)) (
            (net_Net_Flying_n0 fu).bind fun r16 =>
            bif (r16 == 10000) then
              (net_Net_Send_n0 fu 0 8 []).bind fun r17 =>
              bif (r17 == 5) then
                (net_Net_Copy_n0 fu 3).bind fun r18 =>
                bif (r18 == 5) then
                  (net_Net_Copy_n0 fu 10000).bind fun r19 =>
                  bif (r19 == 2) then
                    (net_Net_Copy_n0 fu (-1)).bind fun r20 =>
                    bif (r20 == 2) then
                      (net_Net_Drop_n0 fu (-1)).bind fun r21 =>
                      bif (!r21) then
                        (net_Net_Drop_n0 fu 10000).bind fun r22 =>
                        some (!r22)
                      else
                        some false
                    else
                      some false
                  else
                    some false
                else
                  some false
              else
                some false
            else
              some false) fun o5 =>
          (net_Net_Take_n0 fu 10000).bind fun r23 =>
          (net_Net_Look_n0 fu (-1)).bind fun r24 =>
          Option.bind (α := (Bool)) (
            bif (!r23.2.2) then
              bif (!r24.2.2) then
                (net_Net_Waiting_n0 fu 3).bind fun r25 =>
                bif (r25 == 1429) then
                  (net_Net_Waiting_n0 fu 6).bind fun r26 =>
                  bif (r26 == 1428) then
                    (net_Net_Waiting_n0 fu 7).bind fun r27 =>
                    bif (r27 == 0) then
                      (net_Net_Waiting_n0 fu (-5)).bind fun r28 =>
                      bif (r28 == 0) then
                        (net_Net_Forget_n0 fu 3).bind fun r29 =>
                        bif (r29 == 1429) then
                          (net_Net_Forget_n0 fu 3).bind fun r30 =>
                          bif (r30 == 0) then
                            (net_Net_Forget_n0 fu 900).bind fun r31 =>
                            bif (r31 == 0) then
                              (net_Net_Flying_n0 fu).bind fun r32 =>
                              bif (r32 == 8571) then
                                (net_Net_Send_n0 fu 0 8 []).bind fun r33 =>
                                some (r33 == 0)
                              else
                                some false
                            else
                              some false
                          else
                            some false
                        else
                          some false
                      else
                        some false
                    else
                      some false
                  else
                    some false
                else
                  some false
              else
                some false
            else
              some false) fun o6 =>
          bif o5 then
            bif o6 then
              (law07_awake fu).bind fun r34 =>
              some r34
            else
              some false
          else
            some false
        | .inr o4 =>
          some o4
    | .inr r8 =>
      Option.bind (α := ((Bool × (Int × (Int × (List ((Int × (Int × List (UInt8)))) × (List (((Int × Int) × Nat)) × Nat))))))) (
        bif (!(r8.1 == 0)) then
          some (true, (r8.2.1, (r8.2.2.1, ([], r8.2.2.2))))
        else
          (net_Net_Send__com fu (-1) 0 [] r8.2.1 r8.2.2.1 [] r8.2.2.2).bind fun r35 =>
          match r35 with
          | .inl r36 =>
            bif (!(r36.1 == 2)) then
              some (true, (r36.2.1, (r36.2.2.1, (r36.2.2.2.1, r36.2.2.2.2))))
            else
              (net_Net_Send__com fu 0 300 [] r36.2.1 r36.2.2.1 r36.2.2.2.1 r36.2.2.2.2).bind fun r38 =>
              match r38 with
              | .inl r39 =>
                bif (!(r39.1 == 2)) then
                  some (true, (r39.2.1, (r39.2.2.1, (r39.2.2.2.1, r39.2.2.2.2))))
                else
                  (net_Net_Send__com fu 0 (-1) (List.replicate (α := UInt8) 131073 0) r39.2.1 r39.2.2.1 r39.2.2.2.1 r39.2.2.2.2).bind fun r41 =>
                  match r41 with
                  | .inl r42 =>
                    bif (!(r42.1 == 2)) then
                      some (true, (r42.2.1, (r42.2.2.1, (r42.2.2.2.1, r42.2.2.2.2))))
                    else
                      (net_Net_Send__com fu 0 299 (List.replicate (α := UInt8) 131073 0) r42.2.1 r42.2.2.1 r42.2.2.2.1 r42.2.2.2.2).bind fun r44 =>
                      match r44 with
                      | .inl r45 =>
                        bif (!(r45.1 == 3)) then
                          some (true, (r45.2.1, (r45.2.2.1, (r45.2.2.2.1, r45.2.2.2.2))))
                        else
                          (net_Net_Send__com fu 299 0 (List.replicate (α := UInt8) 131072 0) r45.2.1 r45.2.2.1 r45.2.2.2.1 r45.2.2.2.2).bind fun r47 =>
                          match r47 with
                          | .inl r48 =>
                            bif (!(r48.1 == 0)) then
                              some (true, (r48.2.1, (r48.2.2.1, (r48.2.2.2.1, r48.2.2.2.2))))
                            else
                              (net_Net_Drop__com fu 0 r48.2.1 r48.2.2.1 r48.2.2.2.1 r48.2.2.2.2).bind fun r50 =>
                              match r50 with
                              | .inl r51 =>
                                some ((!r51.1), (r51.2.1, (r51.2.2.1, (r51.2.2.2.1, r51.2.2.2.2))))
                              | .inr r52 =>
                                some ((!r52.1), (r52.2.1, (r52.2.2.1, (r52.2.2.2.2.2, r52.2.2.2.1))))
                          | .inr r49 =>
                            bif (!(r49.1 == 0)) then
                              some (true, (r49.2.1, (r49.2.2.1, (r49.2.2.2.2, r49.2.2.2.1))))
                            else
                              (net_Net_Drop__com fu 0 r49.2.1 r49.2.2.1 r49.2.2.2.2 r49.2.2.2.1).bind fun r53 =>
                              match r53 with
                              | .inl r54 =>
                                some ((!r54.1), (r54.2.1, (r54.2.2.1, (r54.2.2.2.1, r54.2.2.2.2))))
                              | .inr r55 =>
                                some ((!r55.1), (r55.2.1, (r55.2.2.1, (r55.2.2.2.2.2, r55.2.2.2.1))))
                      | .inr r46 =>
                        bif (!(r46.1 == 3)) then
                          some (true, (r46.2.1, (r46.2.2.1, (r46.2.2.2.2, r46.2.2.2.1))))
                        else
                          (net_Net_Send__com fu 299 0 (List.replicate (α := UInt8) 131072 0) r46.2.1 r46.2.2.1 r46.2.2.2.2 r46.2.2.2.1).bind fun r56 =>
                          match r56 with
                          | .inl r57 =>
                            bif (!(r57.1 == 0)) then
                              some (true, (r57.2.1, (r57.2.2.1, (r57.2.2.2.1, r57.2.2.2.2))))
                            else
                              (net_Net_Drop__com fu 0 r57.2.1 r57.2.2.1 r57.2.2.2.1 r57.2.2.2.2).bind fun r59 =>
                              match r59 with
                              | .inl r60 =>
                                some ((!r60.1), (r60.2.1, (r60.2.2.1, (r60.2.2.2.1, r60.2.2.2.2))))
                              | .inr r61 =>
                                some ((!r61.1), (r61.2.1, (r61.2.2.1, (r61.2.2.2.2.2, r61.2.2.2.1))))
                          | .inr r58 =>
                            bif (!(r58.1 == 0)) then
                              some (true, (r58.2.1, (r58.2.2.1, (r58.2.2.2.2, r58.2.2.2.1))))
                            else
                              (net_Net_Drop__com fu 0 r58.2.1 r58.2.2.1 r58.2.2.2.2 r58.2.2.2.1).bind fun r62 =>
                              match r62 with
                              | .inl r63 =>
                                some ((!r63.1), (r63.2.1, (r63.2.2.1, (r63.2.2.2.1, r63.2.2.2.2))))
                              | .inr r64 =>
                                some ((!r64.1), (r64.2.1, (r64.2.2.1, (r64.2.2.2.2.2, r64.2.2.2.1))))
                  | .inr r43 =>
                    bif (!(r43.1 == 2)) then
                      some (true, (r43.2.1, (r43.2.2.1, (r43.2.2.2.2, r43.2.2.2.1))))
                    else
                      (net_Net_Send__com fu 0 299 (List.replicate (α := UInt8) 131073 0) r43.2.1 r43.2.2.1 r43.2.2.2.2 r43.2.2.2.1).bind fun r65 =>
                      match r65 with
                      | .inl r66 =>
                        bif (!(r66.1 == 3)) then
                          some (true, (r66.2.1, (r66.2.2.1, (r66.2.2.2.1, r66.2.2.2.2))))
                        else
                          (net_Net_Send__com fu 299 0 (List.replicate (α := UInt8) 131072 0) r66.2.1 r66.2.2.1 r66.2.2.2.1 r66.2.2.2.2).bind fun r68 =>
                          match r68 with
                          | .inl r69 =>
                            bif (!(r69.1 == 0)) then
                              some (true, (r69.2.1, (r69.2.2.1, (r69.2.2.2.1, r69.2.2.2.2))))
                            else
                              (net_Net_Drop__com fu 0 r69.2.1 r69.2.2.1 r69.2.2.2.1 r69.2.2.2.2).bind fun r71 =>
                              match r71 with
                              | .inl r72 =>
                                some ((!r72.1), (r72.2.1, (r72.2.2.1, (r72.2.2.2.1, r72.2.2.2.2))))
                              | .inr r73 =>
                                some ((!r73.1), (r73.2.1, (r73.2.2.1, (r73.2.2.2.2.2, r73.2.2.2.1))))
                          | .inr r70 =>
                            bif (!(r70.1 == 0)) then
                              some (true, (r70.2.1, (r70.2.2.1, (r70.2.2.2.2, r70.2.2.2.1))))
                            else
                              (net_Net_Drop__com fu 0 r70.2.1 r70.2.2.1 r70.2.2.2.2 r70.2.2.2.1).bind fun r74 =>
                              match r74 with
                              | .inl r75 =>
                                some ((!r75.1), (r75.2.1, (r75.2.2.1, (r75.2.2.2.1, r75.2.2.2.2))))
                              | .inr r76 =>
                                some ((!r76.1), (r76.2.1, (r76.2.2.1, (r76.2.2.2.2.2, r76.2.2.2.1))))
                      | .inr r67 =>
                        bif (!(r67.1 == 3)) then
                          some (true, (r67.2.1, (r67.2.2.1, (r67.2.2.2.2, r67.2.2.2.1))))
                        else
                          (net_Net_Send__com fu 299 0 (List.replicate (α := UInt8) 131072 0) r67.2.1 r67.2.2.1 r67.2.2.2.2 r67.2.2.2.1).bind fun r77 =>
                          match r77 with
                          | .inl r78 =>
                            bif (!(r78.1 == 0)) then
                              some (true, (r78.2.1, (r78.2.2.1, (r78.2.2.2.1, r78.2.2.2.2))))
                            else
                              (net_Net_Drop__com fu 0 r78.2.1 r78.2.2.1 r78.2.2.2.1 r78.2.2.2.2).bind fun r80 =>
                              match r80 with
                              | .inl r81 =>
                                some ((!r81.1), (r81.2.1, (r81.2.2.1, (r81.2.2.2.1, r81.2.2.2.2))))
                              | .inr r82 =>
                                some ((!r82.1), (r82.2.1, (r82.2.2.1, (r82.2.2.2.2.2, r82.2.2.2.1))))
                          | .inr r79 =>
                            bif (!(r79.1 == 0)) then
                              some (true, (r79.2.1, (r79.2.2.1, (r79.2.2.2.2, r79.2.2.2.1))))
                            else
                              (net_Net_Drop__com fu 0 r79.2.1 r79.2.2.1 r79.2.2.2.2 r79.2.2.2.1).bind fun r83 =>
                              match r83 with
                              | .inl r84 =>
                                some ((!r84.1), (r84.2.1, (r84.2.2.1, (r84.2.2.2.1, r84.2.2.2.2))))
                              | .inr r85 =>
                                some ((!r85.1), (r85.2.1, (r85.2.2.1, (r85.2.2.2.2.2, r85.2.2.2.1))))
              | .inr r40 =>
                bif (!(r40.1 == 2)) then
                  some (true, (r40.2.1, (r40.2.2.1, (r40.2.2.2.2, r40.2.2.2.1))))
                else
                  (net_Net_Send__com fu 0 (-1) (List.replicate (α := UInt8) 131073 0) r40.2.1 r40.2.2.1 r40.2.2.2.2 r40.2.2.2.1).bind fun r86 =>
                  match r86 with
                  | .inl r87 =>
                    bif (!(r87.1 == 2)) then
                      some (true, (r87.2.1, (r87.2.2.1, (r87.2.2.2.1, r87.2.2.2.2))))
                    else
                      (net_Net_Send__com fu 0 299 (List.replicate (α := UInt8) 131073 0) r87.2.1 r87.2.2.1 r87.2.2.2.1 r87.2.2.2.2).bind fun r89 =>
                      match r89 with
                      | .inl r90 =>
                        bif (!(r90.1 == 3)) then
                          some (true, (r90.2.1, (r90.2.2.1, (r90.2.2.2.1, r90.2.2.2.2))))
                        else
                          (net_Net_Send__com fu 299 0 (List.replicate (α := UInt8) 131072 0) r90.2.1 r90.2.2.1 r90.2.2.2.1 r90.2.2.2.2).bind fun r92 =>
                          match r92 with
                          | .inl r93 =>
                            bif (!(r93.1 == 0)) then
                              some (true, (r93.2.1, (r93.2.2.1, (r93.2.2.2.1, r93.2.2.2.2))))
                            else
                              (net_Net_Drop__com fu 0 r93.2.1 r93.2.2.1 r93.2.2.2.1 r93.2.2.2.2).bind fun r95 =>
                              match r95 with
                              | .inl r96 =>
                                some ((!r96.1), (r96.2.1, (r96.2.2.1, (r96.2.2.2.1, r96.2.2.2.2))))
                              | .inr r97 =>
                                some ((!r97.1), (r97.2.1, (r97.2.2.1, (r97.2.2.2.2.2, r97.2.2.2.1))))
                          | .inr r94 =>
                            bif (!(r94.1 == 0)) then
                              some (true, (r94.2.1, (r94.2.2.1, (r94.2.2.2.2, r94.2.2.2.1))))
                            else
                              (net_Net_Drop__com fu 0 r94.2.1 r94.2.2.1 r94.2.2.2.2 r94.2.2.2.1).bind fun r98 =>
                              match r98 with
                              | .inl r99 =>
                                some ((!r99.1), (r99.2.1, (r99.2.2.1, (r99.2.2.2.1, r99.2.2.2.2))))
                              | .inr r100 =>
                                some ((!r100.1), (r100.2.1, (r100.2.2.1, (r100.2.2.2.2.2, r100.2.2.2.1))))
                      | .inr r91 =>
                        bif (!(r91.1 == 3)) then
                          some (true, (r91.2.1, (r91.2.2.1, (r91.2.2.2.2, r91.2.2.2.1))))
                        else
                          (net_Net_Send__com fu 299 0 (List.replicate (α := UInt8) 131072 0) r91.2.1 r91.2.2.1 r91.2.2.2.2 r91.2.2.2.1).bind fun r101 =>
                          match r101 with
                          | .inl r102 =>
                            bif (!(r102.1 == 0)) then
                              some (true, (r102.2.1, (r102.2.2.1, (r102.2.2.2.1, r102.2.2.2.2))))
                            else
                              (net_Net_Drop__com fu 0 r102.2.1 r102.2.2.1 r102.2.2.2.1 r102.2.2.2.2).bind fun r104 =>
                              match r104 with
                              | .inl r105 =>
                                some ((!r105.1), (r105.2.1, (r105.2.2.1, (r105.2.2.2.1, r105.2.2.2.2))))
                              | .inr r106 =>
                                some ((!r106.1), (r106.2.1, (r106.2.2.1, (r106.2.2.2.2.2, r106.2.2.2.1))))
                          | .inr r103 =>
                            bif (!(r103.1 == 0)) then
                              some (true, (r103.2.1, (r103.2.2.1, (r103.2.2.2.2, r103.2.2.2.1))))
                            else
                              (net_Net_Drop__com fu 0 r103.2.1 r103.2.2.1 r103.2.2.2.2 r103.2.2.2.1).bind fun r107 =>
                              match r107 with
                              | .inl r108 =>
                                some ((!r108.1), (r108.2.1, (r108.2.2.1, (r108.2.2.2.1, r108.2.2.2.2))))
                              | .inr r109 =>
                                some ((!r109.1), (r109.2.1, (r109.2.2.1, (r109.2.2.2.2.2, r109.2.2.2.1))))
                  | .inr r88 =>
                    bif (!(r88.1 == 2)) then
                      some (true, (r88.2.1, (r88.2.2.1, (r88.2.2.2.2, r88.2.2.2.1))))
                    else
                      (net_Net_Send__com fu 0 299 (List.replicate (α := UInt8) 131073 0) r88.2.1 r88.2.2.1 r88.2.2.2.2 r88.2.2.2.1).bind fun r110 =>
                      match r110 with
                      | .inl r111 =>
                        bif (!(r111.1 == 3)) then
                          some (true, (r111.2.1, (r111.2.2.1, (r111.2.2.2.1, r111.2.2.2.2))))
                        else
                          (net_Net_Send__com fu 299 0 (List.replicate (α := UInt8) 131072 0) r111.2.1 r111.2.2.1 r111.2.2.2.1 r111.2.2.2.2).bind fun r113 =>
                          match r113 with
                          | .inl r114 =>
                            bif (!(r114.1 == 0)) then
                              some (true, (r114.2.1, (r114.2.2.1, (r114.2.2.2.1, r114.2.2.2.2))))
                            else
                              (net_Net_Drop__com fu 0 r114.2.1 r114.2.2.1 r114.2.2.2.1 r114.2.2.2.2).bind fun r116 =>
                              match r116 with
                              | .inl r117 =>
                                some ((!r117.1), (r117.2.1, (r117.2.2.1, (r117.2.2.2.1, r117.2.2.2.2))))
                              | .inr r118 =>
                                some ((!r118.1), (r118.2.1, (r118.2.2.1, (r118.2.2.2.2.2, r118.2.2.2.1))))
                          | .inr r115 =>
                            bif (!(r115.1 == 0)) then
                              some (true, (r115.2.1, (r115.2.2.1, (r115.2.2.2.2, r115.2.2.2.1))))
                            else
                              (net_Net_Drop__com fu 0 r115.2.1 r115.2.2.1 r115.2.2.2.2 r115.2.2.2.1).bind fun r119 =>
                              match r119 with
                              | .inl r120 =>
                                some ((!r120.1), (r120.2.1, (r120.2.2.1, (r120.2.2.2.1, r120.2.2.2.2))))
                              | .inr r121 =>
                                some ((!r121.1), (r121.2.1, (r121.2.2.1, (r121.2.2.2.2.2, r121.2.2.2.1))))
                      | .inr r112 =>
                        bif (!(r112.1 == 3)) then
                          some (true, (r112.2.1, (r112.2.2.1, (r112.2.2.2.2, r112.2.2.2.1))))
                        else
                          (net_Net_Send__com fu 299 0 (List.replicate (α := UInt8) 131072 0) r112.2.1 r112.2.2.1 r112.2.2.2.2 r112.2.2.2.1).bind fun r122 =>
                          match r122 with
                          | .inl r123 =>
                            bif (!(r123.1 == 0)) then
                              some (true, (r123.2.1, (r123.2.2.1, (r123.2.2.2.1, r123.2.2.2.2))))
                            else
                              (net_Net_Drop__com fu 0 r123.2.1 r123.2.2.1 r123.2.2.2.1 r123.2.2.2.2).bind fun r125 =>
                              match r125 with
                              | .inl r126 =>
                                some ((!r126.1), (r126.2.1, (r126.2.2.1, (r126.2.2.2.1, r126.2.2.2.2))))
                              | .inr r127 =>
                                some ((!r127.1), (r127.2.1, (r127.2.2.1, (r127.2.2.2.2.2, r127.2.2.2.1))))
                          | .inr r124 =>
                            bif (!(r124.1 == 0)) then
                              some (true, (r124.2.1, (r124.2.2.1, (r124.2.2.2.2, r124.2.2.2.1))))
                            else
                              (net_Net_Drop__com fu 0 r124.2.1 r124.2.2.1 r124.2.2.2.2 r124.2.2.2.1).bind fun r128 =>
                              match r128 with
                              | .inl r129 =>
                                some ((!r129.1), (r129.2.1, (r129.2.2.1, (r129.2.2.2.1, r129.2.2.2.2))))
                              | .inr r130 =>
                                some ((!r130.1), (r130.2.1, (r130.2.2.1, (r130.2.2.2.2.2, r130.2.2.2.1))))
          | .inr r37 =>
            bif (!(r37.1 == 2)) then
              some (true, (r37.2.1, (r37.2.2.1, (r37.2.2.2.2, r37.2.2.2.1))))
            else
              (net_Net_Send__com fu 0 300 [] r37.2.1 r37.2.2.1 r37.2.2.2.2 r37.2.2.2.1).bind fun r131 =>
              match r131 with
              | .inl r132 =>
                bif (!(r132.1 == 2)) then
                  some (true, (r132.2.1, (r132.2.2.1, (r132.2.2.2.1, r132.2.2.2.2))))
                else
                  (net_Net_Send__com fu 0 (-1) (List.replicate (α := UInt8) 131073 0) r132.2.1 r132.2.2.1 r132.2.2.2.1 r132.2.2.2.2).bind fun r134 =>
                  match r134 with
                  | .inl r135 =>
                    bif (!(r135.1 == 2)) then
                      some (true, (r135.2.1, (r135.2.2.1, (r135.2.2.2.1, r135.2.2.2.2))))
                    else
                      (net_Net_Send__com fu 0 299 (List.replicate (α := UInt8) 131073 0) r135.2.1 r135.2.2.1 r135.2.2.2.1 r135.2.2.2.2).bind fun r137 =>
                      match r137 with
                      | .inl r138 =>
                        bif (!(r138.1 == 3)) then
                          some (true, (r138.2.1, (r138.2.2.1, (r138.2.2.2.1, r138.2.2.2.2))))
                        else
                          (net_Net_Send__com fu 299 0 (List.replicate (α := UInt8) 131072 0) r138.2.1 r138.2.2.1 r138.2.2.2.1 r138.2.2.2.2).bind fun r140 =>
                          match r140 with
                          | .inl r141 =>
                            bif (!(r141.1 == 0)) then
                              some (true, (r141.2.1, (r141.2.2.1, (r141.2.2.2.1, r141.2.2.2.2))))
                            else
                              (net_Net_Drop__com fu 0 r141.2.1 r141.2.2.1 r141.2.2.2.1 r141.2.2.2.2).bind fun r143 =>
                              match r143 with
                              | .inl r144 =>
                                some ((!r144.1), (r144.2.1, (r144.2.2.1, (r144.2.2.2.1, r144.2.2.2.2))))
                              | .inr r145 =>
                                some ((!r145.1), (r145.2.1, (r145.2.2.1, (r145.2.2.2.2.2, r145.2.2.2.1))))
                          | .inr r142 =>
                            bif (!(r142.1 == 0)) then
                              some (true, (r142.2.1, (r142.2.2.1, (r142.2.2.2.2, r142.2.2.2.1))))
                            else
                              (net_Net_Drop__com fu 0 r142.2.1 r142.2.2.1 r142.2.2.2.2 r142.2.2.2.1).bind fun r146 =>
                              match r146 with
                              | .inl r147 =>
                                some ((!r147.1), (r147.2.1, (r147.2.2.1, (r147.2.2.2.1, r147.2.2.2.2))))
                              | .inr r148 =>
                                some ((!r148.1), (r148.2.1, (r148.2.2.1, (r148.2.2.2.2.2, r148.2.2.2.1))))
                      | .inr r139 =>
                        bif (!(r139.1 == 3)) then
                          some (true, (r139.2.1, (r139.2.2.1, (r139.2.2.2.2, r139.2.2.2.1))))
                        else
                          (net_Net_Send__com fu 299 0 (List.replicate (α := UInt8) 131072 0) r139.2.1 r139.2.2.1 r139.2.2.2.2 r139.2.2.2.1).bind fun r149 =>
                          match r149 with
                          | .inl r150 =>
                            bif (!(r150.1 == 0)) then
                              some (true, (r150.2.1, (r150.2.2.1, (r150.2.2.2.1, r150.2.2.2.2))))
                            else
                              (net_Net_Drop__com fu 0 r150.2.1 r150.2.2.1 r150.2.2.2.1 r150.2.2.2.2).bind fun r152 =>
                              match r152 with
                              | .inl r153 =>
                                some ((!r153.1), (r153.2.1, (r153.2.2.1, (r153.2.2.2.1, r153.2.2.2.2))))
                              | .inr r154 =>
                                some ((!r154.1), (r154.2.1, (r154.2.2.1, (r154.2.2.2.2.2, r154.2.2.2.1))))
                          | .inr r151 =>
                            bif (!(r151.1 == 0)) then
                              some (true, (r151.2.1, (r151.2.2.1, (r151.2.2.2.2, r151.2.2.2.1))))
                            else
                              (net_Net_Drop__com fu 0 r151.2.1 r151.2.2.1 r151.2.2.2.2 r151.2.2.2.1).bind fun r155 =>
                              match r155 with
                              | .inl r156 =>
                                some ((!r156.1), (r156.2.1, (r156.2.2.1, (r156.2.2.2.1, r156.2.2.2.2))))
                              | .inr r157 =>
                                some ((!r157.1), (r157.2.1, (r157.2.2.1, (r157.2.2.2.2.2, r157.2.2.2.1))))
                  | .inr r136 =>
                    bif (!(r136.1 == 2)) then
                      some (true, (r136.2.1, (r136.2.2.1, (r136.2.2.2.2, r136.2.2.2.1))))
                    else
                      (net_Net_Send__com fu 0 299 (List.replicate (α := UInt8) 131073 0) r136.2.1 r136.2.2.1 r136.2.2.2.2 r136.2.2.2.1).bind fun r158 =>
                      match r158 with
                      | .inl r159 =>
                        bif (!(r159.1 == 3)) then
                          some (true, (r159.2.1, (r159.2.2.1, (r159.2.2.2.1, r159.2.2.2.2))))
                        else
                          (net_Net_Send__com fu 299 0 (List.replicate (α := UInt8) 131072 0) r159.2.1 r159.2.2.1 r159.2.2.2.1 r159.2.2.2.2).bind fun r161 =>
                          match r161 with
                          | .inl r162 =>
                            bif (!(r162.1 == 0)) then
                              some (true, (r162.2.1, (r162.2.2.1, (r162.2.2.2.1, r162.2.2.2.2))))
                            else
                              (net_Net_Drop__com fu 0 r162.2.1 r162.2.2.1 r162.2.2.2.1 r162.2.2.2.2).bind fun r164 =>
                              match r164 with
                              | .inl r165 =>
                                some ((!r165.1), (r165.2.1, (r165.2.2.1, (r165.2.2.2.1, r165.2.2.2.2))))
                              | .inr r166 =>
                                some ((!r166.1), (r166.2.1, (r166.2.2.1, (r166.2.2.2.2.2, r166.2.2.2.1))))
                          | .inr r163 =>
                            bif (!(r163.1 == 0)) then
                              some (true, (r163.2.1, (r163.2.2.1, (r163.2.2.2.2, r163.2.2.2.1))))
                            else
                              (net_Net_Drop__com fu 0 r163.2.1 r163.2.2.1 r163.2.2.2.2 r163.2.2.2.1).bind fun r167 =>
                              match r167 with
                              | .inl r168 =>
                                some ((!r168.1), (r168.2.1, (r168.2.2.1, (r168.2.2.2.1, r168.2.2.2.2))))
                              | .inr r169 =>
                                some ((!r169.1), (r169.2.1, (r169.2.2.1, (r169.2.2.2.2.2, r169.2.2.2.1))))
                      | .inr r160 =>
                        bif (!(r160.1 == 3)) then
                          some (true, (r160.2.1, (r160.2.2.1, (r160.2.2.2.2, r160.2.2.2.1))))
                        else
                          (net_Net_Send__com fu 299 0 (List.replicate (α := UInt8) 131072 0) r160.2.1 r160.2.2.1 r160.2.2.2.2 r160.2.2.2.1).bind fun r170 =>
                          match r170 with
                          | .inl r171 =>
                            bif (!(r171.1 == 0)) then
                              some (true, (r171.2.1, (r171.2.2.1, (r171.2.2.2.1, r171.2.2.2.2))))
                            else
                              (net_Net_Drop__com fu 0 r171.2.1 r171.2.2.1 r171.2.2.2.1 r171.2.2.2.2).bind fun r173 =>
                              match r173 with
                              | .inl r174 =>
                                some ((!r174.1), (r174.2.1, (r174.2.2.1, (r174.2.2.2.1, r174.2.2.2.2))))
                              | .inr r175 =>
                                some ((!r175.1), (r175.2.1, (r175.2.2.1, (r175.2.2.2.2.2, r175.2.2.2.1))))
                          | .inr r172 =>
                            bif (!(r172.1 == 0)) then
                              some (true, (r172.2.1, (r172.2.2.1, (r172.2.2.2.2, r172.2.2.2.1))))
                            else
                              (net_Net_Drop__com fu 0 r172.2.1 r172.2.2.1 r172.2.2.2.2 r172.2.2.2.1).bind fun r176 =>
                              match r176 with
                              | .inl r177 =>
                                some ((!r177.1), (r177.2.1, (r177.2.2.1, (r177.2.2.2.1, r177.2.2.2.2))))
                              | .inr r178 =>
                                some ((!r178.1), (r178.2.1, (r178.2.2.1, (r178.2.2.2.2.2, r178.2.2.2.1))))
              | .inr r133 =>
                bif (!(r133.1 == 2)) then
                  some (true, (r133.2.1, (r133.2.2.1, (r133.2.2.2.2, r133.2.2.2.1))))
                else
                  (net_Net_Send__com fu 0 (-1) (List.replicate (α := UInt8) 131073 0) r133.2.1 r133.2.2.1 r133.2.2.2.2 r133.2.2.2.1).bind fun r179 =>
                  match r179 with
                  | .inl r180 =>
                    bif (!(r180.1 == 2)) then
                      some (true, (r180.2.1, (r180.2.2.1, (r180.2.2.2.1, r180.2.2.2.2))))
                    else
                      (net_Net_Send__com fu 0 299 (List.replicate (α := UInt8) 131073 0) r180.2.1 r180.2.2.1 r180.2.2.2.1 r180.2.2.2.2).bind fun r182 =>
                      match r182 with
                      | .inl r183 =>
                        bif (!(r183.1 == 3)) then
                          some (true, (r183.2.1, (r183.2.2.1, (r183.2.2.2.1, r183.2.2.2.2))))
                        else
                          (net_Net_Send__com fu 299 0 (List.replicate (α := UInt8) 131072 0) r183.2.1 r183.2.2.1 r183.2.2.2.1 r183.2.2.2.2).bind fun r185 =>
                          match r185 with
                          | .inl r186 =>
                            bif (!(r186.1 == 0)) then
                              some (true, (r186.2.1, (r186.2.2.1, (r186.2.2.2.1, r186.2.2.2.2))))
                            else
                              (net_Net_Drop__com fu 0 r186.2.1 r186.2.2.1 r186.2.2.2.1 r186.2.2.2.2).bind fun r188 =>
                              match r188 with
                              | .inl r189 =>
                                some ((!r189.1), (r189.2.1, (r189.2.2.1, (r189.2.2.2.1, r189.2.2.2.2))))
                              | .inr r190 =>
                                some ((!r190.1), (r190.2.1, (r190.2.2.1, (r190.2.2.2.2.2, r190.2.2.2.1))))
                          | .inr r187 =>
                            bif (!(r187.1 == 0)) then
                              some (true, (r187.2.1, (r187.2.2.1, (r187.2.2.2.2, r187.2.2.2.1))))
                            else
                              (net_Net_Drop__com fu 0 r187.2.1 r187.2.2.1 r187.2.2.2.2 r187.2.2.2.1).bind fun r191 =>
                              match r191 with
                              | .inl r192 =>
                                some ((!r192.1), (r192.2.1, (r192.2.2.1, (r192.2.2.2.1, r192.2.2.2.2))))
                              | .inr r193 =>
                                some ((!r193.1), (r193.2.1, (r193.2.2.1, (r193.2.2.2.2.2, r193.2.2.2.1))))
                      | .inr r184 =>
                        bif (!(r184.1 == 3)) then
                          some (true, (r184.2.1, (r184.2.2.1, (r184.2.2.2.2, r184.2.2.2.1))))
                        else
                          (net_Net_Send__com fu 299 0 (List.replicate (α := UInt8) 131072 0) r184.2.1 r184.2.2.1 r184.2.2.2.2 r184.2.2.2.1).bind fun r194 =>
                          match r194 with
                          | .inl r195 =>
                            bif (!(r195.1 == 0)) then
                              some (true, (r195.2.1, (r195.2.2.1, (r195.2.2.2.1, r195.2.2.2.2))))
                            else
                              (net_Net_Drop__com fu 0 r195.2.1 r195.2.2.1 r195.2.2.2.1 r195.2.2.2.2).bind fun r197 =>
                              match r197 with
                              | .inl r198 =>
                                some ((!r198.1), (r198.2.1, (r198.2.2.1, (r198.2.2.2.1, r198.2.2.2.2))))
                              | .inr r199 =>
                                some ((!r199.1), (r199.2.1, (r199.2.2.1, (r199.2.2.2.2.2, r199.2.2.2.1))))
                          | .inr r196 =>
                            bif (!(r196.1 == 0)) then
                              some (true, (r196.2.1, (r196.2.2.1, (r196.2.2.2.2, r196.2.2.2.1))))
                            else
                              (net_Net_Drop__com fu 0 r196.2.1 r196.2.2.1 r196.2.2.2.2 r196.2.2.2.1).bind fun r200 =>
                              match r200 with
                              | .inl r201 =>
                                some ((!r201.1), (r201.2.1, (r201.2.2.1, (r201.2.2.2.1, r201.2.2.2.2))))
                              | .inr r202 =>
                                some ((!r202.1), (r202.2.1, (r202.2.2.1, (r202.2.2.2.2.2, r202.2.2.2.1))))
                  | .inr r181 =>
                    bif (!(r181.1 == 2)) then
                      some (true, (r181.2.1, (r181.2.2.1, (r181.2.2.2.2, r181.2.2.2.1))))
                    else
                      (net_Net_Send__com fu 0 299 (List.replicate (α := UInt8) 131073 0) r181.2.1 r181.2.2.1 r181.2.2.2.2 r181.2.2.2.1).bind fun r203 =>
                      match r203 with
                      | .inl r204 =>
                        bif (!(r204.1 == 3)) then
                          some (true, (r204.2.1, (r204.2.2.1, (r204.2.2.2.1, r204.2.2.2.2))))
                        else
                          (net_Net_Send__com fu 299 0 (List.replicate (α := UInt8) 131072 0) r204.2.1 r204.2.2.1 r204.2.2.2.1 r204.2.2.2.2).bind fun r206 =>
                          match r206 with
                          | .inl r207 =>
                            bif (!(r207.1 == 0)) then
                              some (true, (r207.2.1, (r207.2.2.1, (r207.2.2.2.1, r207.2.2.2.2))))
                            else
                              (net_Net_Drop__com fu 0 r207.2.1 r207.2.2.1 r207.2.2.2.1 r207.2.2.2.2).bind fun r209 =>
                              match r209 with
                              | .inl r210 =>
                                some ((!r210.1), (r210.2.1, (r210.2.2.1, (r210.2.2.2.1, r210.2.2.2.2))))
                              | .inr r211 =>
                                some ((!r211.1), (r211.2.1, (r211.2.2.1, (r211.2.2.2.2.2, r211.2.2.2.1))))
                          | .inr r208 =>
                            bif (!(r208.1 == 0)) then
                              some (true, (r208.2.1, (r208.2.2.1, (r208.2.2.2.2, r208.2.2.2.1))))
                            else
                              (net_Net_Drop__com fu 0 r208.2.1 r208.2.2.1 r208.2.2.2.2 r208.2.2.2.1).bind fun r212 =>
                              match r212 with
                              | .inl r213 =>
                                some ((!r213.1), (r213.2.1, (r213.2.2.1, (r213.2.2.2.1, r213.2.2.2.2))))
                              | .inr r214 =>
                                some ((!r214.1), (r214.2.1, (r214.2.2.1, (r214.2.2.2.2.2, r214.2.2.2.1))))
                      | .inr r205 =>
                        bif (!(r205.1 == 3)) then
                          some (true, (r205.2.1, (r205.2.2.1, (r205.2.2.2.2, r205.2.2.2.1))))
                        else
                          (net_Net_Send__com fu 299 0 (List.replicate (α := UInt8) 131072 0) r205.2.1 r205.2.2.1 r205.2.2.2.2 r205.2.2.2.1).bind fun r215 =>
                          match r215 with
                          | .inl r216 =>
                            bif (!(r216.1 == 0)) then
                              some (true, (r216.2.1, (r216.2.2.1, (r216.2.2.2.1, r216.2.2.2.2))))
                            else
                              (net_Net_Drop__com fu 0 r216.2.1 r216.2.2.1 r216.2.2.2.1 r216.2.2.2.2).bind fun r218 =>
                              match r218 with
                              | .inl r219 =>
                                some ((!r219.1), (r219.2.1, (r219.2.2.1, (r219.2.2.2.1, r219.2.2.2.2))))
                              | .inr r220 =>
                                some ((!r220.1), (r220.2.1, (r220.2.2.1, (r220.2.2.2.2.2, r220.2.2.2.1))))
                          | .inr r217 =>
                            bif (!(r217.1 == 0)) then
                              some (true, (r217.2.1, (r217.2.2.1, (r217.2.2.2.2, r217.2.2.2.1))))
                            else
                              (net_Net_Drop__com fu 0 r217.2.1 r217.2.2.1 r217.2.2.2.2 r217.2.2.2.1).bind fun r221 =>
                              match r221 with
                              | .inl r222 =>
                                some ((!r222.1), (r222.2.1, (r222.2.2.1, (r222.2.2.2.1, r222.2.2.2.2))))
                              | .inr r223 =>
                                some ((!r223.1), (r223.2.1, (r223.2.2.1, (r223.2.2.2.2.2, r223.2.2.2.1))))) fun o7 =>
      bif o7.1 then
        some false
      else
        (law07_NetNumbers_l2_it fu  (0, (o7.2.1, (o7.2.2.1, (o7.2.2.2.1, o7.2.2.2.2))))).bind fun o9 =>
        match o9 with
        | .inl s2 =>
          Option.bind (α := ((Bool × (Int × (Int × (List ((Int × (Int × List (UInt8)))) × (List (((Int × Int) × Nat)) × Nat))))))) (
            (net_Net_Flying__com fu s2.1 s2.2.1 s2.2.2.1 s2.2.2.2).bind fun r227 =>
            bif (r227.1 == 10000) then
              (net_Net_Send__com fu 0 8 [] r227.2.1 r227.2.2.1 r227.2.2.2.1 r227.2.2.2.2).bind fun r228 =>
              match r228 with
              | .inl r229 =>
                bif (r229.1 == 5) then
                  (net_Net_Copy__com fu 3 r229.2.1 r229.2.2.1 r229.2.2.2.1 r229.2.2.2.2).bind fun r231 =>
                  match r231 with
                  | .inl r232 =>
                    bif (r232.1 == 5) then
                      (net_Net_Copy__com fu 10000 r232.2.1 r232.2.2.1 r232.2.2.2.1 r232.2.2.2.2).bind fun r234 =>
                      match r234 with
                      | .inl r235 =>
                        bif (r235.1 == 2) then
                          (net_Net_Copy__com fu (-1) r235.2.1 r235.2.2.1 r235.2.2.2.1 r235.2.2.2.2).bind fun r237 =>
                          match r237 with
                          | .inl r238 =>
                            bif (r238.1 == 2) then
                              (net_Net_Drop__com fu (-1) r238.2.1 r238.2.2.1 r238.2.2.2.1 r238.2.2.2.2).bind fun r240 =>
                              match r240 with
                              | .inl r241 =>
                                bif (!r241.1) then
                                  (net_Net_Drop__com fu 10000 r241.2.1 r241.2.2.1 r241.2.2.2.1 r241.2.2.2.2).bind fun r243 =>
                                  match r243 with
                                  | .inl r244 =>
                                    some ((!r244.1), (r244.2.1, (r244.2.2.1, (r244.2.2.2.1, r244.2.2.2.2))))
                                  | .inr r245 =>
                                    some ((!r245.1), (r245.2.1, (r245.2.2.1, (r245.2.2.2.2.2, r245.2.2.2.1))))
                                else
                                  some (false, (r241.2.1, (r241.2.2.1, (r241.2.2.2.1, r241.2.2.2.2))))
                              | .inr r242 =>
                                bif (!r242.1) then
                                  (net_Net_Drop__com fu 10000 r242.2.1 r242.2.2.1 r242.2.2.2.2.2 r242.2.2.2.1).bind fun r246 =>
                                  match r246 with
                                  | .inl r247 =>
                                    some ((!r247.1), (r247.2.1, (r247.2.2.1, (r247.2.2.2.1, r247.2.2.2.2))))
                                  | .inr r248 =>
                                    some ((!r248.1), (r248.2.1, (r248.2.2.1, (r248.2.2.2.2.2, r248.2.2.2.1))))
                                else
                                  some (false, (r242.2.1, (r242.2.2.1, (r242.2.2.2.2.2, r242.2.2.2.1))))
                            else
                              some (false, (r238.2.1, (r238.2.2.1, (r238.2.2.2.1, r238.2.2.2.2))))
                          | .inr r239 =>
                            bif (r239.1 == 2) then
                              (net_Net_Drop__com fu (-1) r239.2.1 r239.2.2.1 r239.2.2.2.2 r239.2.2.2.1).bind fun r249 =>
                              match r249 with
                              | .inl r250 =>
                                bif (!r250.1) then
                                  (net_Net_Drop__com fu 10000 r250.2.1 r250.2.2.1 r250.2.2.2.1 r250.2.2.2.2).bind fun r252 =>
                                  match r252 with
                                  | .inl r253 =>
                                    some ((!r253.1), (r253.2.1, (r253.2.2.1, (r253.2.2.2.1, r253.2.2.2.2))))
                                  | .inr r254 =>
                                    some ((!r254.1), (r254.2.1, (r254.2.2.1, (r254.2.2.2.2.2, r254.2.2.2.1))))
                                else
                                  some (false, (r250.2.1, (r250.2.2.1, (r250.2.2.2.1, r250.2.2.2.2))))
                              | .inr r251 =>
                                bif (!r251.1) then
                                  (net_Net_Drop__com fu 10000 r251.2.1 r251.2.2.1 r251.2.2.2.2.2 r251.2.2.2.1).bind fun r255 =>
                                  match r255 with
                                  | .inl r256 =>
                                    some ((!r256.1), (r256.2.1, (r256.2.2.1, (r256.2.2.2.1, r256.2.2.2.2))))
                                  | .inr r257 =>
                                    some ((!r257.1), (r257.2.1, (r257.2.2.1, (r257.2.2.2.2.2, r257.2.2.2.1))))
                                else
                                  some (false, (r251.2.1, (r251.2.2.1, (r251.2.2.2.2.2, r251.2.2.2.1))))
                            else
                              some (false, (r239.2.1, (r239.2.2.1, (r239.2.2.2.2, r239.2.2.2.1))))
                        else
                          some (false, (r235.2.1, (r235.2.2.1, (r235.2.2.2.1, r235.2.2.2.2))))
                      | .inr r236 =>
                        bif (r236.1 == 2) then
                          (net_Net_Copy__com fu (-1) r236.2.1 r236.2.2.1 r236.2.2.2.2 r236.2.2.2.1).bind fun r258 =>
                          match r258 with
                          | .inl r259 =>
                            bif (r259.1 == 2) then
                              (net_Net_Drop__com fu (-1) r259.2.1 r259.2.2.1 r259.2.2.2.1 r259.2.2.2.2).bind fun r261 =>
                              match r261 with
                              | .inl r262 =>
                                bif (!r262.1) then
                                  (net_Net_Drop__com fu 10000 r262.2.1 r262.2.2.1 r262.2.2.2.1 r262.2.2.2.2).bind fun r264 =>
                                  match r264 with
                                  | .inl r265 =>
                                    some ((!r265.1), (r265.2.1, (r265.2.2.1, (r265.2.2.2.1, r265.2.2.2.2))))
                                  | .inr r266 =>
                                    some ((!r266.1), (r266.2.1, (r266.2.2.1, (r266.2.2.2.2.2, r266.2.2.2.1))))
                                else
                                  some (false, (r262.2.1, (r262.2.2.1, (r262.2.2.2.1, r262.2.2.2.2))))
                              | .inr r263 =>
                                bif (!r263.1) then
                                  (net_Net_Drop__com fu 10000 r263.2.1 r263.2.2.1 r263.2.2.2.2.2 r263.2.2.2.1).bind fun r267 =>
                                  match r267 with
                                  | .inl r268 =>
                                    some ((!r268.1), (r268.2.1, (r268.2.2.1, (r268.2.2.2.1, r268.2.2.2.2))))
                                  | .inr r269 =>
                                    some ((!r269.1), (r269.2.1, (r269.2.2.1, (r269.2.2.2.2.2, r269.2.2.2.1))))
                                else
                                  some (false, (r263.2.1, (r263.2.2.1, (r263.2.2.2.2.2, r263.2.2.2.1))))
                            else
                              some (false, (r259.2.1, (r259.2.2.1, (r259.2.2.2.1, r259.2.2.2.2))))
                          | .inr r260 =>
                            bif (r260.1 == 2) then
                              (net_Net_Drop__com fu (-1) r260.2.1 r260.2.2.1 r260.2.2.2.2 r260.2.2.2.1).bind fun r270 =>
                              match r270 with
                              | .inl r271 =>
                                bif (!r271.1) then
                                  (net_Net_Drop__com fu 10000 r271.2.1 r271.2.2.1 r271.2.2.2.1 r271.2.2.2.2).bind fun r273 =>
                                  match r273 with
                                  | .inl r274 =>
                                    some ((!r274.1), (r274.2.1, (r274.2.2.1, (r274.2.2.2.1, r274.2.2.2.2))))
                                  | .inr r275 =>
                                    some ((!r275.1), (r275.2.1, (r275.2.2.1, (r275.2.2.2.2.2, r275.2.2.2.1))))
                                else
                                  some (false, (r271.2.1, (r271.2.2.1, (r271.2.2.2.1, r271.2.2.2.2))))
                              | .inr r272 =>
                                bif (!r272.1) then
                                  (net_Net_Drop__com fu 10000 r272.2.1 r272.2.2.1 r272.2.2.2.2.2 r272.2.2.2.1).bind fun r276 =>
                                  match r276 with
                                  | .inl r277 =>
                                    some ((!r277.1), (r277.2.1, (r277.2.2.1, (r277.2.2.2.1, r277.2.2.2.2))))
                                  | .inr r278 =>
                                    some ((!r278.1), (r278.2.1, (r278.2.2.1, (r278.2.2.2.2.2, r278.2.2.2.1))))
                                else
                                  some (false, (r272.2.1, (r272.2.2.1, (r272.2.2.2.2.2, r272.2.2.2.1))))
                            else
                              some (false, (r260.2.1, (r260.2.2.1, (r260.2.2.2.2, r260.2.2.2.1))))
                        else
                          some (false, (r236.2.1, (r236.2.2.1, (r236.2.2.2.2, r236.2.2.2.1))))
                    else
                      some (false, (r232.2.1, (r232.2.2.1, (r232.2.2.2.1, r232.2.2.2.2))))
                  | .inr r233 =>
                    bif (r233.1 == 5) then
                      (net_Net_Copy__com fu 10000 r233.2.1 r233.2.2.1 r233.2.2.2.2 r233.2.2.2.1).bind fun r279 =>
                      match r279 with
                      | .inl r280 =>
                        bif (r280.1 == 2) then
                          (net_Net_Copy__com fu (-1) r280.2.1 r280.2.2.1 r280.2.2.2.1 r280.2.2.2.2).bind fun r282 =>
                          match r282 with
                          | .inl r283 =>
                            bif (r283.1 == 2) then
                              (net_Net_Drop__com fu (-1) r283.2.1 r283.2.2.1 r283.2.2.2.1 r283.2.2.2.2).bind fun r285 =>
                              match r285 with
                              | .inl r286 =>
                                bif (!r286.1) then
                                  (net_Net_Drop__com fu 10000 r286.2.1 r286.2.2.1 r286.2.2.2.1 r286.2.2.2.2).bind fun r288 =>
                                  match r288 with
                                  | .inl r289 =>
                                    some ((!r289.1), (r289.2.1, (r289.2.2.1, (r289.2.2.2.1, r289.2.2.2.2))))
                                  | .inr r290 =>
                                    some ((!r290.1), (r290.2.1, (r290.2.2.1, (r290.2.2.2.2.2, r290.2.2.2.1))))
                                else
                                  some (false, (r286.2.1, (r286.2.2.1, (r286.2.2.2.1, r286.2.2.2.2))))
                              | .inr r287 =>
                                bif (!r287.1) then
                                  (net_Net_Drop__com fu 10000 r287.2.1 r287.2.2.1 r287.2.2.2.2.2 r287.2.2.2.1).bind fun r291 =>
                                  match r291 with
                                  | .inl r292 =>
                                    some ((!r292.1), (r292.2.1, (r292.2.2.1, (r292.2.2.2.1, r292.2.2.2.2))))
                                  | .inr r293 =>
                                    some ((!r293.1), (r293.2.1, (r293.2.2.1, (r293.2.2.2.2.2, r293.2.2.2.1))))
                                else
                                  some (false, (r287.2.1, (r287.2.2.1, (r287.2.2.2.2.2, r287.2.2.2.1))))
                            else
                              some (false, (r283.2.1, (r283.2.2.1, (r283.2.2.2.1, r283.2.2.2.2))))
                          | .inr r284 =>
                            bif (r284.1 == 2) then
                              (net_Net_Drop__com fu (-1) r284.2.1 r284.2.2.1 r284.2.2.2.2 r284.2.2.2.1).bind fun r294 =>
                              match r294 with
                              | .inl r295 =>
                                bif (!r295.1) then
                                  (net_Net_Drop__com fu 10000 r295.2.1 r295.2.2.1 r295.2.2.2.1 r295.2.2.2.2).bind fun r297 =>
                                  match r297 with
                                  | .inl r298 =>
                                    some ((!r298.1), (r298.2.1, (r298.2.2.1, (r298.2.2.2.1, r298.2.2.2.2))))
                                  | .inr r299 =>
                                    some ((!r299.1), (r299.2.1, (r299.2.2.1, (r299.2.2.2.2.2, r299.2.2.2.1))))
                                else
                                  some (false, (r295.2.1, (r295.2.2.1, (r295.2.2.2.1, r295.2.2.2.2))))
                              | .inr r296 =>
                                bif (!r296.1) then
                                  (net_Net_Drop__com fu 10000 r296.2.1 r296.2.2.1 r296.2.2.2.2.2 r296.2.2.2.1).bind fun r300 =>
                                  match r300 with
                                  | .inl r301 =>
                                    some ((!r301.1), (r301.2.1, (r301.2.2.1, (r301.2.2.2.1, r301.2.2.2.2))))
                                  | .inr r302 =>
                                    some ((!r302.1), (r302.2.1, (r302.2.2.1, (r302.2.2.2.2.2, r302.2.2.2.1))))
                                else
                                  some (false, (r296.2.1, (r296.2.2.1, (r296.2.2.2.2.2, r296.2.2.2.1))))
                            else
                              some (false, (r284.2.1, (r284.2.2.1, (r284.2.2.2.2, r284.2.2.2.1))))
                        else
                          some (false, (r280.2.1, (r280.2.2.1, (r280.2.2.2.1, r280.2.2.2.2))))
                      | .inr r281 =>
                        bif (r281.1 == 2) then
                          (net_Net_Copy__com fu (-1) r281.2.1 r281.2.2.1 r281.2.2.2.2 r281.2.2.2.1).bind fun r303 =>
                          match r303 with
                          | .inl r304 =>
                            bif (r304.1 == 2) then
                              (net_Net_Drop__com fu (-1) r304.2.1 r304.2.2.1 r304.2.2.2.1 r304.2.2.2.2).bind fun r306 =>
                              match r306 with
                              | .inl r307 =>
                                bif (!r307.1) then
                                  (net_Net_Drop__com fu 10000 r307.2.1 r307.2.2.1 r307.2.2.2.1 r307.2.2.2.2).bind fun r309 =>
                                  match r309 with
                                  | .inl r310 =>
                                    some ((!r310.1), (r310.2.1, (r310.2.2.1, (r310.2.2.2.1, r310.2.2.2.2))))
                                  | .inr r311 =>
                                    some ((!r311.1), (r311.2.1, (r311.2.2.1, (r311.2.2.2.2.2, r311.2.2.2.1))))
                                else
                                  some (false, (r307.2.1, (r307.2.2.1, (r307.2.2.2.1, r307.2.2.2.2))))
                              | .inr r308 =>
                                bif (!r308.1) then
                                  (net_Net_Drop__com fu 10000 r308.2.1 r308.2.2.1 r308.2.2.2.2.2 r308.2.2.2.1).bind fun r312 =>
                                  match r312 with
                                  | .inl r313 =>
                                    some ((!r313.1), (r313.2.1, (r313.2.2.1, (r313.2.2.2.1, r313.2.2.2.2))))
                                  | .inr r314 =>
                                    some ((!r314.1), (r314.2.1, (r314.2.2.1, (r314.2.2.2.2.2, r314.2.2.2.1))))
                                else
                                  some (false, (r308.2.1, (r308.2.2.1, (r308.2.2.2.2.2, r308.2.2.2.1))))
                            else
                              some (false, (r304.2.1, (r304.2.2.1, (r304.2.2.2.1, r304.2.2.2.2))))
                          | .inr r305 =>
                            bif (r305.1 == 2) then
                              (net_Net_Drop__com fu (-1) r305.2.1 r305.2.2.1 r305.2.2.2.2 r305.2.2.2.1).bind fun r315 =>
                              match r315 with
                              | .inl r316 =>
                                bif (!r316.1) then
                                  (net_Net_Drop__com fu 10000 r316.2.1 r316.2.2.1 r316.2.2.2.1 r316.2.2.2.2).bind fun r318 =>
                                  match r318 with
                                  | .inl r319 =>
                                    some ((!r319.1), (r319.2.1, (r319.2.2.1, (r319.2.2.2.1, r319.2.2.2.2))))
                                  | .inr r320 =>
                                    some ((!r320.1), (r320.2.1, (r320.2.2.1, (r320.2.2.2.2.2, r320.2.2.2.1))))
                                else
                                  some (false, (r316.2.1, (r316.2.2.1, (r316.2.2.2.1, r316.2.2.2.2))))
                              | .inr r317 =>
                                bif (!r317.1) then
                                  (net_Net_Drop__com fu 10000 r317.2.1 r317.2.2.1 r317.2.2.2.2.2 r317.2.2.2.1).bind fun r321 =>
                                  match r321 with
                                  | .inl r322 =>
                                    some ((!r322.1), (r322.2.1, (r322.2.2.1, (r322.2.2.2.1, r322.2.2.2.2))))
                                  | .inr r323 =>
                                    some ((!r323.1), (r323.2.1, (r323.2.2.1, (r323.2.2.2.2.2, r323.2.2.2.1))))
                                else
                                  some (false, (r317.2.1, (r317.2.2.1, (r317.2.2.2.2.2, r317.2.2.2.1))))
                            else
                              some (false, (r305.2.1, (r305.2.2.1, (r305.2.2.2.2, r305.2.2.2.1))))
                        else
                          some (false, (r281.2.1, (r281.2.2.1, (r281.2.2.2.2, r281.2.2.2.1))))
                    else
                      some (false, (r233.2.1, (r233.2.2.1, (r233.2.2.2.2, r233.2.2.2.1))))
                else
                  some (false, (r229.2.1, (r229.2.2.1, (r229.2.2.2.1, r229.2.2.2.2))))
              | .inr r230 =>
                bif (r230.1 == 5) then
                  (net_Net_Copy__com fu 3 r230.2.1 r230.2.2.1 r230.2.2.2.2 r230.2.2.2.1).bind fun r324 =>
                  match r324 with
                  | .inl r325 =>
                    bif (r325.1 == 5) then
                      (net_Net_Copy__com fu 10000 r325.2.1 r325.2.2.1 r325.2.2.2.1 r325.2.2.2.2).bind fun r327 =>
                      match r327 with
                      | .inl r328 =>
                        bif (r328.1 == 2) then
                          (net_Net_Copy__com fu (-1) r328.2.1 r328.2.2.1 r328.2.2.2.1 r328.2.2.2.2).bind fun r330 =>
                          match r330 with
                          | .inl r331 =>
                            bif (r331.1 == 2) then
                              (net_Net_Drop__com fu (-1) r331.2.1 r331.2.2.1 r331.2.2.2.1 r331.2.2.2.2).bind fun r333 =>
                              match r333 with
                              | .inl r334 =>
                                bif (!r334.1) then
                                  (net_Net_Drop__com fu 10000 r334.2.1 r334.2.2.1 r334.2.2.2.1 r334.2.2.2.2).bind fun r336 =>
                                  match r336 with
                                  | .inl r337 =>
                                    some ((!r337.1), (r337.2.1, (r337.2.2.1, (r337.2.2.2.1, r337.2.2.2.2))))
                                  | .inr r338 =>
                                    some ((!r338.1), (r338.2.1, (r338.2.2.1, (r338.2.2.2.2.2, r338.2.2.2.1))))
                                else
                                  some (false, (r334.2.1, (r334.2.2.1, (r334.2.2.2.1, r334.2.2.2.2))))
                              | .inr r335 =>
                                bif (!r335.1) then
                                  (net_Net_Drop__com fu 10000 r335.2.1 r335.2.2.1 r335.2.2.2.2.2 r335.2.2.2.1).bind fun r339 =>
                                  match r339 with
                                  | .inl r340 =>
                                    some ((!r340.1), (r340.2.1, (r340.2.2.1, (r340.2.2.2.1, r340.2.2.2.2))))
                                  | .inr r341 =>
                                    some ((!r341.1), (r341.2.1, (r341.2.2.1, (r341.2.2.2.2.2, r341.2.2.2.1))))
                                else
                                  some (false, (r335.2.1, (r335.2.2.1, (r335.2.2.2.2.2, r335.2.2.2.1))))
                            else
                              some (false, (r331.2.1, (r331.2.2.1, (r331.2.2.2.1, r331.2.2.2.2))))
                          | .inr r332 =>
                            bif (r332.1 == 2) then
                              (net_Net_Drop__com fu (-1) r332.2.1 r332.2.2.1 r332.2.2.2.2 r332.2.2.2.1).bind fun r342 =>
                              match r342 with
                              | .inl r343 =>
                                bif (!r343.1) then
                                  (net_Net_Drop__com fu 10000 r343.2.1 r343.2.2.1 r343.2.2.2.1 r343.2.2.2.2).bind fun r345 =>
                                  match r345 with
                                  | .inl r346 =>
                                    some ((!r346.1), (r346.2.1, (r346.2.2.1, (r346.2.2.2.1, r346.2.2.2.2))))
                                  | .inr r347 =>
                                    some ((!r347.1), (r347.2.1, (r347.2.2.1, (r347.2.2.2.2.2, r347.2.2.2.1))))
                                else
                                  some (false, (r343.2.1, (r343.2.2.1, (r343.2.2.2.1, r343.2.2.2.2))))
                              | .inr r344 =>
                                bif (!r344.1) then
                                  (net_Net_Drop__com fu 10000 r344.2.1 r344.2.2.1 r344.2.2.2.2.2 r344.2.2.2.1).bind fun r348 =>
                                  match r348 with
                                  | .inl r349 =>
                                    some ((!r349.1), (r349.2.1, (r349.2.2.1, (r349.2.2.2.1, r349.2.2.2.2))))
                                  | .inr r350 =>
                                    some ((!r350.1), (r350.2.1, (r350.2.2.1, (r350.2.2.2.2.2, r350.2.2.2.1))))
                                else
                                  some (false, (r344.2.1, (r344.2.2.1, (r344.2.2.2.2.2, r344.2.2.2.1))))
                            else
                              some (false, (r332.2.1, (r332.2.2.1, (r332.2.2.2.2, r332.2.2.2.1))))
                        else
                          some (false, (r328.2.1, (r328.2.2.1, (r328.2.2.2.1, r328.2.2.2.2))))
                      | .inr r329 =>
                        bif (r329.1 == 2) then
                          (net_Net_Copy__com fu (-1) r329.2.1 r329.2.2.1 r329.2.2.2.2 r329.2.2.2.1).bind fun r351 =>
                          match r351 with
                          | .inl r352 =>
                            bif (r352.1 == 2) then
                              (net_Net_Drop__com fu (-1) r352.2.1 r352.2.2.1 r352.2.2.2.1 r352.2.2.2.2).bind fun r354 =>
                              match r354 with
                              | .inl r355 =>
                                bif (!r355.1) then
                                  (net_Net_Drop__com fu 10000 r355.2.1 r355.2.2.1 r355.2.2.2.1 r355.2.2.2.2).bind fun r357 =>
                                  match r357 with
                                  | .inl r358 =>
                                    some ((!r358.1), (r358.2.1, (r358.2.2.1, (r358.2.2.2.1, r358.2.2.2.2))))
                                  | .inr r359 =>
                                    some ((!r359.1), (r359.2.1, (r359.2.2.1, (r359.2.2.2.2.2, r359.2.2.2.1))))
                                else
                                  some (false, (r355.2.1, (r355.2.2.1, (r355.2.2.2.1, r355.2.2.2.2))))
                              | .inr r356 =>
                                bif (!r356.1) then
                                  (net_Net_Drop__com fu 10000 r356.2.1 r356.2.2.1 r356.2.2.2.2.2 r356.2.2.2.1).bind fun r360 =>
                                  match r360 with
                                  | .inl r361 =>
                                    some ((!r361.1), (r361.2.1, (r361.2.2.1, (r361.2.2.2.1, r361.2.2.2.2))))
                                  | .inr r362 =>
                                    some ((!r362.1), (r362.2.1, (r362.2.2.1, (r362.2.2.2.2.2, r362.2.2.2.1))))
                                else
                                  some (false, (r356.2.1, (r356.2.2.1, (r356.2.2.2.2.2, r356.2.2.2.1))))
                            else
                              some (false, (r352.2.1, (r352.2.2.1, (r352.2.2.2.1, r352.2.2.2.2))))
                          | .inr r353 =>
                            bif (r353.1 == 2) then
                              (net_Net_Drop__com fu (-1) r353.2.1 r353.2.2.1 r353.2.2.2.2 r353.2.2.2.1).bind fun r363 =>
                              match r363 with
                              | .inl r364 =>
                                bif (!r364.1) then
                                  (net_Net_Drop__com fu 10000 r364.2.1 r364.2.2.1 r364.2.2.2.1 r364.2.2.2.2).bind fun r366 =>
                                  match r366 with
                                  | .inl r367 =>
                                    some ((!r367.1), (r367.2.1, (r367.2.2.1, (r367.2.2.2.1, r367.2.2.2.2))))
                                  | .inr r368 =>
                                    some ((!r368.1), (r368.2.1, (r368.2.2.1, (r368.2.2.2.2.2, r368.2.2.2.1))))
                                else
                                  some (false, (r364.2.1, (r364.2.2.1, (r364.2.2.2.1, r364.2.2.2.2))))
                              | .inr r365 =>
                                bif (!r365.1) then
                                  (net_Net_Drop__com fu 10000 r365.2.1 r365.2.2.1 r365.2.2.2.2.2 r365.2.2.2.1).bind fun r369 =>
                                  match r369 with
                                  | .inl r370 =>
                                    some ((!r370.1), (r370.2.1, (r370.2.2.1, (r370.2.2.2.1, r370.2.2.2.2))))
                                  | .inr r371 =>
                                    some ((!r371.1), (r371.2.1, (r371.2.2.1, (r371.2.2.2.2.2, r371.2.2.2.1))))
                                else
                                  some (false, (r365.2.1, (r365.2.2.1, (r365.2.2.2.2.2, r365.2.2.2.1))))
                            else
                              some (false, (r353.2.1, (r353.2.2.1, (r353.2.2.2.2, r353.2.2.2.1))))
                        else
                          some (false, (r329.2.1, (r329.2.2.1, (r329.2.2.2.2, r329.2.2.2.1))))
                    else
                      some (false, (r325.2.1, (r325.2.2.1, (r325.2.2.2.1, r325.2.2.2.2))))
                  | .inr r326 =>
                    bif (r326.1 == 5) then
                      (net_Net_Copy__com fu 10000 r326.2.1 r326.2.2.1 r326.2.2.2.2 r326.2.2.2.1).bind fun r372 =>
                      match r372 with
                      | .inl r373 =>
                        bif (r373.1 == 2) then
                          (net_Net_Copy__com fu (-1) r373.2.1 r373.2.2.1 r373.2.2.2.1 r373.2.2.2.2).bind fun r375 =>
                          match r375 with
                          | .inl r376 =>
                            bif (r376.1 == 2) then
                              (net_Net_Drop__com fu (-1) r376.2.1 r376.2.2.1 r376.2.2.2.1 r376.2.2.2.2).bind fun r378 =>
                              match r378 with
                              | .inl r379 =>
                                bif (!r379.1) then
                                  (net_Net_Drop__com fu 10000 r379.2.1 r379.2.2.1 r379.2.2.2.1 r379.2.2.2.2).bind fun r381 =>
                                  match r381 with
                                  | .inl r382 =>
                                    some ((!r382.1), (r382.2.1, (r382.2.2.1, (r382.2.2.2.1, r382.2.2.2.2))))
                                  | .inr r383 =>
                                    some ((!r383.1), (r383.2.1, (r383.2.2.1, (r383.2.2.2.2.2, r383.2.2.2.1))))
                                else
                                  some (false, (r379.2.1, (r379.2.2.1, (r379.2.2.2.1, r379.2.2.2.2))))
                              | .inr r380 =>
                                bif (!r380.1) then
                                  (net_Net_Drop__com fu 10000 r380.2.1 r380.2.2.1 r380.2.2.2.2.2 r380.2.2.2.1).bind fun r384 =>
                                  match r384 with
                                  | .inl r385 =>
                                    some ((!r385.1), (r385.2.1, (r385.2.2.1, (r385.2.2.2.1, r385.2.2.2.2))))
                                  | .inr r386 =>
                                    some ((!r386.1), (r386.2.1, (r386.2.2.1, (r386.2.2.2.2.2, r386.2.2.2.1))))
                                else
                                  some (false, (r380.2.1, (r380.2.2.1, (r380.2.2.2.2.2, r380.2.2.2.1))))
                            else
                              some (false, (r376.2.1, (r376.2.2.1, (r376.2.2.2.1, r376.2.2.2.2))))
                          | .inr r377 =>
                            bif (r377.1 == 2) then
                              (net_Net_Drop__com fu (-1) r377.2.1 r377.2.2.1 r377.2.2.2.2 r377.2.2.2.1).bind fun r387 =>
                              match r387 with
                              | .inl r388 =>
                                bif (!r388.1) then
                                  (net_Net_Drop__com fu 10000 r388.2.1 r388.2.2.1 r388.2.2.2.1 r388.2.2.2.2).bind fun r390 =>
                                  match r390 with
                                  | .inl r391 =>
                                    some ((!r391.1), (r391.2.1, (r391.2.2.1, (r391.2.2.2.1, r391.2.2.2.2))))
                                  | .inr r392 =>
                                    some ((!r392.1), (r392.2.1, (r392.2.2.1, (r392.2.2.2.2.2, r392.2.2.2.1))))
                                else
                                  some (false, (r388.2.1, (r388.2.2.1, (r388.2.2.2.1, r388.2.2.2.2))))
                              | .inr r389 =>
                                bif (!r389.1) then
                                  (net_Net_Drop__com fu 10000 r389.2.1 r389.2.2.1 r389.2.2.2.2.2 r389.2.2.2.1).bind fun r393 =>
                                  match r393 with
                                  | .inl r394 =>
                                    some ((!r394.1), (r394.2.1, (r394.2.2.1, (r394.2.2.2.1, r394.2.2.2.2))))
                                  | .inr r395 =>
                                    some ((!r395.1), (r395.2.1, (r395.2.2.1, (r395.2.2.2.2.2, r395.2.2.2.1))))
                                else
                                  some (false, (r389.2.1, (r389.2.2.1, (r389.2.2.2.2.2, r389.2.2.2.1))))
                            else
                              some (false, (r377.2.1, (r377.2.2.1, (r377.2.2.2.2, r377.2.2.2.1))))
                        else
                          some (false, (r373.2.1, (r373.2.2.1, (r373.2.2.2.1, r373.2.2.2.2))))
                      | .inr r374 =>
                        bif (r374.1 == 2) then
                          (net_Net_Copy__com fu (-1) r374.2.1 r374.2.2.1 r374.2.2.2.2 r374.2.2.2.1).bind fun r396 =>
                          match r396 with
                          | .inl r397 =>
                            bif (r397.1 == 2) then
                              (net_Net_Drop__com fu (-1) r397.2.1 r397.2.2.1 r397.2.2.2.1 r397.2.2.2.2).bind fun r399 =>
                              match r399 with
                              | .inl r400 =>
                                bif (!r400.1) then
                                  (net_Net_Drop__com fu 10000 r400.2.1 r400.2.2.1 r400.2.2.2.1 r400.2.2.2.2).bind fun r402 =>
                                  match r402 with
                                  | .inl r403 =>
                                    some ((!r403.1), (r403.2.1, (r403.2.2.1, (r403.2.2.2.1, r403.2.2.2.2))))
                                  | .inr r404 =>
                                    some ((!r404.1), (r404.2.1, (r404.2.2.1, (r404.2.2.2.2.2, r404.2.2.2.1))))
                                else
                                  some (false, (r400.2.1, (r400.2.2.1, (r400.2.2.2.1, r400.2.2.2.2))))
                              | .inr r401 =>
                                bif (!r401.1) then
                                  (net_Net_Drop__com fu 10000 r401.2.1 r401.2.2.1 r401.2.2.2.2.2 r401.2.2.2.1).bind fun r405 =>
                                  match r405 with
                                  | .inl r406 =>
                                    some ((!r406.1), (r406.2.1, (r406.2.2.1, (r406.2.2.2.1, r406.2.2.2.2))))
                                  | .inr r407 =>
                                    some ((!r407.1), (r407.2.1, (r407.2.2.1, (r407.2.2.2.2.2, r407.2.2.2.1))))
                                else
                                  some (false, (r401.2.1, (r401.2.2.1, (r401.2.2.2.2.2, r401.2.2.2.1))))
                            else
                              some (false, (r397.2.1, (r397.2.2.1, (r397.2.2.2.1, r397.2.2.2.2))))
                          | .inr r398 =>
                            bif (r398.1 == 2) then
                              (net_Net_Drop__com fu (-1) r398.2.1 r398.2.2.1 r398.2.2.2.2 r398.2.2.2.1).bind fun r408 =>
                              match r408 with
                              | .inl r409 =>
                                bif (!r409.1) then
                                  (net_Net_Drop__com fu 10000 r409.2.1 r409.2.2.1 r409.2.2.2.1 r409.2.2.2.2).bind fun r411 =>
                                  match r411 with
                                  | .inl r412 =>
                                    some ((!r412.1), (r412.2.1, (r412.2.2.1, (r412.2.2.2.1, r412.2.2.2.2))))
                                  | .inr r413 =>
                                    some ((!r413.1), (r413.2.1, (r413.2.2.1, (r413.2.2.2.2.2, r413.2.2.2.1))))
                                else
                                  some (false, (r409.2.1, (r409.2.2.1, (r409.2.2.2.1, r409.2.2.2.2))))
                              | .inr r410 =>
                                bif (!r410.1) then
                                  (net_Net_Drop__com fu 10000 r410.2.1 r410.2.2.1 r410.2.2.2.2.2 r410.2.2.2.1).bind fun r414 =>
                                  match r414 with
                                  | .inl r415 =>
                                    some ((!r415.1), (r415.2.1, (r415.2.2.1, (r415.2.2.2.1, r415.2.2.2.2))))
                                  | .inr r416 =>
                                    some ((!r416.1), (r416.2.1, (r416.2.2.1, (r416.2.2.2.2.2, r416.2.2.2.1))))
                                else
                                  some (false, (r410.2.1, (r410.2.2.1, (r410.2.2.2.2.2, r410.2.2.2.1))))
                            else
                              some (false, (r398.2.1, (r398.2.2.1, (r398.2.2.2.2, r398.2.2.2.1))))
                        else
                          some (false, (r374.2.1, (r374.2.2.1, (r374.2.2.2.2, r374.2.2.2.1))))
                    else
                      some (false, (r326.2.1, (r326.2.2.1, (r326.2.2.2.2, r326.2.2.2.1))))
                else
                  some (false, (r230.2.1, (r230.2.2.1, (r230.2.2.2.2, r230.2.2.2.1))))
            else
              some (false, (r227.2.1, (r227.2.2.1, (r227.2.2.2.1, r227.2.2.2.2))))) fun o11 =>
          Option.bind (α := ((Bool × (Int × (Int × (List ((Int × (Int × List (UInt8)))) × (List (((Int × Int) × Nat)) × Nat))))))) (
            (net_Net_Take__com fu 10000 o11.2.1 o11.2.2.1 o11.2.2.2.1 o11.2.2.2.2).bind fun r417 =>
            match r417 with
            | .inl r418 =>
              some (r418.2.2.2.1, (r418.2.2.2.2.1, (r418.2.2.2.2.2.1, (r418.2.2.2.2.2.2.1, r418.2.2.2.2.2.2.2))))
            | .inr r419 =>
              some (r419.2.2.2.1, (r419.2.2.2.2.1, (r419.2.2.2.2.2.1, (r419.2.2.2.2.2.2.2.2, r419.2.2.2.2.2.2.1))))) fun o12 =>
          (net_Net_Look__com fu (-1) o12.2.1 o12.2.2.1 o12.2.2.2.1 o12.2.2.2.2).bind fun r420 =>
          Option.bind (α := (Bool)) (
            bif (!o12.1) then
              bif (!r420.2.2.2.1) then
                (net_Net_Waiting__com fu 3 r420.2.2.2.2.1 r420.2.2.2.2.2.1 r420.2.2.2.2.2.2.1 r420.2.2.2.2.2.2.2).bind fun r421 =>
                bif (r421.1 == 1429) then
                  (net_Net_Waiting__com fu 6 r421.2.1 r421.2.2.1 r421.2.2.2.1 r421.2.2.2.2).bind fun r422 =>
                  bif (r422.1 == 1428) then
                    (net_Net_Waiting__com fu 7 r422.2.1 r422.2.2.1 r422.2.2.2.1 r422.2.2.2.2).bind fun r423 =>
                    bif (r423.1 == 0) then
                      (net_Net_Waiting__com fu (-5) r423.2.1 r423.2.2.1 r423.2.2.2.1 r423.2.2.2.2).bind fun r424 =>
                      bif (r424.1 == 0) then
                        (net_Net_Forget__com fu 3 r424.2.1 r424.2.2.1 r424.2.2.2.1 r424.2.2.2.2).bind fun r425 =>
                        bif (r425.1 == 1429) then
                          (net_Net_Forget__com fu 3 r425.2.1 r425.2.2.1 r425.2.2.2.2 r425.2.2.2.1).bind fun r426 =>
                          bif (r426.1 == 0) then
                            (net_Net_Forget__com fu 900 r426.2.1 r426.2.2.1 r426.2.2.2.2 r426.2.2.2.1).bind fun r427 =>
                            bif (r427.1 == 0) then
                              (net_Net_Flying__com fu r427.2.1 r427.2.2.1 r427.2.2.2.2 r427.2.2.2.1).bind fun r428 =>
                              bif (r428.1 == 8571) then
                                (net_Net_Send__com fu 0 8 [] r428.2.1 r428.2.2.1 r428.2.2.2.1 r428.2.2.2.2).bind fun r429 =>
                                match r429 with
                                | .inl r430 =>
                                  some (r430.1 == 0)
                                | .inr r431 =>
                                  some (r431.1 == 0)
                              else
                                some false
                            else
                              some false
                          else
                            some false
                        else
                          some false
                      else
                        some false
                    else
                      some false
                  else
                    some false
                else
                  some false
              else
                some false
            else
              some false) fun o13 =>
          bif o11.1 then
            bif o13 then
              (law07_awake fu).bind fun r432 =>
              some r432
            else
              some false
          else
            some false
        | .inr o10 =>
          some o10
  | .inr o1 =>
    some o1
def law07_NetNumbers_fa : FnA := ⟨.two (.leaf) (.two (.two (.reg [(5, { ids := [100] })]) (.one (.loop ⟨[19, 21], ⟨(.cons (.slf 2 100) (.cons (.p (.int .i64)) .nil)), [(100, false, (.rows 22 (.arr 2 (.int .i64))))]⟩⟩ true [(0, ⟨[], ⟨.nil, []⟩⟩)] (.two (.leaf) (.two (.leaf) (.two (.one (.two (.reg [(3, { ids := [101] })]) (.two (.reg [(4, { ids := [102, 103] })]) (.two (.leaf) (.two (.leaf) (.leaf)))))) (.leaf))))))) (.two (.reg [(0, { ids := [105, 106] })]) (.sel (.slot 5 (.nilp (.pointer none))) (.two (.two (.join ⟨[81], ⟨(.cons (.p .bool) .nil), []⟩⟩ false [] (.reg [(4, { fn := 1 }), (9, { fn := 1 }), (14, { ids := [108] }), (15, { md := [0, 0, 0, 2], fn := 1 }), (20, { ids := [109] }), (21, { md := [0, 0, 0, 2], fn := 1 }), (26, { ids := [110] }), (27, { md := [0, 0, 0, 2], fn := 1 }), (32, { fn := 2 })])) (.two (.leaf) (.leaf))) (.two (.two (.leaf) (.one (.loop ⟨[7], ⟨(.cons (.p (.int .i64)) .nil), []⟩⟩ true [(2, ⟨[], ⟨.nil, []⟩⟩)] (.two (.two (.leaf) (.leaf)) (.two (.one (.two (.reg [(5, { fn := 1 })]) (.two (.leaf) (.leaf)))) (.leaf)))))) (.two (.join ⟨[8], ⟨(.cons (.p .bool) .nil), []⟩⟩ false [] (.reg [(1, { fn := 3 }), (5, { fn := 1 }), (10, { fn := 4 }), (15, { fn := 4 }), (20, { fn := 4 }), (25, { fn := 2 }), (30, { fn := 2 })])) (.two (.reg [(1, { fn := 5 }), (5, { ids := [111] })]) (.two (.reg [(1, { fn := 6 }), (5, { ids := [112] })]) (.two (.join ⟨[13], ⟨(.cons (.p .bool) .nil), []⟩⟩ false [] (.reg [(8, { fn := 7 }), (13, { fn := 7 }), (18, { fn := 7 }), (23, { fn := 7 }), (28, { fn := 8 }), (33, { fn := 8 }), (38, { fn := 8 }), (43, { fn := 3 }), (48, { fn := 1 })])) (.two (.reg [(5, { fn := 9 })]) (.leaf)))))))) (.pre (.ownCell 105 2 34 108) (.two (.two (.join ⟨[5, 81], ⟨(.cons (.own 0 105 0 0) (.cons (.p .bool) .nil)), [(105, false, (.vars (.cons (.p (.int .i64)) (.cons (.p (.int .i64)) (.cons (.slf 3 108) (.cons (.mp 106) .nil)))))), (108, false, (.rows 34 (.pair (.int .i64) (.pair (.int .i64) (.sl .byte))))), (106, false, (.map (.int .i64) (.int .i64)))]⟩⟩ false [] (.reg [(4, { ids := [109], sh := [105, 108, 106], fn := 10 }), (9, { ids := [110], sh := [105, 108, 106], fn := 10, more := [{ ids := [110], sh := [105, 109, 106], fn := 10 }] }), (14, { ids := [111] }), (15, { ids := [112], sh := [105, 108, 106], md := [0, 0, 0, 1], fn := 10, more := [{ ids := [112], sh := [105, 110, 106], md := [0, 0, 0, 1], fn := 10 }, { ids := [112], sh := [105, 109, 106], md := [0, 0, 0, 1], fn := 10 }] }), (20, { ids := [113] }), (21, { ids := [114], sh := [105, 108, 106], md := [0, 0, 0, 1], fn := 10, more := [{ ids := [114], sh := [105, 112, 106], md := [0, 0, 0, 1], fn := 10 }, { ids := [114], sh := [105, 110, 106], md := [0, 0, 0, 1], fn := 10 }, { ids := [114], sh := [105, 109, 106], md := [0, 0, 0, 1], fn := 10 }] }), (26, { ids := [115] }), (27, { ids := [116], sh := [105, 108, 106], md := [0, 0, 0, 1], fn := 10, more := [{ ids := [116], sh := [105, 114, 106], md := [0, 0, 0, 1], fn := 10 }, { ids := [116], sh := [105, 112, 106], md := [0, 0, 0, 1], fn := 10 }, { ids := [116], sh := [105, 110, 106], md := [0, 0, 0, 1], fn := 10 }, { ids := [116], sh := [105, 109, 106], md := [0, 0, 0, 1], fn := 10 }] }), (32, { ids := [117], sh := [105, 108, 106], fn := 11, more := [{ ids := [117], sh := [105, 116, 106], fn := 11 }, { ids := [117], sh := [105, 114, 106], fn := 11 }, { ids := [117], sh := [105, 112, 106], fn := 11 }, { ids := [117], sh := [105, 110, 106], fn := 11 }, { ids := [117], sh := [105, 109, 106], fn := 11 }] })])) (.two (.leaf) (.leaf))) (.two (.two (.leaf) (.one (.loop ⟨[5, 7], ⟨(.cons (.own 0 105 0 0) (.cons (.p (.int .i64)) .nil)), [(105, false, (.vars (.cons (.p (.int .i64)) (.cons (.p (.int .i64)) (.cons (.slf 3 108) (.cons (.mp 106) .nil)))))), (108, false, (.rows 34 (.pair (.int .i64) (.pair (.int .i64) (.sl .byte))))), (106, false, (.map (.int .i64) (.int .i64)))]⟩⟩ true [(2, ⟨[5], ⟨(.cons (.own 0 105 0 0) .nil), [(105, false, (.vars (.cons (.p (.int .i64)) (.cons (.p (.int .i64)) (.cons (.slf 3 108) (.cons (.mp 106) .nil)))))), (108, false, (.rows 34 (.pair (.int .i64) (.pair (.int .i64) (.sl .byte))))), (106, false, (.map (.int .i64) (.int .i64)))]⟩⟩)] (.two (.two (.leaf) (.leaf)) (.two (.one (.two (.join ⟨[5, 92], ⟨(.cons (.own 0 105 0 0) (.cons (.p .bool) .nil)), [(105, false, (.vars (.cons (.p (.int .i64)) (.cons (.p (.int .i64)) (.cons (.slf 3 108) (.cons (.mp 106) .nil)))))), (108, false, (.rows 34 (.pair (.int .i64) (.pair (.int .i64) (.sl .byte))))), (106, false, (.map (.int .i64) (.int .i64)))]⟩⟩ false [] (.reg [(5, { ids := [118], sh := [105, 108, 106], fn := 10 })])) (.two (.leaf) (.leaf)))) (.leaf)))))) (.two (.join ⟨[5, 8], ⟨(.cons (.own 0 105 0 0) (.cons (.p .bool) .nil)), [(105, false, (.vars (.cons (.p (.int .i64)) (.cons (.p (.int .i64)) (.cons (.slf 3 108) (.cons (.mp 106) .nil)))))), (108, false, (.rows 34 (.pair (.int .i64) (.pair (.int .i64) (.sl .byte))))), (106, false, (.map (.int .i64) (.int .i64)))]⟩⟩ false [] (.reg [(1, { sh := [105, 108, 106], fn := 12 }), (5, { ids := [119], sh := [105, 108, 106], fn := 10 }), (10, { ids := [120], sh := [105, 108, 106], fn := 13, more := [{ ids := [120], sh := [105, 119, 106], fn := 13 }] }), (15, { ids := [121], sh := [105, 108, 106], fn := 13, more := [{ ids := [121], sh := [105, 120, 106], fn := 13 }, { ids := [121], sh := [105, 119, 106], fn := 13 }] }), (20, { ids := [122], sh := [105, 108, 106], fn := 13, more := [{ ids := [122], sh := [105, 121, 106], fn := 13 }, { ids := [122], sh := [105, 120, 106], fn := 13 }, { ids := [122], sh := [105, 119, 106], fn := 13 }] }), (25, { ids := [123], sh := [105, 108, 106], fn := 11, more := [{ ids := [123], sh := [105, 122, 106], fn := 11 }, { ids := [123], sh := [105, 121, 106], fn := 11 }, { ids := [123], sh := [105, 120, 106], fn := 11 }, { ids := [123], sh := [105, 119, 106], fn := 11 }] }), (30, { ids := [124], sh := [105, 108, 106], fn := 11, more := [{ ids := [124], sh := [105, 123, 106], fn := 11 }, { ids := [124], sh := [105, 122, 106], fn := 11 }, { ids := [124], sh := [105, 121, 106], fn := 11 }, { ids := [124], sh := [105, 120, 106], fn := 11 }, { ids := [124], sh := [105, 119, 106], fn := 11 }] })])) (.two (.join ⟨[5, 10], ⟨(.cons (.own 0 105 0 0) (.cons (.p .bool) .nil)), [(105, false, (.vars (.cons (.p (.int .i64)) (.cons (.p (.int .i64)) (.cons (.slf 3 108) (.cons (.mp 106) .nil)))))), (108, false, (.rows 34 (.pair (.int .i64) (.pair (.int .i64) (.sl .byte))))), (106, false, (.map (.int .i64) (.int .i64)))]⟩⟩ false [] (.reg [(1, { ids := [125], sh := [105, 108, 106], fn := 14 }), (5, { ids := [126] })])) (.two (.reg [(1, { sh := [105, 108, 106], fn := 15 }), (5, { ids := [127] })]) (.two (.join ⟨[13], ⟨(.cons (.p .bool) .nil), []⟩⟩ false [] (.reg [(8, { sh := [105, 108, 106], fn := 16 }), (13, { sh := [105, 108, 106], fn := 16 }), (18, { sh := [105, 108, 106], fn := 16 }), (23, { sh := [105, 108, 106], fn := 16 }), (28, { ids := [128], sh := [105, 108, 106], fn := 17 }), (33, { ids := [129], sh := [105, 128, 106], fn := 17 }), (38, { ids := [130], sh := [105, 129, 106], fn := 17 }), (43, { sh := [105, 130, 106], fn := 12 }), (48, { ids := [131], sh := [105, 130, 106], fn := 10 })])) (.two (.reg [(5, { fn := 9 })]) (.leaf)))))))))))), ⟨.nil, []⟩, [⟨(.cons (.p .bool) .nil), []⟩], [0]⟩
def law07_NetNumbers_ft (fu : Nat) : FnT := ⟨3, ⟨.nil, []⟩, [⟨(.cons (.p .bool) .nil), []⟩], fun t => law07_NetNumbers fu ⟩
theorem law07_NetNumbers_eq (fu : Nat) : ∀ t, evF Go.Proofs.Try.prog [net_New_ft fu, net_Net_Send_n0_ft fu, net_Net_Drop_n0_ft fu, net_Net_Flying_n0_ft fu, net_Net_Copy_n0_ft fu, net_Net_Take_n0_ft fu, net_Net_Look_n0_ft fu, net_Net_Waiting_n0_ft fu, net_Net_Forget_n0_ft fu, law07_awake_ft fu, net_Net_Send__com_ft fu, net_Net_Drop__com_ft fu, net_Net_Flying__com_ft fu, net_Net_Copy__com_ft fu, net_Net_Take__com_ft fu, net_Net_Look__com_ft fu, net_Net_Waiting__com_ft fu, net_Net_Forget__com_ft fu] fu Go.Proofs.Try.f3 law07_NetNumbers_fa t = (law07_NetNumbers_ft fu).spec t := fun t => by kernel_rfl
theorem law07_NetNumbers_told (fu : Nat) : Told Go.Proofs.Try.prog (law07_NetNumbers_ft fu) := told_of (allT_cons (net_New_told fu) (allT_cons (net_Net_Send_n0_told fu) (allT_cons (net_Net_Drop_n0_told fu) (allT_cons (net_Net_Flying_n0_told fu) (allT_cons (net_Net_Copy_n0_told fu) (allT_cons (net_Net_Take_n0_told fu) (allT_cons (net_Net_Look_n0_told fu) (allT_cons (net_Net_Waiting_n0_told fu) (allT_cons (net_Net_Forget_n0_told fu) (allT_cons (law07_awake_told fu) (allT_cons (net_Net_Send__com_told fu) (allT_cons (net_Net_Drop__com_told fu) (allT_cons (net_Net_Flying__com_told fu) (allT_cons (net_Net_Copy__com_told fu) (allT_cons (net_Net_Take__com_told fu) (allT_cons (net_Net_Look__com_told fu) (allT_cons (net_Net_Waiting__com_told fu) (allT_cons (net_Net_Forget__com_told fu) allT_nil)))))))))))))))))) mixed Go.Proofs.Try.func3 (by kernel_rfl) (by kernel_rfl) (law07_NetNumbers_eq fu)

def law07_NetMost_l0 (fu : Nat) (most : Int) (i : Int) : Option (Int ⊕ (Unit ⊕ Bool)) :=
  bif (decide (i < (IntKind.wrap .i64 (1 + (IntKind.wrap .i64 (Int.tmod most 40)))))) then
    Option.bind (α := (Int)) (
      bif ((Int.tmod i 2) == 0) then
        (byte? (IntKind.wrap .u8 i)).bind fun c =>
        (net_Net_Send_n0 fu 0 1 [c]).bind fun r3 =>
        some r3
      else
        (net_Net_Copy_n0 fu 0).bind fun r4 =>
        some r4) fun o =>
    Option.bind (α := (Bool)) (
      bif (!(o == 0)) then
        some true
      else
        (net_Net_Waiting_n0 fu 1).bind fun r5 =>
        some (!(r5 == (IntKind.wrap .i64 (i + 1))))) fun o1 =>
    bif o1 then
      some (.inr (.inr false))
    else
      some (.inl (IntKind.wrap .i64 (i + 1)))
  else
    some (.inr (.inl ()))
def law07_NetMost_l0_it (fu : Nat) (most : Int) (tt : Int) : Option (Unit ⊕ Bool) :=
  iter fu (fun tt => law07_NetMost_l0 fu most tt) tt
def law07_NetMost_l1 (fu : Nat) (most : Int) (i1 : Int) (h : Int) (h1 : Int) (h2 : List ((Int × (Int × List (UInt8))))) (h3 : (List (((Int × Int) × Nat)) × Nat)) : Option ((Int × (Int × (Int × (List ((Int × (Int × List (UInt8)))) × (List (((Int × Int) × Nat)) × Nat))))) ⊕ ((Int × (Int × (List ((Int × (Int × List (UInt8)))) × (List (((Int × Int) × Nat)) × Nat)))) ⊕ Bool)) :=
  bif (decide (i1 < (IntKind.wrap .i64 (1 + (IntKind.wrap .i64 (Int.tmod most 40)))))) then
    Option.bind (α := ((Int × (Int × (Int × (List ((Int × (Int × List (UInt8)))) × (List (((Int × Int) × Nat)) × Nat))))))) (
      bif ((Int.tmod i1 2) == 0) then
        Option.bind (α := ((Int × (Int × (Int × (List ((Int × (Int × List (UInt8)))) × (List (((Int × Int) × Nat)) × Nat))))))) (
          (byte? (IntKind.wrap .u8 i1)).bind fun c1 =>
          (net_Net_Send__com fu 0 1 [c1] h h1 h2 h3).bind fun r17 =>
          match r17 with
          | .inl r18 =>
            some (r18.1, (r18.2.1, (r18.2.2.1, (r18.2.2.2.1, r18.2.2.2.2))))
          | .inr r19 =>
            some (r19.1, (r19.2.1, (r19.2.2.1, (r19.2.2.2.2, r19.2.2.2.1))))) fun o7 =>
        some (o7.1, (o7.2.1, (o7.2.2.1, (o7.2.2.2.1, o7.2.2.2.2))))
      else
        Option.bind (α := ((Int × (Int × (Int × (List ((Int × (Int × List (UInt8)))) × (List (((Int × Int) × Nat)) × Nat))))))) (
          (net_Net_Copy__com fu 0 h h1 h2 h3).bind fun r20 =>
          match r20 with
          | .inl r21 =>
            some (r21.1, (r21.2.1, (r21.2.2.1, (r21.2.2.2.1, r21.2.2.2.2))))
          | .inr r22 =>
            some (r22.1, (r22.2.1, (r22.2.2.1, (r22.2.2.2.2, r22.2.2.2.1))))) fun o8 =>
        some (o8.1, (o8.2.1, (o8.2.2.1, (o8.2.2.2.1, o8.2.2.2.2))))) fun o9 =>
    Option.bind (α := ((Bool × (Int × (Int × (List ((Int × (Int × List (UInt8)))) × (List (((Int × Int) × Nat)) × Nat))))))) (
      bif (!(o9.1 == 0)) then
        some (true, (o9.2.1, (o9.2.2.1, (o9.2.2.2.1, o9.2.2.2.2))))
      else
        (net_Net_Waiting__com fu 1 o9.2.1 o9.2.2.1 o9.2.2.2.1 o9.2.2.2.2).bind fun r23 =>
        some ((!(r23.1 == (IntKind.wrap .i64 (i1 + 1)))), (r23.2.1, (r23.2.2.1, (r23.2.2.2.1, r23.2.2.2.2))))) fun o10 =>
    bif o10.1 then
      some (.inr (.inr false))
    else
      some (.inl ((IntKind.wrap .i64 (i1 + 1)), (o10.2.1, (o10.2.2.1, (o10.2.2.2.1, o10.2.2.2.2)))))
  else
    some (.inr (.inl (h, (h1, (h2, h3)))))
def law07_NetMost_l1_it (fu : Nat) (most : Int) (tt : (Int × (Int × (Int × (List ((Int × (Int × List (UInt8)))) × (List (((Int × Int) × Nat)) × Nat)))))) : Option ((Int × (Int × (List ((Int × (Int × List (UInt8)))) × (List (((Int × Int) × Nat)) × Nat)))) ⊕ Bool) :=
  iter fu (fun tt => law07_NetMost_l1 fu most tt.1 tt.2.1 tt.2.2.1 tt.2.2.2.1 tt.2.2.2.2) tt
def law07_NetMost (fu : Nat) (most : Int) (way : Int) : Option (Bool) :=
  (net_New fu 2 (IntKind.wrap .i64 (1 + (IntKind.wrap .i64 (Int.tmod most 40))))).bind fun r =>
  match r with
  | .inl r1 =>
    bif (!(r1 == 0)) then
      some false
    else
      (law07_NetMost_l0_it fu most 0).bind fun o2 =>
      match o2 with
      | .inl s =>
        Option.bind (α := (Bool)) (
          (net_Net_Send_n0 fu 1 1 []).bind fun r6 =>
          bif (!(r6 == 5)) then
            some true
          else
            (net_Net_Copy_n0 fu 0).bind fun r7 =>
            bif (!(r7 == 5)) then
              some true
            else
              (net_Net_Send_n0 fu 1 0 []).bind fun r8 =>
              some (!(r8 == 0))) fun o4 =>
        bif o4 then
          some false
        else
          Option.bind (α := (Int)) (
            bif ((Int.tmod way 3) == 0) then
              (net_Net_Take_n0 fu 0).bind fun r9 =>
              some (IntKind.wrap .i64 ((IntKind.wrap .i64 (1 + (IntKind.wrap .i64 (Int.tmod most 40)))) - 1))
            else
              Option.bind (α := (Int)) (
                bif ((Int.tmod way 3) == 1) then
                  (net_Net_Drop_n0 fu (IntKind.wrap .i64 ((IntKind.wrap .i64 (1 + (IntKind.wrap .i64 (Int.tmod most 40)))) - 1))).bind fun r10 =>
                  some (IntKind.wrap .i64 ((IntKind.wrap .i64 (1 + (IntKind.wrap .i64 (Int.tmod most 40)))) - 1))
                else
                  (net_Net_Forget_n0 fu 1).bind fun r11 =>
                  some 0) fun o5 =>
              some o5) fun o6 =>
          (net_Net_Waiting_n0 fu 1).bind fun r12 =>
          bif (r12 == o6) then
            (net_Net_Waiting_n0 fu 0).bind fun r13 =>
            bif (r13 == 1) then
              (net_Net_Send_n0 fu 0 1 []).bind fun r14 =>
              bif (r14 == 0) then
                (net_Net_Waiting_n0 fu 1).bind fun r15 =>
                bif (r15 == (IntKind.wrap .i64 (o6 + 1))) then
                  (law07_awake fu).bind fun r16 =>
                  some r16
                else
                  some false
              else
                some false
            else
              some false
          else
            some false
      | .inr o3 =>
        some o3
  | .inr r2 =>
    bif (!(r2.1 == 0)) then
      some false
    else
      (law07_NetMost_l1_it fu most (0, (r2.2.1, (r2.2.2.1, ([], r2.2.2.2))))).bind fun o11 =>
      match o11 with
      | .inl s1 =>
        Option.bind (α := ((Bool × (Int × (Int × (List ((Int × (Int × List (UInt8)))) × (List (((Int × Int) × Nat)) × Nat))))))) (
          (net_Net_Send__com fu 1 1 [] s1.1 s1.2.1 s1.2.2.1 s1.2.2.2).bind fun r24 =>
          match r24 with
          | .inl r25 =>
            bif (!(r25.1 == 5)) then
              some (true, (r25.2.1, (r25.2.2.1, (r25.2.2.2.1, r25.2.2.2.2))))
            else
              (net_Net_Copy__com fu 0 r25.2.1 r25.2.2.1 r25.2.2.2.1 r25.2.2.2.2).bind fun r27 =>
              match r27 with
              | .inl r28 =>
                bif (!(r28.1 == 5)) then
                  some (true, (r28.2.1, (r28.2.2.1, (r28.2.2.2.1, r28.2.2.2.2))))
                else
                  (net_Net_Send__com fu 1 0 [] r28.2.1 r28.2.2.1 r28.2.2.2.1 r28.2.2.2.2).bind fun r30 =>
                  match r30 with
                  | .inl r31 =>
                    some ((!(r31.1 == 0)), (r31.2.1, (r31.2.2.1, (r31.2.2.2.1, r31.2.2.2.2))))
                  | .inr r32 =>
                    some ((!(r32.1 == 0)), (r32.2.1, (r32.2.2.1, (r32.2.2.2.2, r32.2.2.2.1))))
              | .inr r29 =>
                bif (!(r29.1 == 5)) then
                  some (true, (r29.2.1, (r29.2.2.1, (r29.2.2.2.2, r29.2.2.2.1))))
                else
                  (net_Net_Send__com fu 1 0 [] r29.2.1 r29.2.2.1 r29.2.2.2.2 r29.2.2.2.1).bind fun r33 =>
                  match r33 with
                  | .inl r34 =>
                    some ((!(r34.1 == 0)), (r34.2.1, (r34.2.2.1, (r34.2.2.2.1, r34.2.2.2.2))))
                  | .inr r35 =>
                    some ((!(r35.1 == 0)), (r35.2.1, (r35.2.2.1, (r35.2.2.2.2, r35.2.2.2.1))))
          | .inr r26 =>
            bif (!(r26.1 == 5)) then
              some (true, (r26.2.1, (r26.2.2.1, (r26.2.2.2.2, r26.2.2.2.1))))
            else
              (net_Net_Copy__com fu 0 r26.2.1 r26.2.2.1 r26.2.2.2.2 r26.2.2.2.1).bind fun r36 =>
              match r36 with
              | .inl r37 =>
                bif (!(r37.1 == 5)) then
                  some (true, (r37.2.1, (r37.2.2.1, (r37.2.2.2.1, r37.2.2.2.2))))
                else
                  (net_Net_Send__com fu 1 0 [] r37.2.1 r37.2.2.1 r37.2.2.2.1 r37.2.2.2.2).bind fun r39 =>
                  match r39 with
                  | .inl r40 =>
                    some ((!(r40.1 == 0)), (r40.2.1, (r40.2.2.1, (r40.2.2.2.1, r40.2.2.2.2))))
                  | .inr r41 =>
                    some ((!(r41.1 == 0)), (r41.2.1, (r41.2.2.1, (r41.2.2.2.2, r41.2.2.2.1))))
              | .inr r38 =>
                bif (!(r38.1 == 5)) then
                  some (true, (r38.2.1, (r38.2.2.1, (r38.2.2.2.2, r38.2.2.2.1))))
                else
                  (net_Net_Send__com fu 1 0 [] r38.2.1 r38.2.2.1 r38.2.2.2.2 r38.2.2.2.1).bind fun r42 =>
                  match r42 with
                  | .inl r43 =>
                    some ((!(r43.1 == 0)), (r43.2.1, (r43.2.2.1, (r43.2.2.2.1, r43.2.2.2.2))))
                  | .inr r44 =>
                    some ((!(r44.1 == 0)), (r44.2.1, (r44.2.2.1, (r44.2.2.2.2, r44.2.2.2.1))))) fun o13 =>
        bif o13.1 then
          some false
        else
          Option.bind (α := ((Int × (Int × (Int × (List ((Int × (Int × List (UInt8)))) × (List (((Int × Int) × Nat)) × Nat))))))) (
            bif ((Int.tmod way 3) == 0) then
              Option.bind (α := ((Int × (Int × (List ((Int × (Int × List (UInt8)))) × (List (((Int × Int) × Nat)) × Nat)))))) (
                (net_Net_Take__com fu 0 o13.2.1 o13.2.2.1 o13.2.2.2.1 o13.2.2.2.2).bind fun r45 =>
                match r45 with
                | .inl r46 =>
                  some (r46.2.2.2.2.1, (r46.2.2.2.2.2.1, (r46.2.2.2.2.2.2.1, r46.2.2.2.2.2.2.2)))
                | .inr r47 =>
                  some (r47.2.2.2.2.1, (r47.2.2.2.2.2.1, (r47.2.2.2.2.2.2.2.2, r47.2.2.2.2.2.2.1)))) fun o14 =>
              some ((IntKind.wrap .i64 ((IntKind.wrap .i64 (1 + (IntKind.wrap .i64 (Int.tmod most 40)))) - 1)), (o14.1, (o14.2.1, (o14.2.2.1, o14.2.2.2))))
            else
              Option.bind (α := ((Int × (Int × (Int × (List ((Int × (Int × List (UInt8)))) × (List (((Int × Int) × Nat)) × Nat))))))) (
                bif ((Int.tmod way 3) == 1) then
                  Option.bind (α := ((Int × (Int × (List ((Int × (Int × List (UInt8)))) × (List (((Int × Int) × Nat)) × Nat)))))) (
                    (net_Net_Drop__com fu (IntKind.wrap .i64 ((IntKind.wrap .i64 (1 + (IntKind.wrap .i64 (Int.tmod most 40)))) - 1)) o13.2.1 o13.2.2.1 o13.2.2.2.1 o13.2.2.2.2).bind fun r48 =>
                    match r48 with
                    | .inl r49 =>
                      some (r49.2.1, (r49.2.2.1, (r49.2.2.2.1, r49.2.2.2.2)))
                    | .inr r50 =>
                      some (r50.2.1, (r50.2.2.1, (r50.2.2.2.2.2, r50.2.2.2.1)))) fun o15 =>
                  some ((IntKind.wrap .i64 ((IntKind.wrap .i64 (1 + (IntKind.wrap .i64 (Int.tmod most 40)))) - 1)), (o15.1, (o15.2.1, (o15.2.2.1, o15.2.2.2))))
                else
                  (net_Net_Forget__com fu 1 o13.2.1 o13.2.2.1 o13.2.2.2.1 o13.2.2.2.2).bind fun r51 =>
                  some (0, (r51.2.1, (r51.2.2.1, (r51.2.2.2.2, r51.2.2.2.1))))) fun o16 =>
              some (o16.1, (o16.2.1, (o16.2.2.1, (o16.2.2.2.1, o16.2.2.2.2))))) fun o17 =>
          (net_Net_Waiting__com fu 1 o17.2.1 o17.2.2.1 o17.2.2.2.1 o17.2.2.2.2).bind fun r52 =>
          bif (r52.1 == o17.1) then
            (net_Net_Waiting__com fu 0 r52.2.1 r52.2.2.1 r52.2.2.2.1 r52.2.2.2.2).bind fun r53 =>
            bif (r53.1 == 1) then
              (net_Net_Send__com fu 0 1 [] r53.2.1 r53.2.2.1 r53.2.2.2.1 r53.2.2.2.2).bind fun r54 =>
              match r54 with
              | .inl r55 =>
                bif (r55.1 == 0) then
                  (net_Net_Waiting__com fu 1 r55.2.1 r55.2.2.1 r55.2.2.2.1 r55.2.2.2.2).bind fun r57 =>
                  bif (r57.1 == (IntKind.wrap .i64 (o17.1 + 1))) then
                    (law07_awake fu).bind fun r58 =>
                    some r58
                  else
                    some false
                else
                  some false
              | .inr r56 =>
                bif (r56.1 == 0) then
                  (net_Net_Waiting__com fu 1 r56.2.1 r56.2.2.1 r56.2.2.2.2 r56.2.2.2.1).bind fun r59 =>
                  bif (r59.1 == (IntKind.wrap .i64 (o17.1 + 1))) then
                    (law07_awake fu).bind fun r60 =>
                    some r60
                  else
                    some false
                else
                  some false
            else
              some false
          else
            some false
      | .inr o12 =>
        some o12
def law07_NetMost_fa : FnA := ⟨.two (.leaf) (.two (.leaf) (.two (.reg [(1, { ids := [100, 101] })]) (.sel (.slot 6 (.nilp (.pointer none))) (.two (.two (.leaf) (.two (.leaf) (.leaf))) (.two (.two (.leaf) (.one (.loop ⟨[8], ⟨(.cons (.p (.int .i64)) .nil), []⟩⟩ true [(0, ⟨[], ⟨.nil, []⟩⟩)] (.two (.two (.leaf) (.leaf)) (.two (.one (.two (.leaf) (.two (.two (.leaf) (.join ⟨[9], ⟨(.cons (.p (.int .i64)) .nil), []⟩⟩ false [] (.two (.reg [(3, { ids := [103] }), (4, { md := [0, 0, 0, 2], fn := 1 })]) (.reg [(1, { fn := 2 })])))) (.two (.join ⟨[45], ⟨(.cons (.p .bool) .nil), []⟩⟩ false [] (.reg [(4, { fn := 3 })])) (.two (.leaf) (.leaf)))))) (.leaf)))))) (.two (.two (.join ⟨[58], ⟨(.cons (.p .bool) .nil), []⟩⟩ false [] (.reg [(1, { fn := 1 }), (5, { fn := 2 }), (10, { fn := 1 })])) (.two (.leaf) (.leaf))) (.two (.leaf) (.two (.two (.leaf) (.one (.two (.leaf) (.join ⟨[10], ⟨(.cons (.p (.int .i64)) .nil), []⟩⟩ false [] (.two (.reg [(1, { fn := 4 })]) (.two (.leaf) (.join ⟨[10], ⟨(.cons (.p (.int .i64)) .nil), []⟩⟩ false [] (.two (.reg [(3, { fn := 5 })]) (.two (.reg [(1, { fn := 6 })]) (.leaf)))))))))) (.two (.reg [(1, { fn := 3 }), (6, { fn := 3 }), (11, { fn := 1 }), (16, { fn := 3 }), (22, { fn := 7 })]) (.leaf))))))) (.two (.two (.leaf) (.two (.leaf) (.leaf))) (.two (.two (.leaf) (.one (.pre (.ownCell 100 2 34 103) (.loop ⟨[6, 8], ⟨(.cons (.own 0 100 0 0) (.cons (.p (.int .i64)) .nil)), [(100, false, (.vars (.cons (.p (.int .i64)) (.cons (.p (.int .i64)) (.cons (.slf 3 103) (.cons (.mp 101) .nil)))))), (103, false, (.rows 34 (.pair (.int .i64) (.pair (.int .i64) (.sl .byte))))), (101, false, (.map (.int .i64) (.int .i64)))]⟩⟩ true [(0, ⟨[6], ⟨(.cons (.own 0 100 0 0) .nil), [(100, false, (.vars (.cons (.p (.int .i64)) (.cons (.p (.int .i64)) (.cons (.slf 3 103) (.cons (.mp 101) .nil)))))), (103, false, (.rows 34 (.pair (.int .i64) (.pair (.int .i64) (.sl .byte))))), (101, false, (.map (.int .i64) (.int .i64)))]⟩⟩)] (.two (.two (.leaf) (.leaf)) (.two (.one (.two (.leaf) (.two (.two (.leaf) (.join ⟨[6, 9], ⟨(.cons (.own 0 100 0 0) (.cons (.p (.int .i64)) .nil)), [(100, false, (.vars (.cons (.p (.int .i64)) (.cons (.p (.int .i64)) (.cons (.slf 3 103) (.cons (.mp 101) .nil)))))), (103, false, (.rows 34 (.pair (.int .i64) (.pair (.int .i64) (.sl .byte))))), (101, false, (.map (.int .i64) (.int .i64)))]⟩⟩ false [] (.two (.join ⟨[6, 9], ⟨(.cons (.own 0 100 0 0) (.cons (.p (.int .i64)) .nil)), [(100, false, (.vars (.cons (.p (.int .i64)) (.cons (.p (.int .i64)) (.cons (.slf 3 103) (.cons (.mp 101) .nil)))))), (103, false, (.rows 34 (.pair (.int .i64) (.pair (.int .i64) (.sl .byte))))), (101, false, (.map (.int .i64) (.int .i64)))]⟩⟩ false [] (.reg [(3, { ids := [104] }), (4, { ids := [105], sh := [100, 103, 101], md := [0, 0, 0, 1], fn := 8 })])) (.join ⟨[6, 9], ⟨(.cons (.own 0 100 0 0) (.cons (.p (.int .i64)) .nil)), [(100, false, (.vars (.cons (.p (.int .i64)) (.cons (.p (.int .i64)) (.cons (.slf 3 103) (.cons (.mp 101) .nil)))))), (103, false, (.rows 34 (.pair (.int .i64) (.pair (.int .i64) (.sl .byte))))), (101, false, (.map (.int .i64) (.int .i64)))]⟩⟩ false [] (.reg [(1, { ids := [106], sh := [100, 103, 101], fn := 9 })]))))) (.two (.join ⟨[6, 45], ⟨(.cons (.own 0 100 0 0) (.cons (.p .bool) .nil)), [(100, false, (.vars (.cons (.p (.int .i64)) (.cons (.p (.int .i64)) (.cons (.slf 3 103) (.cons (.mp 101) .nil)))))), (103, false, (.rows 34 (.pair (.int .i64) (.pair (.int .i64) (.sl .byte))))), (101, false, (.map (.int .i64) (.int .i64)))]⟩⟩ false [] (.reg [(4, { sh := [100, 103, 101], fn := 10 })])) (.two (.leaf) (.leaf)))))) (.leaf))))))) (.two (.two (.join ⟨[6, 58], ⟨(.cons (.own 0 100 0 0) (.cons (.p .bool) .nil)), [(100, false, (.vars (.cons (.p (.int .i64)) (.cons (.p (.int .i64)) (.cons (.slf 3 103) (.cons (.mp 101) .nil)))))), (103, false, (.rows 34 (.pair (.int .i64) (.pair (.int .i64) (.sl .byte))))), (101, false, (.map (.int .i64) (.int .i64)))]⟩⟩ false [] (.reg [(1, { ids := [107], sh := [100, 103, 101], fn := 8 }), (5, { ids := [108], sh := [100, 103, 101], fn := 9, more := [{ ids := [108], sh := [100, 107, 101], fn := 9 }] }), (10, { ids := [109], sh := [100, 103, 101], fn := 8, more := [{ ids := [109], sh := [100, 108, 101], fn := 8 }, { ids := [109], sh := [100, 107, 101], fn := 8 }] })])) (.two (.leaf) (.leaf))) (.two (.leaf) (.two (.two (.leaf) (.one (.two (.leaf) (.join ⟨[6, 10], ⟨(.cons (.own 0 100 0 0) (.cons (.p (.int .i64)) .nil)), [(100, false, (.vars (.cons (.p (.int .i64)) (.cons (.p (.int .i64)) (.cons (.slf 3 103) (.cons (.mp 101) .nil)))))), (103, false, (.rows 34 (.pair (.int .i64) (.pair (.int .i64) (.sl .byte))))), (101, false, (.map (.int .i64) (.int .i64)))]⟩⟩ false [] (.two (.join ⟨[6], ⟨(.cons (.own 0 100 0 0) .nil), [(100, false, (.vars (.cons (.p (.int .i64)) (.cons (.p (.int .i64)) (.cons (.slf 3 103) (.cons (.mp 101) .nil)))))), (103, false, (.rows 34 (.pair (.int .i64) (.pair (.int .i64) (.sl .byte))))), (101, false, (.map (.int .i64) (.int .i64)))]⟩⟩ false [] (.reg [(1, { ids := [110], sh := [100, 103, 101], fn := 11 })])) (.two (.leaf) (.join ⟨[6, 10], ⟨(.cons (.own 0 100 0 0) (.cons (.p (.int .i64)) .nil)), [(100, false, (.vars (.cons (.p (.int .i64)) (.cons (.p (.int .i64)) (.cons (.slf 3 103) (.cons (.mp 101) .nil)))))), (103, false, (.rows 34 (.pair (.int .i64) (.pair (.int .i64) (.sl .byte))))), (101, false, (.map (.int .i64) (.int .i64)))]⟩⟩ false [] (.two (.join ⟨[6], ⟨(.cons (.own 0 100 0 0) .nil), [(100, false, (.vars (.cons (.p (.int .i64)) (.cons (.p (.int .i64)) (.cons (.slf 3 103) (.cons (.mp 101) .nil)))))), (103, false, (.rows 34 (.pair (.int .i64) (.pair (.int .i64) (.sl .byte))))), (101, false, (.map (.int .i64) (.int .i64)))]⟩⟩ false [] (.reg [(3, { ids := [111], sh := [100, 103, 101], fn := 12 })])) (.two (.reg [(1, { ids := [112], sh := [100, 103, 101], fn := 13 })]) (.leaf)))))))))) (.two (.reg [(1, { sh := [100, 103, 101], fn := 10 }), (6, { sh := [100, 103, 101], fn := 10 }), (11, { ids := [113], sh := [100, 103, 101], fn := 8 }), (16, { sh := [100, 103, 101], fn := 10, more := [{ sh := [100, 113, 101], fn := 10 }] }), (22, { fn := 7 })]) (.leaf)))))))))), ⟨(.cons (.p (.int .u8)) (.cons (.p (.int .u8)) .nil)), []⟩, [⟨(.cons (.p .bool) .nil), []⟩], [0]⟩
def law07_NetMost_ft (fu : Nat) : FnT := ⟨9, ⟨(.cons (.p (.int .u8)) (.cons (.p (.int .u8)) .nil)), []⟩, [⟨(.cons (.p .bool) .nil), []⟩], fun t => law07_NetMost fu t.1 t.2⟩
theorem law07_NetMost_eq (fu : Nat) : ∀ t, evF Go.Proofs.Try.prog [net_New_ft fu, net_Net_Send_n0_ft fu, net_Net_Copy_n0_ft fu, net_Net_Waiting_n0_ft fu, net_Net_Take_n0_ft fu, net_Net_Drop_n0_ft fu, net_Net_Forget_n0_ft fu, law07_awake_ft fu, net_Net_Send__com_ft fu, net_Net_Copy__com_ft fu, net_Net_Waiting__com_ft fu, net_Net_Take__com_ft fu, net_Net_Drop__com_ft fu, net_Net_Forget__com_ft fu] fu Go.Proofs.Try.f9 law07_NetMost_fa t = (law07_NetMost_ft fu).spec t := fun t => by kernel_rfl
theorem law07_NetMost_told (fu : Nat) : Told Go.Proofs.Try.prog (law07_NetMost_ft fu) := told_of (allT_cons (net_New_told fu) (allT_cons (net_Net_Send_n0_told fu) (allT_cons (net_Net_Copy_n0_told fu) (allT_cons (net_Net_Waiting_n0_told fu) (allT_cons (net_Net_Take_n0_told fu) (allT_cons (net_Net_Drop_n0_told fu) (allT_cons (net_Net_Forget_n0_told fu) (allT_cons (law07_awake_told fu) (allT_cons (net_Net_Send__com_told fu) (allT_cons (net_Net_Copy__com_told fu) (allT_cons (net_Net_Waiting__com_told fu) (allT_cons (net_Net_Take__com_told fu) (allT_cons (net_Net_Drop__com_told fu) (allT_cons (net_Net_Forget__com_told fu) allT_nil)))))))))))))) mixed Go.Proofs.Try.func9 (by kernel_rfl) (by kernel_rfl) (law07_NetMost_eq fu)
end
end Go.Ab.D
