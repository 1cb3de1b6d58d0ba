/- Functions of the program as plain Lean functions: each equation is checked by the kernel; what is told of a function follows from it. -/
import Derived.Test.YtndinkcemkfpdaaE3
import Derived.Test.YtndinkcemkfpdaaProg
import Derived.KernelRfl
set_option linter.all false
set_option maxRecDepth 100000
set_option maxHeartbeats 4000000
namespace Go.Ab.D
open Go Go.Ab
noncomputable section
theorem mixed : Go.Proofs.Try.prog.follows .mixedOrders = true := by kernel_rfl
def net_New_1 (fu : Nat) (k : Int) (high : Int) : Option (Bool) :=
  bif (decide (0 < k)) then
    some (decide (k ≤ high))
  else
    some false
def net_New_1_fa : FnA := ⟨.two (.leaf) (.leaf), ⟨(.cons (.p (.int .i64)) (.cons (.p (.int .i64)) .nil)), []⟩, [⟨(.cons (.p .bool) .nil), []⟩], [0]⟩
def net_New_1_ft (fu : Nat) : FnT := ⟨38, ⟨(.cons (.p (.int .i64)) (.cons (.p (.int .i64)) .nil)), []⟩, [⟨(.cons (.p .bool) .nil), []⟩], fun t => net_New_1 fu t.1 t.2⟩
theorem net_New_1_eq (fu : Nat) : ∀ t, evF Go.Proofs.Try.prog [] fu Go.Proofs.Try.f38 net_New_1_fa t = (net_New_1_ft fu).spec t := fun t => by kernel_rfl
theorem net_New_1_told (fu : Nat) : Told Go.Proofs.Try.prog (net_New_1_ft fu) := told_of allT_nil mixed Go.Proofs.Try.func38 (by kernel_rfl) (by kernel_rfl) (net_New_1_eq fu)

def net_New (fu : Nat) (ends : Int) (most : Int) : Option (Int ⊕ (Int × (Int × (Int × (List (((Int × Int) × Nat)) × Nat))))) :=
  Option.bind (α := (Bool)) (
    (net_New_1 fu ends 300).bind fun r =>
    bif (!r) then
      some true
    else
      (net_New_1 fu most 10000).bind fun r1 =>
      some (!r1)) fun o =>
  bif o then
    some (.inl 2)
  else
    some (.inr (0, (ends, (most, ([], 0)))))
def net_New_fa : FnA := ⟨.two (.leaf) (.two (.leaf) (.two (.two (.join ⟨[16], ⟨(.cons (.p .bool) .nil), []⟩⟩ false [] (.reg [(2, {  }), (7, {  })])) (.two (.leaf) (.leaf))) (.two (.reg [(2, { ids := [100] }), (4, { ids := [101] })]) (.leaf)))), ⟨(.cons (.p (.int .i64)) (.cons (.p (.int .i64)) .nil)), []⟩, [⟨(.cons (.nilp (.pointer none)) (.cons (.p (.int .i64)) .nil)), []⟩, ⟨(.cons (.own 0 0 0 0) (.cons (.p (.int .i64)) .nil)), [(0, false, (.vars (.cons (.p (.int .i64)) (.cons (.p (.int .i64)) (.cons (.nilp (.slice none 0 0)) (.cons (.mp 1) .nil)))))), (1, false, (.map (.int .i64) (.int .i64)))]⟩], [0, 0]⟩
def net_New_ft (fu : Nat) : FnT := ⟨11, ⟨(.cons (.p (.int .i64)) (.cons (.p (.int .i64)) .nil)), []⟩, [⟨(.cons (.nilp (.pointer none)) (.cons (.p (.int .i64)) .nil)), []⟩, ⟨(.cons (.own 0 0 0 0) (.cons (.p (.int .i64)) .nil)), [(0, false, (.vars (.cons (.p (.int .i64)) (.cons (.p (.int .i64)) (.cons (.nilp (.slice none 0 0)) (.cons (.mp 1) .nil)))))), (1, false, (.map (.int .i64) (.int .i64)))]⟩], fun t => net_New fu t.1 t.2⟩
theorem net_New_eq (fu : Nat) : ∀ t, evF Go.Proofs.Try.prog [net_New_1_ft fu] fu Go.Proofs.Try.f11 net_New_fa t = (net_New_ft fu).spec t := fun t => by kernel_rfl
theorem net_New_told (fu : Nat) : Told Go.Proofs.Try.prog (net_New_ft fu) := told_of (allT_cons (net_New_1_told fu) allT_nil) mixed Go.Proofs.Try.func11 (by kernel_rfl) (by kernel_rfl) (net_New_eq fu)

def net_Net_made_n0 (fu : Nat)  : Option (Bool) :=
  some false
def net_Net_made_n0_fa : FnA := ⟨.two (.leaf) (.leaf), ⟨(.cons (.nilp (.pointer none)) .nil), []⟩, [⟨(.cons (.p .bool) .nil), []⟩], [0]⟩
def net_Net_made_n0_ft (fu : Nat) : FnT := ⟨39, ⟨(.cons (.nilp (.pointer none)) .nil), []⟩, [⟨(.cons (.p .bool) .nil), []⟩], fun t => net_Net_made_n0 fu ⟩
theorem net_Net_made_n0_eq (fu : Nat) : ∀ t, evF Go.Proofs.Try.prog [] fu Go.Proofs.Try.f39 net_Net_made_n0_fa t = (net_Net_made_n0_ft fu).spec t := fun t => by kernel_rfl
theorem net_Net_made_n0_told (fu : Nat) : Told Go.Proofs.Try.prog (net_Net_made_n0_ft fu) := told_of allT_nil mixed Go.Proofs.Try.func39 (by kernel_rfl) (by kernel_rfl) (net_Net_made_n0_eq fu)

def net_Net_full_n0 (fu : Nat) (to_ : Int) : Option (Empty) :=
  none
def net_Net_full_n0_fa : FnA := ⟨.two (.leaf) (.leaf), ⟨(.cons (.nilp (.pointer none)) (.cons (.p (.int .i64)) .nil)), []⟩, [], [0]⟩
def net_Net_full_n0_ft (fu : Nat) : FnT := ⟨50, ⟨(.cons (.nilp (.pointer none)) (.cons (.p (.int .i64)) .nil)), []⟩, [], fun t => net_Net_full_n0 fu t⟩
theorem net_Net_full_n0_eq (fu : Nat) : ∀ t, evF Go.Proofs.Try.prog [] fu Go.Proofs.Try.f50 net_Net_full_n0_fa t = (net_Net_full_n0_ft fu).spec t := fun t => by kernel_rfl
theorem net_Net_full_n0_told (fu : Nat) : Told Go.Proofs.Try.prog (net_Net_full_n0_ft fu) := told_of allT_nil mixed Go.Proofs.Try.func50 (by kernel_rfl) (by kernel_rfl) (net_Net_full_n0_eq fu)

def net_Net_lay_n0 (fu : Nat) (d : (Int × (Int × List (UInt8)))) : Option (Empty) :=
  (net_Net_full_n0 fu d.2.1).bind fun r =>
  Empty.elim r
def net_Net_lay_n0_fa : FnA := ⟨.two (.reg [(0, { ids := [100] })]) (.two (.two (.reg [(3, {  })]) (.leaf)) (.leaf)), ⟨(.cons (.nilp (.pointer none)) (.cons (.p (.pair (.int .i64) (.pair (.int .i64) (.sl .byte)))) .nil)), []⟩, [], [0]⟩
def net_Net_lay_n0_ft (fu : Nat) : FnT := ⟨40, ⟨(.cons (.nilp (.pointer none)) (.cons (.p (.pair (.int .i64) (.pair (.int .i64) (.sl .byte)))) .nil)), []⟩, [], fun t => net_Net_lay_n0 fu t⟩
theorem net_Net_lay_n0_eq (fu : Nat) : ∀ t, evF Go.Proofs.Try.prog [net_Net_full_n0_ft fu] fu Go.Proofs.Try.f40 net_Net_lay_n0_fa t = (net_Net_lay_n0_ft fu).spec t := fun t => by kernel_rfl
theorem net_Net_lay_n0_told (fu : Nat) : Told Go.Proofs.Try.prog (net_Net_lay_n0_ft fu) := told_of (allT_cons (net_Net_full_n0_told fu) allT_nil) mixed Go.Proofs.Try.func40 (by kernel_rfl) (by kernel_rfl) (net_Net_lay_n0_eq fu)

def net_Net_Send_n0_l0 (fu : Nat) (from_ : Int) (to_ : Int) (x : Int) : Option (Int ⊕ (Unit ⊕ Int)) :=
  bif (decide (x < 2)) then
    (idx? x 2).bind fun q =>
    ([from_, to_])[q]?.bind fun x1 =>
    bif (decide (x1 < 0)) then
      some (.inr (.inr 2))
    else
      none
  else
    some (.inr (.inl ()))
def net_Net_Send_n0_l0_it (fu : Nat) (from_ : Int) (to_ : Int) (tt : Int) : Option (Unit ⊕ Int) :=
  iter fu (fun tt => net_Net_Send_n0_l0 fu from_ to_ tt) tt
def net_Net_Send_n0 (fu : Nat) (from_ : Int) (to_ : Int) (b : List (UInt8)) : Option (Int) :=
  (net_Net_made_n0 fu).bind fun r =>
  bif (!r) then
    some 1
  else
    (net_Net_Send_n0_l0_it fu from_ to_ 0).bind fun o =>
    match o with
    | .inl s =>
      bif (decide (((b.length : Nat) : Int) > 131072)) then
        some 3
      else
        (net_Net_lay_n0 fu (from_, (to_, b))).bind fun r1 =>
        Empty.elim r1
    | .inr o1 =>
      some o1
def net_Net_Send_n0_fa : FnA := ⟨.two (.leaf) (.two (.two (.reg [(1, {  })]) (.two (.leaf) (.leaf))) (.two (.two (.leaf) (.one (.loop ⟨[17], ⟨(.cons (.p (.int .i64)) .nil), []⟩⟩ true [(0, ⟨[], ⟨.nil, []⟩⟩)] (.two (.leaf) (.two (.leaf) (.two (.one (.two (.leaf) (.two (.leaf) (.two (.leaf) (.leaf))))) (.leaf))))))) (.two (.two (.leaf) (.two (.leaf) (.leaf))) (.two (.reg [(5, { fn := 1 })]) (.leaf))))), ⟨(.cons (.nilp (.pointer none)) (.cons (.p (.int .i64)) (.cons (.p (.int .i64)) (.cons (.p (.sl .byte)) .nil)))), []⟩, [⟨(.cons (.p (.int .i64)) .nil), []⟩], [0]⟩
def net_Net_Send_n0_ft (fu : Nat) : FnT := ⟨12, ⟨(.cons (.nilp (.pointer none)) (.cons (.p (.int .i64)) (.cons (.p (.int .i64)) (.cons (.p (.sl .byte)) .nil)))), []⟩, [⟨(.cons (.p (.int .i64)) .nil), []⟩], fun t => net_Net_Send_n0 fu t.1 t.2.1 t.2.2⟩
theorem net_Net_Send_n0_eq (fu : Nat) : ∀ t, evF Go.Proofs.Try.prog [net_Net_made_n0_ft fu, net_Net_lay_n0_ft fu] fu Go.Proofs.Try.f12 net_Net_Send_n0_fa t = (net_Net_Send_n0_ft fu).spec t := fun t => by kernel_rfl
theorem net_Net_Send_n0_told (fu : Nat) : Told Go.Proofs.Try.prog (net_Net_Send_n0_ft fu) := told_of (allT_cons (net_Net_made_n0_told fu) (allT_cons (net_Net_lay_n0_told fu) allT_nil)) mixed Go.Proofs.Try.func12 (by kernel_rfl) (by kernel_rfl) (net_Net_Send_n0_eq fu)

def net_Net_there_n0 (fu : Nat) (i : Int) : Option (Bool) :=
  (net_Net_made_n0 fu).bind fun r =>
  bif r then
    none
  else
    some false
def net_Net_there_n0_fa : FnA := ⟨.two (.leaf) (.two (.reg [(1, {  })]) (.leaf)), ⟨(.cons (.nilp (.pointer none)) (.cons (.p (.int .i64)) .nil)), []⟩, [⟨(.cons (.p .bool) .nil), []⟩], [0]⟩
def net_Net_there_n0_ft (fu : Nat) : FnT := ⟨41, ⟨(.cons (.nilp (.pointer none)) (.cons (.p (.int .i64)) .nil)), []⟩, [⟨(.cons (.p .bool) .nil), []⟩], fun t => net_Net_there_n0 fu t⟩
theorem net_Net_there_n0_eq (fu : Nat) : ∀ t, evF Go.Proofs.Try.prog [net_Net_made_n0_ft fu] fu Go.Proofs.Try.f41 net_Net_there_n0_fa t = (net_Net_there_n0_ft fu).spec t := fun t => by kernel_rfl
theorem net_Net_there_n0_told (fu : Nat) : Told Go.Proofs.Try.prog (net_Net_there_n0_ft fu) := told_of (allT_cons (net_Net_made_n0_told fu) allT_nil) mixed Go.Proofs.Try.func41 (by kernel_rfl) (by kernel_rfl) (net_Net_there_n0_eq fu)

def net_Net_Drop_n0 (fu : Nat) (i : Int) : Option (Bool) :=
  (net_Net_there_n0 fu i).bind fun r =>
  bif (!r) then
    some false
  else
    none
def net_Net_Drop_n0_fa : FnA := ⟨.two (.leaf) (.two (.two (.reg [(2, {  })]) (.two (.leaf) (.leaf))) (.leaf)), ⟨(.cons (.nilp (.pointer none)) (.cons (.p (.int .i64)) .nil)), []⟩, [⟨(.cons (.p .bool) .nil), []⟩], [0]⟩
def net_Net_Drop_n0_ft (fu : Nat) : FnT := ⟨13, ⟨(.cons (.nilp (.pointer none)) (.cons (.p (.int .i64)) .nil)), []⟩, [⟨(.cons (.p .bool) .nil), []⟩], fun t => net_Net_Drop_n0 fu t⟩
theorem net_Net_Drop_n0_eq (fu : Nat) : ∀ t, evF Go.Proofs.Try.prog [net_Net_there_n0_ft fu] fu Go.Proofs.Try.f13 net_Net_Drop_n0_fa t = (net_Net_Drop_n0_ft fu).spec t := fun t => by kernel_rfl
theorem net_Net_Drop_n0_told (fu : Nat) : Told Go.Proofs.Try.prog (net_Net_Drop_n0_ft fu) := told_of (allT_cons (net_Net_there_n0_told fu) allT_nil) mixed Go.Proofs.Try.func13 (by kernel_rfl) (by kernel_rfl) (net_Net_Drop_n0_eq fu)

def net_Net_Flying_n0 (fu : Nat)  : Option (Int) :=
  (net_Net_made_n0 fu).bind fun r =>
  bif (!r) then
    some 0
  else
    none
def net_Net_Flying_n0_fa : FnA := ⟨.two (.leaf) (.two (.two (.reg [(1, {  })]) (.two (.leaf) (.leaf))) (.leaf)), ⟨(.cons (.nilp (.pointer none)) .nil), []⟩, [⟨(.cons (.p (.int .i64)) .nil), []⟩], [0]⟩
def net_Net_Flying_n0_ft (fu : Nat) : FnT := ⟨14, ⟨(.cons (.nilp (.pointer none)) .nil), []⟩, [⟨(.cons (.p (.int .i64)) .nil), []⟩], fun t => net_Net_Flying_n0 fu ⟩
theorem net_Net_Flying_n0_eq (fu : Nat) : ∀ t, evF Go.Proofs.Try.prog [net_Net_made_n0_ft fu] fu Go.Proofs.Try.f14 net_Net_Flying_n0_fa t = (net_Net_Flying_n0_ft fu).spec t := fun t => by kernel_rfl
theorem net_Net_Flying_n0_told (fu : Nat) : Told Go.Proofs.Try.prog (net_Net_Flying_n0_ft fu) := told_of (allT_cons (net_Net_made_n0_told fu) allT_nil) mixed Go.Proofs.Try.func14 (by kernel_rfl) (by kernel_rfl) (net_Net_Flying_n0_eq fu)

def net_Net_Copy_n0 (fu : Nat) (i : Int) : Option (Int) :=
  (net_Net_made_n0 fu).bind fun r =>
  bif (!r) then
    some 1
  else
    (net_Net_there_n0 fu i).bind fun r1 =>
    bif (!r1) then
      some 2
    else
      none
def net_Net_Copy_n0_fa : FnA := ⟨.two (.leaf) (.two (.one (.two (.reg [(1, {  })]) (.two (.leaf) (.two (.reg [(2, { fn := 1 })]) (.two (.leaf) (.leaf)))))) (.leaf)), ⟨(.cons (.nilp (.pointer none)) (.cons (.p (.int .i64)) .nil)), []⟩, [⟨(.cons (.p (.int .i64)) .nil), []⟩], [0]⟩
def net_Net_Copy_n0_ft (fu : Nat) : FnT := ⟨15, ⟨(.cons (.nilp (.pointer none)) (.cons (.p (.int .i64)) .nil)), []⟩, [⟨(.cons (.p (.int .i64)) .nil), []⟩], fun t => net_Net_Copy_n0 fu t⟩
theorem net_Net_Copy_n0_eq (fu : Nat) : ∀ t, evF Go.Proofs.Try.prog [net_Net_made_n0_ft fu, net_Net_there_n0_ft fu] fu Go.Proofs.Try.f15 net_Net_Copy_n0_fa t = (net_Net_Copy_n0_ft fu).spec t := fun t => by kernel_rfl
theorem net_Net_Copy_n0_told (fu : Nat) : Told Go.Proofs.Try.prog (net_Net_Copy_n0_ft fu) := told_of (allT_cons (net_Net_made_n0_told fu) (allT_cons (net_Net_there_n0_told fu) allT_nil)) mixed Go.Proofs.Try.func15 (by kernel_rfl) (by kernel_rfl) (net_Net_Copy_n0_eq fu)

def net_Net_Look_n0 (fu : Nat) (i : Int) : Option ((Int × (Int × Bool))) :=
  (net_Net_there_n0 fu i).bind fun r =>
  bif (!r) then
    some (0, (0, false))
  else
    none
def net_Net_Look_n0_fa : FnA := ⟨.two (.reg [(0, { ids := [100] })]) (.two (.two (.reg [(2, {  })]) (.two (.leaf) (.leaf))) (.leaf)), ⟨(.cons (.nilp (.pointer none)) (.cons (.p (.int .i64)) .nil)), []⟩, [⟨(.cons (.agg (.cons (.p (.int .i64)) (.cons (.p (.int .i64)) (.cons (.nilp (.slice none 0 0)) .nil)))) (.cons (.p .bool) .nil)), []⟩], [0, 0]⟩
def net_Net_Look_n0_ft (fu : Nat) : FnT := ⟨17, ⟨(.cons (.nilp (.pointer none)) (.cons (.p (.int .i64)) .nil)), []⟩, [⟨(.cons (.agg (.cons (.p (.int .i64)) (.cons (.p (.int .i64)) (.cons (.nilp (.slice none 0 0)) .nil)))) (.cons (.p .bool) .nil)), []⟩], fun t => net_Net_Look_n0 fu t⟩
theorem net_Net_Look_n0_eq (fu : Nat) : ∀ t, evF Go.Proofs.Try.prog [net_Net_there_n0_ft fu] fu Go.Proofs.Try.f17 net_Net_Look_n0_fa t = (net_Net_Look_n0_ft fu).spec t := fun t => by kernel_rfl
theorem net_Net_Look_n0_told (fu : Nat) : Told Go.Proofs.Try.prog (net_Net_Look_n0_ft fu) := told_of (allT_cons (net_Net_there_n0_told fu) allT_nil) mixed Go.Proofs.Try.func17 (by kernel_rfl) (by kernel_rfl) (net_Net_Look_n0_eq fu)

def net_Net_Take_n0 (fu : Nat) (i : Int) : Option ((Int × (Int × Bool))) :=
  (net_Net_Look_n0 fu i).bind fun r =>
  bif r.2.2 then
    (net_Net_Drop_n0 fu i).bind fun r1 =>
    some (r.1, (r.2.1, r1))
  else
    some (r.1, (r.2.1, false))
def net_Net_Take_n0_fa : FnA := ⟨.two (.reg [(0, { ids := [100] })]) (.two (.reg [(2, {  }), (6, { ids := [101] })]) (.two (.reg [(5, { fn := 1 })]) (.leaf))), ⟨(.cons (.nilp (.pointer none)) (.cons (.p (.int .i64)) .nil)), []⟩, [⟨(.cons (.agg (.cons (.p (.int .i64)) (.cons (.p (.int .i64)) (.cons (.nilp (.slice none 0 0)) .nil)))) (.cons (.p .bool) .nil)), []⟩], [0, 0]⟩
def net_Net_Take_n0_ft (fu : Nat) : FnT := ⟨16, ⟨(.cons (.nilp (.pointer none)) (.cons (.p (.int .i64)) .nil)), []⟩, [⟨(.cons (.agg (.cons (.p (.int .i64)) (.cons (.p (.int .i64)) (.cons (.nilp (.slice none 0 0)) .nil)))) (.cons (.p .bool) .nil)), []⟩], fun t => net_Net_Take_n0 fu t⟩
theorem net_Net_Take_n0_eq (fu : Nat) : ∀ t, evF Go.Proofs.Try.prog [net_Net_Look_n0_ft fu, net_Net_Drop_n0_ft fu] fu Go.Proofs.Try.f16 net_Net_Take_n0_fa t = (net_Net_Take_n0_ft fu).spec t := fun t => by kernel_rfl
theorem net_Net_Take_n0_told (fu : Nat) : Told Go.Proofs.Try.prog (net_Net_Take_n0_ft fu) := told_of (allT_cons (net_Net_Look_n0_told fu) (allT_cons (net_Net_Drop_n0_told fu) allT_nil)) mixed Go.Proofs.Try.func16 (by kernel_rfl) (by kernel_rfl) (net_Net_Take_n0_eq fu)

def net_Net_Waiting_n0 (fu : Nat) (to_ : Int) : Option (Int) :=
  (net_Net_made_n0 fu).bind fun r =>
  bif (!r) then
    some 0
  else
    none
def net_Net_Waiting_n0_fa : FnA := ⟨.two (.leaf) (.two (.two (.reg [(1, {  })]) (.two (.leaf) (.leaf))) (.leaf)), ⟨(.cons (.nilp (.pointer none)) (.cons (.p (.int .i64)) .nil)), []⟩, [⟨(.cons (.p (.int .i64)) .nil), []⟩], [0]⟩
def net_Net_Waiting_n0_ft (fu : Nat) : FnT := ⟨18, ⟨(.cons (.nilp (.pointer none)) (.cons (.p (.int .i64)) .nil)), []⟩, [⟨(.cons (.p (.int .i64)) .nil), []⟩], fun t => net_Net_Waiting_n0 fu t⟩
theorem net_Net_Waiting_n0_eq (fu : Nat) : ∀ t, evF Go.Proofs.Try.prog [net_Net_made_n0_ft fu] fu Go.Proofs.Try.f18 net_Net_Waiting_n0_fa t = (net_Net_Waiting_n0_ft fu).spec t := fun t => by kernel_rfl
theorem net_Net_Waiting_n0_told (fu : Nat) : Told Go.Proofs.Try.prog (net_Net_Waiting_n0_ft fu) := told_of (allT_cons (net_Net_made_n0_told fu) allT_nil) mixed Go.Proofs.Try.func18 (by kernel_rfl) (by kernel_rfl) (net_Net_Waiting_n0_eq fu)

def net_Net_Forget_n0 (fu : Nat) (to_ : Int) : Option (Int) :=
  (net_Net_Waiting_n0 fu to_).bind fun r =>
  bif (decide (r > 0)) then
    none
  else
    some r
def net_Net_Forget_n0_fa : FnA := ⟨.two (.reg [(0, { ids := [100] })]) (.two (.reg [(2, {  })]) (.two (.two (.leaf) (.two (.leaf) (.leaf))) (.leaf))), ⟨(.cons (.nilp (.pointer none)) (.cons (.p (.int .i64)) .nil)), []⟩, [⟨(.cons (.p (.int .i64)) .nil), []⟩], [0]⟩
def net_Net_Forget_n0_ft (fu : Nat) : FnT := ⟨19, ⟨(.cons (.nilp (.pointer none)) (.cons (.p (.int .i64)) .nil)), []⟩, [⟨(.cons (.p (.int .i64)) .nil), []⟩], fun t => net_Net_Forget_n0 fu t⟩
theorem net_Net_Forget_n0_eq (fu : Nat) : ∀ t, evF Go.Proofs.Try.prog [net_Net_Waiting_n0_ft fu] fu Go.Proofs.Try.f19 net_Net_Forget_n0_fa t = (net_Net_Forget_n0_ft fu).spec t := fun t => by kernel_rfl
theorem net_Net_Forget_n0_told (fu : Nat) : Told Go.Proofs.Try.prog (net_Net_Forget_n0_ft fu) := told_of (allT_cons (net_Net_Waiting_n0_told fu) allT_nil) mixed Go.Proofs.Try.func19 (by kernel_rfl) (by kernel_rfl) (net_Net_Forget_n0_eq fu)

def law07_like (fu : Nat) (a : (Int × (Int × List (UInt8)))) (b : (Int × (Int × List (UInt8)))) : Option (Bool) :=
  bif (a.1 == b.1) then
    bif (a.2.1 == b.2.1) then
      some (a.2.2 == b.2.2)
    else
      some false
  else
    some false
def law07_like_fa : FnA := ⟨.two (.reg [(0, { ids := [100] }), (1, { ids := [101] })]) (.leaf), ⟨(.cons (.p (.pair (.int .i64) (.pair (.int .i64) (.sl .byte)))) (.cons (.p (.pair (.int .i64) (.pair (.int .i64) (.sl .byte)))) .nil)), []⟩, [⟨(.cons (.p .bool) .nil), []⟩], [0]⟩
def law07_like_ft (fu : Nat) : FnT := ⟨27, ⟨(.cons (.p (.pair (.int .i64) (.pair (.int .i64) (.sl .byte)))) (.cons (.p (.pair (.int .i64) (.pair (.int .i64) (.sl .byte)))) .nil)), []⟩, [⟨(.cons (.p .bool) .nil), []⟩], fun t => law07_like fu t.1 t.2⟩
theorem law07_like_eq (fu : Nat) : ∀ t, evF Go.Proofs.Try.prog [] fu Go.Proofs.Try.f27 law07_like_fa t = (law07_like_ft fu).spec t := fun t => by kernel_rfl
theorem law07_like_told (fu : Nat) : Told Go.Proofs.Try.prog (law07_like_ft fu) := told_of allT_nil mixed Go.Proofs.Try.func27 (by kernel_rfl) (by kernel_rfl) (law07_like_eq fu)

def law07_is_n0 (fu : Nat) (i : Int) (from_ : Int) (to_ : Int) (b : List UInt8) : Option (Bool) :=
  (net_Net_Look_n0 fu i).bind fun r =>
  bif r.2.2 then
    need (Nat.ble b.length room) <|
    (law07_like fu (r.1, (r.2.1, [])) (from_, (to_, b))).bind fun r1 =>
    some r1
  else
    some false
def law07_is_n0_fa : FnA := ⟨.two (.leaf) (.two (.reg [(2, {  }), (6, { ids := [100] })]) (.two (.reg [(6, { ids := [101] }), (8, { md := [0, 2], fn := 1 })]) (.leaf))), ⟨(.cons (.nilp (.pointer none)) (.cons (.p (.int .i64)) (.cons (.p (.int .i64)) (.cons (.p (.int .i64)) (.cons (.p .str) .nil))))), []⟩, [⟨(.cons (.p .bool) .nil), []⟩], [0]⟩
def law07_is_n0_ft (fu : Nat) : FnT := ⟨46, ⟨(.cons (.nilp (.pointer none)) (.cons (.p (.int .i64)) (.cons (.p (.int .i64)) (.cons (.p (.int .i64)) (.cons (.p .str) .nil))))), []⟩, [⟨(.cons (.p .bool) .nil), []⟩], fun t => law07_is_n0 fu t.1 t.2.1 t.2.2.1 t.2.2.2⟩
theorem law07_is_n0_eq (fu : Nat) : ∀ t, evF Go.Proofs.Try.prog [net_Net_Look_n0_ft fu, law07_like_ft fu] fu Go.Proofs.Try.f46 law07_is_n0_fa t = (law07_is_n0_ft fu).spec t := fun t => by kernel_rfl
theorem law07_is_n0_told (fu : Nat) : Told Go.Proofs.Try.prog (law07_is_n0_ft fu) := told_of (allT_cons (net_Net_Look_n0_told fu) (allT_cons (law07_like_told fu) allT_nil)) mixed Go.Proofs.Try.func46 (by kernel_rfl) (by kernel_rfl) (law07_is_n0_eq fu)

def slices_Clone__byte_byte (fu : Nat) (s : List (UInt8)) : Option (List (UInt8)) :=
  nilQ s.length fun isNil =>
  bif isNil then
    some []
  else
    need ((Nat.ble ((0 + s.length) * 1) room) && (Nat.ble (0 + s.length) room)) <|
    some s
def slices_Clone__byte_byte_fa : FnA := ⟨.two (.leaf) (.two (.two (.leaf) (.two (.leaf) (.leaf))) (.two (.reg [(0, { ids := [100] }), (2, { ids := [101] })]) (.leaf))), ⟨(.cons (.p (.sl .byte)) .nil), []⟩, [⟨(.cons (.slf 1 0) .nil), [(0, false, (.rows 5 .byte))]⟩], [15]⟩
def slices_Clone__byte_byte_ft (fu : Nat) : FnT := ⟨43, ⟨(.cons (.p (.sl .byte)) .nil), []⟩, [⟨(.cons (.slf 1 0) .nil), [(0, false, (.rows 5 .byte))]⟩], fun t => slices_Clone__byte_byte fu t⟩
theorem slices_Clone__byte_byte_eq (fu : Nat) : ∀ t, evF Go.Proofs.Try.prog [] fu Go.Proofs.Try.f43 slices_Clone__byte_byte_fa t = (slices_Clone__byte_byte_ft fu).spec t := fun t => by kernel_rfl
theorem slices_Clone__byte_byte_told (fu : Nat) : Told Go.Proofs.Try.prog (slices_Clone__byte_byte_ft fu) := told_of allT_nil mixed Go.Proofs.Try.func43 (by kernel_rfl) (by kernel_rfl) (slices_Clone__byte_byte_eq fu)

def net_Net_made__com (fu : Nat) (h : Int) (h1 : Int) (h2 : List ((Int × (Int × List (UInt8))))) (h3 : (List (((Int × Int) × Nat)) × Nat)) : Option ((Bool × (Int × (Int × (List ((Int × (Int × List (UInt8)))) × (List (((Int × Int) × Nat)) × Nat)))))) :=
  some (true, (h, (h1, (h2, h3))))
def net_Net_made__com_fa : FnA := ⟨.two (.leaf) (.leaf), ⟨(.cons (.own 0 0 0 0) .nil), [(0, false, (.vars (.cons (.p (.int .i64)) (.cons (.p (.int .i64)) (.cons (.slf 3 1) (.cons (.mp 2) .nil)))))), (1, false, (.rows 34 (.pair (.int .i64) (.pair (.int .i64) (.sl .byte))))), (2, false, (.map (.int .i64) (.int .i64)))]⟩, [⟨(.cons (.p .bool) .nil), [(0, false, (.vars (.cons (.p (.int .i64)) (.cons (.p (.int .i64)) (.cons (.slf 3 1) (.cons (.mp 2) .nil)))))), (1, false, (.rows 34 (.pair (.int .i64) (.pair (.int .i64) (.sl .byte))))), (2, false, (.map (.int .i64) (.int .i64)))]⟩], [0]⟩
def net_Net_made__com_ft (fu : Nat) : FnT := ⟨39, ⟨(.cons (.own 0 0 0 0) .nil), [(0, false, (.vars (.cons (.p (.int .i64)) (.cons (.p (.int .i64)) (.cons (.slf 3 1) (.cons (.mp 2) .nil)))))), (1, false, (.rows 34 (.pair (.int .i64) (.pair (.int .i64) (.sl .byte))))), (2, false, (.map (.int .i64) (.int .i64)))]⟩, [⟨(.cons (.p .bool) .nil), [(0, false, (.vars (.cons (.p (.int .i64)) (.cons (.p (.int .i64)) (.cons (.slf 3 1) (.cons (.mp 2) .nil)))))), (1, false, (.rows 34 (.pair (.int .i64) (.pair (.int .i64) (.sl .byte))))), (2, false, (.map (.int .i64) (.int .i64)))]⟩], fun t => net_Net_made__com fu t.1 t.2.1 t.2.2.1 t.2.2.2⟩
theorem net_Net_made__com_eq (fu : Nat) : ∀ t, evF Go.Proofs.Try.prog [] fu Go.Proofs.Try.f39 net_Net_made__com_fa t = (net_Net_made__com_ft fu).spec t := fun t => by kernel_rfl
theorem net_Net_made__com_told (fu : Nat) : Told Go.Proofs.Try.prog (net_Net_made__com_ft fu) := told_of allT_nil mixed Go.Proofs.Try.func39 (by kernel_rfl) (by kernel_rfl) (net_Net_made__com_eq fu)

def net_Net_Flying__com (fu : Nat) (h : Int) (h1 : Int) (h2 : List ((Int × (Int × List (UInt8))))) (h3 : (List (((Int × Int) × Nat)) × Nat)) : Option ((Int × (Int × (Int × (List ((Int × (Int × List (UInt8)))) × (List (((Int × Int) × Nat)) × Nat)))))) :=
  (net_Net_made__com fu h h1 h2 h3).bind fun r =>
  bif (!r.1) then
    some (0, (r.2.1, (r.2.2.1, (r.2.2.2.1, r.2.2.2.2))))
  else
    some (((r.2.2.2.1.length : Nat) : Int), (r.2.1, (r.2.2.1, (r.2.2.2.1, r.2.2.2.2))))
def net_Net_Flying__com_fa : FnA := ⟨.two (.leaf) (.two (.two (.reg [(1, { sh := [0, 1, 2] })]) (.two (.leaf) (.leaf))) (.leaf)), ⟨(.cons (.own 0 0 0 0) .nil), [(0, false, (.vars (.cons (.p (.int .i64)) (.cons (.p (.int .i64)) (.cons (.slf 3 1) (.cons (.mp 2) .nil)))))), (1, false, (.rows 34 (.pair (.int .i64) (.pair (.int .i64) (.sl .byte))))), (2, false, (.map (.int .i64) (.int .i64)))]⟩, [⟨(.cons (.p (.int .i64)) .nil), [(0, false, (.vars (.cons (.p (.int .i64)) (.cons (.p (.int .i64)) (.cons (.slf 3 1) (.cons (.mp 2) .nil)))))), (1, false, (.rows 34 (.pair (.int .i64) (.pair (.int .i64) (.sl .byte))))), (2, false, (.map (.int .i64) (.int .i64)))]⟩], [0]⟩
def net_Net_Flying__com_ft (fu : Nat) : FnT := ⟨14, ⟨(.cons (.own 0 0 0 0) .nil), [(0, false, (.vars (.cons (.p (.int .i64)) (.cons (.p (.int .i64)) (.cons (.slf 3 1) (.cons (.mp 2) .nil)))))), (1, false, (.rows 34 (.pair (.int .i64) (.pair (.int .i64) (.sl .byte))))), (2, false, (.map (.int .i64) (.int .i64)))]⟩, [⟨(.cons (.p (.int .i64)) .nil), [(0, false, (.vars (.cons (.p (.int .i64)) (.cons (.p (.int .i64)) (.cons (.slf 3 1) (.cons (.mp 2) .nil)))))), (1, false, (.rows 34 (.pair (.int .i64) (.pair (.int .i64) (.sl .byte))))), (2, false, (.map (.int .i64) (.int .i64)))]⟩], fun t => net_Net_Flying__com fu t.1 t.2.1 t.2.2.1 t.2.2.2⟩
theorem net_Net_Flying__com_eq (fu : Nat) : ∀ t, evF Go.Proofs.Try.prog [net_Net_made__com_ft fu] fu Go.Proofs.Try.f14 net_Net_Flying__com_fa t = (net_Net_Flying__com_ft fu).spec t := fun t => by kernel_rfl
theorem net_Net_Flying__com_told (fu : Nat) : Told Go.Proofs.Try.prog (net_Net_Flying__com_ft fu) := told_of (allT_cons (net_Net_made__com_told fu) allT_nil) mixed Go.Proofs.Try.func14 (by kernel_rfl) (by kernel_rfl) (net_Net_Flying__com_eq fu)

def net_Net_there__com (fu : Nat) (i : Int) (h : Int) (h1 : Int) (h2 : List ((Int × (Int × List (UInt8))))) (h3 : (List (((Int × Int) × Nat)) × Nat)) : Option ((Bool × (Int × (Int × (List ((Int × (Int × List (UInt8)))) × (List (((Int × Int) × Nat)) × Nat)))))) :=
  (net_Net_made__com fu h h1 h2 h3).bind fun r =>
  bif r.1 then
    some ((decide ((IntKind.wrap .u64 i) < (IntKind.wrap .u64 ((r.2.2.2.1.length : Nat) : Int)))), (r.2.1, (r.2.2.1, (r.2.2.2.1, r.2.2.2.2))))
  else
    some (false, (r.2.1, (r.2.2.1, (r.2.2.2.1, r.2.2.2.2))))
def net_Net_there__com_fa : FnA := ⟨.two (.leaf) (.two (.reg [(1, { sh := [0, 1, 2] })]) (.leaf)), ⟨(.cons (.own 0 0 0 0) (.cons (.p (.int .i64)) .nil)), [(0, false, (.vars (.cons (.p (.int .i64)) (.cons (.p (.int .i64)) (.cons (.slf 3 1) (.cons (.mp 2) .nil)))))), (1, false, (.rows 34 (.pair (.int .i64) (.pair (.int .i64) (.sl .byte))))), (2, false, (.map (.int .i64) (.int .i64)))]⟩, [⟨(.cons (.p .bool) .nil), [(0, false, (.vars (.cons (.p (.int .i64)) (.cons (.p (.int .i64)) (.cons (.slf 3 1) (.cons (.mp 2) .nil)))))), (1, false, (.rows 34 (.pair (.int .i64) (.pair (.int .i64) (.sl .byte))))), (2, false, (.map (.int .i64) (.int .i64)))]⟩], [0]⟩
def net_Net_there__com_ft (fu : Nat) : FnT := ⟨41, ⟨(.cons (.own 0 0 0 0) (.cons (.p (.int .i64)) .nil)), [(0, false, (.vars (.cons (.p (.int .i64)) (.cons (.p (.int .i64)) (.cons (.slf 3 1) (.cons (.mp 2) .nil)))))), (1, false, (.rows 34 (.pair (.int .i64) (.pair (.int .i64) (.sl .byte))))), (2, false, (.map (.int .i64) (.int .i64)))]⟩, [⟨(.cons (.p .bool) .nil), [(0, false, (.vars (.cons (.p (.int .i64)) (.cons (.p (.int .i64)) (.cons (.slf 3 1) (.cons (.mp 2) .nil)))))), (1, false, (.rows 34 (.pair (.int .i64) (.pair (.int .i64) (.sl .byte))))), (2, false, (.map (.int .i64) (.int .i64)))]⟩], fun t => net_Net_there__com fu t.1 t.2.1 t.2.2.1 t.2.2.2.1 t.2.2.2.2⟩
theorem net_Net_there__com_eq (fu : Nat) : ∀ t, evF Go.Proofs.Try.prog [net_Net_made__com_ft fu] fu Go.Proofs.Try.f41 net_Net_there__com_fa t = (net_Net_there__com_ft fu).spec t := fun t => by kernel_rfl
theorem net_Net_there__com_told (fu : Nat) : Told Go.Proofs.Try.prog (net_Net_there__com_ft fu) := told_of (allT_cons (net_Net_made__com_told fu) allT_nil) mixed Go.Proofs.Try.func41 (by kernel_rfl) (by kernel_rfl) (net_Net_there__com_eq fu)

def net_Net_full__com (fu : Nat) (to_ : Int) (h : Int) (h1 : Int) (h2 : List ((Int × (Int × List (UInt8))))) (h3 : (List (((Int × Int) × Nat)) × Nat)) : Option ((Bool × (Int × (Int × (List ((Int × (Int × List (UInt8)))) × (List (((Int × Int) × Nat)) × Nat)))))) :=
  bif ((Option.getD (mget (k := (.int .i64)) (v := (.int .i64)) h3 to_) 0) == h1) then
    some (true, (h, (h1, (h2, h3))))
  else
    some ((((h2.length : Nat) : Int) == 10000), (h, (h1, (h2, h3))))
def net_Net_full__com_fa : FnA := ⟨.two (.leaf) (.leaf), ⟨(.cons (.own 0 0 0 0) (.cons (.p (.int .i64)) .nil)), [(0, false, (.vars (.cons (.p (.int .i64)) (.cons (.p (.int .i64)) (.cons (.slf 3 1) (.cons (.mp 2) .nil)))))), (1, false, (.rows 34 (.pair (.int .i64) (.pair (.int .i64) (.sl .byte))))), (2, false, (.map (.int .i64) (.int .i64)))]⟩, [⟨(.cons (.p .bool) .nil), [(0, false, (.vars (.cons (.p (.int .i64)) (.cons (.p (.int .i64)) (.cons (.slf 3 1) (.cons (.mp 2) .nil)))))), (1, false, (.rows 34 (.pair (.int .i64) (.pair (.int .i64) (.sl .byte))))), (2, false, (.map (.int .i64) (.int .i64)))]⟩], [0]⟩
def net_Net_full__com_ft (fu : Nat) : FnT := ⟨50, ⟨(.cons (.own 0 0 0 0) (.cons (.p (.int .i64)) .nil)), [(0, false, (.vars (.cons (.p (.int .i64)) (.cons (.p (.int .i64)) (.cons (.slf 3 1) (.cons (.mp 2) .nil)))))), (1, false, (.rows 34 (.pair (.int .i64) (.pair (.int .i64) (.sl .byte))))), (2, false, (.map (.int .i64) (.int .i64)))]⟩, [⟨(.cons (.p .bool) .nil), [(0, false, (.vars (.cons (.p (.int .i64)) (.cons (.p (.int .i64)) (.cons (.slf 3 1) (.cons (.mp 2) .nil)))))), (1, false, (.rows 34 (.pair (.int .i64) (.pair (.int .i64) (.sl .byte))))), (2, false, (.map (.int .i64) (.int .i64)))]⟩], fun t => net_Net_full__com fu t.1 t.2.1 t.2.2.1 t.2.2.2.1 t.2.2.2.2⟩
theorem net_Net_full__com_eq (fu : Nat) : ∀ t, evF Go.Proofs.Try.prog [] fu Go.Proofs.Try.f50 net_Net_full__com_fa t = (net_Net_full__com_ft fu).spec t := fun t => by kernel_rfl
theorem net_Net_full__com_told (fu : Nat) : Told Go.Proofs.Try.prog (net_Net_full__com_ft fu) := told_of allT_nil mixed Go.Proofs.Try.func50 (by kernel_rfl) (by kernel_rfl) (net_Net_full__com_eq fu)

def net_Net_lay__com (fu : Nat) (d : (Int × (Int × List (UInt8)))) (h : Int) (h1 : Int) (h2 : List ((Int × (Int × List (UInt8))))) (h3 : (List (((Int × Int) × Nat)) × Nat)) : Option ((Int × (Int × (Int × (List ((Int × (Int × List (UInt8)))) × (List (((Int × Int) × Nat)) × Nat))))) ⊕ (Int × (Int × (Int × ((List (((Int × Int) × Nat)) × Nat) × List ((Int × (Int × List (UInt8))))))))) :=
  (net_Net_full__com fu d.2.1 h h1 h2 h3).bind fun r =>
  bif r.1 then
    some (.inl (5, (r.2.1, (r.2.2.1, (r.2.2.2.1, r.2.2.2.2)))))
  else
    (slices_Clone__byte_byte fu d.2.2).bind fun r1 =>
    need ((Nat.ble ((r.2.2.2.1.length + 1) * 40) room) && (Nat.ble (r.2.2.2.1.length + 1) room)) <|
    some (.inr (0, (r.2.1, (r.2.2.1, ((mput (k := (.int .i64)) (v := (.int .i64)) r.2.2.2.2 d.2.1 (IntKind.wrap .i64 ((Option.getD (mget (k := (.int .i64)) (v := (.int .i64)) r.2.2.2.2 d.2.1) 0) + 1))), (r.2.2.2.1 ++ [(d.1, (d.2.1, r1))]))))))
def net_Net_lay__com_fa : FnA := ⟨.two (.reg [(0, { ids := [100] })]) (.two (.two (.reg [(3, { sh := [0, 1, 2] })]) (.two (.leaf) (.leaf))) (.two (.reg [(2, { ids := [101], fn := 1 })]) (.two (.reg [(6, { ids := [102] }), (7, { ids := [103] })]) (.two (.leaf) (.leaf))))), ⟨(.cons (.own 0 0 0 0) (.cons (.p (.pair (.int .i64) (.pair (.int .i64) (.sl .byte)))) .nil)), [(0, false, (.vars (.cons (.p (.int .i64)) (.cons (.p (.int .i64)) (.cons (.slf 3 1) (.cons (.mp 2) .nil)))))), (1, false, (.rows 34 (.pair (.int .i64) (.pair (.int .i64) (.sl .byte))))), (2, false, (.map (.int .i64) (.int .i64)))]⟩, [⟨(.cons (.p (.int .i64)) .nil), [(0, false, (.vars (.cons (.p (.int .i64)) (.cons (.p (.int .i64)) (.cons (.slf 3 1) (.cons (.mp 2) .nil)))))), (1, false, (.rows 34 (.pair (.int .i64) (.pair (.int .i64) (.sl .byte))))), (2, false, (.map (.int .i64) (.int .i64)))]⟩, ⟨(.cons (.p (.int .i64)) .nil), [(0, false, (.vars (.cons (.p (.int .i64)) (.cons (.p (.int .i64)) (.cons (.slf 3 3) (.cons (.mp 2) .nil)))))), (2, false, (.map (.int .i64) (.int .i64))), (3, false, (.rows 34 (.pair (.int .i64) (.pair (.int .i64) (.sl .byte)))))]⟩], [0]⟩
def net_Net_lay__com_ft (fu : Nat) : FnT := ⟨40, ⟨(.cons (.own 0 0 0 0) (.cons (.p (.pair (.int .i64) (.pair (.int .i64) (.sl .byte)))) .nil)), [(0, false, (.vars (.cons (.p (.int .i64)) (.cons (.p (.int .i64)) (.cons (.slf 3 1) (.cons (.mp 2) .nil)))))), (1, false, (.rows 34 (.pair (.int .i64) (.pair (.int .i64) (.sl .byte))))), (2, false, (.map (.int .i64) (.int .i64)))]⟩, [⟨(.cons (.p (.int .i64)) .nil), [(0, false, (.vars (.cons (.p (.int .i64)) (.cons (.p (.int .i64)) (.cons (.slf 3 1) (.cons (.mp 2) .nil)))))), (1, false, (.rows 34 (.pair (.int .i64) (.pair (.int .i64) (.sl .byte))))), (2, false, (.map (.int .i64) (.int .i64)))]⟩, ⟨(.cons (.p (.int .i64)) .nil), [(0, false, (.vars (.cons (.p (.int .i64)) (.cons (.p (.int .i64)) (.cons (.slf 3 3) (.cons (.mp 2) .nil)))))), (2, false, (.map (.int .i64) (.int .i64))), (3, false, (.rows 34 (.pair (.int .i64) (.pair (.int .i64) (.sl .byte)))))]⟩], fun t => net_Net_lay__com fu t.1 t.2.1 t.2.2.1 t.2.2.2.1 t.2.2.2.2⟩
theorem net_Net_lay__com_eq (fu : Nat) : ∀ t, evF Go.Proofs.Try.prog [net_Net_full__com_ft fu, slices_Clone__byte_byte_ft fu] fu Go.Proofs.Try.f40 net_Net_lay__com_fa t = (net_Net_lay__com_ft fu).spec t := fun t => by kernel_rfl
theorem net_Net_lay__com_told (fu : Nat) : Told Go.Proofs.Try.prog (net_Net_lay__com_ft fu) := told_of (allT_cons (net_Net_full__com_told fu) (allT_cons (slices_Clone__byte_byte_told fu) allT_nil)) mixed Go.Proofs.Try.func40 (by kernel_rfl) (by kernel_rfl) (net_Net_lay__com_eq fu)

def net_Net_Copy__com (fu : Nat) (i : Int) (h : Int) (h1 : Int) (h2 : List ((Int × (Int × List (UInt8))))) (h3 : (List (((Int × Int) × Nat)) × Nat)) : Option ((Int × (Int × (Int × (List ((Int × (Int × List (UInt8)))) × (List (((Int × Int) × Nat)) × Nat))))) ⊕ (Int × (Int × (Int × ((List (((Int × Int) × Nat)) × Nat) × List ((Int × (Int × List (UInt8))))))))) :=
  (net_Net_made__com fu h h1 h2 h3).bind fun r =>
  bif (!r.1) then
    some (.inl (1, (r.2.1, (r.2.2.1, (r.2.2.2.1, r.2.2.2.2)))))
  else
    (net_Net_there__com fu i r.2.1 r.2.2.1 r.2.2.2.1 r.2.2.2.2).bind fun r1 =>
    bif (!r1.1) then
      some (.inl (2, (r1.2.1, (r1.2.2.1, (r1.2.2.2.1, r1.2.2.2.2)))))
    else
      (idx? i r1.2.2.2.1.length).bind fun q =>
      (r1.2.2.2.1)[q]?.bind fun r2 =>
      (net_Net_lay__com fu r2 r1.2.1 r1.2.2.1 r1.2.2.2.1 r1.2.2.2.2).bind fun r3 =>
      match r3 with
      | .inl r4 =>
        some (.inl (r4.1, (r4.2.1, (r4.2.2.1, (r4.2.2.2.1, r4.2.2.2.2)))))
      | .inr r5 =>
        some (.inr (r5.1, (r5.2.1, (r5.2.2.1, (r5.2.2.2.1, r5.2.2.2.2)))))
def net_Net_Copy__com_fa : FnA := ⟨.two (.leaf) (.two (.one (.two (.reg [(1, { sh := [0, 1, 2] })]) (.two (.leaf) (.two (.reg [(2, { sh := [0, 1, 2], fn := 1 })]) (.two (.leaf) (.leaf)))))) (.two (.reg [(8, { ids := [100], sh := [0, 1, 2], fn := 2 })]) (.leaf))), ⟨(.cons (.own 0 0 0 0) (.cons (.p (.int .i64)) .nil)), [(0, false, (.vars (.cons (.p (.int .i64)) (.cons (.p (.int .i64)) (.cons (.slf 3 1) (.cons (.mp 2) .nil)))))), (1, false, (.rows 34 (.pair (.int .i64) (.pair (.int .i64) (.sl .byte))))), (2, false, (.map (.int .i64) (.int .i64)))]⟩, [⟨(.cons (.p (.int .i64)) .nil), [(0, false, (.vars (.cons (.p (.int .i64)) (.cons (.p (.int .i64)) (.cons (.slf 3 1) (.cons (.mp 2) .nil)))))), (1, false, (.rows 34 (.pair (.int .i64) (.pair (.int .i64) (.sl .byte))))), (2, false, (.map (.int .i64) (.int .i64)))]⟩, ⟨(.cons (.p (.int .i64)) .nil), [(0, false, (.vars (.cons (.p (.int .i64)) (.cons (.p (.int .i64)) (.cons (.slf 3 3) (.cons (.mp 2) .nil)))))), (2, false, (.map (.int .i64) (.int .i64))), (3, false, (.rows 34 (.pair (.int .i64) (.pair (.int .i64) (.sl .byte)))))]⟩], [0]⟩
def net_Net_Copy__com_ft (fu : Nat) : FnT := ⟨15, ⟨(.cons (.own 0 0 0 0) (.cons (.p (.int .i64)) .nil)), [(0, false, (.vars (.cons (.p (.int .i64)) (.cons (.p (.int .i64)) (.cons (.slf 3 1) (.cons (.mp 2) .nil)))))), (1, false, (.rows 34 (.pair (.int .i64) (.pair (.int .i64) (.sl .byte))))), (2, false, (.map (.int .i64) (.int .i64)))]⟩, [⟨(.cons (.p (.int .i64)) .nil), [(0, false, (.vars (.cons (.p (.int .i64)) (.cons (.p (.int .i64)) (.cons (.slf 3 1) (.cons (.mp 2) .nil)))))), (1, false, (.rows 34 (.pair (.int .i64) (.pair (.int .i64) (.sl .byte))))), (2, false, (.map (.int .i64) (.int .i64)))]⟩, ⟨(.cons (.p (.int .i64)) .nil), [(0, false, (.vars (.cons (.p (.int .i64)) (.cons (.p (.int .i64)) (.cons (.slf 3 3) (.cons (.mp 2) .nil)))))), (2, false, (.map (.int .i64) (.int .i64))), (3, false, (.rows 34 (.pair (.int .i64) (.pair (.int .i64) (.sl .byte)))))]⟩], fun t => net_Net_Copy__com fu t.1 t.2.1 t.2.2.1 t.2.2.2.1 t.2.2.2.2⟩
theorem net_Net_Copy__com_eq (fu : Nat) : ∀ t, evF Go.Proofs.Try.prog [net_Net_made__com_ft fu, net_Net_there__com_ft fu, net_Net_lay__com_ft fu] fu Go.Proofs.Try.f15 net_Net_Copy__com_fa t = (net_Net_Copy__com_ft fu).spec t := fun t => by kernel_rfl
theorem net_Net_Copy__com_told (fu : Nat) : Told Go.Proofs.Try.prog (net_Net_Copy__com_ft fu) := told_of (allT_cons (net_Net_made__com_told fu) (allT_cons (net_Net_there__com_told fu) (allT_cons (net_Net_lay__com_told fu) allT_nil))) mixed Go.Proofs.Try.func15 (by kernel_rfl) (by kernel_rfl) (net_Net_Copy__com_eq fu)

def net_Net_Send__com_l0 (fu : Nat) (from_ : Int) (to_ : Int) (x : Int) (h4 : Int) (h5 : Int) (h6 : List ((Int × (Int × List (UInt8))))) (h7 : (List (((Int × Int) × Nat)) × Nat)) : Option ((Int × (Int × (Int × (List ((Int × (Int × List (UInt8)))) × (List (((Int × Int) × Nat)) × Nat))))) ⊕ ((Int × (Int × (List ((Int × (Int × List (UInt8)))) × (List (((Int × Int) × Nat)) × Nat)))) ⊕ (Int × (Int × (Int × (List ((Int × (Int × List (UInt8)))) × (List (((Int × Int) × Nat)) × Nat))))) ⊕ (Int × (Int × (Int × ((List (((Int × Int) × Nat)) × Nat) × List ((Int × (Int × List (UInt8)))))))))) :=
  bif (decide (x < 2)) then
    (idx? x 2).bind fun q =>
    ([from_, to_])[q]?.bind fun x1 =>
    Option.bind (α := ((Bool × (Int × (Int × (List ((Int × (Int × List (UInt8)))) × (List (((Int × Int) × Nat)) × Nat))))))) (
      bif (decide (x1 < 0)) then
        some (true, (h4, (h5, (h6, h7))))
      else
        some ((decide (x1 ≥ h4)), (h4, (h5, (h6, h7))))) fun o =>
    bif o.1 then
      some (.inr (.inr (.inl (2, (o.2.1, (o.2.2.1, (o.2.2.2.1, o.2.2.2.2)))))))
    else
      some (.inl ((IntKind.wrap .i64 (x + 1)), (o.2.1, (o.2.2.1, (o.2.2.2.1, o.2.2.2.2)))))
  else
    some (.inr (.inl (h4, (h5, (h6, h7)))))
def net_Net_Send__com_l0_it (fu : Nat) (from_ : Int) (to_ : Int) (tt : (Int × (Int × (Int × (List ((Int × (Int × List (UInt8)))) × (List (((Int × Int) × Nat)) × Nat)))))) : Option ((Int × (Int × (List ((Int × (Int × List (UInt8)))) × (List (((Int × Int) × Nat)) × Nat)))) ⊕ (Int × (Int × (Int × (List ((Int × (Int × List (UInt8)))) × (List (((Int × Int) × Nat)) × Nat))))) ⊕ (Int × (Int × (Int × ((List (((Int × Int) × Nat)) × Nat) × List ((Int × (Int × List (UInt8))))))))) :=
  iter fu (fun tt => net_Net_Send__com_l0 fu from_ to_ tt.1 tt.2.1 tt.2.2.1 tt.2.2.2.1 tt.2.2.2.2) tt
def net_Net_Send__com (fu : Nat) (from_ : Int) (to_ : Int) (b : List (UInt8)) (h : Int) (h1 : Int) (h2 : List ((Int × (Int × List (UInt8))))) (h3 : (List (((Int × Int) × Nat)) × Nat)) : Option ((Int × (Int × (Int × (List ((Int × (Int × List (UInt8)))) × (List (((Int × Int) × Nat)) × Nat))))) ⊕ (Int × (Int × (Int × ((List (((Int × Int) × Nat)) × Nat) × List ((Int × (Int × List (UInt8))))))))) :=
  (net_Net_made__com fu h h1 h2 h3).bind fun r =>
  bif (!r.1) then
    some (.inl (1, (r.2.1, (r.2.2.1, (r.2.2.2.1, r.2.2.2.2)))))
  else
    (net_Net_Send__com_l0_it fu from_ to_ (0, (r.2.1, (r.2.2.1, (r.2.2.2.1, r.2.2.2.2))))).bind fun o1 =>
    match o1 with
    | .inl s =>
      bif (decide (((b.length : Nat) : Int) > 131072)) then
        some (.inl (3, (s.1, (s.2.1, (s.2.2.1, s.2.2.2)))))
      else
        (net_Net_lay__com fu (from_, (to_, b)) s.1 s.2.1 s.2.2.1 s.2.2.2).bind fun r1 =>
        match r1 with
        | .inl r2 =>
          some (.inl (r2.1, (r2.2.1, (r2.2.2.1, (r2.2.2.2.1, r2.2.2.2.2)))))
        | .inr r3 =>
          some (.inr (r3.1, (r3.2.1, (r3.2.2.1, (r3.2.2.2.1, r3.2.2.2.2)))))
    | .inr o2 =>
      some o2
def net_Net_Send__com_fa : FnA := ⟨.two (.leaf) (.two (.two (.reg [(1, { sh := [0, 1, 2] })]) (.two (.leaf) (.leaf))) (.two (.two (.leaf) (.one (.loop ⟨[0, 17], ⟨(.cons (.own 0 0 0 0) (.cons (.p (.int .i64)) .nil)), [(0, false, (.vars (.cons (.p (.int .i64)) (.cons (.p (.int .i64)) (.cons (.slf 3 1) (.cons (.mp 2) .nil)))))), (1, false, (.rows 34 (.pair (.int .i64) (.pair (.int .i64) (.sl .byte))))), (2, false, (.map (.int .i64) (.int .i64)))]⟩⟩ true [(0, ⟨[0], ⟨(.cons (.own 0 0 0 0) .nil), [(0, false, (.vars (.cons (.p (.int .i64)) (.cons (.p (.int .i64)) (.cons (.slf 3 1) (.cons (.mp 2) .nil)))))), (1, false, (.rows 34 (.pair (.int .i64) (.pair (.int .i64) (.sl .byte))))), (2, false, (.map (.int .i64) (.int .i64)))]⟩⟩)] (.two (.leaf) (.two (.leaf) (.two (.one (.two (.leaf) (.two (.join ⟨[0, 29], ⟨(.cons (.own 0 0 0 0) (.cons (.p .bool) .nil)), [(0, false, (.vars (.cons (.p (.int .i64)) (.cons (.p (.int .i64)) (.cons (.slf 3 1) (.cons (.mp 2) .nil)))))), (1, false, (.rows 34 (.pair (.int .i64) (.pair (.int .i64) (.sl .byte))))), (2, false, (.map (.int .i64) (.int .i64)))]⟩⟩ false [] (.leaf)) (.two (.leaf) (.leaf))))) (.leaf))))))) (.two (.two (.leaf) (.two (.leaf) (.leaf))) (.two (.reg [(5, { ids := [100], sh := [0, 1, 2], fn := 1 })]) (.leaf))))), ⟨(.cons (.own 0 0 0 0) (.cons (.p (.int .i64)) (.cons (.p (.int .i64)) (.cons (.p (.sl .byte)) .nil)))), [(0, false, (.vars (.cons (.p (.int .i64)) (.cons (.p (.int .i64)) (.cons (.slf 3 1) (.cons (.mp 2) .nil)))))), (1, false, (.rows 34 (.pair (.int .i64) (.pair (.int .i64) (.sl .byte))))), (2, false, (.map (.int .i64) (.int .i64)))]⟩, [⟨(.cons (.p (.int .i64)) .nil), [(0, false, (.vars (.cons (.p (.int .i64)) (.cons (.p (.int .i64)) (.cons (.slf 3 1) (.cons (.mp 2) .nil)))))), (1, false, (.rows 34 (.pair (.int .i64) (.pair (.int .i64) (.sl .byte))))), (2, false, (.map (.int .i64) (.int .i64)))]⟩, ⟨(.cons (.p (.int .i64)) .nil), [(0, false, (.vars (.cons (.p (.int .i64)) (.cons (.p (.int .i64)) (.cons (.slf 3 3) (.cons (.mp 2) .nil)))))), (2, false, (.map (.int .i64) (.int .i64))), (3, false, (.rows 34 (.pair (.int .i64) (.pair (.int .i64) (.sl .byte)))))]⟩], [0]⟩
def net_Net_Send__com_ft (fu : Nat) : FnT := ⟨12, ⟨(.cons (.own 0 0 0 0) (.cons (.p (.int .i64)) (.cons (.p (.int .i64)) (.cons (.p (.sl .byte)) .nil)))), [(0, false, (.vars (.cons (.p (.int .i64)) (.cons (.p (.int .i64)) (.cons (.slf 3 1) (.cons (.mp 2) .nil)))))), (1, false, (.rows 34 (.pair (.int .i64) (.pair (.int .i64) (.sl .byte))))), (2, false, (.map (.int .i64) (.int .i64)))]⟩, [⟨(.cons (.p (.int .i64)) .nil), [(0, false, (.vars (.cons (.p (.int .i64)) (.cons (.p (.int .i64)) (.cons (.slf 3 1) (.cons (.mp 2) .nil)))))), (1, false, (.rows 34 (.pair (.int .i64) (.pair (.int .i64) (.sl .byte))))), (2, false, (.map (.int .i64) (.int .i64)))]⟩, ⟨(.cons (.p (.int .i64)) .nil), [(0, false, (.vars (.cons (.p (.int .i64)) (.cons (.p (.int .i64)) (.cons (.slf 3 3) (.cons (.mp 2) .nil)))))), (2, false, (.map (.int .i64) (.int .i64))), (3, false, (.rows 34 (.pair (.int .i64) (.pair (.int .i64) (.sl .byte)))))]⟩], fun t => net_Net_Send__com fu t.1 t.2.1 t.2.2.1 t.2.2.2.1 t.2.2.2.2.1 t.2.2.2.2.2.1 t.2.2.2.2.2.2⟩
theorem net_Net_Send__com_eq (fu : Nat) : ∀ t, evF Go.Proofs.Try.prog [net_Net_made__com_ft fu, net_Net_lay__com_ft fu] fu Go.Proofs.Try.f12 net_Net_Send__com_fa t = (net_Net_Send__com_ft fu).spec t := fun t => by kernel_rfl
theorem net_Net_Send__com_told (fu : Nat) : Told Go.Proofs.Try.prog (net_Net_Send__com_ft fu) := told_of (allT_cons (net_Net_made__com_told fu) (allT_cons (net_Net_lay__com_told fu) allT_nil)) mixed Go.Proofs.Try.func12 (by kernel_rfl) (by kernel_rfl) (net_Net_Send__com_eq fu)

def net_Net_Look__com (fu : Nat) (i : Int) (h : Int) (h1 : Int) (h2 : List ((Int × (Int × List (UInt8))))) (h3 : (List (((Int × Int) × Nat)) × Nat)) : Option ((Int × (Int × (List (UInt8) × (Bool × (Int × (Int × (List ((Int × (Int × List (UInt8)))) × (List (((Int × Int) × Nat)) × Nat))))))))) :=
  (net_Net_there__com fu i h h1 h2 h3).bind fun r =>
  bif (!r.1) then
    some (0, (0, ([], (false, (r.2.1, (r.2.2.1, (r.2.2.2.1, r.2.2.2.2)))))))
  else
    (idx? i r.2.2.2.1.length).bind fun q =>
    (r.2.2.2.1)[q]?.bind fun r1 =>
    (slices_Clone__byte_byte fu r1.2.2).bind fun r2 =>
    some (r1.1, (r1.2.1, (r2, (true, (r.2.1, (r.2.2.1, (r.2.2.2.1, r.2.2.2.2)))))))
def net_Net_Look__com_fa : FnA := ⟨.two (.reg [(0, { ids := [100] })]) (.two (.two (.reg [(2, { sh := [0, 1, 2] })]) (.two (.leaf) (.leaf))) (.two (.reg [(7, { ids := [101] })]) (.two (.reg [(6, { ids := [102], fn := 1 })]) (.leaf)))), ⟨(.cons (.own 0 0 0 0) (.cons (.p (.int .i64)) .nil)), [(0, false, (.vars (.cons (.p (.int .i64)) (.cons (.p (.int .i64)) (.cons (.slf 3 1) (.cons (.mp 2) .nil)))))), (1, false, (.rows 34 (.pair (.int .i64) (.pair (.int .i64) (.sl .byte))))), (2, false, (.map (.int .i64) (.int .i64)))]⟩, [⟨(.cons (.agg (.cons (.p (.int .i64)) (.cons (.p (.int .i64)) (.cons (.p (.sl .byte)) .nil)))) (.cons (.p .bool) .nil)), [(0, false, (.vars (.cons (.p (.int .i64)) (.cons (.p (.int .i64)) (.cons (.slf 3 1) (.cons (.mp 2) .nil)))))), (1, false, (.rows 34 (.pair (.int .i64) (.pair (.int .i64) (.sl .byte))))), (2, false, (.map (.int .i64) (.int .i64)))]⟩], [1, 0]⟩
def net_Net_Look__com_ft (fu : Nat) : FnT := ⟨17, ⟨(.cons (.own 0 0 0 0) (.cons (.p (.int .i64)) .nil)), [(0, false, (.vars (.cons (.p (.int .i64)) (.cons (.p (.int .i64)) (.cons (.slf 3 1) (.cons (.mp 2) .nil)))))), (1, false, (.rows 34 (.pair (.int .i64) (.pair (.int .i64) (.sl .byte))))), (2, false, (.map (.int .i64) (.int .i64)))]⟩, [⟨(.cons (.agg (.cons (.p (.int .i64)) (.cons (.p (.int .i64)) (.cons (.p (.sl .byte)) .nil)))) (.cons (.p .bool) .nil)), [(0, false, (.vars (.cons (.p (.int .i64)) (.cons (.p (.int .i64)) (.cons (.slf 3 1) (.cons (.mp 2) .nil)))))), (1, false, (.rows 34 (.pair (.int .i64) (.pair (.int .i64) (.sl .byte))))), (2, false, (.map (.int .i64) (.int .i64)))]⟩], fun t => net_Net_Look__com fu t.1 t.2.1 t.2.2.1 t.2.2.2.1 t.2.2.2.2⟩
theorem net_Net_Look__com_eq (fu : Nat) : ∀ t, evF Go.Proofs.Try.prog [net_Net_there__com_ft fu, slices_Clone__byte_byte_ft fu] fu Go.Proofs.Try.f17 net_Net_Look__com_fa t = (net_Net_Look__com_ft fu).spec t := fun t => by kernel_rfl
theorem net_Net_Look__com_told (fu : Nat) : Told Go.Proofs.Try.prog (net_Net_Look__com_ft fu) := told_of (allT_cons (net_Net_there__com_told fu) (allT_cons (slices_Clone__byte_byte_told fu) allT_nil)) mixed Go.Proofs.Try.func17 (by kernel_rfl) (by kernel_rfl) (net_Net_Look__com_eq fu)

def law07_is__com (fu : Nat) (i : Int) (from_ : Int) (to_ : Int) (b : List UInt8) (h : Int) (h1 : Int) (h2 : List ((Int × (Int × List (UInt8))))) (h3 : (List (((Int × Int) × Nat)) × Nat)) : Option ((Bool × (Int × (Int × (List ((Int × (Int × List (UInt8)))) × (List (((Int × Int) × Nat)) × Nat)))))) :=
  (net_Net_Look__com fu i h h1 h2 h3).bind fun r =>
  bif r.2.2.2.1 then
    need (Nat.ble b.length room) <|
    (law07_like fu (r.1, (r.2.1, r.2.2.1)) (from_, (to_, b))).bind fun r1 =>
    some (r1, (r.2.2.2.2.1, (r.2.2.2.2.2.1, (r.2.2.2.2.2.2.1, r.2.2.2.2.2.2.2))))
  else
    some (false, (r.2.2.2.2.1, (r.2.2.2.2.2.1, (r.2.2.2.2.2.2.1, r.2.2.2.2.2.2.2))))
def law07_is__com_fa : FnA := ⟨.two (.leaf) (.two (.reg [(2, { sh := [0, 1, 2] }), (6, { ids := [100] })]) (.two (.reg [(6, { ids := [101] }), (8, { md := [0, 2], fn := 1 })]) (.leaf))), ⟨(.cons (.own 0 0 0 0) (.cons (.p (.int .i64)) (.cons (.p (.int .i64)) (.cons (.p (.int .i64)) (.cons (.p .str) .nil))))), [(0, false, (.vars (.cons (.p (.int .i64)) (.cons (.p (.int .i64)) (.cons (.slf 3 1) (.cons (.mp 2) .nil)))))), (1, false, (.rows 34 (.pair (.int .i64) (.pair (.int .i64) (.sl .byte))))), (2, false, (.map (.int .i64) (.int .i64)))]⟩, [⟨(.cons (.p .bool) .nil), [(0, false, (.vars (.cons (.p (.int .i64)) (.cons (.p (.int .i64)) (.cons (.slf 3 1) (.cons (.mp 2) .nil)))))), (1, false, (.rows 34 (.pair (.int .i64) (.pair (.int .i64) (.sl .byte))))), (2, false, (.map (.int .i64) (.int .i64)))]⟩], [0]⟩
def law07_is__com_ft (fu : Nat) : FnT := ⟨46, ⟨(.cons (.own 0 0 0 0) (.cons (.p (.int .i64)) (.cons (.p (.int .i64)) (.cons (.p (.int .i64)) (.cons (.p .str) .nil))))), [(0, false, (.vars (.cons (.p (.int .i64)) (.cons (.p (.int .i64)) (.cons (.slf 3 1) (.cons (.mp 2) .nil)))))), (1, false, (.rows 34 (.pair (.int .i64) (.pair (.int .i64) (.sl .byte))))), (2, false, (.map (.int .i64) (.int .i64)))]⟩, [⟨(.cons (.p .bool) .nil), [(0, false, (.vars (.cons (.p (.int .i64)) (.cons (.p (.int .i64)) (.cons (.slf 3 1) (.cons (.mp 2) .nil)))))), (1, false, (.rows 34 (.pair (.int .i64) (.pair (.int .i64) (.sl .byte))))), (2, false, (.map (.int .i64) (.int .i64)))]⟩], fun t => law07_is__com fu t.1 t.2.1 t.2.2.1 t.2.2.2.1 t.2.2.2.2.1 t.2.2.2.2.2.1 t.2.2.2.2.2.2.1 t.2.2.2.2.2.2.2⟩
theorem law07_is__com_eq (fu : Nat) : ∀ t, evF Go.Proofs.Try.prog [net_Net_Look__com_ft fu, law07_like_ft fu] fu Go.Proofs.Try.f46 law07_is__com_fa t = (law07_is__com_ft fu).spec t := fun t => by kernel_rfl
theorem law07_is__com_told (fu : Nat) : Told Go.Proofs.Try.prog (law07_is__com_ft fu) := told_of (allT_cons (net_Net_Look__com_told fu) (allT_cons (law07_like_told fu) allT_nil)) mixed Go.Proofs.Try.func46 (by kernel_rfl) (by kernel_rfl) (law07_is__com_eq fu)

def net_Net_Waiting__com (fu : Nat) (to_ : Int) (h : Int) (h1 : Int) (h2 : List ((Int × (Int × List (UInt8))))) (h3 : (List (((Int × Int) × Nat)) × Nat)) : Option ((Int × (Int × (Int × (List ((Int × (Int × List (UInt8)))) × (List (((Int × Int) × Nat)) × Nat)))))) :=
  (net_Net_made__com fu h h1 h2 h3).bind fun r =>
  bif (!r.1) then
    some (0, (r.2.1, (r.2.2.1, (r.2.2.2.1, r.2.2.2.2))))
  else
    some ((Option.getD (mget (k := (.int .i64)) (v := (.int .i64)) r.2.2.2.2 to_) 0), (r.2.1, (r.2.2.1, (r.2.2.2.1, r.2.2.2.2))))
def net_Net_Waiting__com_fa : FnA := ⟨.two (.leaf) (.two (.two (.reg [(1, { sh := [0, 1, 2] })]) (.two (.leaf) (.leaf))) (.leaf)), ⟨(.cons (.own 0 0 0 0) (.cons (.p (.int .i64)) .nil)), [(0, false, (.vars (.cons (.p (.int .i64)) (.cons (.p (.int .i64)) (.cons (.slf 3 1) (.cons (.mp 2) .nil)))))), (1, false, (.rows 34 (.pair (.int .i64) (.pair (.int .i64) (.sl .byte))))), (2, false, (.map (.int .i64) (.int .i64)))]⟩, [⟨(.cons (.p (.int .i64)) .nil), [(0, false, (.vars (.cons (.p (.int .i64)) (.cons (.p (.int .i64)) (.cons (.slf 3 1) (.cons (.mp 2) .nil)))))), (1, false, (.rows 34 (.pair (.int .i64) (.pair (.int .i64) (.sl .byte))))), (2, false, (.map (.int .i64) (.int .i64)))]⟩], [0]⟩
def net_Net_Waiting__com_ft (fu : Nat) : FnT := ⟨18, ⟨(.cons (.own 0 0 0 0) (.cons (.p (.int .i64)) .nil)), [(0, false, (.vars (.cons (.p (.int .i64)) (.cons (.p (.int .i64)) (.cons (.slf 3 1) (.cons (.mp 2) .nil)))))), (1, false, (.rows 34 (.pair (.int .i64) (.pair (.int .i64) (.sl .byte))))), (2, false, (.map (.int .i64) (.int .i64)))]⟩, [⟨(.cons (.p (.int .i64)) .nil), [(0, false, (.vars (.cons (.p (.int .i64)) (.cons (.p (.int .i64)) (.cons (.slf 3 1) (.cons (.mp 2) .nil)))))), (1, false, (.rows 34 (.pair (.int .i64) (.pair (.int .i64) (.sl .byte))))), (2, false, (.map (.int .i64) (.int .i64)))]⟩], fun t => net_Net_Waiting__com fu t.1 t.2.1 t.2.2.1 t.2.2.2.1 t.2.2.2.2⟩
theorem net_Net_Waiting__com_eq (fu : Nat) : ∀ t, evF Go.Proofs.Try.prog [net_Net_made__com_ft fu] fu Go.Proofs.Try.f18 net_Net_Waiting__com_fa t = (net_Net_Waiting__com_ft fu).spec t := fun t => by kernel_rfl
theorem net_Net_Waiting__com_told (fu : Nat) : Told Go.Proofs.Try.prog (net_Net_Waiting__com_ft fu) := told_of (allT_cons (net_Net_made__com_told fu) allT_nil) mixed Go.Proofs.Try.func18 (by kernel_rfl) (by kernel_rfl) (net_Net_Waiting__com_eq fu)

def slices_Grow__api_Datum_api_Datum_n0 (fu : Nat) (n : Int) : Option (List ((Int × (Int × List (UInt8))))) :=
  bif (decide (n < 0)) then
    none
  else
    bif (decide ((IntKind.wrap .i64 (n - 0)) > 0)) then
      (upto? (IntKind.wrap .i64 (n - 0)) room).bind fun q =>
      need ((Nat.ble (q * 40) room) && (Nat.ble q room)) <|
      (upto? 0 (List.replicate (α := (Int × (Int × List (UInt8)))) q (0, (0, []))).length).bind fun q1 =>
      need (Nat.ble q1 (List.replicate (α := (Int × (Int × List (UInt8)))) q (0, (0, []))).length) <|
      some (List.take q1 (List.replicate (α := (Int × (Int × List (UInt8)))) q (0, (0, []))))
    else
      some []
def slices_Grow__api_Datum_api_Datum_n0_fa : FnA := ⟨.two (.leaf) (.two (.two (.leaf) (.leaf)) (.two (.two (.leaf) (.two (.leaf) (.two (.reg [(5, { ids := [100] })]) (.leaf)))) (.leaf))), ⟨(.cons (.nilp (.slice none 0 0)) (.cons (.p (.int .i64)) .nil)), []⟩, [⟨(.cons (.slf 3 0) .nil), [(0, false, (.rows 34 (.pair (.int .i64) (.pair (.int .i64) (.sl .byte)))))]⟩], [44]⟩
def slices_Grow__api_Datum_api_Datum_n0_ft (fu : Nat) : FnT := ⟨51, ⟨(.cons (.nilp (.slice none 0 0)) (.cons (.p (.int .i64)) .nil)), []⟩, [⟨(.cons (.slf 3 0) .nil), [(0, false, (.rows 34 (.pair (.int .i64) (.pair (.int .i64) (.sl .byte)))))]⟩], fun t => slices_Grow__api_Datum_api_Datum_n0 fu t⟩
theorem slices_Grow__api_Datum_api_Datum_n0_eq (fu : Nat) : ∀ t, evF Go.Proofs.Try.prog [] fu Go.Proofs.Try.f51 slices_Grow__api_Datum_api_Datum_n0_fa t = (slices_Grow__api_Datum_api_Datum_n0_ft fu).spec t := fun t => by kernel_rfl
theorem slices_Grow__api_Datum_api_Datum_n0_told (fu : Nat) : Told Go.Proofs.Try.prog (slices_Grow__api_Datum_api_Datum_n0_ft fu) := told_of allT_nil mixed Go.Proofs.Try.func51 (by kernel_rfl) (by kernel_rfl) (slices_Grow__api_Datum_api_Datum_n0_eq fu)

def slices_Concat__api_Datum_api_Datum_l0 (fu : Nat) (slices : List (List ((Int × (Int × List (UInt8)))))) (size : Int) (x : Int) : Option ((Int × Int) ⊕ (Int)) :=
  bif (decide (x < ((slices.length : Nat) : Int))) then
    (idx? x slices.length).bind fun q =>
    (slices)[q]?.bind fun r =>
    bif (decide ((IntKind.wrap .i64 (size + ((r.length : Nat) : Int))) < 0)) then
      none
    else
      some (.inl ((IntKind.wrap .i64 (size + ((r.length : Nat) : Int))), (IntKind.wrap .i64 (x + 1))))
  else
    some (.inr size)
def slices_Concat__api_Datum_api_Datum_l0_it (fu : Nat) (slices : List (List ((Int × (Int × List (UInt8)))))) (tt : (Int × Int)) : Option (Int) :=
  iter fu (fun tt => slices_Concat__api_Datum_api_Datum_l0 fu slices tt.1 tt.2) tt
def slices_Concat__api_Datum_api_Datum_l1 (fu : Nat) (slices : List (List ((Int × (Int × List (UInt8)))))) (x1 : Int) (h : List ((Int × (Int × List (UInt8))))) : Option ((Int × List ((Int × (Int × List (UInt8))))) ⊕ (List ((Int × (Int × List (UInt8)))))) :=
  bif (decide (x1 < ((slices.length : Nat) : Int))) then
    (idx? x1 slices.length).bind fun q1 =>
    (slices)[q1]?.bind fun r2 =>
    need ((Nat.ble ((h.length + r2.length) * 40) room) && (Nat.ble (h.length + r2.length) room)) <|
    some (.inl ((IntKind.wrap .i64 (x1 + 1)), (h ++ r2)))
  else
    some (.inr h)
def slices_Concat__api_Datum_api_Datum_l1_it (fu : Nat) (slices : List (List ((Int × (Int × List (UInt8)))))) (tt : (Int × List ((Int × (Int × List (UInt8)))))) : Option (List ((Int × (Int × List (UInt8))))) :=
  iter fu (fun tt => slices_Concat__api_Datum_api_Datum_l1 fu slices tt.1 tt.2) tt
def slices_Concat__api_Datum_api_Datum (fu : Nat) (slices : List (List ((Int × (Int × List (UInt8)))))) : Option (List ((Int × (Int × List (UInt8))))) :=
  (slices_Concat__api_Datum_api_Datum_l0_it fu slices (0, 0)).bind fun o =>
  (slices_Grow__api_Datum_api_Datum_n0 fu o).bind fun r1 =>
  (slices_Concat__api_Datum_api_Datum_l1_it fu slices (0, r1)).bind fun o1 =>
  some o1
def slices_Concat__api_Datum_api_Datum_fa : FnA := ⟨.two (.leaf) (.two (.leaf) (.two (.two (.leaf) (.one (.loop ⟨[3, 11], ⟨(.cons (.p (.int .i64)) (.cons (.p (.int .i64)) .nil)), []⟩⟩ false [(0, ⟨[3], ⟨(.cons (.p (.int .i64)) .nil), []⟩⟩)] (.two (.leaf) (.two (.leaf) (.two (.one (.two (.leaf) (.two (.leaf) (.two (.leaf) (.leaf))))) (.leaf))))))) (.two (.reg [(1, { ids := [100] })]) (.two (.two (.leaf) (.one (.loop ⟨[6, 27], ⟨(.cons (.slf 3 100) (.cons (.p (.int .i64)) .nil)), [(100, false, (.rows 34 (.pair (.int .i64) (.pair (.int .i64) (.sl .byte)))))]⟩⟩ false [(2, ⟨[6], ⟨(.cons (.slf 3 100) .nil), [(100, false, (.rows 34 (.pair (.int .i64) (.pair (.int .i64) (.sl .byte)))))]⟩⟩)] (.two (.leaf) (.two (.leaf) (.two (.one (.two (.leaf) (.reg [(2, { ids := [101] })]))) (.leaf))))))) (.leaf))))), ⟨(.cons (.p (.sl (.sl (.pair (.int .i64) (.pair (.int .i64) (.sl .byte)))))) .nil), []⟩, [⟨(.cons (.slf 3 0) .nil), [(0, false, (.rows 34 (.pair (.int .i64) (.pair (.int .i64) (.sl .byte)))))]⟩], [0]⟩
def slices_Concat__api_Datum_api_Datum_ft (fu : Nat) : FnT := ⟨42, ⟨(.cons (.p (.sl (.sl (.pair (.int .i64) (.pair (.int .i64) (.sl .byte)))))) .nil), []⟩, [⟨(.cons (.slf 3 0) .nil), [(0, false, (.rows 34 (.pair (.int .i64) (.pair (.int .i64) (.sl .byte)))))]⟩], fun t => slices_Concat__api_Datum_api_Datum fu t⟩
theorem slices_Concat__api_Datum_api_Datum_eq (fu : Nat) : ∀ t, evF Go.Proofs.Try.prog [slices_Grow__api_Datum_api_Datum_n0_ft fu] fu Go.Proofs.Try.f42 slices_Concat__api_Datum_api_Datum_fa t = (slices_Concat__api_Datum_api_Datum_ft fu).spec t := fun t => by kernel_rfl
theorem slices_Concat__api_Datum_api_Datum_told (fu : Nat) : Told Go.Proofs.Try.prog (slices_Concat__api_Datum_api_Datum_ft fu) := told_of (allT_cons (slices_Grow__api_Datum_api_Datum_n0_told fu) allT_nil) mixed Go.Proofs.Try.func42 (by kernel_rfl) (by kernel_rfl) (slices_Concat__api_Datum_api_Datum_eq fu)

def net_Net_Drop__com (fu : Nat) (i : Int) (h : Int) (h1 : Int) (h2 : List ((Int × (Int × List (UInt8))))) (h3 : (List (((Int × Int) × Nat)) × Nat)) : Option ((Bool × (Int × (Int × (List ((Int × (Int × List (UInt8)))) × (List (((Int × Int) × Nat)) × Nat))))) ⊕ (Bool × (Int × (Int × ((List (((Int × Int) × Nat)) × Nat) × (List ((Int × (Int × List (UInt8)))) × List ((Int × (Int × List (UInt8)))))))))) :=
  (net_Net_there__com fu i h h1 h2 h3).bind fun r =>
  bif (!r.1) then
    some (.inl (false, (r.2.1, (r.2.2.1, (r.2.2.2.1, r.2.2.2.2)))))
  else
    (idx? i r.2.2.2.1.length).bind fun q =>
    (r.2.2.2.1)[q]?.bind fun r1 =>
    (upto? i r.2.2.2.1.length).bind fun q1 =>
    (upto? (IntKind.wrap .i64 (i + 1)) r.2.2.2.1.length).bind fun q2 =>
    need (Nat.ble (0 + q1) r.2.2.2.1.length) <|
    need (Nat.ble (q2 + (r.2.2.2.1.length - q2)) r.2.2.2.1.length) <|
    (slices_Concat__api_Datum_api_Datum fu [(List.take q1 (List.drop 0 r.2.2.2.1)), (List.take (r.2.2.2.1.length - q2) (List.drop q2 r.2.2.2.1))]).bind fun r2 =>
    some (.inr (true, (r.2.1, (r.2.2.1, ((mput (k := (.int .i64)) (v := (.int .i64)) r.2.2.2.2 r1.2.1 (IntKind.wrap .i64 ((Option.getD (mget (k := (.int .i64)) (v := (.int .i64)) r.2.2.2.2 r1.2.1) 0) - 1))), (r.2.2.2.1, r2))))))
def net_Net_Drop__com_fa : FnA := ⟨.two (.leaf) (.two (.two (.reg [(2, { sh := [0, 1, 2] })]) (.two (.leaf) (.leaf))) (.two (.leaf) (.two (.reg [(14, { ids := [100] }), (15, { ids := [101], md := [1], fn := 1 })]) (.leaf)))), ⟨(.cons (.own 0 0 0 0) (.cons (.p (.int .i64)) .nil)), [(0, false, (.vars (.cons (.p (.int .i64)) (.cons (.p (.int .i64)) (.cons (.slf 3 1) (.cons (.mp 2) .nil)))))), (1, false, (.rows 34 (.pair (.int .i64) (.pair (.int .i64) (.sl .byte))))), (2, false, (.map (.int .i64) (.int .i64)))]⟩, [⟨(.cons (.p .bool) .nil), [(0, false, (.vars (.cons (.p (.int .i64)) (.cons (.p (.int .i64)) (.cons (.slf 3 1) (.cons (.mp 2) .nil)))))), (1, false, (.rows 34 (.pair (.int .i64) (.pair (.int .i64) (.sl .byte))))), (2, false, (.map (.int .i64) (.int .i64)))]⟩, ⟨(.cons (.p .bool) .nil), [(0, false, (.vars (.cons (.p (.int .i64)) (.cons (.p (.int .i64)) (.cons (.slf 3 3) (.cons (.mp 2) .nil)))))), (2, false, (.map (.int .i64) (.int .i64))), (1, true, (.rows 34 (.pair (.int .i64) (.pair (.int .i64) (.sl .byte))))), (3, false, (.rows 34 (.pair (.int .i64) (.pair (.int .i64) (.sl .byte)))))]⟩], [0]⟩
def net_Net_Drop__com_ft (fu : Nat) : FnT := ⟨13, ⟨(.cons (.own 0 0 0 0) (.cons (.p (.int .i64)) .nil)), [(0, false, (.vars (.cons (.p (.int .i64)) (.cons (.p (.int .i64)) (.cons (.slf 3 1) (.cons (.mp 2) .nil)))))), (1, false, (.rows 34 (.pair (.int .i64) (.pair (.int .i64) (.sl .byte))))), (2, false, (.map (.int .i64) (.int .i64)))]⟩, [⟨(.cons (.p .bool) .nil), [(0, false, (.vars (.cons (.p (.int .i64)) (.cons (.p (.int .i64)) (.cons (.slf 3 1) (.cons (.mp 2) .nil)))))), (1, false, (.rows 34 (.pair (.int .i64) (.pair (.int .i64) (.sl .byte))))), (2, false, (.map (.int .i64) (.int .i64)))]⟩, ⟨(.cons (.p .bool) .nil), [(0, false, (.vars (.cons (.p (.int .i64)) (.cons (.p (.int .i64)) (.cons (.slf 3 3) (.cons (.mp 2) .nil)))))), (2, false, (.map (.int .i64) (.int .i64))), (1, true, (.rows 34 (.pair (.int .i64) (.pair (.int .i64) (.sl .byte))))), (3, false, (.rows 34 (.pair (.int .i64) (.pair (.int .i64) (.sl .byte)))))]⟩], fun t => net_Net_Drop__com fu t.1 t.2.1 t.2.2.1 t.2.2.2.1 t.2.2.2.2⟩
theorem net_Net_Drop__com_eq (fu : Nat) : ∀ t, evF Go.Proofs.Try.prog [net_Net_there__com_ft fu, slices_Concat__api_Datum_api_Datum_ft fu] fu Go.Proofs.Try.f13 net_Net_Drop__com_fa t = (net_Net_Drop__com_ft fu).spec t := fun t => by kernel_rfl
theorem net_Net_Drop__com_told (fu : Nat) : Told Go.Proofs.Try.prog (net_Net_Drop__com_ft fu) := told_of (allT_cons (net_Net_there__com_told fu) (allT_cons (slices_Concat__api_Datum_api_Datum_told fu) allT_nil)) mixed Go.Proofs.Try.func13 (by kernel_rfl) (by kernel_rfl) (net_Net_Drop__com_eq fu)

def net_Net_Take__com (fu : Nat) (i : Int) (h : Int) (h1 : Int) (h2 : List ((Int × (Int × List (UInt8))))) (h3 : (List (((Int × Int) × Nat)) × Nat)) : Option ((Int × (Int × (List (UInt8) × (Bool × (Int × (Int × (List ((Int × (Int × List (UInt8)))) × (List (((Int × Int) × Nat)) × Nat)))))))) ⊕ (Int × (Int × (List (UInt8) × (Bool × (Int × (Int × ((List (((Int × Int) × Nat)) × Nat) × (List ((Int × (Int × List (UInt8)))) × List ((Int × (Int × List (UInt8))))))))))))) :=
  (net_Net_Look__com fu i h h1 h2 h3).bind fun r =>
  bif r.2.2.2.1 then
    (net_Net_Drop__com fu i r.2.2.2.2.1 r.2.2.2.2.2.1 r.2.2.2.2.2.2.1 r.2.2.2.2.2.2.2).bind fun r1 =>
    match r1 with
    | .inl r2 =>
      some (.inl (r.1, (r.2.1, (r.2.2.1, (r2.1, (r2.2.1, (r2.2.2.1, (r2.2.2.2.1, r2.2.2.2.2))))))))
    | .inr r3 =>
      some (.inr (r.1, (r.2.1, (r.2.2.1, (r3.1, (r3.2.1, (r3.2.2.1, (r3.2.2.2.1, (r3.2.2.2.2.1, r3.2.2.2.2.2)))))))))
  else
    some (.inl (r.1, (r.2.1, (r.2.2.1, (false, (r.2.2.2.2.1, (r.2.2.2.2.2.1, (r.2.2.2.2.2.2.1, r.2.2.2.2.2.2.2))))))))
def net_Net_Take__com_fa : FnA := ⟨.two (.reg [(0, { ids := [100] })]) (.two (.reg [(2, { sh := [0, 1, 2] }), (6, { ids := [101] })]) (.two (.reg [(5, { ids := [102], sh := [0, 1, 2], fn := 1 })]) (.leaf))), ⟨(.cons (.own 0 0 0 0) (.cons (.p (.int .i64)) .nil)), [(0, false, (.vars (.cons (.p (.int .i64)) (.cons (.p (.int .i64)) (.cons (.slf 3 1) (.cons (.mp 2) .nil)))))), (1, false, (.rows 34 (.pair (.int .i64) (.pair (.int .i64) (.sl .byte))))), (2, false, (.map (.int .i64) (.int .i64)))]⟩, [⟨(.cons (.agg (.cons (.p (.int .i64)) (.cons (.p (.int .i64)) (.cons (.p (.sl .byte)) .nil)))) (.cons (.p .bool) .nil)), [(0, false, (.vars (.cons (.p (.int .i64)) (.cons (.p (.int .i64)) (.cons (.slf 3 1) (.cons (.mp 2) .nil)))))), (1, false, (.rows 34 (.pair (.int .i64) (.pair (.int .i64) (.sl .byte))))), (2, false, (.map (.int .i64) (.int .i64)))]⟩, ⟨(.cons (.agg (.cons (.p (.int .i64)) (.cons (.p (.int .i64)) (.cons (.p (.sl .byte)) .nil)))) (.cons (.p .bool) .nil)), [(0, false, (.vars (.cons (.p (.int .i64)) (.cons (.p (.int .i64)) (.cons (.slf 3 3) (.cons (.mp 2) .nil)))))), (2, false, (.map (.int .i64) (.int .i64))), (1, true, (.rows 34 (.pair (.int .i64) (.pair (.int .i64) (.sl .byte))))), (3, false, (.rows 34 (.pair (.int .i64) (.pair (.int .i64) (.sl .byte)))))]⟩], [0, 0]⟩
def net_Net_Take__com_ft (fu : Nat) : FnT := ⟨16, ⟨(.cons (.own 0 0 0 0) (.cons (.p (.int .i64)) .nil)), [(0, false, (.vars (.cons (.p (.int .i64)) (.cons (.p (.int .i64)) (.cons (.slf 3 1) (.cons (.mp 2) .nil)))))), (1, false, (.rows 34 (.pair (.int .i64) (.pair (.int .i64) (.sl .byte))))), (2, false, (.map (.int .i64) (.int .i64)))]⟩, [⟨(.cons (.agg (.cons (.p (.int .i64)) (.cons (.p (.int .i64)) (.cons (.p (.sl .byte)) .nil)))) (.cons (.p .bool) .nil)), [(0, false, (.vars (.cons (.p (.int .i64)) (.cons (.p (.int .i64)) (.cons (.slf 3 1) (.cons (.mp 2) .nil)))))), (1, false, (.rows 34 (.pair (.int .i64) (.pair (.int .i64) (.sl .byte))))), (2, false, (.map (.int .i64) (.int .i64)))]⟩, ⟨(.cons (.agg (.cons (.p (.int .i64)) (.cons (.p (.int .i64)) (.cons (.p (.sl .byte)) .nil)))) (.cons (.p .bool) .nil)), [(0, false, (.vars (.cons (.p (.int .i64)) (.cons (.p (.int .i64)) (.cons (.slf 3 3) (.cons (.mp 2) .nil)))))), (2, false, (.map (.int .i64) (.int .i64))), (1, true, (.rows 34 (.pair (.int .i64) (.pair (.int .i64) (.sl .byte))))), (3, false, (.rows 34 (.pair (.int .i64) (.pair (.int .i64) (.sl .byte)))))]⟩], fun t => net_Net_Take__com fu t.1 t.2.1 t.2.2.1 t.2.2.2.1 t.2.2.2.2⟩
theorem net_Net_Take__com_eq (fu : Nat) : ∀ t, evF Go.Proofs.Try.prog [net_Net_Look__com_ft fu, net_Net_Drop__com_ft fu] fu Go.Proofs.Try.f16 net_Net_Take__com_fa t = (net_Net_Take__com_ft fu).spec t := fun t => by kernel_rfl
theorem net_Net_Take__com_told (fu : Nat) : Told Go.Proofs.Try.prog (net_Net_Take__com_ft fu) := told_of (allT_cons (net_Net_Look__com_told fu) (allT_cons (net_Net_Drop__com_told fu) allT_nil)) mixed Go.Proofs.Try.func16 (by kernel_rfl) (by kernel_rfl) (net_Net_Take__com_eq fu)

def net_Net_Forget_1 (fu : Nat) (d : (Int × (Int × List (UInt8)))) (h : Int) : Option ((Bool × Int)) :=
  some ((d.2.1 == h), h)
def net_Net_Forget_1_fa : FnA := ⟨.two (.reg [(0, { ids := [100] })]) (.leaf), ⟨(.cons (.p (.pair (.int .i64) (.pair (.int .i64) (.sl .byte)))) (.cons (.own 0 0 0 0) .nil)), [(0, false, (.vars (.cons (.p (.int .i64)) .nil)))]⟩, [⟨(.cons (.p .bool) .nil), [(0, false, (.vars (.cons (.p (.int .i64)) .nil)))]⟩], [0]⟩
def net_Net_Forget_1_ft (fu : Nat) : FnT := ⟨45, ⟨(.cons (.p (.pair (.int .i64) (.pair (.int .i64) (.sl .byte)))) (.cons (.own 0 0 0 0) .nil)), [(0, false, (.vars (.cons (.p (.int .i64)) .nil)))]⟩, [⟨(.cons (.p .bool) .nil), [(0, false, (.vars (.cons (.p (.int .i64)) .nil)))]⟩], fun t => net_Net_Forget_1 fu t.1 t.2⟩
theorem net_Net_Forget_1_eq (fu : Nat) : ∀ t, evF Go.Proofs.Try.prog [] fu Go.Proofs.Try.f45 net_Net_Forget_1_fa t = (net_Net_Forget_1_ft fu).spec t := fun t => by kernel_rfl
theorem net_Net_Forget_1_told (fu : Nat) : Told Go.Proofs.Try.prog (net_Net_Forget_1_ft fu) := told_of allT_nil mixed Go.Proofs.Try.func45 (by kernel_rfl) (by kernel_rfl) (net_Net_Forget_1_eq fu)

def slices_IndexFunc__api_Datum_api_Datum_o0f11_l0 (fu : Nat) (h : List ((Int × (Int × List (UInt8))))) (x : Int) (h2 : List ((Int × (Int × List (UInt8))))) (h3 : Int) : Option ((Int × (List ((Int × (Int × List (UInt8)))) × Int)) ⊕ ((List ((Int × (Int × List (UInt8)))) × Int) ⊕ (Int × (List ((Int × (Int × List (UInt8)))) × Int)))) :=
  bif (decide (x < ((h.length : Nat) : Int))) then
    (idx? x h2.length).bind fun q =>
    (h2)[q]?.bind fun r =>
    (net_Net_Forget_1 fu r h3).bind fun r1 =>
    bif r1.1 then
      some (.inr (.inr (x, (h2, r1.2))))
    else
      some (.inl ((IntKind.wrap .i64 (x + 1)), (h2, r1.2)))
  else
    some (.inr (.inl (h2, h3)))
def slices_IndexFunc__api_Datum_api_Datum_o0f11_l0_it (fu : Nat) (h : List ((Int × (Int × List (UInt8))))) (tt : (Int × (List ((Int × (Int × List (UInt8)))) × Int))) : Option ((List ((Int × (Int × List (UInt8)))) × Int) ⊕ (Int × (List ((Int × (Int × List (UInt8)))) × Int))) :=
  iter fu (fun tt => slices_IndexFunc__api_Datum_api_Datum_o0f11_l0 fu h tt.1 tt.2.1 tt.2.2) tt
def slices_IndexFunc__api_Datum_api_Datum_o0f11 (fu : Nat) (h : List ((Int × (Int × List (UInt8))))) (h1 : Int) : Option ((Int × (List ((Int × (Int × List (UInt8)))) × Int))) :=
  (slices_IndexFunc__api_Datum_api_Datum_o0f11_l0_it fu h (0, (h, h1))).bind fun o =>
  match o with
  | .inl s =>
    some ((-1), (s.1, s.2))
  | .inr o1 =>
    some o1
def slices_IndexFunc__api_Datum_api_Datum_o0f11_fa : FnA := ⟨.two (.leaf) (.two (.two (.leaf) (.one (.loop ⟨[0, 1, 8], ⟨(.cons (.slf 3 0) (.cons (.fn 45 .nil (.cons (.own 0 1 0 0) .nil)) (.cons (.p (.int .i64)) .nil))), [(0, false, (.rows 34 (.pair (.int .i64) (.pair (.int .i64) (.sl .byte))))), (1, false, (.vars (.cons (.p (.int .i64)) .nil)))]⟩⟩ true [(0, ⟨[0, 1], ⟨(.cons (.slf 3 0) (.cons (.fn 45 .nil (.cons (.own 0 1 0 0) .nil)) .nil)), [(0, false, (.rows 34 (.pair (.int .i64) (.pair (.int .i64) (.sl .byte))))), (1, false, (.vars (.cons (.p (.int .i64)) .nil)))]⟩⟩)] (.two (.leaf) (.two (.leaf) (.two (.one (.two (.leaf) (.two (.reg [(5, { sh := [1] })]) (.two (.leaf) (.leaf))))) (.leaf))))))) (.leaf)), ⟨(.cons (.slf 3 0) (.cons (.fn 45 .nil (.cons (.own 0 1 0 0) .nil)) .nil)), [(0, false, (.rows 34 (.pair (.int .i64) (.pair (.int .i64) (.sl .byte))))), (1, false, (.vars (.cons (.p (.int .i64)) .nil)))]⟩, [⟨(.cons (.p (.int .i64)) .nil), [(0, false, (.rows 34 (.pair (.int .i64) (.pair (.int .i64) (.sl .byte))))), (1, false, (.vars (.cons (.p (.int .i64)) .nil)))]⟩], [0]⟩
def slices_IndexFunc__api_Datum_api_Datum_o0f11_ft (fu : Nat) : FnT := ⟨52, ⟨(.cons (.slf 3 0) (.cons (.fn 45 .nil (.cons (.own 0 1 0 0) .nil)) .nil)), [(0, false, (.rows 34 (.pair (.int .i64) (.pair (.int .i64) (.sl .byte))))), (1, false, (.vars (.cons (.p (.int .i64)) .nil)))]⟩, [⟨(.cons (.p (.int .i64)) .nil), [(0, false, (.rows 34 (.pair (.int .i64) (.pair (.int .i64) (.sl .byte))))), (1, false, (.vars (.cons (.p (.int .i64)) .nil)))]⟩], fun t => slices_IndexFunc__api_Datum_api_Datum_o0f11 fu t.1 t.2⟩
theorem slices_IndexFunc__api_Datum_api_Datum_o0f11_eq (fu : Nat) : ∀ t, evF Go.Proofs.Try.prog [net_Net_Forget_1_ft fu] fu Go.Proofs.Try.f52 slices_IndexFunc__api_Datum_api_Datum_o0f11_fa t = (slices_IndexFunc__api_Datum_api_Datum_o0f11_ft fu).spec t := fun t => by kernel_rfl
theorem slices_IndexFunc__api_Datum_api_Datum_o0f11_told (fu : Nat) : Told Go.Proofs.Try.prog (slices_IndexFunc__api_Datum_api_Datum_o0f11_ft fu) := told_of (allT_cons (net_Net_Forget_1_told fu) allT_nil) mixed Go.Proofs.Try.func52 (by kernel_rfl) (by kernel_rfl) (slices_IndexFunc__api_Datum_api_Datum_o0f11_eq fu)

def slices_DeleteFunc__api_Datum_api_Datum_o0f11_l0 (fu : Nat) (i : Int) (j : Int) (h2 : List ((Int × (Int × List (UInt8))))) (h3 : Int) : Option ((Int × (Int × (List ((Int × (Int × List (UInt8)))) × Int))) ⊕ ((Int × (List ((Int × (Int × List (UInt8)))) × Int)))) :=
  bif (decide (j < ((h2.length : Nat) : Int))) then
    (idx? j h2.length).bind fun q =>
    (h2)[q]?.bind fun r1 =>
    (net_Net_Forget_1 fu (r1.1, (r1.2.1, r1.2.2)) h3).bind fun r2 =>
    Option.bind (α := ((Int × (List ((Int × (Int × List (UInt8)))) × Int)))) (
      bif (!r2.1) then
        (idx? i h2.length).bind fun q1 =>
        (h2)[q1]?.bind fun r3 =>
        some ((IntKind.wrap .i64 (i + 1)), ((List.set h2 q1 (r1.1, (r1.2.1, r1.2.2))), r2.2))
      else
        some (i, (h2, r2.2))) fun o =>
    some (.inl (o.1, ((IntKind.wrap .i64 (j + 1)), (o.2.1, o.2.2))))
  else
    some (.inr (i, (h2, h3)))
def slices_DeleteFunc__api_Datum_api_Datum_o0f11_l0_it (fu : Nat)  (tt : (Int × (Int × (List ((Int × (Int × List (UInt8)))) × Int)))) : Option ((Int × (List ((Int × (Int × List (UInt8)))) × Int))) :=
  iter fu (fun tt => slices_DeleteFunc__api_Datum_api_Datum_o0f11_l0 fu tt.1 tt.2.1 tt.2.2.1 tt.2.2.2) tt
def slices_DeleteFunc__api_Datum_api_Datum_o0f11 (fu : Nat) (h : List ((Int × (Int × List (UInt8))))) (h1 : Int) : Option ((List ((Int × (Int × List (UInt8)))) × Int) ⊕ (Int × List ((Int × (Int × List (UInt8)))))) :=
  (slices_IndexFunc__api_Datum_api_Datum_o0f11 fu h h1).bind fun r =>
  bif (r.1 == (-1)) then
    some (.inl (r.2.1, r.2.2))
  else
    (slices_DeleteFunc__api_Datum_api_Datum_o0f11_l0_it fu  (r.1, ((IntKind.wrap .i64 (r.1 + 1)), (r.2.1, r.2.2)))).bind fun o1 =>
    (upto? o1.1 o1.2.1.length).bind fun q2 =>
    need (Nat.ble (q2 + (o1.2.1.length - q2)) o1.2.1.length) <|
    (upto? o1.1 (splice o1.2.1 q2 (List.replicate (α := (Int × (Int × List (UInt8)))) (o1.2.1.length - q2) (0, (0, [])))).length).bind fun q3 =>
    need (Nat.ble q3 (splice o1.2.1 q2 (List.replicate (α := (Int × (Int × List (UInt8)))) (o1.2.1.length - q2) (0, (0, [])))).length) <|
    some (.inr (o1.2.2, (List.take q3 (splice o1.2.1 q2 (List.replicate (α := (Int × (Int × List (UInt8)))) (o1.2.1.length - q2) (0, (0, [])))))))
def slices_DeleteFunc__api_Datum_api_Datum_o0f11_fa : FnA := ⟨.two (.leaf) (.two (.reg [(2, { sh := [0, 1] })]) (.two (.two (.leaf) (.two (.leaf) (.leaf))) (.two (.two (.leaf) (.one (.loop ⟨[0, 1, 5, 6], ⟨(.cons (.slf 3 0) (.cons (.fn 45 .nil (.cons (.own 0 1 0 0) .nil)) (.cons (.p (.int .i64)) (.cons (.p (.int .i64)) .nil)))), [(0, false, (.rows 34 (.pair (.int .i64) (.pair (.int .i64) (.sl .byte))))), (1, false, (.vars (.cons (.p (.int .i64)) .nil)))]⟩⟩ false [(0, ⟨[0, 1, 5], ⟨(.cons (.slf 3 0) (.cons (.fn 45 .nil (.cons (.own 0 1 0 0) .nil)) (.cons (.p (.int .i64)) .nil))), [(0, false, (.rows 34 (.pair (.int .i64) (.pair (.int .i64) (.sl .byte))))), (1, false, (.vars (.cons (.p (.int .i64)) .nil)))]⟩⟩)] (.two (.two (.leaf) (.leaf)) (.two (.one (.two (.reg [(4, { ids := [100] })]) (.two (.reg [(2, { sh := [1], fn := 1 })]) (.join ⟨[0, 1, 5], ⟨(.cons (.slf 3 0) (.cons (.fn 45 .nil (.cons (.own 0 1 0 0) .nil)) (.cons (.p (.int .i64)) .nil))), [(0, false, (.rows 34 (.pair (.int .i64) (.pair (.int .i64) (.sl .byte))))), (1, false, (.vars (.cons (.p (.int .i64)) .nil)))]⟩⟩ false [] (.two (.leaf) (.leaf)))))) (.leaf)))))) (.two (.leaf) (.leaf))))), ⟨(.cons (.slf 3 0) (.cons (.fn 45 .nil (.cons (.own 0 1 0 0) .nil)) .nil)), [(0, false, (.rows 34 (.pair (.int .i64) (.pair (.int .i64) (.sl .byte))))), (1, false, (.vars (.cons (.p (.int .i64)) .nil)))]⟩, [⟨(.cons (.slf 3 0) .nil), [(0, false, (.rows 34 (.pair (.int .i64) (.pair (.int .i64) (.sl .byte))))), (1, false, (.vars (.cons (.p (.int .i64)) .nil)))]⟩, ⟨(.cons (.slf 3 2) .nil), [(1, false, (.vars (.cons (.p (.int .i64)) .nil))), (2, false, (.rows 34 (.pair (.int .i64) (.pair (.int .i64) (.sl .byte)))))]⟩], [44]⟩
def slices_DeleteFunc__api_Datum_api_Datum_o0f11_ft (fu : Nat) : FnT := ⟨44, ⟨(.cons (.slf 3 0) (.cons (.fn 45 .nil (.cons (.own 0 1 0 0) .nil)) .nil)), [(0, false, (.rows 34 (.pair (.int .i64) (.pair (.int .i64) (.sl .byte))))), (1, false, (.vars (.cons (.p (.int .i64)) .nil)))]⟩, [⟨(.cons (.slf 3 0) .nil), [(0, false, (.rows 34 (.pair (.int .i64) (.pair (.int .i64) (.sl .byte))))), (1, false, (.vars (.cons (.p (.int .i64)) .nil)))]⟩, ⟨(.cons (.slf 3 2) .nil), [(1, false, (.vars (.cons (.p (.int .i64)) .nil))), (2, false, (.rows 34 (.pair (.int .i64) (.pair (.int .i64) (.sl .byte)))))]⟩], fun t => slices_DeleteFunc__api_Datum_api_Datum_o0f11 fu t.1 t.2⟩
theorem slices_DeleteFunc__api_Datum_api_Datum_o0f11_eq (fu : Nat) : ∀ t, evF Go.Proofs.Try.prog [slices_IndexFunc__api_Datum_api_Datum_o0f11_ft fu, net_Net_Forget_1_ft fu] fu Go.Proofs.Try.f44 slices_DeleteFunc__api_Datum_api_Datum_o0f11_fa t = (slices_DeleteFunc__api_Datum_api_Datum_o0f11_ft fu).spec t := fun t => by kernel_rfl
theorem slices_DeleteFunc__api_Datum_api_Datum_o0f11_told (fu : Nat) : Told Go.Proofs.Try.prog (slices_DeleteFunc__api_Datum_api_Datum_o0f11_ft fu) := told_of (allT_cons (slices_IndexFunc__api_Datum_api_Datum_o0f11_told fu) (allT_cons (net_Net_Forget_1_told fu) allT_nil)) mixed Go.Proofs.Try.func44 (by kernel_rfl) (by kernel_rfl) (slices_DeleteFunc__api_Datum_api_Datum_o0f11_eq fu)

def net_Net_Forget__com (fu : Nat) (to_ : Int) (h : Int) (h1 : Int) (h2 : List ((Int × (Int × List (UInt8))))) (h3 : (List (((Int × Int) × Nat)) × Nat)) : Option ((Int × (Int × (Int × ((List (((Int × Int) × Nat)) × Nat) × List ((Int × (Int × List (UInt8))))))))) :=
  (net_Net_Waiting__com fu to_ h h1 h2 h3).bind fun r =>
  bif (decide (r.1 > 0)) then
    Option.bind (α := ((Int × (Int × (List ((Int × (Int × List (UInt8)))) × ((List (((Int × Int) × Nat)) × Nat) × Int)))))) (
      (slices_DeleteFunc__api_Datum_api_Datum_o0f11 fu r.2.2.2.1 to_).bind fun r1 =>
      match r1 with
      | .inl r2 =>
        some (r.2.1, (r.2.2.1, (r2.1, (r.2.2.2.2, r2.2))))
      | .inr r3 =>
        some (r.2.1, (r.2.2.1, (r3.2, (r.2.2.2.2, r3.1))))) fun o =>
    some (r.1, (o.1, (o.2.1, ((mdel (k := (.int .i64)) (v := (.int .i64)) o.2.2.2.1 o.2.2.2.2), o.2.2.1))))
  else
    some (r.1, (r.2.1, (r.2.2.1, (r.2.2.2.2, r.2.2.2.1))))
def net_Net_Forget__com_fa : FnA := ⟨.two (.reg [(0, { ids := [100] })]) (.two (.reg [(2, { sh := [0, 1, 2] })]) (.two (.two (.leaf) (.pre (.renum 1 101) (.two (.two (.join ⟨[0, 3], ⟨(.cons (.own 0 0 0 0) (.cons (.own 0 100 0 0) .nil)), [(0, false, (.vars (.cons (.p (.int .i64)) (.cons (.p (.int .i64)) (.cons (.slf 3 101) (.cons (.mp 2) .nil)))))), (101, false, (.rows 34 (.pair (.int .i64) (.pair (.int .i64) (.sl .byte))))), (2, false, (.map (.int .i64) (.int .i64))), (100, false, (.vars (.cons (.p (.int .i64)) .nil)))]⟩⟩ false [] (.reg [(6, { ids := [102], sh := [101, 100], fn := 1 })])) (.leaf)) (.leaf)))) (.leaf))), ⟨(.cons (.own 0 0 0 0) (.cons (.p (.int .i64)) .nil)), [(0, false, (.vars (.cons (.p (.int .i64)) (.cons (.p (.int .i64)) (.cons (.slf 3 1) (.cons (.mp 2) .nil)))))), (1, false, (.rows 34 (.pair (.int .i64) (.pair (.int .i64) (.sl .byte))))), (2, false, (.map (.int .i64) (.int .i64)))]⟩, [⟨(.cons (.p (.int .i64)) .nil), [(0, false, (.vars (.cons (.p (.int .i64)) (.cons (.p (.int .i64)) (.cons (.slf 3 3) (.cons (.mp 2) .nil)))))), (2, false, (.map (.int .i64) (.int .i64))), (3, false, (.rows 34 (.pair (.int .i64) (.pair (.int .i64) (.sl .byte)))))]⟩], [0]⟩
def net_Net_Forget__com_ft (fu : Nat) : FnT := ⟨19, ⟨(.cons (.own 0 0 0 0) (.cons (.p (.int .i64)) .nil)), [(0, false, (.vars (.cons (.p (.int .i64)) (.cons (.p (.int .i64)) (.cons (.slf 3 1) (.cons (.mp 2) .nil)))))), (1, false, (.rows 34 (.pair (.int .i64) (.pair (.int .i64) (.sl .byte))))), (2, false, (.map (.int .i64) (.int .i64)))]⟩, [⟨(.cons (.p (.int .i64)) .nil), [(0, false, (.vars (.cons (.p (.int .i64)) (.cons (.p (.int .i64)) (.cons (.slf 3 3) (.cons (.mp 2) .nil)))))), (2, false, (.map (.int .i64) (.int .i64))), (3, false, (.rows 34 (.pair (.int .i64) (.pair (.int .i64) (.sl .byte)))))]⟩], fun t => net_Net_Forget__com fu t.1 t.2.1 t.2.2.1 t.2.2.2.1 t.2.2.2.2⟩
theorem net_Net_Forget__com_eq (fu : Nat) : ∀ t, evF Go.Proofs.Try.prog [net_Net_Waiting__com_ft fu, slices_DeleteFunc__api_Datum_api_Datum_o0f11_ft fu] fu Go.Proofs.Try.f19 net_Net_Forget__com_fa t = (net_Net_Forget__com_ft fu).spec t := fun t => by kernel_rfl
theorem net_Net_Forget__com_told (fu : Nat) : Told Go.Proofs.Try.prog (net_Net_Forget__com_ft fu) := told_of (allT_cons (net_Net_Waiting__com_told fu) (allT_cons (slices_DeleteFunc__api_Datum_api_Datum_o0f11_told fu) allT_nil)) mixed Go.Proofs.Try.func19 (by kernel_rfl) (by kernel_rfl) (net_Net_Forget__com_eq fu)

def law07_awake (fu : Nat)  : Option (Bool) :=
  (net_New fu 2 2).bind fun r =>
  match r with
  | .inl r1 =>
    Option.bind (α := (Bool)) (
      bif (!(r1 == 0)) then
        some true
      else
        (net_Net_Send_n0 fu 0 1 [(UInt8.ofNat 97)]).bind fun r3 =>
        bif (!(r3 == 0)) then
          some true
        else
          (net_Net_Send_n0 fu 1 0 [(UInt8.ofNat 98)]).bind fun r4 =>
          bif (!(r4 == 0)) then
            some true
          else
            (net_Net_Flying_n0 fu).bind fun r5 =>
            bif (!(r5 == 2)) then
              some true
            else
              (net_Net_Copy_n0 fu 0).bind fun r6 =>
              some (!(r6 == 0))) fun o =>
    bif o then
      some false
    else
      Option.bind (α := (Bool)) (
        (net_Net_Flying_n0 fu).bind fun r7 =>
        bif (r7 == 3) then
          (law07_is_n0 fu 0 0 1 [97]).bind fun r8 =>
          bif r8 then
            (law07_is_n0 fu 1 1 0 [98]).bind fun r9 =>
            bif r9 then
              (law07_is_n0 fu 2 0 1 [97]).bind fun r10 =>
              bif r10 then
                (net_Net_Waiting_n0 fu 1).bind fun r11 =>
                some (r11 == 2)
              else
                some false
            else
              some false
          else
            some false
        else
          some false) fun o1 =>
      (net_Net_Send_n0 fu 0 1 [(UInt8.ofNat 99)]).bind fun r12 =>
      (net_Net_Take_n0 fu 1).bind fun r13 =>
      Option.bind (α := (Bool)) (
        bif (!o1) then
          some true
        else
          bif (!(r12 == 5)) then
            some true
          else
            bif (!r13.2.2) then
              some true
            else
              (law07_like fu (r13.1, (r13.2.1, [])) (1, (0, [(UInt8.ofNat 98)]))).bind fun r14 =>
              bif (!r14) then
                some true
              else
                (net_Net_Drop_n0 fu 0).bind fun r15 =>
                bif (!r15) then
                  some true
                else
                  (net_Net_Forget_n0 fu 1).bind fun r16 =>
                  some (!(r16 == 1))) fun o2 =>
      bif o2 then
        some false
      else
        (net_Net_Look_n0 fu 0).bind fun r17 =>
        bif (!r17.2.2) then
          (net_Net_Flying_n0 fu).bind fun r18 =>
          some (r18 == 0)
        else
          some false
  | .inr r2 =>
    Option.bind (α := ((Bool × (Int × (Int × (List ((Int × (Int × List (UInt8)))) × (List (((Int × Int) × Nat)) × Nat))))))) (
      bif (!(r2.1 == 0)) then
        some (true, (r2.2.1, (r2.2.2.1, ([], r2.2.2.2))))
      else
        (net_Net_Send__com fu 0 1 [(UInt8.ofNat 97)] r2.2.1 r2.2.2.1 [] r2.2.2.2).bind fun r19 =>
        match r19 with
        | .inl r20 =>
          bif (!(r20.1 == 0)) then
            some (true, (r20.2.1, (r20.2.2.1, (r20.2.2.2.1, r20.2.2.2.2))))
          else
            (net_Net_Send__com fu 1 0 [(UInt8.ofNat 98)] r20.2.1 r20.2.2.1 r20.2.2.2.1 r20.2.2.2.2).bind fun r22 =>
            match r22 with
            | .inl r23 =>
              bif (!(r23.1 == 0)) then
                some (true, (r23.2.1, (r23.2.2.1, (r23.2.2.2.1, r23.2.2.2.2))))
              else
                (net_Net_Flying__com fu r23.2.1 r23.2.2.1 r23.2.2.2.1 r23.2.2.2.2).bind fun r25 =>
                bif (!(r25.1 == 2)) then
                  some (true, (r25.2.1, (r25.2.2.1, (r25.2.2.2.1, r25.2.2.2.2))))
                else
                  (net_Net_Copy__com fu 0 r25.2.1 r25.2.2.1 r25.2.2.2.1 r25.2.2.2.2).bind fun r26 =>
                  match r26 with
                  | .inl r27 =>
                    some ((!(r27.1 == 0)), (r27.2.1, (r27.2.2.1, (r27.2.2.2.1, r27.2.2.2.2))))
                  | .inr r28 =>
                    some ((!(r28.1 == 0)), (r28.2.1, (r28.2.2.1, (r28.2.2.2.2, r28.2.2.2.1))))
            | .inr r24 =>
              bif (!(r24.1 == 0)) then
                some (true, (r24.2.1, (r24.2.2.1, (r24.2.2.2.2, r24.2.2.2.1))))
              else
                (net_Net_Flying__com fu r24.2.1 r24.2.2.1 r24.2.2.2.2 r24.2.2.2.1).bind fun r29 =>
                bif (!(r29.1 == 2)) then
                  some (true, (r29.2.1, (r29.2.2.1, (r29.2.2.2.1, r29.2.2.2.2))))
                else
                  (net_Net_Copy__com fu 0 r29.2.1 r29.2.2.1 r29.2.2.2.1 r29.2.2.2.2).bind fun r30 =>
                  match r30 with
                  | .inl r31 =>
                    some ((!(r31.1 == 0)), (r31.2.1, (r31.2.2.1, (r31.2.2.2.1, r31.2.2.2.2))))
                  | .inr r32 =>
                    some ((!(r32.1 == 0)), (r32.2.1, (r32.2.2.1, (r32.2.2.2.2, r32.2.2.2.1))))
        | .inr r21 =>
          bif (!(r21.1 == 0)) then
            some (true, (r21.2.1, (r21.2.2.1, (r21.2.2.2.2, r21.2.2.2.1))))
          else
            (net_Net_Send__com fu 1 0 [(UInt8.ofNat 98)] r21.2.1 r21.2.2.1 r21.2.2.2.2 r21.2.2.2.1).bind fun r33 =>
            match r33 with
            | .inl r34 =>
              bif (!(r34.1 == 0)) then
                some (true, (r34.2.1, (r34.2.2.1, (r34.2.2.2.1, r34.2.2.2.2))))
              else
                (net_Net_Flying__com fu r34.2.1 r34.2.2.1 r34.2.2.2.1 r34.2.2.2.2).bind fun r36 =>
                bif (!(r36.1 == 2)) then
                  some (true, (r36.2.1, (r36.2.2.1, (r36.2.2.2.1, r36.2.2.2.2))))
                else
                  (net_Net_Copy__com fu 0 r36.2.1 r36.2.2.1 r36.2.2.2.1 r36.2.2.2.2).bind fun r37 =>
                  match r37 with
                  | .inl r38 =>
                    some ((!(r38.1 == 0)), (r38.2.1, (r38.2.2.1, (r38.2.2.2.1, r38.2.2.2.2))))
                  | .inr r39 =>
                    some ((!(r39.1 == 0)), (r39.2.1, (r39.2.2.1, (r39.2.2.2.2, r39.2.2.2.1))))
            | .inr r35 =>
              bif (!(r35.1 == 0)) then
                some (true, (r35.2.1, (r35.2.2.1, (r35.2.2.2.2, r35.2.2.2.1))))
              else
                (net_Net_Flying__com fu r35.2.1 r35.2.2.1 r35.2.2.2.2 r35.2.2.2.1).bind fun r40 =>
                bif (!(r40.1 == 2)) then
                  some (true, (r40.2.1, (r40.2.2.1, (r40.2.2.2.1, r40.2.2.2.2))))
                else
                  (net_Net_Copy__com fu 0 r40.2.1 r40.2.2.1 r40.2.2.2.1 r40.2.2.2.2).bind fun r41 =>
                  match r41 with
                  | .inl r42 =>
                    some ((!(r42.1 == 0)), (r42.2.1, (r42.2.2.1, (r42.2.2.2.1, r42.2.2.2.2))))
                  | .inr r43 =>
                    some ((!(r43.1 == 0)), (r43.2.1, (r43.2.2.1, (r43.2.2.2.2, r43.2.2.2.1))))) fun o3 =>
    bif o3.1 then
      some false
    else
      Option.bind (α := ((Bool × (Int × (Int × (List ((Int × (Int × List (UInt8)))) × (List (((Int × Int) × Nat)) × Nat))))))) (
        (net_Net_Flying__com fu o3.2.1 o3.2.2.1 o3.2.2.2.1 o3.2.2.2.2).bind fun r44 =>
        bif (r44.1 == 3) then
          (law07_is__com fu 0 0 1 [97] r44.2.1 r44.2.2.1 r44.2.2.2.1 r44.2.2.2.2).bind fun r45 =>
          bif r45.1 then
            (law07_is__com fu 1 1 0 [98] r45.2.1 r45.2.2.1 r45.2.2.2.1 r45.2.2.2.2).bind fun r46 =>
            bif r46.1 then
              (law07_is__com fu 2 0 1 [97] r46.2.1 r46.2.2.1 r46.2.2.2.1 r46.2.2.2.2).bind fun r47 =>
              bif r47.1 then
                (net_Net_Waiting__com fu 1 r47.2.1 r47.2.2.1 r47.2.2.2.1 r47.2.2.2.2).bind fun r48 =>
                some ((r48.1 == 2), (r48.2.1, (r48.2.2.1, (r48.2.2.2.1, r48.2.2.2.2))))
              else
                some (false, (r47.2.1, (r47.2.2.1, (r47.2.2.2.1, r47.2.2.2.2))))
            else
              some (false, (r46.2.1, (r46.2.2.1, (r46.2.2.2.1, r46.2.2.2.2))))
          else
            some (false, (r45.2.1, (r45.2.2.1, (r45.2.2.2.1, r45.2.2.2.2))))
        else
          some (false, (r44.2.1, (r44.2.2.1, (r44.2.2.2.1, r44.2.2.2.2))))) fun o4 =>
      Option.bind (α := ((Int × (Int × (Int × (List ((Int × (Int × List (UInt8)))) × (List (((Int × Int) × Nat)) × Nat))))))) (
        (net_Net_Send__com fu 0 1 [(UInt8.ofNat 99)] o4.2.1 o4.2.2.1 o4.2.2.2.1 o4.2.2.2.2).bind fun r49 =>
        match r49 with
        | .inl r50 =>
          some (r50.1, (r50.2.1, (r50.2.2.1, (r50.2.2.2.1, r50.2.2.2.2))))
        | .inr r51 =>
          some (r51.1, (r51.2.1, (r51.2.2.1, (r51.2.2.2.2, r51.2.2.2.1))))) fun o5 =>
      Option.bind (α := ((Bool × (Int × (Int × (List ((Int × (Int × List (UInt8)))) × ((List (((Int × Int) × Nat)) × Nat) × (Int × (Int × List (UInt8)))))))))) (
        (net_Net_Take__com fu 1 o5.2.1 o5.2.2.1 o5.2.2.2.1 o5.2.2.2.2).bind fun r52 =>
        match r52 with
        | .inl r53 =>
          some (r53.2.2.2.1, (r53.2.2.2.2.1, (r53.2.2.2.2.2.1, (r53.2.2.2.2.2.2.1, (r53.2.2.2.2.2.2.2, (r53.1, (r53.2.1, r53.2.2.1)))))))
        | .inr r54 =>
          some (r54.2.2.2.1, (r54.2.2.2.2.1, (r54.2.2.2.2.2.1, (r54.2.2.2.2.2.2.2.2, (r54.2.2.2.2.2.2.1, (r54.1, (r54.2.1, r54.2.2.1)))))))) fun o6 =>
      Option.bind (α := ((Bool × (Int × (Int × (List ((Int × (Int × List (UInt8)))) × (List (((Int × Int) × Nat)) × Nat))))))) (
        bif (!o4.1) then
          some (true, (o6.2.1, (o6.2.2.1, (o6.2.2.2.1, o6.2.2.2.2.1))))
        else
          bif (!(o5.1 == 5)) then
            some (true, (o6.2.1, (o6.2.2.1, (o6.2.2.2.1, o6.2.2.2.2.1))))
          else
            bif (!o6.1) then
              some (true, (o6.2.1, (o6.2.2.1, (o6.2.2.2.1, o6.2.2.2.2.1))))
            else
              (law07_like fu (o6.2.2.2.2.2.1, (o6.2.2.2.2.2.2.1, o6.2.2.2.2.2.2.2)) (1, (0, [(UInt8.ofNat 98)]))).bind fun r55 =>
              bif (!r55) then
                some (true, (o6.2.1, (o6.2.2.1, (o6.2.2.2.1, o6.2.2.2.2.1))))
              else
                (net_Net_Drop__com fu 0 o6.2.1 o6.2.2.1 o6.2.2.2.1 o6.2.2.2.2.1).bind fun r56 =>
                match r56 with
                | .inl r57 =>
                  bif (!r57.1) then
                    some (true, (r57.2.1, (r57.2.2.1, (r57.2.2.2.1, r57.2.2.2.2))))
                  else
                    (net_Net_Forget__com fu 1 r57.2.1 r57.2.2.1 r57.2.2.2.1 r57.2.2.2.2).bind fun r59 =>
                    some ((!(r59.1 == 1)), (r59.2.1, (r59.2.2.1, (r59.2.2.2.2, r59.2.2.2.1))))
                | .inr r58 =>
                  bif (!r58.1) then
                    some (true, (r58.2.1, (r58.2.2.1, (r58.2.2.2.2.2, r58.2.2.2.1))))
                  else
                    (net_Net_Forget__com fu 1 r58.2.1 r58.2.2.1 r58.2.2.2.2.2 r58.2.2.2.1).bind fun r60 =>
                    some ((!(r60.1 == 1)), (r60.2.1, (r60.2.2.1, (r60.2.2.2.2, r60.2.2.2.1))))) fun o7 =>
      bif o7.1 then
        some false
      else
        (net_Net_Look__com fu 0 o7.2.1 o7.2.2.1 o7.2.2.2.1 o7.2.2.2.2).bind fun r61 =>
        bif (!r61.2.2.2.1) then
          (net_Net_Flying__com fu r61.2.2.2.2.1 r61.2.2.2.2.2.1 r61.2.2.2.2.2.2.1 r61.2.2.2.2.2.2.2).bind fun r62 =>
          some (r62.1 == 0)
        else
          some false
def law07_awake_fa : FnA := ⟨.two (.leaf) (.two (.reg [(0, { ids := [100, 101] })]) (.sel (.slot 1 (.nilp (.pointer none))) (.two (.two (.join ⟨[36], ⟨(.cons (.p .bool) .nil), []⟩⟩ false [] (.reg [(4, { ids := [103] }), (6, { md := [0, 0, 0, 2], fn := 1 }), (11, { ids := [104] }), (13, { md := [0, 0, 0, 2], fn := 1 }), (18, { fn := 2 }), (23, { fn := 3 })])) (.two (.leaf) (.leaf))) (.two (.join ⟨[3], ⟨(.cons (.p .bool) .nil), []⟩⟩ false [] (.reg [(1, { fn := 2 }), (5, { fn := 4 }), (9, { fn := 4 }), (13, { fn := 4 }), (17, { fn := 5 })])) (.two (.reg [(1, { ids := [105] }), (3, { md := [0, 0, 0, 2], fn := 1 })]) (.two (.reg [(1, { fn := 6 }), (5, { ids := [106] })]) (.two (.two (.join ⟨[93], ⟨(.cons (.p .bool) .nil), []⟩⟩ false [] (.reg [(12, { ids := [107] }), (15, { md := [0, 2], fn := 7 }), (20, { fn := 8 }), (25, { fn := 9 })])) (.two (.leaf) (.leaf))) (.two (.reg [(1, { fn := 10 })]) (.two (.reg [(4, { fn := 2 })]) (.leaf)))))))) (.pre (.ownCell 100 2 34 103) (.two (.two (.join ⟨[1, 36], ⟨(.cons (.own 0 100 0 0) (.cons (.p .bool) .nil)), [(100, false, (.vars (.cons (.p (.int .i64)) (.cons (.p (.int .i64)) (.cons (.slf 3 103) (.cons (.mp 101) .nil)))))), (103, false, (.rows 34 (.pair (.int .i64) (.pair (.int .i64) (.sl .byte))))), (101, false, (.map (.int .i64) (.int .i64)))]⟩⟩ false [] (.reg [(4, { ids := [104] }), (6, { ids := [105], sh := [100, 103, 101], md := [0, 0, 0, 1], fn := 11 }), (11, { ids := [106] }), (13, { ids := [107], sh := [100, 103, 101], md := [0, 0, 0, 1], fn := 11, more := [{ ids := [107], sh := [100, 105, 101], md := [0, 0, 0, 1], fn := 11 }] }), (18, { sh := [100, 103, 101], fn := 12, more := [{ sh := [100, 107, 101], fn := 12 }, { sh := [100, 105, 101], fn := 12 }] }), (23, { ids := [108], sh := [100, 103, 101], fn := 13, more := [{ ids := [108], sh := [100, 107, 101], fn := 13 }, { ids := [108], sh := [100, 105, 101], fn := 13 }] })])) (.two (.leaf) (.leaf))) (.two (.join ⟨[1, 3], ⟨(.cons (.own 0 100 0 0) (.cons (.p .bool) .nil)), [(100, false, (.vars (.cons (.p (.int .i64)) (.cons (.p (.int .i64)) (.cons (.slf 3 103) (.cons (.mp 101) .nil)))))), (103, false, (.rows 34 (.pair (.int .i64) (.pair (.int .i64) (.sl .byte))))), (101, false, (.map (.int .i64) (.int .i64)))]⟩⟩ false [] (.reg [(1, { sh := [100, 103, 101], fn := 12 }), (5, { sh := [100, 103, 101], fn := 14 }), (9, { sh := [100, 103, 101], fn := 14 }), (13, { sh := [100, 103, 101], fn := 14 }), (17, { sh := [100, 103, 101], fn := 15 })])) (.two (.join ⟨[1, 4], ⟨(.cons (.own 0 100 0 0) (.cons (.p (.int .i64)) .nil)), [(100, false, (.vars (.cons (.p (.int .i64)) (.cons (.p (.int .i64)) (.cons (.slf 3 103) (.cons (.mp 101) .nil)))))), (103, false, (.rows 34 (.pair (.int .i64) (.pair (.int .i64) (.sl .byte))))), (101, false, (.map (.int .i64) (.int .i64)))]⟩⟩ false [] (.reg [(1, { ids := [109] }), (3, { ids := [110], sh := [100, 103, 101], md := [0, 0, 0, 1], fn := 11 })])) (.two (.join ⟨[1, 5, 6], ⟨(.cons (.own 0 100 0 0) (.cons (.own 0 112 0 0) (.cons (.p .bool) .nil))), [(100, false, (.vars (.cons (.p (.int .i64)) (.cons (.p (.int .i64)) (.cons (.slf 3 103) (.cons (.mp 101) .nil)))))), (103, false, (.rows 34 (.pair (.int .i64) (.pair (.int .i64) (.sl .byte))))), (101, false, (.map (.int .i64) (.int .i64))), (112, false, (.vars (.cons (.p (.int .i64)) (.cons (.p (.int .i64)) (.cons (.p (.sl .byte)) .nil)))))]⟩⟩ false [] (.reg [(1, { ids := [111], sh := [100, 103, 101], fn := 16 }), (5, { ids := [112] })])) (.two (.two (.join ⟨[1, 93], ⟨(.cons (.own 0 100 0 0) (.cons (.p .bool) .nil)), [(100, false, (.vars (.cons (.p (.int .i64)) (.cons (.p (.int .i64)) (.cons (.slf 3 103) (.cons (.mp 101) .nil)))))), (103, false, (.rows 34 (.pair (.int .i64) (.pair (.int .i64) (.sl .byte))))), (101, false, (.map (.int .i64) (.int .i64)))]⟩⟩ false [] (.reg [(12, { ids := [113] }), (15, { md := [0, 2], fn := 7 }), (20, { ids := [114], sh := [100, 103, 101], fn := 17 }), (25, { ids := [115], sh := [100, 103, 101], fn := 18, more := [{ ids := [115], sh := [100, 114, 101], fn := 18 }] })])) (.two (.leaf) (.leaf))) (.two (.reg [(1, { sh := [100, 103, 101], fn := 19 })]) (.two (.reg [(4, { sh := [100, 103, 101], fn := 12 })]) (.leaf))))))))))), ⟨.nil, []⟩, [⟨(.cons (.p .bool) .nil), []⟩], [0]⟩
def law07_awake_ft (fu : Nat) : FnT := ⟨20, ⟨.nil, []⟩, [⟨(.cons (.p .bool) .nil), []⟩], fun t => law07_awake fu ⟩
theorem law07_awake_eq (fu : Nat) : ∀ t, evF Go.Proofs.Try.prog [net_New_ft fu, net_Net_Send_n0_ft fu, net_Net_Flying_n0_ft fu, net_Net_Copy_n0_ft fu, law07_is_n0_ft fu, net_Net_Waiting_n0_ft fu, net_Net_Take_n0_ft fu, law07_like_ft fu, net_Net_Drop_n0_ft fu, net_Net_Forget_n0_ft fu, net_Net_Look_n0_ft fu, net_Net_Send__com_ft fu, net_Net_Flying__com_ft fu, net_Net_Copy__com_ft fu, law07_is__com_ft fu, net_Net_Waiting__com_ft fu, net_Net_Take__com_ft fu, net_Net_Drop__com_ft fu, net_Net_Forget__com_ft fu, net_Net_Look__com_ft fu] fu Go.Proofs.Try.f20 law07_awake_fa t = (law07_awake_ft fu).spec t := fun t => by kernel_rfl
theorem law07_awake_told (fu : Nat) : Told Go.Proofs.Try.prog (law07_awake_ft fu) := told_of (allT_cons (net_New_told fu) (allT_cons (net_Net_Send_n0_told fu) (allT_cons (net_Net_Flying_n0_told fu) (allT_cons (net_Net_Copy_n0_told fu) (allT_cons (law07_is_n0_told fu) (allT_cons (net_Net_Waiting_n0_told fu) (allT_cons (net_Net_Take_n0_told fu) (allT_cons (law07_like_told fu) (allT_cons (net_Net_Drop_n0_told fu) (allT_cons (net_Net_Forget_n0_told fu) (allT_cons (net_Net_Look_n0_told fu) (allT_cons (net_Net_Send__com_told fu) (allT_cons (net_Net_Flying__com_told fu) (allT_cons (net_Net_Copy__com_told fu) (allT_cons (law07_is__com_told fu) (allT_cons (net_Net_Waiting__com_told fu) (allT_cons (net_Net_Take__com_told fu) (allT_cons (net_Net_Drop__com_told fu) (allT_cons (net_Net_Forget__com_told fu) (allT_cons (net_Net_Look__com_told fu) allT_nil)))))))))))))))))))) mixed Go.Proofs.Try.func20 (by kernel_rfl) (by kernel_rfl) (law07_awake_eq fu)

def ref07_New (fu : Nat) (ends : Int) (most : Int) : Option ((Int × (Int × Int))) :=
  Option.bind (α := ((Bool × (Int × Int)))) (
    bif (decide (ends ≥ 1)) then
      bif (decide (ends ≤ 300)) then
        bif (decide (most ≥ 1)) then
          some ((decide (most ≤ 10000)), (0, 0))
        else
          some (false, (0, 0))
      else
        some (false, (0, 0))
    else
      some (false, (0, 0))) fun o =>
  bif o.1 then
    some (ends, (most, 0))
  else
    some (0, (0, 2))
def ref07_New_fa : FnA := ⟨.two (.reg [(0, { ids := [100] })]) (.two (.two (.join ⟨[4, 19], ⟨(.cons (.own 0 100 0 0) (.cons (.p .bool) .nil)), [(100, false, (.vars (.cons (.p (.int .i64)) (.cons (.p (.int .i64)) (.cons (.nilp (.slice none 0 0)) .nil)))))]⟩⟩ false [] (.leaf)) (.two (.leaf) (.leaf))) (.leaf)), ⟨(.cons (.p (.int .i64)) (.cons (.p (.int .i64)) .nil)), []⟩, [⟨(.cons (.agg (.cons (.p (.int .i64)) (.cons (.p (.int .i64)) (.cons (.nilp (.slice none 0 0)) .nil)))) (.cons (.p (.int .i64)) .nil)), []⟩], [0, 0]⟩
def ref07_New_ft (fu : Nat) : FnT := ⟨21, ⟨(.cons (.p (.int .i64)) (.cons (.p (.int .i64)) .nil)), []⟩, [⟨(.cons (.agg (.cons (.p (.int .i64)) (.cons (.p (.int .i64)) (.cons (.nilp (.slice none 0 0)) .nil)))) (.cons (.p (.int .i64)) .nil)), []⟩], fun t => ref07_New fu t.1 t.2⟩
theorem ref07_New_eq (fu : Nat) : ∀ t, evF Go.Proofs.Try.prog [] fu Go.Proofs.Try.f21 ref07_New_fa t = (ref07_New_ft fu).spec t := fun t => by kernel_rfl
theorem ref07_New_told (fu : Nat) : Told Go.Proofs.Try.prog (ref07_New_ft fu) := told_of allT_nil mixed Go.Proofs.Try.func21 (by kernel_rfl) (by kernel_rfl) (ref07_New_eq fu)

def ref07_Net_Waiting_l0 (fu : Nat) (to_ : Int) (many : Int) (i : Int) (h : Int) (h1 : Int) (h2 : List (((Int × (Int × List (UInt8))) × Bool))) : Option ((Int × (Int × (Int × (Int × List (((Int × (Int × List (UInt8))) × Bool)))))) ⊕ (Int)) :=
  bif (decide (i < ((h2.length : Nat) : Int))) then
    Option.bind (α := ((Bool × (Int × (Int × List (((Int × (Int × List (UInt8))) × Bool))))))) (
      (idx? i h2.length).bind fun q =>
      (h2)[q]?.bind fun r =>
      bif (!r.2) then
        (idx? i h2.length).bind fun q1 =>
        (h2)[q1]?.bind fun r1 =>
        some ((r1.1.2.1 == to_), (h, (h1, h2)))
      else
        some (false, (h, (h1, h2)))) fun o =>
    Option.bind (α := ((Int × (Int × (Int × List (((Int × (Int × List (UInt8))) × Bool))))))) (
      bif o.1 then
        some ((IntKind.wrap .i64 (many + 1)), (o.2.1, (o.2.2.1, o.2.2.2)))
      else
        some (many, (o.2.1, (o.2.2.1, o.2.2.2)))) fun o1 =>
    some (.inl (o1.1, ((IntKind.wrap .i64 (i + 1)), (o1.2.1, (o1.2.2.1, o1.2.2.2)))))
  else
    some (.inr many)
def ref07_Net_Waiting_l0_it (fu : Nat) (to_ : Int) (tt : (Int × (Int × (Int × (Int × List (((Int × (Int × List (UInt8))) × Bool))))))) : Option (Int) :=
  iter fu (fun tt => ref07_Net_Waiting_l0 fu to_ tt.1 tt.2.1 tt.2.2.1 tt.2.2.2.1 tt.2.2.2.2) tt
def ref07_Net_Waiting (fu : Nat) (n : (Int × (Int × List (((Int × (Int × List (UInt8))) × Bool))))) (to_ : Int) : Option (Int) :=
  (ref07_Net_Waiting_l0_it fu to_ (0, (0, (n.1, (n.2.1, n.2.2))))).bind fun o2 =>
  some o2
def ref07_Net_Waiting_fa : FnA := ⟨.two (.reg [(0, { ids := [100] })]) (.two (.leaf) (.two (.two (.leaf) (.one (.loop ⟨[2, 5, 6], ⟨(.cons (.own 0 100 0 0) (.cons (.p (.int .i64)) (.cons (.p (.int .i64)) .nil))), [(100, false, (.vars (.cons (.p (.int .i64)) (.cons (.p (.int .i64)) (.cons (.p (.sl (.pair (.pair (.int .i64) (.pair (.int .i64) (.sl .byte))) .bool))) .nil)))))]⟩⟩ false [(0, ⟨[5], ⟨(.cons (.p (.int .i64)) .nil), []⟩⟩)] (.two (.two (.leaf) (.leaf)) (.two (.one (.two (.join ⟨[2, 31], ⟨(.cons (.own 0 100 0 0) (.cons (.p .bool) .nil)), [(100, false, (.vars (.cons (.p (.int .i64)) (.cons (.p (.int .i64)) (.cons (.p (.sl (.pair (.pair (.int .i64) (.pair (.int .i64) (.sl .byte))) .bool))) .nil)))))]⟩⟩ false [] (.leaf)) (.join ⟨[2, 5], ⟨(.cons (.own 0 100 0 0) (.cons (.p (.int .i64)) .nil)), [(100, false, (.vars (.cons (.p (.int .i64)) (.cons (.p (.int .i64)) (.cons (.p (.sl (.pair (.pair (.int .i64) (.pair (.int .i64) (.sl .byte))) .bool))) .nil)))))]⟩⟩ false [] (.leaf)))) (.leaf)))))) (.leaf))), ⟨(.cons (.p (.pair (.int .i64) (.pair (.int .i64) (.sl (.pair (.pair (.int .i64) (.pair (.int .i64) (.sl .byte))) .bool))))) (.cons (.p (.int .i64)) .nil)), []⟩, [⟨(.cons (.p (.int .i64)) .nil), []⟩], [0]⟩
def ref07_Net_Waiting_ft (fu : Nat) : FnT := ⟨29, ⟨(.cons (.p (.pair (.int .i64) (.pair (.int .i64) (.sl (.pair (.pair (.int .i64) (.pair (.int .i64) (.sl .byte))) .bool))))) (.cons (.p (.int .i64)) .nil)), []⟩, [⟨(.cons (.p (.int .i64)) .nil), []⟩], fun t => ref07_Net_Waiting fu t.1 t.2⟩
theorem ref07_Net_Waiting_eq (fu : Nat) : ∀ t, evF Go.Proofs.Try.prog [] fu Go.Proofs.Try.f29 ref07_Net_Waiting_fa t = (ref07_Net_Waiting_ft fu).spec t := fun t => by kernel_rfl
theorem ref07_Net_Waiting_told (fu : Nat) : Told Go.Proofs.Try.prog (ref07_Net_Waiting_ft fu) := told_of allT_nil mixed Go.Proofs.Try.func29 (by kernel_rfl) (by kernel_rfl) (ref07_Net_Waiting_eq fu)

def ref07_Net_Flying_l0 (fu : Nat) (many : Int) (to_ : Int) (h : Int) (h1 : Int) (h2 : List (((Int × (Int × List (UInt8))) × Bool))) : Option ((Int × (Int × (Int × (Int × List (((Int × (Int × List (UInt8))) × Bool)))))) ⊕ (Int)) :=
  bif (decide (to_ < h)) then
    (ref07_Net_Waiting fu (h, (h1, h2)) to_).bind fun r =>
    some (.inl ((IntKind.wrap .i64 (many + r)), ((IntKind.wrap .i64 (to_ + 1)), (h, (h1, h2)))))
  else
    some (.inr many)
def ref07_Net_Flying_l0_it (fu : Nat)  (tt : (Int × (Int × (Int × (Int × List (((Int × (Int × List (UInt8))) × Bool))))))) : Option (Int) :=
  iter fu (fun tt => ref07_Net_Flying_l0 fu tt.1 tt.2.1 tt.2.2.1 tt.2.2.2.1 tt.2.2.2.2) tt
def ref07_Net_Flying (fu : Nat) (n : (Int × (Int × List (((Int × (Int × List (UInt8))) × Bool))))) : Option (Int) :=
  (ref07_Net_Flying_l0_it fu  (0, (0, (n.1, (n.2.1, n.2.2))))).bind fun o =>
  some o
def ref07_Net_Flying_fa : FnA := ⟨.two (.reg [(0, { ids := [100] })]) (.two (.leaf) (.two (.two (.leaf) (.one (.loop ⟨[1, 3, 4], ⟨(.cons (.own 0 100 0 0) (.cons (.p (.int .i64)) (.cons (.p (.int .i64)) .nil))), [(100, false, (.vars (.cons (.p (.int .i64)) (.cons (.p (.int .i64)) (.cons (.p (.sl (.pair (.pair (.int .i64) (.pair (.int .i64) (.sl .byte))) .bool))) .nil)))))]⟩⟩ false [(0, ⟨[3], ⟨(.cons (.p (.int .i64)) .nil), []⟩⟩)] (.two (.two (.leaf) (.leaf)) (.two (.one (.reg [(3, {  })])) (.leaf)))))) (.leaf))), ⟨(.cons (.p (.pair (.int .i64) (.pair (.int .i64) (.sl (.pair (.pair (.int .i64) (.pair (.int .i64) (.sl .byte))) .bool))))) .nil), []⟩, [⟨(.cons (.p (.int .i64)) .nil), []⟩], [0]⟩
def ref07_Net_Flying_ft (fu : Nat) : FnT := ⟨49, ⟨(.cons (.p (.pair (.int .i64) (.pair (.int .i64) (.sl (.pair (.pair (.int .i64) (.pair (.int .i64) (.sl .byte))) .bool))))) .nil), []⟩, [⟨(.cons (.p (.int .i64)) .nil), []⟩], fun t => ref07_Net_Flying fu t⟩
theorem ref07_Net_Flying_eq (fu : Nat) : ∀ t, evF Go.Proofs.Try.prog [ref07_Net_Waiting_ft fu] fu Go.Proofs.Try.f49 ref07_Net_Flying_fa t = (ref07_Net_Flying_ft fu).spec t := fun t => by kernel_rfl
theorem ref07_Net_Flying_told (fu : Nat) : Told Go.Proofs.Try.prog (ref07_Net_Flying_ft fu) := told_of (allT_cons (ref07_Net_Waiting_told fu) allT_nil) mixed Go.Proofs.Try.func49 (by kernel_rfl) (by kernel_rfl) (ref07_Net_Flying_eq fu)

def ref07_Net_write_l0 (fu : Nat) (i : Int) (h : Int) (h1 : Int) (h2 : List (((Int × (Int × List (UInt8))) × Bool))) (h3 : Int) (h4 : Int) (h5 : List (UInt8)) (h6 : Int) (h7 : Int) (h8 : List (((Int × (Int × List (UInt8))) × Bool))) : Option ((Int × (Int × (Int × (List (((Int × (Int × List (UInt8))) × Bool)) × (Int × (Int × (List (UInt8) × (Int × (Int × List (((Int × (Int × List (UInt8))) × Bool))))))))))) ⊕ ((Int × (Int × (List (((Int × (Int × List (UInt8))) × Bool)) × (Int × (Int × (List (UInt8) × (Int × (Int × List (((Int × (Int × List (UInt8))) × Bool)))))))))))) :=
  bif (decide (i < ((h2.length : Nat) : Int))) then
    (idx? i h2.length).bind fun q1 =>
    (h2)[q1]?.bind fun r2 =>
    (idx? i h8.length).bind fun q2 =>
    (h8)[q2]?.bind fun r3 =>
    some (.inl ((IntKind.wrap .i64 (i + 1)), (h, (h1, (h2, (h3, (h4, (h5, (h6, (h7, (List.set h8 q2 r2)))))))))))
  else
    some (.inr (h, (h1, (h2, (h3, (h4, (h5, (h6, (h7, h8)))))))))
def ref07_Net_write_l0_it (fu : Nat)  (tt : (Int × (Int × (Int × (List (((Int × (Int × List (UInt8))) × Bool)) × (Int × (Int × (List (UInt8) × (Int × (Int × List (((Int × (Int × List (UInt8))) × Bool)))))))))))) : Option ((Int × (Int × (List (((Int × (Int × List (UInt8))) × Bool)) × (Int × (Int × (List (UInt8) × (Int × (Int × List (((Int × (Int × List (UInt8))) × Bool))))))))))) :=
  iter fu (fun tt => ref07_Net_write_l0 fu tt.1 tt.2.1 tt.2.2.1 tt.2.2.2.1 tt.2.2.2.2.1 tt.2.2.2.2.2.1 tt.2.2.2.2.2.2.1 tt.2.2.2.2.2.2.2.1 tt.2.2.2.2.2.2.2.2.1 tt.2.2.2.2.2.2.2.2.2) tt
def ref07_Net_write (fu : Nat) (n : (Int × (Int × List (((Int × (Int × List (UInt8))) × Bool))))) (d : (Int × (Int × List (UInt8)))) : Option ((Int × (Int × (List (((Int × (Int × List (UInt8))) × Bool)) × Int)))) :=
  Option.bind (α := ((Bool × (Int × (Int × (List (((Int × (Int × List (UInt8))) × Bool)) × (Int × (Int × (List (UInt8) × (Int × Int)))))))))) (
    (ref07_Net_Waiting fu (n.1, (n.2.1, n.2.2)) d.2.1).bind fun r =>
    bif (decide (r ≥ n.2.1)) then
      some (true, (n.1, (n.2.1, (n.2.2, (d.1, (d.2.1, (d.2.2, (0, 0))))))))
    else
      (ref07_Net_Flying fu (n.1, (n.2.1, n.2.2))).bind fun r1 =>
      some ((decide (r1 ≥ 10000)), (n.1, (n.2.1, (n.2.2, (d.1, (d.2.1, (d.2.2, (0, 0))))))))) fun o =>
  bif o.1 then
    some (o.2.1, (o.2.2.1, (o.2.2.2.1, 5)))
  else
    (upto? (IntKind.wrap .i64 (((o.2.2.2.1.length : Nat) : Int) + 1)) room).bind fun m =>
    (upto? (IntKind.wrap .i64 (((o.2.2.2.1.length : Nat) : Int) + 1)) m).bind fun q =>
    need (Nat.ble (m * 48) room) <|
    (ref07_Net_write_l0_it fu  (0, (o.2.1, (o.2.2.1, (o.2.2.2.1, (o.2.2.2.2.1, (o.2.2.2.2.2.1, (o.2.2.2.2.2.2.1, (o.2.2.2.2.2.2.2.1, (o.2.2.2.2.2.2.2.2, (List.replicate (α := ((Int × (Int × List (UInt8))) × Bool)) q ((0, (0, [])), false)))))))))))).bind fun o1 =>
    need (Nat.ble o1.2.2.2.2.2.1.length room) <|
    (idx? ((o1.2.2.1.length : Nat) : Int) o1.2.2.2.2.2.2.2.2.length).bind fun q3 =>
    (o1.2.2.2.2.2.2.2.2)[q3]?.bind fun r4 =>
    some (o1.1, (o1.2.1, ((List.set o1.2.2.2.2.2.2.2.2 q3 ((o1.2.2.2.1, (o1.2.2.2.2.1, o1.2.2.2.2.2.1)), false)), 0)))
def ref07_Net_write_fa : FnA := ⟨.two (.reg [(0, { ids := [100] }), (1, { ids := [101] }), (2, { ids := [102] })]) (.two (.two (.join ⟨[2, 3, 4, 19], ⟨(.cons (.own 0 100 0 0) (.cons (.own 0 101 0 0) (.cons (.own 0 102 0 0) (.cons (.p .bool) .nil)))), [(100, false, (.vars (.cons (.p (.int .i64)) (.cons (.p (.int .i64)) (.cons (.p (.sl (.pair (.pair (.int .i64) (.pair (.int .i64) (.sl .byte))) .bool))) .nil))))), (101, false, (.vars (.cons (.p (.int .i64)) (.cons (.p (.int .i64)) (.cons (.p (.sl .byte)) .nil))))), (102, false, (.vars (.cons (.p (.int .i64)) (.cons (.p (.int .i64)) (.cons (.nilp (.slice none 0 0)) .nil)))))]⟩⟩ false [] (.reg [(3, {  }), (9, { fn := 1 })])) (.two (.leaf) (.leaf))) (.two (.reg [(4, { ids := [103] })]) (.two (.two (.leaf) (.one (.loop ⟨[2, 3, 4, 6, 7], ⟨(.cons (.own 0 100 0 0) (.cons (.own 0 101 0 0) (.cons (.own 0 102 0 0) (.cons (.slf 4 103) (.cons (.p (.int .i64)) .nil))))), [(100, false, (.vars (.cons (.p (.int .i64)) (.cons (.p (.int .i64)) (.cons (.p (.sl (.pair (.pair (.int .i64) (.pair (.int .i64) (.sl .byte))) .bool))) .nil))))), (101, false, (.vars (.cons (.p (.int .i64)) (.cons (.p (.int .i64)) (.cons (.p (.sl .byte)) .nil))))), (102, false, (.vars (.cons (.p (.int .i64)) (.cons (.p (.int .i64)) (.cons (.nilp (.slice none 0 0)) .nil))))), (103, false, (.rows 85 (.pair (.pair (.int .i64) (.pair (.int .i64) (.sl .byte))) .bool)))]⟩⟩ false [(0, ⟨[2, 3, 4, 6], ⟨(.cons (.own 0 100 0 0) (.cons (.own 0 101 0 0) (.cons (.own 0 102 0 0) (.cons (.slf 4 103) .nil)))), [(100, false, (.vars (.cons (.p (.int .i64)) (.cons (.p (.int .i64)) (.cons (.p (.sl (.pair (.pair (.int .i64) (.pair (.int .i64) (.sl .byte))) .bool))) .nil))))), (101, false, (.vars (.cons (.p (.int .i64)) (.cons (.p (.int .i64)) (.cons (.p (.sl .byte)) .nil))))), (102, false, (.vars (.cons (.p (.int .i64)) (.cons (.p (.int .i64)) (.cons (.nilp (.slice none 0 0)) .nil))))), (103, false, (.rows 85 (.pair (.pair (.int .i64) (.pair (.int .i64) (.sl .byte))) .bool)))]⟩⟩)] (.two (.two (.leaf) (.leaf)) (.two (.leaf) (.leaf)))))) (.two (.reg [(11, { ids := [104] })]) (.two (.leaf) (.leaf)))))), ⟨(.cons (.p (.pair (.int .i64) (.pair (.int .i64) (.sl (.pair (.pair (.int .i64) (.pair (.int .i64) (.sl .byte))) .bool))))) (.cons (.p (.pair (.int .i64) (.pair (.int .i64) (.sl .byte)))) .nil)), []⟩, [⟨(.cons (.agg (.cons (.p (.int .i64)) (.cons (.p (.int .i64)) (.cons (.p (.sl (.pair (.pair (.int .i64) (.pair (.int .i64) (.sl .byte))) .bool))) .nil)))) (.cons (.p (.int .i64)) .nil)), []⟩], [1, 0]⟩
def ref07_Net_write_ft (fu : Nat) : FnT := ⟨47, ⟨(.cons (.p (.pair (.int .i64) (.pair (.int .i64) (.sl (.pair (.pair (.int .i64) (.pair (.int .i64) (.sl .byte))) .bool))))) (.cons (.p (.pair (.int .i64) (.pair (.int .i64) (.sl .byte)))) .nil)), []⟩, [⟨(.cons (.agg (.cons (.p (.int .i64)) (.cons (.p (.int .i64)) (.cons (.p (.sl (.pair (.pair (.int .i64) (.pair (.int .i64) (.sl .byte))) .bool))) .nil)))) (.cons (.p (.int .i64)) .nil)), []⟩], fun t => ref07_Net_write fu t.1 t.2⟩
theorem ref07_Net_write_eq (fu : Nat) : ∀ t, evF Go.Proofs.Try.prog [ref07_Net_Waiting_ft fu, ref07_Net_Flying_ft fu] fu Go.Proofs.Try.f47 ref07_Net_write_fa t = (ref07_Net_write_ft fu).spec t := fun t => by kernel_rfl
theorem ref07_Net_write_told (fu : Nat) : Told Go.Proofs.Try.prog (ref07_Net_write_ft fu) := told_of (allT_cons (ref07_Net_Waiting_told fu) (allT_cons (ref07_Net_Flying_told fu) allT_nil)) mixed Go.Proofs.Try.func47 (by kernel_rfl) (by kernel_rfl) (ref07_Net_write_eq fu)

def ref07_Net_Send (fu : Nat) (n : (Int × (Int × List (((Int × (Int × List (UInt8))) × Bool))))) (from_ : Int) (to_ : Int) (b : List (UInt8)) : Option ((Int × (Int × (List (((Int × (Int × List (UInt8))) × Bool)) × Int)))) :=
  Option.bind (α := ((Bool × (Int × (Int × (List (((Int × (Int × List (UInt8))) × Bool)) × (Int × Int))))))) (
    bif (decide (from_ < 0)) then
      some (true, (n.1, (n.2.1, (n.2.2, (0, 0)))))
    else
      bif (decide (to_ < 0)) then
        some (true, (n.1, (n.2.1, (n.2.2, (0, 0)))))
      else
        bif (decide (from_ ≥ n.1)) then
          some (true, (n.1, (n.2.1, (n.2.2, (0, 0)))))
        else
          some ((decide (to_ ≥ n.1)), (n.1, (n.2.1, (n.2.2, (0, 0)))))) fun o =>
  bif o.1 then
    some (o.2.1, (o.2.2.1, (o.2.2.2.1, 2)))
  else
    bif (decide (((b.length : Nat) : Int) > 131072)) then
      some (o.2.1, (o.2.2.1, (o.2.2.2.1, 3)))
    else
      (ref07_Net_write fu (o.2.1, (o.2.2.1, o.2.2.2.1)) (from_, (to_, b))).bind fun r =>
      some (r.1, (r.2.1, (r.2.2.1, r.2.2.2)))
def ref07_Net_Send_fa : FnA := ⟨.two (.reg [(0, { ids := [100] }), (1, { ids := [101] })]) (.two (.two (.join ⟨[4, 8, 27], ⟨(.cons (.own 0 100 0 0) (.cons (.own 0 101 0 0) (.cons (.p .bool) .nil))), [(100, false, (.vars (.cons (.p (.int .i64)) (.cons (.p (.int .i64)) (.cons (.p (.sl (.pair (.pair (.int .i64) (.pair (.int .i64) (.sl .byte))) .bool))) .nil))))), (101, false, (.vars (.cons (.p (.int .i64)) (.cons (.p (.int .i64)) (.cons (.nilp (.slice none 0 0)) .nil)))))]⟩⟩ false [] (.leaf)) (.two (.leaf) (.leaf))) (.two (.two (.leaf) (.two (.leaf) (.leaf))) (.two (.reg [(5, {  })]) (.leaf)))), ⟨(.cons (.p (.pair (.int .i64) (.pair (.int .i64) (.sl (.pair (.pair (.int .i64) (.pair (.int .i64) (.sl .byte))) .bool))))) (.cons (.p (.int .i64)) (.cons (.p (.int .i64)) (.cons (.p (.sl .byte)) .nil)))), []⟩, [⟨(.cons (.agg (.cons (.p (.int .i64)) (.cons (.p (.int .i64)) (.cons (.p (.sl (.pair (.pair (.int .i64) (.pair (.int .i64) (.sl .byte))) .bool))) .nil)))) (.cons (.p (.int .i64)) .nil)), []⟩], [0, 0]⟩
def ref07_Net_Send_ft (fu : Nat) : FnT := ⟨22, ⟨(.cons (.p (.pair (.int .i64) (.pair (.int .i64) (.sl (.pair (.pair (.int .i64) (.pair (.int .i64) (.sl .byte))) .bool))))) (.cons (.p (.int .i64)) (.cons (.p (.int .i64)) (.cons (.p (.sl .byte)) .nil)))), []⟩, [⟨(.cons (.agg (.cons (.p (.int .i64)) (.cons (.p (.int .i64)) (.cons (.p (.sl (.pair (.pair (.int .i64) (.pair (.int .i64) (.sl .byte))) .bool))) .nil)))) (.cons (.p (.int .i64)) .nil)), []⟩], fun t => ref07_Net_Send fu t.1 t.2.1 t.2.2.1 t.2.2.2⟩
theorem ref07_Net_Send_eq (fu : Nat) : ∀ t, evF Go.Proofs.Try.prog [ref07_Net_write_ft fu] fu Go.Proofs.Try.f22 ref07_Net_Send_fa t = (ref07_Net_Send_ft fu).spec t := fun t => by kernel_rfl
theorem ref07_Net_Send_told (fu : Nat) : Told Go.Proofs.Try.prog (ref07_Net_Send_ft fu) := told_of (allT_cons (ref07_Net_write_told fu) allT_nil) mixed Go.Proofs.Try.func22 (by kernel_rfl) (by kernel_rfl) (ref07_Net_Send_eq fu)

def ref07_Net_place_l0 (fu : Nat) (i1 : Int) (k : Int) (h : Int) (h1 : Int) (h2 : List (((Int × (Int × List (UInt8))) × Bool))) : Option ((Int × (Int × (Int × (Int × List (((Int × (Int × List (UInt8))) × Bool)))))) ⊕ (Unit ⊕ Int)) :=
  Option.bind (α := ((Bool × (Int × (Int × List (((Int × (Int × List (UInt8))) × Bool))))))) (
    bif (decide (k < ((h2.length : Nat) : Int))) then
      some ((decide (i1 ≥ 0)), (h, (h1, h2)))
    else
      some (false, (h, (h1, h2)))) fun o =>
  bif o.1 then
    Option.bind (α := ((Int × (Int × (Int × List (((Int × (Int × List (UInt8))) × Bool))))) ⊕ ((Int × (Int × (Int × (Int × List (((Int × (Int × List (UInt8))) × Bool)))))) ⊕ (Unit ⊕ Int)))) (
      (idx? k o.2.2.2.length).bind fun q =>
      (o.2.2.2)[q]?.bind fun r =>
      bif r.2 then
        some (.inl (i1, (o.2.1, (o.2.2.1, o.2.2.2))))
      else
        bif (i1 == 0) then
          some (.inr (.inr (.inr k)))
        else
          some (.inl ((IntKind.wrap .i64 (i1 - 1)), (o.2.1, (o.2.2.1, o.2.2.2))))) fun o1 =>
    match o1 with
    | .inl s =>
      some (.inl (s.1, ((IntKind.wrap .i64 (k + 1)), (s.2.1, (s.2.2.1, s.2.2.2)))))
    | .inr o2 =>
      some o2
  else
    some (.inr (.inl ()))
def ref07_Net_place_l0_it (fu : Nat)  (tt : (Int × (Int × (Int × (Int × List (((Int × (Int × List (UInt8))) × Bool))))))) : Option (Unit ⊕ Int) :=
  iter fu (fun tt => ref07_Net_place_l0 fu tt.1 tt.2.1 tt.2.2.1 tt.2.2.2.1 tt.2.2.2.2) tt
def ref07_Net_place (fu : Nat) (n : (Int × (Int × List (((Int × (Int × List (UInt8))) × Bool))))) (i : Int) : Option (Int) :=
  (ref07_Net_place_l0_it fu  (i, (0, (n.1, (n.2.1, n.2.2))))).bind fun o3 =>
  match o3 with
  | .inl s1 =>
    some (-1)
  | .inr o4 =>
    some o4
def ref07_Net_place_fa : FnA := ⟨.two (.reg [(0, { ids := [100] })]) (.two (.two (.leaf) (.one (.loop ⟨[1, 2, 5], ⟨(.cons (.p (.int .i64)) (.cons (.own 0 100 0 0) (.cons (.p (.int .i64)) .nil))), [(100, false, (.vars (.cons (.p (.int .i64)) (.cons (.p (.int .i64)) (.cons (.p (.sl (.pair (.pair (.int .i64) (.pair (.int .i64) (.sl .byte))) .bool))) .nil)))))]⟩⟩ true [(0, ⟨[], ⟨.nil, []⟩⟩)] (.two (.two (.join ⟨[2, 14], ⟨(.cons (.own 0 100 0 0) (.cons (.p .bool) .nil)), [(100, false, (.vars (.cons (.p (.int .i64)) (.cons (.p (.int .i64)) (.cons (.p (.sl (.pair (.pair (.int .i64) (.pair (.int .i64) (.sl .byte))) .bool))) .nil)))))]⟩⟩ false [] (.leaf)) (.leaf)) (.two (.join ⟨[1, 2], ⟨(.cons (.p (.int .i64)) (.cons (.own 0 100 0 0) .nil)), [(100, false, (.vars (.cons (.p (.int .i64)) (.cons (.p (.int .i64)) (.cons (.p (.sl (.pair (.pair (.int .i64) (.pair (.int .i64) (.sl .byte))) .bool))) .nil)))))]⟩⟩ true [] (.one (.two (.two (.leaf) (.leaf)) (.two (.two (.leaf) (.two (.leaf) (.leaf))) (.leaf))))) (.leaf)))))) (.leaf)), ⟨(.cons (.p (.pair (.int .i64) (.pair (.int .i64) (.sl (.pair (.pair (.int .i64) (.pair (.int .i64) (.sl .byte))) .bool))))) (.cons (.p (.int .i64)) .nil)), []⟩, [⟨(.cons (.p (.int .i64)) .nil), []⟩], [0]⟩
def ref07_Net_place_ft (fu : Nat) : FnT := ⟨48, ⟨(.cons (.p (.pair (.int .i64) (.pair (.int .i64) (.sl (.pair (.pair (.int .i64) (.pair (.int .i64) (.sl .byte))) .bool))))) (.cons (.p (.int .i64)) .nil)), []⟩, [⟨(.cons (.p (.int .i64)) .nil), []⟩], fun t => ref07_Net_place fu t.1 t.2⟩
theorem ref07_Net_place_eq (fu : Nat) : ∀ t, evF Go.Proofs.Try.prog [] fu Go.Proofs.Try.f48 ref07_Net_place_fa t = (ref07_Net_place_ft fu).spec t := fun t => by kernel_rfl
theorem ref07_Net_place_told (fu : Nat) : Told Go.Proofs.Try.prog (ref07_Net_place_ft fu) := told_of allT_nil mixed Go.Proofs.Try.func48 (by kernel_rfl) (by kernel_rfl) (ref07_Net_place_eq fu)

def ref07_Net_Look (fu : Nat) (n : (Int × (Int × List (((Int × (Int × List (UInt8))) × Bool))))) (i : Int) : Option ((Int × (Int × (List (UInt8) × Bool)))) :=
  (ref07_Net_place fu (n.1, (n.2.1, n.2.2)) i).bind fun r =>
  bif (decide (r < 0)) then
    some (0, (0, ([], false)))
  else
    (idx? r n.2.2.length).bind fun q =>
    (n.2.2)[q]?.bind fun r1 =>
    some (r1.1.1, (r1.1.2.1, (r1.1.2.2, true)))
def ref07_Net_Look_fa : FnA := ⟨.two (.reg [(0, { ids := [100] }), (1, { ids := [101] })]) (.two (.reg [(2, {  })]) (.two (.two (.leaf) (.two (.leaf) (.leaf))) (.leaf))), ⟨(.cons (.p (.pair (.int .i64) (.pair (.int .i64) (.sl (.pair (.pair (.int .i64) (.pair (.int .i64) (.sl .byte))) .bool))))) (.cons (.p (.int .i64)) .nil)), []⟩, [⟨(.cons (.agg (.cons (.p (.int .i64)) (.cons (.p (.int .i64)) (.cons (.p (.sl .byte)) .nil)))) (.cons (.p .bool) .nil)), []⟩], [0, 0]⟩
def ref07_Net_Look_ft (fu : Nat) : FnT := ⟨24, ⟨(.cons (.p (.pair (.int .i64) (.pair (.int .i64) (.sl (.pair (.pair (.int .i64) (.pair (.int .i64) (.sl .byte))) .bool))))) (.cons (.p (.int .i64)) .nil)), []⟩, [⟨(.cons (.agg (.cons (.p (.int .i64)) (.cons (.p (.int .i64)) (.cons (.p (.sl .byte)) .nil)))) (.cons (.p .bool) .nil)), []⟩], fun t => ref07_Net_Look fu t.1 t.2⟩
theorem ref07_Net_Look_eq (fu : Nat) : ∀ t, evF Go.Proofs.Try.prog [ref07_Net_place_ft fu] fu Go.Proofs.Try.f24 ref07_Net_Look_fa t = (ref07_Net_Look_ft fu).spec t := fun t => by kernel_rfl
theorem ref07_Net_Look_told (fu : Nat) : Told Go.Proofs.Try.prog (ref07_Net_Look_ft fu) := told_of (allT_cons (ref07_Net_place_told fu) allT_nil) mixed Go.Proofs.Try.func24 (by kernel_rfl) (by kernel_rfl) (ref07_Net_Look_eq fu)

def ref07_Net_Copy (fu : Nat) (n : (Int × (Int × List (((Int × (Int × List (UInt8))) × Bool))))) (i : Int) : Option ((Int × (Int × (List (((Int × (Int × List (UInt8))) × Bool)) × Int)))) :=
  (ref07_Net_Look fu (n.1, (n.2.1, n.2.2)) i).bind fun r =>
  bif (!r.2.2.2) then
    some (n.1, (n.2.1, (n.2.2, 2)))
  else
    (ref07_Net_write fu (n.1, (n.2.1, n.2.2)) (r.1, (r.2.1, r.2.2.1))).bind fun r1 =>
    some (r1.1, (r1.2.1, (r1.2.2.1, r1.2.2.2)))
def ref07_Net_Copy_fa : FnA := ⟨.two (.reg [(0, { ids := [100] }), (1, { ids := [101] })]) (.two (.reg [(2, {  }), (6, { ids := [102] })]) (.two (.two (.leaf) (.two (.leaf) (.leaf))) (.two (.reg [(2, { fn := 1 })]) (.leaf)))), ⟨(.cons (.p (.pair (.int .i64) (.pair (.int .i64) (.sl (.pair (.pair (.int .i64) (.pair (.int .i64) (.sl .byte))) .bool))))) (.cons (.p (.int .i64)) .nil)), []⟩, [⟨(.cons (.agg (.cons (.p (.int .i64)) (.cons (.p (.int .i64)) (.cons (.p (.sl (.pair (.pair (.int .i64) (.pair (.int .i64) (.sl .byte))) .bool))) .nil)))) (.cons (.p (.int .i64)) .nil)), []⟩], [0, 0]⟩
def ref07_Net_Copy_ft (fu : Nat) : FnT := ⟨23, ⟨(.cons (.p (.pair (.int .i64) (.pair (.int .i64) (.sl (.pair (.pair (.int .i64) (.pair (.int .i64) (.sl .byte))) .bool))))) (.cons (.p (.int .i64)) .nil)), []⟩, [⟨(.cons (.agg (.cons (.p (.int .i64)) (.cons (.p (.int .i64)) (.cons (.p (.sl (.pair (.pair (.int .i64) (.pair (.int .i64) (.sl .byte))) .bool))) .nil)))) (.cons (.p (.int .i64)) .nil)), []⟩], fun t => ref07_Net_Copy fu t.1 t.2⟩
theorem ref07_Net_Copy_eq (fu : Nat) : ∀ t, evF Go.Proofs.Try.prog [ref07_Net_Look_ft fu, ref07_Net_write_ft fu] fu Go.Proofs.Try.f23 ref07_Net_Copy_fa t = (ref07_Net_Copy_ft fu).spec t := fun t => by kernel_rfl
theorem ref07_Net_Copy_told (fu : Nat) : Told Go.Proofs.Try.prog (ref07_Net_Copy_ft fu) := told_of (allT_cons (ref07_Net_Look_told fu) (allT_cons (ref07_Net_write_told fu) allT_nil)) mixed Go.Proofs.Try.func23 (by kernel_rfl) (by kernel_rfl) (ref07_Net_Copy_eq fu)

def ref07_Net_Drop (fu : Nat) (n : (Int × (Int × List (((Int × (Int × List (UInt8))) × Bool))))) (i : Int) : Option ((Int × (Int × (List (((Int × (Int × List (UInt8))) × Bool)) × Bool)))) :=
  (ref07_Net_place fu (n.1, (n.2.1, n.2.2)) i).bind fun r =>
  bif (decide (r < 0)) then
    some (n.1, (n.2.1, (n.2.2, false)))
  else
    need ((Nat.ble ((0 + n.2.2.length) * 48) room) && (Nat.ble (0 + n.2.2.length) room)) <|
    (idx? r n.2.2.length).bind fun q =>
    (n.2.2)[q]?.bind fun r1 =>
    some (n.1, (n.2.1, ((List.set n.2.2 q (r1.1, true)), true)))
def ref07_Net_Drop_fa : FnA := ⟨.two (.reg [(0, { ids := [100] }), (1, { ids := [101] })]) (.two (.reg [(2, {  })]) (.two (.two (.leaf) (.two (.leaf) (.leaf))) (.two (.reg [(0, { ids := [102] }), (3, { ids := [103] })]) (.two (.leaf) (.two (.leaf) (.leaf)))))), ⟨(.cons (.p (.pair (.int .i64) (.pair (.int .i64) (.sl (.pair (.pair (.int .i64) (.pair (.int .i64) (.sl .byte))) .bool))))) (.cons (.p (.int .i64)) .nil)), []⟩, [⟨(.cons (.agg (.cons (.p (.int .i64)) (.cons (.p (.int .i64)) (.cons (.p (.sl (.pair (.pair (.int .i64) (.pair (.int .i64) (.sl .byte))) .bool))) .nil)))) (.cons (.p .bool) .nil)), []⟩], [1, 0]⟩
def ref07_Net_Drop_ft (fu : Nat) : FnT := ⟨25, ⟨(.cons (.p (.pair (.int .i64) (.pair (.int .i64) (.sl (.pair (.pair (.int .i64) (.pair (.int .i64) (.sl .byte))) .bool))))) (.cons (.p (.int .i64)) .nil)), []⟩, [⟨(.cons (.agg (.cons (.p (.int .i64)) (.cons (.p (.int .i64)) (.cons (.p (.sl (.pair (.pair (.int .i64) (.pair (.int .i64) (.sl .byte))) .bool))) .nil)))) (.cons (.p .bool) .nil)), []⟩], fun t => ref07_Net_Drop fu t.1 t.2⟩
theorem ref07_Net_Drop_eq (fu : Nat) : ∀ t, evF Go.Proofs.Try.prog [ref07_Net_place_ft fu] fu Go.Proofs.Try.f25 ref07_Net_Drop_fa t = (ref07_Net_Drop_ft fu).spec t := fun t => by kernel_rfl
theorem ref07_Net_Drop_told (fu : Nat) : Told Go.Proofs.Try.prog (ref07_Net_Drop_ft fu) := told_of (allT_cons (ref07_Net_place_told fu) allT_nil) mixed Go.Proofs.Try.func25 (by kernel_rfl) (by kernel_rfl) (ref07_Net_Drop_eq fu)

def ref07_Net_Forget_l0 (fu : Nat) (to_ : Int) (i : Int) (h : Int) (h1 : Int) (h2 : List (((Int × (Int × List (UInt8))) × Bool))) (h3 : Int) (h4 : Int) (h5 : List (((Int × (Int × List (UInt8))) × Bool))) : Option ((Int × (Int × (Int × (List (((Int × (Int × List (UInt8))) × Bool)) × (Int × (Int × List (((Int × (Int × List (UInt8))) × Bool)))))))) ⊕ ((Int × (Int × (List (((Int × (Int × List (UInt8))) × Bool)) × (Int × (Int × List (((Int × (Int × List (UInt8))) × Bool))))))))) :=
  bif (decide (i < ((h5.length : Nat) : Int))) then
    Option.bind (α := ((Int × (Int × (List (((Int × (Int × List (UInt8))) × Bool)) × (Int × (Int × List (((Int × (Int × List (UInt8))) × Bool))))))))) (
      (idx? i h5.length).bind fun q =>
      (h5)[q]?.bind fun r1 =>
      bif r1.2 then
        (idx? i h5.length).bind fun q1 =>
        (h5)[q1]?.bind fun r2 =>
        some (h, (h1, (h2, (h3, (h4, (List.set h5 q1 (r2.1, true)))))))
      else
        (idx? i h5.length).bind fun q2 =>
        (h5)[q2]?.bind fun r3 =>
        (idx? i h5.length).bind fun q3 =>
        (h5)[q3]?.bind fun r4 =>
        some (h, (h1, (h2, (h3, (h4, (List.set h5 q3 (r4.1, (r3.1.2.1 == to_))))))))) fun o =>
    some (.inl ((IntKind.wrap .i64 (i + 1)), (o.1, (o.2.1, (o.2.2.1, (o.2.2.2.1, (o.2.2.2.2.1, o.2.2.2.2.2)))))))
  else
    some (.inr (h, (h1, (h2, (h3, (h4, h5))))))
def ref07_Net_Forget_l0_it (fu : Nat) (to_ : Int) (tt : (Int × (Int × (Int × (List (((Int × (Int × List (UInt8))) × Bool)) × (Int × (Int × List (((Int × (Int × List (UInt8))) × Bool))))))))) : Option ((Int × (Int × (List (((Int × (Int × List (UInt8))) × Bool)) × (Int × (Int × List (((Int × (Int × List (UInt8))) × Bool)))))))) :=
  iter fu (fun tt => ref07_Net_Forget_l0 fu to_ tt.1 tt.2.1 tt.2.2.1 tt.2.2.2.1 tt.2.2.2.2.1 tt.2.2.2.2.2.1 tt.2.2.2.2.2.2) tt
def ref07_Net_Forget (fu : Nat) (n : (Int × (Int × List (((Int × (Int × List (UInt8))) × Bool))))) (to_ : Int) : Option ((Int × (Int × (Int × List (((Int × (Int × List (UInt8))) × Bool)))))) :=
  (ref07_Net_Waiting fu (n.1, (n.2.1, n.2.2)) to_).bind fun r =>
  need ((Nat.ble ((0 + n.2.2.length) * 48) room) && (Nat.ble (0 + n.2.2.length) room)) <|
  (ref07_Net_Forget_l0_it fu to_ (0, (n.1, (n.2.1, (n.2.2, (0, (0, n.2.2))))))).bind fun o1 =>
  some (o1.1, (o1.2.1, (r, o1.2.2.2.2.2)))
def ref07_Net_Forget_fa : FnA := ⟨.two (.reg [(0, { ids := [100] }), (1, { ids := [101] })]) (.two (.reg [(2, {  })]) (.two (.reg [(0, { ids := [102] }), (3, { ids := [103] })]) (.two (.two (.leaf) (.one (.loop ⟨[2, 4, 7, 8], ⟨(.cons (.own 0 100 0 0) (.cons (.own 0 101 0 0) (.cons (.slf 4 103) (.cons (.p (.int .i64)) .nil)))), [(100, false, (.vars (.cons (.p (.int .i64)) (.cons (.p (.int .i64)) (.cons (.p (.sl (.pair (.pair (.int .i64) (.pair (.int .i64) (.sl .byte))) .bool))) .nil))))), (101, false, (.vars (.cons (.p (.int .i64)) (.cons (.p (.int .i64)) (.cons (.nilp (.slice none 0 0)) .nil))))), (103, false, (.rows 85 (.pair (.pair (.int .i64) (.pair (.int .i64) (.sl .byte))) .bool)))]⟩⟩ false [(0, ⟨[2, 4, 7], ⟨(.cons (.own 0 100 0 0) (.cons (.own 0 101 0 0) (.cons (.slf 4 103) .nil))), [(100, false, (.vars (.cons (.p (.int .i64)) (.cons (.p (.int .i64)) (.cons (.p (.sl (.pair (.pair (.int .i64) (.pair (.int .i64) (.sl .byte))) .bool))) .nil))))), (101, false, (.vars (.cons (.p (.int .i64)) (.cons (.p (.int .i64)) (.cons (.nilp (.slice none 0 0)) .nil))))), (103, false, (.rows 85 (.pair (.pair (.int .i64) (.pair (.int .i64) (.sl .byte))) .bool)))]⟩⟩)] (.two (.two (.leaf) (.leaf)) (.two (.one (.join ⟨[2, 4, 7], ⟨(.cons (.own 0 100 0 0) (.cons (.own 0 101 0 0) (.cons (.slf 4 103) .nil))), [(100, false, (.vars (.cons (.p (.int .i64)) (.cons (.p (.int .i64)) (.cons (.p (.sl (.pair (.pair (.int .i64) (.pair (.int .i64) (.sl .byte))) .bool))) .nil))))), (101, false, (.vars (.cons (.p (.int .i64)) (.cons (.p (.int .i64)) (.cons (.nilp (.slice none 0 0)) .nil))))), (103, false, (.rows 85 (.pair (.pair (.int .i64) (.pair (.int .i64) (.sl .byte))) .bool)))]⟩⟩ false [] (.leaf))) (.leaf)))))) (.two (.leaf) (.leaf))))), ⟨(.cons (.p (.pair (.int .i64) (.pair (.int .i64) (.sl (.pair (.pair (.int .i64) (.pair (.int .i64) (.sl .byte))) .bool))))) (.cons (.p (.int .i64)) .nil)), []⟩, [⟨(.cons (.agg (.cons (.p (.int .i64)) (.cons (.p (.int .i64)) (.cons (.slf 4 0) .nil)))) (.cons (.p (.int .i64)) .nil)), [(0, false, (.rows 85 (.pair (.pair (.int .i64) (.pair (.int .i64) (.sl .byte))) .bool)))]⟩], [0, 0]⟩
def ref07_Net_Forget_ft (fu : Nat) : FnT := ⟨26, ⟨(.cons (.p (.pair (.int .i64) (.pair (.int .i64) (.sl (.pair (.pair (.int .i64) (.pair (.int .i64) (.sl .byte))) .bool))))) (.cons (.p (.int .i64)) .nil)), []⟩, [⟨(.cons (.agg (.cons (.p (.int .i64)) (.cons (.p (.int .i64)) (.cons (.slf 4 0) .nil)))) (.cons (.p (.int .i64)) .nil)), [(0, false, (.rows 85 (.pair (.pair (.int .i64) (.pair (.int .i64) (.sl .byte))) .bool)))]⟩], fun t => ref07_Net_Forget fu t.1 t.2⟩
theorem ref07_Net_Forget_eq (fu : Nat) : ∀ t, evF Go.Proofs.Try.prog [ref07_Net_Waiting_ft fu] fu Go.Proofs.Try.f26 ref07_Net_Forget_fa t = (ref07_Net_Forget_ft fu).spec t := fun t => by kernel_rfl
theorem ref07_Net_Forget_told (fu : Nat) : Told Go.Proofs.Try.prog (ref07_Net_Forget_ft fu) := told_of (allT_cons (ref07_Net_Waiting_told fu) allT_nil) mixed Go.Proofs.Try.func26 (by kernel_rfl) (by kernel_rfl) (ref07_Net_Forget_eq fu)

def law07_heaped_n0_l0 (fu : Nat) (i : Int) (h : Int) (h1 : Int) (h2 : List (((Int × (Int × List (UInt8))) × Bool))) : Option ((Int × (Int × (Int × List (((Int × (Int × List (UInt8))) × Bool))))) ⊕ (Unit ⊕ Bool)) :=
  (net_Net_Flying_n0 fu).bind fun r2 =>
  bif (decide (i ≤ r2)) then
    (net_Net_Look_n0 fu i).bind fun r3 =>
    (ref07_Net_Look fu (h, (h1, h2)) i).bind fun r4 =>
    Option.bind (α := ((Bool × (Int × (Int × List (((Int × (Int × List (UInt8))) × Bool))))))) (
      bif (!(r3.2.2 == r4.2.2.2)) then
        some (true, (h, (h1, h2)))
      else
        (law07_like fu (r3.1, (r3.2.1, [])) (r4.1, (r4.2.1, r4.2.2.1))).bind fun r5 =>
        some ((!r5), (h, (h1, h2)))) fun o =>
    bif o.1 then
      some (.inr (.inr false))
    else
      some (.inl ((IntKind.wrap .i64 (i + 1)), (o.2.1, (o.2.2.1, o.2.2.2))))
  else
    some (.inr (.inl ()))
def law07_heaped_n0_l0_it (fu : Nat)  (tt : (Int × (Int × (Int × List (((Int × (Int × List (UInt8))) × Bool)))))) : Option (Unit ⊕ Bool) :=
  iter fu (fun tt => law07_heaped_n0_l0 fu tt.1 tt.2.1 tt.2.2.1 tt.2.2.2) tt
def law07_heaped_n0 (fu : Nat) (w : (Int × (Int × List (((Int × (Int × List (UInt8))) × Bool))))) : Option (Bool) :=
  (net_Net_Flying_n0 fu).bind fun r =>
  (ref07_Net_Flying fu (w.1, (w.2.1, w.2.2))).bind fun r1 =>
  bif (!(r == r1)) then
    some false
  else
    (law07_heaped_n0_l0_it fu  (0, (w.1, (w.2.1, w.2.2)))).bind fun o1 =>
    match o1 with
    | .inl s =>
      some true
    | .inr o2 =>
      some o2
def law07_heaped_n0_fa : FnA := ⟨.two (.reg [(0, { ids := [100] })]) (.two (.two (.reg [(1, {  }), (3, { fn := 1 })]) (.two (.leaf) (.leaf))) (.two (.two (.leaf) (.one (.loop ⟨[3, 5], ⟨(.cons (.own 0 100 0 0) (.cons (.p (.int .i64)) .nil)), [(100, false, (.vars (.cons (.p (.int .i64)) (.cons (.p (.int .i64)) (.cons (.p (.sl (.pair (.pair (.int .i64) (.pair (.int .i64) (.sl .byte))) .bool))) .nil)))))]⟩⟩ true [(0, ⟨[], ⟨.nil, []⟩⟩)] (.two (.two (.reg [(2, {  })]) (.leaf)) (.two (.one (.two (.reg [(2, { fn := 2 }), (6, { ids := [101] })]) (.two (.reg [(2, { fn := 3 }), (6, { ids := [102] })]) (.two (.join ⟨[3, 41], ⟨(.cons (.own 0 100 0 0) (.cons (.p .bool) .nil)), [(100, false, (.vars (.cons (.p (.int .i64)) (.cons (.p (.int .i64)) (.cons (.p (.sl (.pair (.pair (.int .i64) (.pair (.int .i64) (.sl .byte))) .bool))) .nil)))))]⟩⟩ false [] (.reg [(6, { fn := 4 })])) (.two (.leaf) (.leaf)))))) (.leaf)))))) (.leaf))), ⟨(.cons (.nilp (.pointer none)) (.cons (.p (.pair (.int .i64) (.pair (.int .i64) (.sl (.pair (.pair (.int .i64) (.pair (.int .i64) (.sl .byte))) .bool))))) .nil)), []⟩, [⟨(.cons (.p .bool) .nil), []⟩], [0]⟩
def law07_heaped_n0_ft (fu : Nat) : FnT := ⟨28, ⟨(.cons (.nilp (.pointer none)) (.cons (.p (.pair (.int .i64) (.pair (.int .i64) (.sl (.pair (.pair (.int .i64) (.pair (.int .i64) (.sl .byte))) .bool))))) .nil)), []⟩, [⟨(.cons (.p .bool) .nil), []⟩], fun t => law07_heaped_n0 fu t⟩
theorem law07_heaped_n0_eq (fu : Nat) : ∀ t, evF Go.Proofs.Try.prog [net_Net_Flying_n0_ft fu, ref07_Net_Flying_ft fu, net_Net_Look_n0_ft fu, ref07_Net_Look_ft fu, law07_like_ft fu] fu Go.Proofs.Try.f28 law07_heaped_n0_fa t = (law07_heaped_n0_ft fu).spec t := fun t => by kernel_rfl
theorem law07_heaped_n0_told (fu : Nat) : Told Go.Proofs.Try.prog (law07_heaped_n0_ft fu) := told_of (allT_cons (net_Net_Flying_n0_told fu) (allT_cons (ref07_Net_Flying_told fu) (allT_cons (net_Net_Look_n0_told fu) (allT_cons (ref07_Net_Look_told fu) (allT_cons (law07_like_told fu) allT_nil))))) mixed Go.Proofs.Try.func28 (by kernel_rfl) (by kernel_rfl) (law07_heaped_n0_eq fu)

def law07_heaped__com_l0 (fu : Nat) (i : Int) (h4 : Int) (h5 : Int) (h6 : List ((Int × (Int × List (UInt8))))) (h7 : (List (((Int × Int) × Nat)) × Nat)) (h8 : Int) (h9 : Int) (h10 : List (((Int × (Int × List (UInt8))) × Bool))) : Option ((Int × (Int × (Int × (List ((Int × (Int × List (UInt8)))) × ((List (((Int × Int) × Nat)) × Nat) × (Int × (Int × List (((Int × (Int × List (UInt8))) × Bool))))))))) ⊕ ((Int × (Int × (List ((Int × (Int × List (UInt8)))) × (List (((Int × Int) × Nat)) × Nat)))) ⊕ (Bool × (Int × (Int × (List ((Int × (Int × List (UInt8)))) × (List (((Int × Int) × Nat)) × Nat))))))) :=
  (net_Net_Flying__com fu h4 h5 h6 h7).bind fun r2 =>
  bif (decide (i ≤ r2.1)) then
    (net_Net_Look__com fu i r2.2.1 r2.2.2.1 r2.2.2.2.1 r2.2.2.2.2).bind fun r3 =>
    (ref07_Net_Look fu (h8, (h9, h10)) i).bind fun r4 =>
    Option.bind (α := ((Bool × (Int × (Int × (List ((Int × (Int × List (UInt8)))) × ((List (((Int × Int) × Nat)) × Nat) × (Int × (Int × List (((Int × (Int × List (UInt8))) × Bool))))))))))) (
      bif (!(r3.2.2.2.1 == r4.2.2.2)) then
        some (true, (r3.2.2.2.2.1, (r3.2.2.2.2.2.1, (r3.2.2.2.2.2.2.1, (r3.2.2.2.2.2.2.2, (h8, (h9, h10)))))))
      else
        (law07_like fu (r3.1, (r3.2.1, r3.2.2.1)) (r4.1, (r4.2.1, r4.2.2.1))).bind fun r5 =>
        some ((!r5), (r3.2.2.2.2.1, (r3.2.2.2.2.2.1, (r3.2.2.2.2.2.2.1, (r3.2.2.2.2.2.2.2, (h8, (h9, h10)))))))) fun o =>
    bif o.1 then
      some (.inr (.inr (false, (o.2.1, (o.2.2.1, (o.2.2.2.1, o.2.2.2.2.1))))))
    else
      some (.inl ((IntKind.wrap .i64 (i + 1)), (o.2.1, (o.2.2.1, (o.2.2.2.1, (o.2.2.2.2.1, (o.2.2.2.2.2.1, (o.2.2.2.2.2.2.1, o.2.2.2.2.2.2.2))))))))
  else
    some (.inr (.inl (r2.2.1, (r2.2.2.1, (r2.2.2.2.1, r2.2.2.2.2)))))
def law07_heaped__com_l0_it (fu : Nat)  (tt : (Int × (Int × (Int × (List ((Int × (Int × List (UInt8)))) × ((List (((Int × Int) × Nat)) × Nat) × (Int × (Int × List (((Int × (Int × List (UInt8))) × Bool)))))))))) : Option ((Int × (Int × (List ((Int × (Int × List (UInt8)))) × (List (((Int × Int) × Nat)) × Nat)))) ⊕ (Bool × (Int × (Int × (List ((Int × (Int × List (UInt8)))) × (List (((Int × Int) × Nat)) × Nat)))))) :=
  iter fu (fun tt => law07_heaped__com_l0 fu tt.1 tt.2.1 tt.2.2.1 tt.2.2.2.1 tt.2.2.2.2.1 tt.2.2.2.2.2.1 tt.2.2.2.2.2.2.1 tt.2.2.2.2.2.2.2) tt
def law07_heaped__com (fu : Nat) (w : (Int × (Int × List (((Int × (Int × List (UInt8))) × Bool))))) (h : Int) (h1 : Int) (h2 : List ((Int × (Int × List (UInt8))))) (h3 : (List (((Int × Int) × Nat)) × Nat)) : Option ((Bool × (Int × (Int × (List ((Int × (Int × List (UInt8)))) × (List (((Int × Int) × Nat)) × Nat)))))) :=
  (net_Net_Flying__com fu h h1 h2 h3).bind fun r =>
  (ref07_Net_Flying fu (w.1, (w.2.1, w.2.2))).bind fun r1 =>
  bif (!(r.1 == r1)) then
    some (false, (r.2.1, (r.2.2.1, (r.2.2.2.1, r.2.2.2.2))))
  else
    (law07_heaped__com_l0_it fu  (0, (r.2.1, (r.2.2.1, (r.2.2.2.1, (r.2.2.2.2, (w.1, (w.2.1, w.2.2)))))))).bind fun o1 =>
    match o1 with
    | .inl s =>
      some (true, (s.1, (s.2.1, (s.2.2.1, s.2.2.2))))
    | .inr o2 =>
      some o2
def law07_heaped__com_fa : FnA := ⟨.two (.reg [(0, { ids := [100] })]) (.two (.two (.reg [(1, { sh := [0, 1, 2] }), (3, { fn := 1 })]) (.two (.leaf) (.leaf))) (.two (.two (.leaf) (.one (.loop ⟨[0, 3, 5], ⟨(.cons (.own 0 0 0 0) (.cons (.own 0 100 0 0) (.cons (.p (.int .i64)) .nil))), [(0, false, (.vars (.cons (.p (.int .i64)) (.cons (.p (.int .i64)) (.cons (.slf 3 1) (.cons (.mp 2) .nil)))))), (1, false, (.rows 34 (.pair (.int .i64) (.pair (.int .i64) (.sl .byte))))), (2, false, (.map (.int .i64) (.int .i64))), (100, false, (.vars (.cons (.p (.int .i64)) (.cons (.p (.int .i64)) (.cons (.p (.sl (.pair (.pair (.int .i64) (.pair (.int .i64) (.sl .byte))) .bool))) .nil)))))]⟩⟩ true [(0, ⟨[0], ⟨(.cons (.own 0 0 0 0) .nil), [(0, false, (.vars (.cons (.p (.int .i64)) (.cons (.p (.int .i64)) (.cons (.slf 3 1) (.cons (.mp 2) .nil)))))), (1, false, (.rows 34 (.pair (.int .i64) (.pair (.int .i64) (.sl .byte))))), (2, false, (.map (.int .i64) (.int .i64)))]⟩⟩)] (.two (.two (.reg [(2, { sh := [0, 1, 2] })]) (.leaf)) (.two (.one (.two (.reg [(2, { sh := [0, 1, 2], fn := 2 }), (6, { ids := [101] })]) (.two (.reg [(2, { fn := 3 }), (6, { ids := [102] })]) (.two (.join ⟨[0, 3, 41], ⟨(.cons (.own 0 0 0 0) (.cons (.own 0 100 0 0) (.cons (.p .bool) .nil))), [(0, false, (.vars (.cons (.p (.int .i64)) (.cons (.p (.int .i64)) (.cons (.slf 3 1) (.cons (.mp 2) .nil)))))), (1, false, (.rows 34 (.pair (.int .i64) (.pair (.int .i64) (.sl .byte))))), (2, false, (.map (.int .i64) (.int .i64))), (100, false, (.vars (.cons (.p (.int .i64)) (.cons (.p (.int .i64)) (.cons (.p (.sl (.pair (.pair (.int .i64) (.pair (.int .i64) (.sl .byte))) .bool))) .nil)))))]⟩⟩ false [] (.reg [(6, { fn := 4 })])) (.two (.leaf) (.leaf)))))) (.leaf)))))) (.leaf))), ⟨(.cons (.own 0 0 0 0) (.cons (.p (.pair (.int .i64) (.pair (.int .i64) (.sl (.pair (.pair (.int .i64) (.pair (.int .i64) (.sl .byte))) .bool))))) .nil)), [(0, false, (.vars (.cons (.p (.int .i64)) (.cons (.p (.int .i64)) (.cons (.slf 3 1) (.cons (.mp 2) .nil)))))), (1, false, (.rows 34 (.pair (.int .i64) (.pair (.int .i64) (.sl .byte))))), (2, false, (.map (.int .i64) (.int .i64)))]⟩, [⟨(.cons (.p .bool) .nil), [(0, false, (.vars (.cons (.p (.int .i64)) (.cons (.p (.int .i64)) (.cons (.slf 3 1) (.cons (.mp 2) .nil)))))), (1, false, (.rows 34 (.pair (.int .i64) (.pair (.int .i64) (.sl .byte))))), (2, false, (.map (.int .i64) (.int .i64)))]⟩], [0]⟩
def law07_heaped__com_ft (fu : Nat) : FnT := ⟨28, ⟨(.cons (.own 0 0 0 0) (.cons (.p (.pair (.int .i64) (.pair (.int .i64) (.sl (.pair (.pair (.int .i64) (.pair (.int .i64) (.sl .byte))) .bool))))) .nil)), [(0, false, (.vars (.cons (.p (.int .i64)) (.cons (.p (.int .i64)) (.cons (.slf 3 1) (.cons (.mp 2) .nil)))))), (1, false, (.rows 34 (.pair (.int .i64) (.pair (.int .i64) (.sl .byte))))), (2, false, (.map (.int .i64) (.int .i64)))]⟩, [⟨(.cons (.p .bool) .nil), [(0, false, (.vars (.cons (.p (.int .i64)) (.cons (.p (.int .i64)) (.cons (.slf 3 1) (.cons (.mp 2) .nil)))))), (1, false, (.rows 34 (.pair (.int .i64) (.pair (.int .i64) (.sl .byte))))), (2, false, (.map (.int .i64) (.int .i64)))]⟩], fun t => law07_heaped__com fu t.1 t.2.1 t.2.2.1 t.2.2.2.1 t.2.2.2.2⟩
theorem law07_heaped__com_eq (fu : Nat) : ∀ t, evF Go.Proofs.Try.prog [net_Net_Flying__com_ft fu, ref07_Net_Flying_ft fu, net_Net_Look__com_ft fu, ref07_Net_Look_ft fu, law07_like_ft fu] fu Go.Proofs.Try.f28 law07_heaped__com_fa t = (law07_heaped__com_ft fu).spec t := fun t => by kernel_rfl
theorem law07_heaped__com_told (fu : Nat) : Told Go.Proofs.Try.prog (law07_heaped__com_ft fu) := told_of (allT_cons (net_Net_Flying__com_told fu) (allT_cons (ref07_Net_Flying_told fu) (allT_cons (net_Net_Look__com_told fu) (allT_cons (ref07_Net_Look_told fu) (allT_cons (law07_like_told fu) allT_nil))))) mixed Go.Proofs.Try.func28 (by kernel_rfl) (by kernel_rfl) (law07_heaped__com_eq fu)

def law07_NetTells_l0 (fu : Nat) (l : List ((UInt8 × (Int × (Int × (Int × List (UInt8))))))) (r1 : Int) (i : Int) (h : Int) (h1 : Int) (h2 : List (((Int × (Int × List (UInt8))) × Bool))) : Option ((Int × (Int × (Int × List (((Int × (Int × List (UInt8))) × Bool))))) ⊕ (Unit ⊕ Bool)) :=
  Option.bind (α := ((Bool × (Int × (Int × List (((Int × (Int × List (UInt8))) × Bool))))))) (
    bif (decide (i < ((l.length : Nat) : Int))) then
      bif (decide (i < 70)) then
        some ((r1 == 0), (h, (h1, h2)))
      else
        some (false, (h, (h1, h2)))
    else
      some (false, (h, (h1, h2)))) fun o1 =>
  bif o1.1 then
    Option.bind (α := ((Int × (Int × List (((Int × (Int × List (UInt8))) × Bool)))) ⊕ ((Int × (Int × (Int × List (((Int × (Int × List (UInt8))) × Bool))))) ⊕ (Unit ⊕ Bool)))) (
      (idx? i l.length).bind fun q =>
      (l)[q]?.bind fun r4 =>
      bif (decide (((r4.2.2.2.2.length : Nat) : Int) > 200)) then
        some (.inl (o1.2.1, (o1.2.2.1, o1.2.2.2)))
      else
        Option.bind (α := ((Bool × (Int × (Int × (List (((Int × (Int × List (UInt8))) × Bool)) × (Int × (Int × (Int × (Int × (List (UInt8) × (Int × (Int × (Int × Int)))))))))))))) (
          bif (((r4.1.toNat : Nat) : Int) == 0) then
            some ((((r4.1.toNat : Nat) : Int) == 0), (o1.2.1, (o1.2.2.1, (o1.2.2.2, (((r4.1.toNat : Nat) : Int), (r4.2.1, (r4.2.2.1, (r4.2.2.2.1, (r4.2.2.2.2, (0, (0, (0, 0))))))))))))
          else
            Option.bind (α := ((Bool × (Int × (Int × (List (((Int × (Int × List (UInt8))) × Bool)) × (Int × (Int × (Int × (Int × (List (UInt8) × (Int × (Int × (Int × Int)))))))))))))) (
              bif (((r4.1.toNat : Nat) : Int) == 1) then
                some ((((r4.1.toNat : Nat) : Int) == 1), (o1.2.1, (o1.2.2.1, (o1.2.2.2, (((r4.1.toNat : Nat) : Int), (r4.2.1, (r4.2.2.1, (r4.2.2.2.1, (r4.2.2.2.2, (0, (0, (0, 0))))))))))))
              else
                Option.bind (α := ((Bool × (Int × (Int × (List (((Int × (Int × List (UInt8))) × Bool)) × (Int × (Int × (Int × (Int × (List (UInt8) × (Int × (Int × (Int × Int)))))))))))))) (
                  bif (((r4.1.toNat : Nat) : Int) == 2) then
                    some ((((r4.1.toNat : Nat) : Int) == 2), (o1.2.1, (o1.2.2.1, (o1.2.2.2, (((r4.1.toNat : Nat) : Int), (r4.2.1, (r4.2.2.1, (r4.2.2.2.1, (r4.2.2.2.2, (0, (0, (0, 0))))))))))))
                  else
                    some ((((r4.1.toNat : Nat) : Int) == 3), (o1.2.1, (o1.2.2.1, (o1.2.2.2, (((r4.1.toNat : Nat) : Int), (r4.2.1, (r4.2.2.1, (r4.2.2.2.1, (r4.2.2.2.2, (0, (0, (0, 0))))))))))))) fun o2 =>
                some (o2.1, (o2.2.1, (o2.2.2.1, (o2.2.2.2.1, (o2.2.2.2.2.1, (o2.2.2.2.2.2.1, (o2.2.2.2.2.2.2.1, (o2.2.2.2.2.2.2.2.1, (o2.2.2.2.2.2.2.2.2.1, (o2.2.2.2.2.2.2.2.2.2.1, (o2.2.2.2.2.2.2.2.2.2.2.1, (o2.2.2.2.2.2.2.2.2.2.2.2.1, o2.2.2.2.2.2.2.2.2.2.2.2.2))))))))))))) fun o3 =>
            some (o3.1, (o3.2.1, (o3.2.2.1, (o3.2.2.2.1, (o3.2.2.2.2.1, (o3.2.2.2.2.2.1, (o3.2.2.2.2.2.2.1, (o3.2.2.2.2.2.2.2.1, (o3.2.2.2.2.2.2.2.2.1, (o3.2.2.2.2.2.2.2.2.2.1, (o3.2.2.2.2.2.2.2.2.2.2.1, (o3.2.2.2.2.2.2.2.2.2.2.2.1, o3.2.2.2.2.2.2.2.2.2.2.2.2))))))))))))) fun o4 =>
        Option.bind (α := ((Int × (Int × (Bool × (Bool × (Int × (Int × (Int × (Int × (List (((Int × (Int × List (UInt8))) × Bool)) × (Int × (Int × (Int × (Int × (List (UInt8) × (Int × (Int × (Int × (Int × List (UInt8))))))))))))))))))))) (
          bif o4.1 then
            (net_Net_Send_n0 fu o4.2.2.2.2.2.1 o4.2.2.2.2.2.2.1 o4.2.2.2.2.2.2.2.2.1).bind fun r5 =>
            (ref07_Net_Send fu (o4.2.1, (o4.2.2.1, o4.2.2.2.1)) o4.2.2.2.2.2.1 o4.2.2.2.2.2.2.1 o4.2.2.2.2.2.2.2.2.1).bind fun r6 =>
            some (r5, (r6.2.2.2, (false, (false, (0, (0, (r6.1, (r6.2.1, (r6.2.2.1, (o4.2.2.2.2.1, (o4.2.2.2.2.2.1, (o4.2.2.2.2.2.2.1, (o4.2.2.2.2.2.2.2.1, (o4.2.2.2.2.2.2.2.2.1, (o4.2.2.2.2.2.2.2.2.2.1, (o4.2.2.2.2.2.2.2.2.2.2.1, (o4.2.2.2.2.2.2.2.2.2.2.2.1, (o4.2.2.2.2.2.2.2.2.2.2.2.2, []))))))))))))))))))
          else
            Option.bind (α := ((Int × (Int × (Bool × (Bool × (Int × (Int × (Int × (Int × (List (((Int × (Int × List (UInt8))) × Bool)) × (Int × (Int × (Int × (Int × (List (UInt8) × (Int × (Int × (Int × (Int × List (UInt8))))))))))))))))))))) (
              bif (((r4.1.toNat : Nat) : Int) == 4) then
                (net_Net_Copy_n0 fu o4.2.2.2.2.2.2.2.1).bind fun r7 =>
                (ref07_Net_Copy fu (o4.2.1, (o4.2.2.1, o4.2.2.2.1)) o4.2.2.2.2.2.2.2.1).bind fun r8 =>
                some (r7, (r8.2.2.2, (false, (false, (0, (0, (r8.1, (r8.2.1, (r8.2.2.1, (o4.2.2.2.2.1, (o4.2.2.2.2.2.1, (o4.2.2.2.2.2.2.1, (o4.2.2.2.2.2.2.2.1, (o4.2.2.2.2.2.2.2.2.1, (o4.2.2.2.2.2.2.2.2.2.1, (o4.2.2.2.2.2.2.2.2.2.2.1, (o4.2.2.2.2.2.2.2.2.2.2.2.1, (o4.2.2.2.2.2.2.2.2.2.2.2.2, []))))))))))))))))))
              else
                Option.bind (α := ((Bool × (Bool × (Int × (Int × (Int × (Int × (List (((Int × (Int × List (UInt8))) × Bool)) × (Int × (Int × (Int × (Int × (List (UInt8) × (Int × (Int × (Int × (Int × List (UInt8))))))))))))))))))) (
                  bif (((r4.1.toNat : Nat) : Int) == 5) then
                    (net_Net_Take_n0 fu o4.2.2.2.2.2.2.2.1).bind fun r9 =>
                    (ref07_Net_Look fu (o4.2.1, (o4.2.2.1, o4.2.2.2.1)) o4.2.2.2.2.2.2.2.1).bind fun r10 =>
                    (ref07_Net_Drop fu (o4.2.1, (o4.2.2.1, o4.2.2.2.1)) o4.2.2.2.2.2.2.2.1).bind fun r11 =>
                    some (r9.2.2, (r10.2.2.2, (0, (0, (r11.1, (r11.2.1, (r11.2.2.1, (o4.2.2.2.2.1, (o4.2.2.2.2.2.1, (o4.2.2.2.2.2.2.1, (o4.2.2.2.2.2.2.2.1, (o4.2.2.2.2.2.2.2.2.1, (r9.1, (r9.2.1, (r10.1, (r10.2.1, r10.2.2.1))))))))))))))))
                  else
                    Option.bind (α := ((Bool × (Bool × (Int × (Int × (Int × (Int × (List (((Int × (Int × List (UInt8))) × Bool)) × (Int × (Int × (Int × (Int × (List (UInt8) × (Int × (Int × (Int × Int))))))))))))))))) (
                      bif (((r4.1.toNat : Nat) : Int) == 6) then
                        (net_Net_Drop_n0 fu o4.2.2.2.2.2.2.2.1).bind fun r12 =>
                        (ref07_Net_Drop fu (o4.2.1, (o4.2.2.1, o4.2.2.2.1)) o4.2.2.2.2.2.2.2.1).bind fun r13 =>
                        some (r12, (r13.2.2.2, (0, (0, (r13.1, (r13.2.1, (r13.2.2.1, (o4.2.2.2.2.1, (o4.2.2.2.2.2.1, (o4.2.2.2.2.2.2.1, (o4.2.2.2.2.2.2.2.1, (o4.2.2.2.2.2.2.2.2.1, (o4.2.2.2.2.2.2.2.2.2.1, (o4.2.2.2.2.2.2.2.2.2.2.1, (o4.2.2.2.2.2.2.2.2.2.2.2.1, o4.2.2.2.2.2.2.2.2.2.2.2.2)))))))))))))))
                      else
                        Option.bind (α := ((Int × (Int × (Int × (Int × (List (((Int × (Int × List (UInt8))) × Bool)) × (Int × (Int × (Int × (Int × (List (UInt8) × (Int × (Int × (Int × Int))))))))))))))) (
                          bif (((r4.1.toNat : Nat) : Int) == 7) then
                            (net_Net_Forget_n0 fu o4.2.2.2.2.2.2.1).bind fun r14 =>
                            (ref07_Net_Forget fu (o4.2.1, (o4.2.2.1, o4.2.2.2.1)) o4.2.2.2.2.2.2.1).bind fun r15 =>
                            some (r14, (r15.2.2.1, (r15.1, (r15.2.1, (r15.2.2.2, (o4.2.2.2.2.1, (o4.2.2.2.2.2.1, (o4.2.2.2.2.2.2.1, (o4.2.2.2.2.2.2.2.1, (o4.2.2.2.2.2.2.2.2.1, (o4.2.2.2.2.2.2.2.2.2.1, (o4.2.2.2.2.2.2.2.2.2.2.1, (o4.2.2.2.2.2.2.2.2.2.2.2.1, o4.2.2.2.2.2.2.2.2.2.2.2.2)))))))))))))
                          else
                            some (0, (0, (o4.2.1, (o4.2.2.1, (o4.2.2.2.1, (o4.2.2.2.2.1, (o4.2.2.2.2.2.1, (o4.2.2.2.2.2.2.1, (o4.2.2.2.2.2.2.2.1, (o4.2.2.2.2.2.2.2.2.1, (o4.2.2.2.2.2.2.2.2.2.1, (o4.2.2.2.2.2.2.2.2.2.2.1, (o4.2.2.2.2.2.2.2.2.2.2.2.1, o4.2.2.2.2.2.2.2.2.2.2.2.2)))))))))))))) fun o5 =>
                        some (false, (false, (o5.1, (o5.2.1, (o5.2.2.1, (o5.2.2.2.1, (o5.2.2.2.2.1, (o5.2.2.2.2.2.1, (o5.2.2.2.2.2.2.1, (o5.2.2.2.2.2.2.2.1, (o5.2.2.2.2.2.2.2.2.1, (o5.2.2.2.2.2.2.2.2.2.1, (o5.2.2.2.2.2.2.2.2.2.2.1, (o5.2.2.2.2.2.2.2.2.2.2.2.1, (o5.2.2.2.2.2.2.2.2.2.2.2.2.1, o5.2.2.2.2.2.2.2.2.2.2.2.2.2)))))))))))))))) fun o6 =>
                    some (o6.1, (o6.2.1, (o6.2.2.1, (o6.2.2.2.1, (o6.2.2.2.2.1, (o6.2.2.2.2.2.1, (o6.2.2.2.2.2.2.1, (o6.2.2.2.2.2.2.2.1, (o6.2.2.2.2.2.2.2.2.1, (o6.2.2.2.2.2.2.2.2.2.1, (o6.2.2.2.2.2.2.2.2.2.2.1, (o6.2.2.2.2.2.2.2.2.2.2.2.1, (o6.2.2.2.2.2.2.2.2.2.2.2.2.1, (o6.2.2.2.2.2.2.2.2.2.2.2.2.2.1, (o6.2.2.2.2.2.2.2.2.2.2.2.2.2.2.1, (o6.2.2.2.2.2.2.2.2.2.2.2.2.2.2.2, []))))))))))))))))) fun o7 =>
                some (0, (0, (o7.1, (o7.2.1, (o7.2.2.1, (o7.2.2.2.1, (o7.2.2.2.2.1, (o7.2.2.2.2.2.1, (o7.2.2.2.2.2.2.1, (o7.2.2.2.2.2.2.2.1, (o7.2.2.2.2.2.2.2.2.1, (o7.2.2.2.2.2.2.2.2.2.1, (o7.2.2.2.2.2.2.2.2.2.2.1, (o7.2.2.2.2.2.2.2.2.2.2.2.1, (o7.2.2.2.2.2.2.2.2.2.2.2.2.1, (o7.2.2.2.2.2.2.2.2.2.2.2.2.2.1, (o7.2.2.2.2.2.2.2.2.2.2.2.2.2.2.1, (o7.2.2.2.2.2.2.2.2.2.2.2.2.2.2.2.1, o7.2.2.2.2.2.2.2.2.2.2.2.2.2.2.2.2))))))))))))))))))) fun o8 =>
            some (o8.1, (o8.2.1, (o8.2.2.1, (o8.2.2.2.1, (o8.2.2.2.2.1, (o8.2.2.2.2.2.1, (o8.2.2.2.2.2.2.1, (o8.2.2.2.2.2.2.2.1, (o8.2.2.2.2.2.2.2.2.1, (o8.2.2.2.2.2.2.2.2.2.1, (o8.2.2.2.2.2.2.2.2.2.2.1, (o8.2.2.2.2.2.2.2.2.2.2.2.1, (o8.2.2.2.2.2.2.2.2.2.2.2.2.1, (o8.2.2.2.2.2.2.2.2.2.2.2.2.2.1, (o8.2.2.2.2.2.2.2.2.2.2.2.2.2.2.1, (o8.2.2.2.2.2.2.2.2.2.2.2.2.2.2.2.1, (o8.2.2.2.2.2.2.2.2.2.2.2.2.2.2.2.2.1, (o8.2.2.2.2.2.2.2.2.2.2.2.2.2.2.2.2.2.1, o8.2.2.2.2.2.2.2.2.2.2.2.2.2.2.2.2.2.2))))))))))))))))))) fun o9 =>
        Option.bind (α := ((Bool × (Int × (Int × List (((Int × (Int × List (UInt8))) × Bool))))))) (
          bif (!(o9.1 == o9.2.1)) then
            some (true, (o9.2.2.2.2.2.2.1, (o9.2.2.2.2.2.2.2.1, o9.2.2.2.2.2.2.2.2.1)))
          else
            (law07_like fu (o9.2.2.2.2.2.2.2.2.2.2.2.2.2.2.1, (o9.2.2.2.2.2.2.2.2.2.2.2.2.2.2.2.1, [])) (o9.2.2.2.2.2.2.2.2.2.2.2.2.2.2.2.2.1, (o9.2.2.2.2.2.2.2.2.2.2.2.2.2.2.2.2.2.1, o9.2.2.2.2.2.2.2.2.2.2.2.2.2.2.2.2.2.2))).bind fun r16 =>
            bif (!r16) then
              some (true, (o9.2.2.2.2.2.2.1, (o9.2.2.2.2.2.2.2.1, o9.2.2.2.2.2.2.2.2.1)))
            else
              bif (!(o9.2.2.1 == o9.2.2.2.1)) then
                some (true, (o9.2.2.2.2.2.2.1, (o9.2.2.2.2.2.2.2.1, o9.2.2.2.2.2.2.2.2.1)))
              else
                bif (!(o9.2.2.2.2.1 == o9.2.2.2.2.2.1)) then
                  some (true, (o9.2.2.2.2.2.2.1, (o9.2.2.2.2.2.2.2.1, o9.2.2.2.2.2.2.2.2.1)))
                else
                  (law07_heaped_n0 fu (o9.2.2.2.2.2.2.1, (o9.2.2.2.2.2.2.2.1, o9.2.2.2.2.2.2.2.2.1))).bind fun r17 =>
                  bif (!r17) then
                    some (true, (o9.2.2.2.2.2.2.1, (o9.2.2.2.2.2.2.2.1, o9.2.2.2.2.2.2.2.2.1)))
                  else
                    (net_Net_Waiting_n0 fu o9.2.2.2.2.2.2.2.2.2.2.2.1).bind fun r18 =>
                    (ref07_Net_Waiting fu (o9.2.2.2.2.2.2.1, (o9.2.2.2.2.2.2.2.1, o9.2.2.2.2.2.2.2.2.1)) o9.2.2.2.2.2.2.2.2.2.2.2.1).bind fun r19 =>
                    some ((!(r18 == r19)), (o9.2.2.2.2.2.2.1, (o9.2.2.2.2.2.2.2.1, o9.2.2.2.2.2.2.2.2.1)))) fun o10 =>
        bif o10.1 then
          some (.inr (.inr (.inr false)))
        else
          some (.inl (o10.2.1, (o10.2.2.1, o10.2.2.2)))) fun o11 =>
    match o11 with
    | .inl s =>
      some (.inl ((IntKind.wrap .i64 (i + 1)), (s.1, (s.2.1, s.2.2))))
    | .inr o12 =>
      some o12
  else
    some (.inr (.inl ()))
def law07_NetTells_l0_it (fu : Nat) (l : List ((UInt8 × (Int × (Int × (Int × List (UInt8))))))) (r1 : Int) (tt : (Int × (Int × (Int × List (((Int × (Int × List (UInt8))) × Bool)))))) : Option (Unit ⊕ Bool) :=
  iter fu (fun tt => law07_NetTells_l0 fu l r1 tt.1 tt.2.1 tt.2.2.1 tt.2.2.2) tt
def law07_NetTells_l1 (fu : Nat) (l : List ((UInt8 × (Int × (Int × (Int × List (UInt8))))))) (r2 : (Int × (Int × (Int × (List (((Int × Int) × Nat)) × Nat))))) (i1 : Int) (h3 : Int) (h4 : Int) (h5 : List ((Int × (Int × List (UInt8))))) (h6 : (List (((Int × Int) × Nat)) × Nat)) (h7 : Int) (h8 : Int) (h9 : List (((Int × (Int × List (UInt8))) × Bool))) : Option ((Int × (Int × (Int × (List ((Int × (Int × List (UInt8)))) × ((List (((Int × Int) × Nat)) × Nat) × (Int × (Int × List (((Int × (Int × List (UInt8))) × Bool))))))))) ⊕ (Unit ⊕ Bool)) :=
  Option.bind (α := ((Bool × (Int × (Int × (List ((Int × (Int × List (UInt8)))) × ((List (((Int × Int) × Nat)) × Nat) × (Int × (Int × List (((Int × (Int × List (UInt8))) × Bool))))))))))) (
    bif (decide (i1 < ((l.length : Nat) : Int))) then
      bif (decide (i1 < 70)) then
        some ((r2.1 == 0), (h3, (h4, (h5, (h6, (h7, (h8, h9)))))))
      else
        some (false, (h3, (h4, (h5, (h6, (h7, (h8, h9)))))))
    else
      some (false, (h3, (h4, (h5, (h6, (h7, (h8, h9)))))))) fun o16 =>
  bif o16.1 then
    Option.bind (α := ((Int × (Int × (List ((Int × (Int × List (UInt8)))) × ((List (((Int × Int) × Nat)) × Nat) × (Int × (Int × List (((Int × (Int × List (UInt8))) × Bool)))))))) ⊕ ((Int × (Int × (Int × (List ((Int × (Int × List (UInt8)))) × ((List (((Int × Int) × Nat)) × Nat) × (Int × (Int × List (((Int × (Int × List (UInt8))) × Bool))))))))) ⊕ (Unit ⊕ Bool)))) (
      (idx? i1 l.length).bind fun q1 =>
      (l)[q1]?.bind fun r22 =>
      bif (decide (((r22.2.2.2.2.length : Nat) : Int) > 200)) then
        some (.inl (o16.2.1, (o16.2.2.1, (o16.2.2.2.1, (o16.2.2.2.2.1, (o16.2.2.2.2.2.1, (o16.2.2.2.2.2.2.1, o16.2.2.2.2.2.2.2)))))))
      else
        Option.bind (α := ((Bool × (Int × (Int × (List ((Int × (Int × List (UInt8)))) × ((List (((Int × Int) × Nat)) × Nat) × (Int × (Int × (List (((Int × (Int × List (UInt8))) × Bool)) × (Int × (Int × (Int × (Int × (List (UInt8) × (Int × (Int × (Int × Int)))))))))))))))))) (
          bif (((r22.1.toNat : Nat) : Int) == 0) then
            some ((((r22.1.toNat : Nat) : Int) == 0), (o16.2.1, (o16.2.2.1, (o16.2.2.2.1, (o16.2.2.2.2.1, (o16.2.2.2.2.2.1, (o16.2.2.2.2.2.2.1, (o16.2.2.2.2.2.2.2, (((r22.1.toNat : Nat) : Int), (r22.2.1, (r22.2.2.1, (r22.2.2.2.1, (r22.2.2.2.2, (0, (0, (0, 0))))))))))))))))
          else
            Option.bind (α := ((Bool × (Int × (Int × (List ((Int × (Int × List (UInt8)))) × ((List (((Int × Int) × Nat)) × Nat) × (Int × (Int × (List (((Int × (Int × List (UInt8))) × Bool)) × (Int × (Int × (Int × (Int × (List (UInt8) × (Int × (Int × (Int × Int)))))))))))))))))) (
              bif (((r22.1.toNat : Nat) : Int) == 1) then
                some ((((r22.1.toNat : Nat) : Int) == 1), (o16.2.1, (o16.2.2.1, (o16.2.2.2.1, (o16.2.2.2.2.1, (o16.2.2.2.2.2.1, (o16.2.2.2.2.2.2.1, (o16.2.2.2.2.2.2.2, (((r22.1.toNat : Nat) : Int), (r22.2.1, (r22.2.2.1, (r22.2.2.2.1, (r22.2.2.2.2, (0, (0, (0, 0))))))))))))))))
              else
                Option.bind (α := ((Bool × (Int × (Int × (List ((Int × (Int × List (UInt8)))) × ((List (((Int × Int) × Nat)) × Nat) × (Int × (Int × (List (((Int × (Int × List (UInt8))) × Bool)) × (Int × (Int × (Int × (Int × (List (UInt8) × (Int × (Int × (Int × Int)))))))))))))))))) (
                  bif (((r22.1.toNat : Nat) : Int) == 2) then
                    some ((((r22.1.toNat : Nat) : Int) == 2), (o16.2.1, (o16.2.2.1, (o16.2.2.2.1, (o16.2.2.2.2.1, (o16.2.2.2.2.2.1, (o16.2.2.2.2.2.2.1, (o16.2.2.2.2.2.2.2, (((r22.1.toNat : Nat) : Int), (r22.2.1, (r22.2.2.1, (r22.2.2.2.1, (r22.2.2.2.2, (0, (0, (0, 0))))))))))))))))
                  else
                    some ((((r22.1.toNat : Nat) : Int) == 3), (o16.2.1, (o16.2.2.1, (o16.2.2.2.1, (o16.2.2.2.2.1, (o16.2.2.2.2.2.1, (o16.2.2.2.2.2.2.1, (o16.2.2.2.2.2.2.2, (((r22.1.toNat : Nat) : Int), (r22.2.1, (r22.2.2.1, (r22.2.2.2.1, (r22.2.2.2.2, (0, (0, (0, 0))))))))))))))))) fun o17 =>
                some (o17.1, (o17.2.1, (o17.2.2.1, (o17.2.2.2.1, (o17.2.2.2.2.1, (o17.2.2.2.2.2.1, (o17.2.2.2.2.2.2.1, (o17.2.2.2.2.2.2.2.1, (o17.2.2.2.2.2.2.2.2.1, (o17.2.2.2.2.2.2.2.2.2.1, (o17.2.2.2.2.2.2.2.2.2.2.1, (o17.2.2.2.2.2.2.2.2.2.2.2.1, (o17.2.2.2.2.2.2.2.2.2.2.2.2.1, (o17.2.2.2.2.2.2.2.2.2.2.2.2.2.1, (o17.2.2.2.2.2.2.2.2.2.2.2.2.2.2.1, (o17.2.2.2.2.2.2.2.2.2.2.2.2.2.2.2.1, o17.2.2.2.2.2.2.2.2.2.2.2.2.2.2.2.2))))))))))))))))) fun o18 =>
            some (o18.1, (o18.2.1, (o18.2.2.1, (o18.2.2.2.1, (o18.2.2.2.2.1, (o18.2.2.2.2.2.1, (o18.2.2.2.2.2.2.1, (o18.2.2.2.2.2.2.2.1, (o18.2.2.2.2.2.2.2.2.1, (o18.2.2.2.2.2.2.2.2.2.1, (o18.2.2.2.2.2.2.2.2.2.2.1, (o18.2.2.2.2.2.2.2.2.2.2.2.1, (o18.2.2.2.2.2.2.2.2.2.2.2.2.1, (o18.2.2.2.2.2.2.2.2.2.2.2.2.2.1, (o18.2.2.2.2.2.2.2.2.2.2.2.2.2.2.1, (o18.2.2.2.2.2.2.2.2.2.2.2.2.2.2.2.1, o18.2.2.2.2.2.2.2.2.2.2.2.2.2.2.2.2))))))))))))))))) fun o19 =>
        Option.bind (α := ((Int × (Int × (Bool × (Bool × (Int × (Int × (Int × (Int × (List ((Int × (Int × List (UInt8)))) × ((List (((Int × Int) × Nat)) × Nat) × (Int × (Int × (List (((Int × (Int × List (UInt8))) × Bool)) × (Int × (Int × (Int × (Int × (List (UInt8) × (Int × (Int × (List (UInt8) × (Int × (Int × List (UInt8)))))))))))))))))))))))))) (
          bif o19.1 then
            Option.bind (α := ((Int × (Int × (Int × (List ((Int × (Int × List (UInt8)))) × ((List (((Int × Int) × Nat)) × Nat) × (Int × (Int × (List (((Int × (Int × List (UInt8))) × Bool)) × (Int × (Int × (Int × (Int × (List (UInt8) × (Int × (Int × (Int × Int)))))))))))))))))) (
              (net_Net_Send__com fu o19.2.2.2.2.2.2.2.2.2.1 o19.2.2.2.2.2.2.2.2.2.2.1 o19.2.2.2.2.2.2.2.2.2.2.2.2.1 o19.2.1 o19.2.2.1 o19.2.2.2.1 o19.2.2.2.2.1).bind fun r23 =>
              match r23 with
              | .inl r24 =>
                some (r24.1, (r24.2.1, (r24.2.2.1, (r24.2.2.2.1, (r24.2.2.2.2, (o19.2.2.2.2.2.1, (o19.2.2.2.2.2.2.1, (o19.2.2.2.2.2.2.2.1, (o19.2.2.2.2.2.2.2.2.1, (o19.2.2.2.2.2.2.2.2.2.1, (o19.2.2.2.2.2.2.2.2.2.2.1, (o19.2.2.2.2.2.2.2.2.2.2.2.1, (o19.2.2.2.2.2.2.2.2.2.2.2.2.1, (o19.2.2.2.2.2.2.2.2.2.2.2.2.2.1, (o19.2.2.2.2.2.2.2.2.2.2.2.2.2.2.1, (o19.2.2.2.2.2.2.2.2.2.2.2.2.2.2.2.1, o19.2.2.2.2.2.2.2.2.2.2.2.2.2.2.2.2))))))))))))))))
              | .inr r25 =>
                some (r25.1, (r25.2.1, (r25.2.2.1, (r25.2.2.2.2, (r25.2.2.2.1, (o19.2.2.2.2.2.1, (o19.2.2.2.2.2.2.1, (o19.2.2.2.2.2.2.2.1, (o19.2.2.2.2.2.2.2.2.1, (o19.2.2.2.2.2.2.2.2.2.1, (o19.2.2.2.2.2.2.2.2.2.2.1, (o19.2.2.2.2.2.2.2.2.2.2.2.1, (o19.2.2.2.2.2.2.2.2.2.2.2.2.1, (o19.2.2.2.2.2.2.2.2.2.2.2.2.2.1, (o19.2.2.2.2.2.2.2.2.2.2.2.2.2.2.1, (o19.2.2.2.2.2.2.2.2.2.2.2.2.2.2.2.1, o19.2.2.2.2.2.2.2.2.2.2.2.2.2.2.2.2))))))))))))))))) fun o20 =>
            (ref07_Net_Send fu (o20.2.2.2.2.2.1, (o20.2.2.2.2.2.2.1, o20.2.2.2.2.2.2.2.1)) o20.2.2.2.2.2.2.2.2.2.1 o20.2.2.2.2.2.2.2.2.2.2.1 o20.2.2.2.2.2.2.2.2.2.2.2.2.1).bind fun r26 =>
            some (o20.1, (r26.2.2.2, (false, (false, (0, (0, (o20.2.1, (o20.2.2.1, (o20.2.2.2.1, (o20.2.2.2.2.1, (r26.1, (r26.2.1, (r26.2.2.1, (o20.2.2.2.2.2.2.2.2.1, (o20.2.2.2.2.2.2.2.2.2.1, (o20.2.2.2.2.2.2.2.2.2.2.1, (o20.2.2.2.2.2.2.2.2.2.2.2.1, (o20.2.2.2.2.2.2.2.2.2.2.2.2.1, (o20.2.2.2.2.2.2.2.2.2.2.2.2.2.1, (o20.2.2.2.2.2.2.2.2.2.2.2.2.2.2.1, ([], (o20.2.2.2.2.2.2.2.2.2.2.2.2.2.2.2.1, (o20.2.2.2.2.2.2.2.2.2.2.2.2.2.2.2.2, [])))))))))))))))))))))))
          else
            Option.bind (α := ((Int × (Int × (Bool × (Bool × (Int × (Int × (Int × (Int × (List ((Int × (Int × List (UInt8)))) × ((List (((Int × Int) × Nat)) × Nat) × (Int × (Int × (List (((Int × (Int × List (UInt8))) × Bool)) × (Int × (Int × (Int × (Int × (List (UInt8) × (Int × (Int × (List (UInt8) × (Int × (Int × List (UInt8)))))))))))))))))))))))))) (
              bif (((r22.1.toNat : Nat) : Int) == 4) then
                Option.bind (α := ((Int × (Int × (Int × (List ((Int × (Int × List (UInt8)))) × ((List (((Int × Int) × Nat)) × Nat) × (Int × (Int × (List (((Int × (Int × List (UInt8))) × Bool)) × (Int × (Int × (Int × (Int × (List (UInt8) × (Int × (Int × (Int × Int)))))))))))))))))) (
                  (net_Net_Copy__com fu o19.2.2.2.2.2.2.2.2.2.2.2.1 o19.2.1 o19.2.2.1 o19.2.2.2.1 o19.2.2.2.2.1).bind fun r27 =>
                  match r27 with
                  | .inl r28 =>
                    some (r28.1, (r28.2.1, (r28.2.2.1, (r28.2.2.2.1, (r28.2.2.2.2, (o19.2.2.2.2.2.1, (o19.2.2.2.2.2.2.1, (o19.2.2.2.2.2.2.2.1, (o19.2.2.2.2.2.2.2.2.1, (o19.2.2.2.2.2.2.2.2.2.1, (o19.2.2.2.2.2.2.2.2.2.2.1, (o19.2.2.2.2.2.2.2.2.2.2.2.1, (o19.2.2.2.2.2.2.2.2.2.2.2.2.1, (o19.2.2.2.2.2.2.2.2.2.2.2.2.2.1, (o19.2.2.2.2.2.2.2.2.2.2.2.2.2.2.1, (o19.2.2.2.2.2.2.2.2.2.2.2.2.2.2.2.1, o19.2.2.2.2.2.2.2.2.2.2.2.2.2.2.2.2))))))))))))))))
                  | .inr r29 =>
                    some (r29.1, (r29.2.1, (r29.2.2.1, (r29.2.2.2.2, (r29.2.2.2.1, (o19.2.2.2.2.2.1, (o19.2.2.2.2.2.2.1, (o19.2.2.2.2.2.2.2.1, (o19.2.2.2.2.2.2.2.2.1, (o19.2.2.2.2.2.2.2.2.2.1, (o19.2.2.2.2.2.2.2.2.2.2.1, (o19.2.2.2.2.2.2.2.2.2.2.2.1, (o19.2.2.2.2.2.2.2.2.2.2.2.2.1, (o19.2.2.2.2.2.2.2.2.2.2.2.2.2.1, (o19.2.2.2.2.2.2.2.2.2.2.2.2.2.2.1, (o19.2.2.2.2.2.2.2.2.2.2.2.2.2.2.2.1, o19.2.2.2.2.2.2.2.2.2.2.2.2.2.2.2.2))))))))))))))))) fun o21 =>
                (ref07_Net_Copy fu (o21.2.2.2.2.2.1, (o21.2.2.2.2.2.2.1, o21.2.2.2.2.2.2.2.1)) o21.2.2.2.2.2.2.2.2.2.2.2.1).bind fun r30 =>
                some (o21.1, (r30.2.2.2, (false, (false, (0, (0, (o21.2.1, (o21.2.2.1, (o21.2.2.2.1, (o21.2.2.2.2.1, (r30.1, (r30.2.1, (r30.2.2.1, (o21.2.2.2.2.2.2.2.2.1, (o21.2.2.2.2.2.2.2.2.2.1, (o21.2.2.2.2.2.2.2.2.2.2.1, (o21.2.2.2.2.2.2.2.2.2.2.2.1, (o21.2.2.2.2.2.2.2.2.2.2.2.2.1, (o21.2.2.2.2.2.2.2.2.2.2.2.2.2.1, (o21.2.2.2.2.2.2.2.2.2.2.2.2.2.2.1, ([], (o21.2.2.2.2.2.2.2.2.2.2.2.2.2.2.2.1, (o21.2.2.2.2.2.2.2.2.2.2.2.2.2.2.2.2, [])))))))))))))))))))))))
              else
                Option.bind (α := ((Bool × (Bool × (Int × (Int × (Int × (Int × (List ((Int × (Int × List (UInt8)))) × ((List (((Int × Int) × Nat)) × Nat) × (Int × (Int × (List (((Int × (Int × List (UInt8))) × Bool)) × (Int × (Int × (Int × (Int × (List (UInt8) × (Int × (Int × (List (UInt8) × (Int × (Int × List (UInt8)))))))))))))))))))))))) (
                  bif (((r22.1.toNat : Nat) : Int) == 5) then
                    Option.bind (α := ((Bool × (Int × (Int × (List ((Int × (Int × List (UInt8)))) × ((List (((Int × Int) × Nat)) × Nat) × (Int × (Int × (List (((Int × (Int × List (UInt8))) × Bool)) × (Int × (Int × (Int × (Int × (List (UInt8) × (Int × (Int × (List (UInt8) × (Int × Int))))))))))))))))))) (
                      (net_Net_Take__com fu o19.2.2.2.2.2.2.2.2.2.2.2.1 o19.2.1 o19.2.2.1 o19.2.2.2.1 o19.2.2.2.2.1).bind fun r31 =>
                      match r31 with
                      | .inl r32 =>
                        some (r32.2.2.2.1, (r32.2.2.2.2.1, (r32.2.2.2.2.2.1, (r32.2.2.2.2.2.2.1, (r32.2.2.2.2.2.2.2, (o19.2.2.2.2.2.1, (o19.2.2.2.2.2.2.1, (o19.2.2.2.2.2.2.2.1, (o19.2.2.2.2.2.2.2.2.1, (o19.2.2.2.2.2.2.2.2.2.1, (o19.2.2.2.2.2.2.2.2.2.2.1, (o19.2.2.2.2.2.2.2.2.2.2.2.1, (o19.2.2.2.2.2.2.2.2.2.2.2.2.1, (r32.1, (r32.2.1, (r32.2.2.1, (o19.2.2.2.2.2.2.2.2.2.2.2.2.2.2.2.1, o19.2.2.2.2.2.2.2.2.2.2.2.2.2.2.2.2)))))))))))))))))
                      | .inr r33 =>
                        some (r33.2.2.2.1, (r33.2.2.2.2.1, (r33.2.2.2.2.2.1, (r33.2.2.2.2.2.2.2.2, (r33.2.2.2.2.2.2.1, (o19.2.2.2.2.2.1, (o19.2.2.2.2.2.2.1, (o19.2.2.2.2.2.2.2.1, (o19.2.2.2.2.2.2.2.2.1, (o19.2.2.2.2.2.2.2.2.2.1, (o19.2.2.2.2.2.2.2.2.2.2.1, (o19.2.2.2.2.2.2.2.2.2.2.2.1, (o19.2.2.2.2.2.2.2.2.2.2.2.2.1, (r33.1, (r33.2.1, (r33.2.2.1, (o19.2.2.2.2.2.2.2.2.2.2.2.2.2.2.2.1, o19.2.2.2.2.2.2.2.2.2.2.2.2.2.2.2.2)))))))))))))))))) fun o22 =>
                    (ref07_Net_Look fu (o22.2.2.2.2.2.1, (o22.2.2.2.2.2.2.1, o22.2.2.2.2.2.2.2.1)) o22.2.2.2.2.2.2.2.2.2.2.2.1).bind fun r34 =>
                    (ref07_Net_Drop fu (o22.2.2.2.2.2.1, (o22.2.2.2.2.2.2.1, o22.2.2.2.2.2.2.2.1)) o22.2.2.2.2.2.2.2.2.2.2.2.1).bind fun r35 =>
                    some (o22.1, (r34.2.2.2, (0, (0, (o22.2.1, (o22.2.2.1, (o22.2.2.2.1, (o22.2.2.2.2.1, (r35.1, (r35.2.1, (r35.2.2.1, (o22.2.2.2.2.2.2.2.2.1, (o22.2.2.2.2.2.2.2.2.2.1, (o22.2.2.2.2.2.2.2.2.2.2.1, (o22.2.2.2.2.2.2.2.2.2.2.2.1, (o22.2.2.2.2.2.2.2.2.2.2.2.2.1, (o22.2.2.2.2.2.2.2.2.2.2.2.2.2.1, (o22.2.2.2.2.2.2.2.2.2.2.2.2.2.2.1, (o22.2.2.2.2.2.2.2.2.2.2.2.2.2.2.2.1, (r34.1, (r34.2.1, r34.2.2.1)))))))))))))))))))))
                  else
                    Option.bind (α := ((Bool × (Bool × (Int × (Int × (Int × (Int × (List ((Int × (Int × List (UInt8)))) × ((List (((Int × Int) × Nat)) × Nat) × (Int × (Int × (List (((Int × (Int × List (UInt8))) × Bool)) × (Int × (Int × (Int × (Int × (List (UInt8) × (Int × (Int × (Int × Int))))))))))))))))))))) (
                      bif (((r22.1.toNat : Nat) : Int) == 6) then
                        Option.bind (α := ((Bool × (Int × (Int × (List ((Int × (Int × List (UInt8)))) × ((List (((Int × Int) × Nat)) × Nat) × (Int × (Int × (List (((Int × (Int × List (UInt8))) × Bool)) × (Int × (Int × (Int × (Int × (List (UInt8) × (Int × (Int × (Int × Int)))))))))))))))))) (
                          (net_Net_Drop__com fu o19.2.2.2.2.2.2.2.2.2.2.2.1 o19.2.1 o19.2.2.1 o19.2.2.2.1 o19.2.2.2.2.1).bind fun r36 =>
                          match r36 with
                          | .inl r37 =>
                            some (r37.1, (r37.2.1, (r37.2.2.1, (r37.2.2.2.1, (r37.2.2.2.2, (o19.2.2.2.2.2.1, (o19.2.2.2.2.2.2.1, (o19.2.2.2.2.2.2.2.1, (o19.2.2.2.2.2.2.2.2.1, (o19.2.2.2.2.2.2.2.2.2.1, (o19.2.2.2.2.2.2.2.2.2.2.1, (o19.2.2.2.2.2.2.2.2.2.2.2.1, (o19.2.2.2.2.2.2.2.2.2.2.2.2.1, (o19.2.2.2.2.2.2.2.2.2.2.2.2.2.1, (o19.2.2.2.2.2.2.2.2.2.2.2.2.2.2.1, (o19.2.2.2.2.2.2.2.2.2.2.2.2.2.2.2.1, o19.2.2.2.2.2.2.2.2.2.2.2.2.2.2.2.2))))))))))))))))
                          | .inr r38 =>
                            some (r38.1, (r38.2.1, (r38.2.2.1, (r38.2.2.2.2.2, (r38.2.2.2.1, (o19.2.2.2.2.2.1, (o19.2.2.2.2.2.2.1, (o19.2.2.2.2.2.2.2.1, (o19.2.2.2.2.2.2.2.2.1, (o19.2.2.2.2.2.2.2.2.2.1, (o19.2.2.2.2.2.2.2.2.2.2.1, (o19.2.2.2.2.2.2.2.2.2.2.2.1, (o19.2.2.2.2.2.2.2.2.2.2.2.2.1, (o19.2.2.2.2.2.2.2.2.2.2.2.2.2.1, (o19.2.2.2.2.2.2.2.2.2.2.2.2.2.2.1, (o19.2.2.2.2.2.2.2.2.2.2.2.2.2.2.2.1, o19.2.2.2.2.2.2.2.2.2.2.2.2.2.2.2.2))))))))))))))))) fun o23 =>
                        (ref07_Net_Drop fu (o23.2.2.2.2.2.1, (o23.2.2.2.2.2.2.1, o23.2.2.2.2.2.2.2.1)) o23.2.2.2.2.2.2.2.2.2.2.2.1).bind fun r39 =>
                        some (o23.1, (r39.2.2.2, (0, (0, (o23.2.1, (o23.2.2.1, (o23.2.2.2.1, (o23.2.2.2.2.1, (r39.1, (r39.2.1, (r39.2.2.1, (o23.2.2.2.2.2.2.2.2.1, (o23.2.2.2.2.2.2.2.2.2.1, (o23.2.2.2.2.2.2.2.2.2.2.1, (o23.2.2.2.2.2.2.2.2.2.2.2.1, (o23.2.2.2.2.2.2.2.2.2.2.2.2.1, (o23.2.2.2.2.2.2.2.2.2.2.2.2.2.1, (o23.2.2.2.2.2.2.2.2.2.2.2.2.2.2.1, (o23.2.2.2.2.2.2.2.2.2.2.2.2.2.2.2.1, o23.2.2.2.2.2.2.2.2.2.2.2.2.2.2.2.2)))))))))))))))))))
                      else
                        Option.bind (α := ((Int × (Int × (Int × (Int × (List ((Int × (Int × List (UInt8)))) × ((List (((Int × Int) × Nat)) × Nat) × (Int × (Int × (List (((Int × (Int × List (UInt8))) × Bool)) × (Int × (Int × (Int × (Int × (List (UInt8) × (Int × (Int × (Int × Int))))))))))))))))))) (
                          bif (((r22.1.toNat : Nat) : Int) == 7) then
                            (net_Net_Forget__com fu o19.2.2.2.2.2.2.2.2.2.2.1 o19.2.1 o19.2.2.1 o19.2.2.2.1 o19.2.2.2.2.1).bind fun r40 =>
                            (ref07_Net_Forget fu (o19.2.2.2.2.2.1, (o19.2.2.2.2.2.2.1, o19.2.2.2.2.2.2.2.1)) o19.2.2.2.2.2.2.2.2.2.2.1).bind fun r41 =>
                            some (r40.1, (r41.2.2.1, (r40.2.1, (r40.2.2.1, (r40.2.2.2.2, (r40.2.2.2.1, (r41.1, (r41.2.1, (r41.2.2.2, (o19.2.2.2.2.2.2.2.2.1, (o19.2.2.2.2.2.2.2.2.2.1, (o19.2.2.2.2.2.2.2.2.2.2.1, (o19.2.2.2.2.2.2.2.2.2.2.2.1, (o19.2.2.2.2.2.2.2.2.2.2.2.2.1, (o19.2.2.2.2.2.2.2.2.2.2.2.2.2.1, (o19.2.2.2.2.2.2.2.2.2.2.2.2.2.2.1, (o19.2.2.2.2.2.2.2.2.2.2.2.2.2.2.2.1, o19.2.2.2.2.2.2.2.2.2.2.2.2.2.2.2.2)))))))))))))))))
                          else
                            some (0, (0, (o19.2.1, (o19.2.2.1, (o19.2.2.2.1, (o19.2.2.2.2.1, (o19.2.2.2.2.2.1, (o19.2.2.2.2.2.2.1, (o19.2.2.2.2.2.2.2.1, (o19.2.2.2.2.2.2.2.2.1, (o19.2.2.2.2.2.2.2.2.2.1, (o19.2.2.2.2.2.2.2.2.2.2.1, (o19.2.2.2.2.2.2.2.2.2.2.2.1, (o19.2.2.2.2.2.2.2.2.2.2.2.2.1, (o19.2.2.2.2.2.2.2.2.2.2.2.2.2.1, (o19.2.2.2.2.2.2.2.2.2.2.2.2.2.2.1, (o19.2.2.2.2.2.2.2.2.2.2.2.2.2.2.2.1, o19.2.2.2.2.2.2.2.2.2.2.2.2.2.2.2.2)))))))))))))))))) fun o24 =>
                        some (false, (false, (o24.1, (o24.2.1, (o24.2.2.1, (o24.2.2.2.1, (o24.2.2.2.2.1, (o24.2.2.2.2.2.1, (o24.2.2.2.2.2.2.1, (o24.2.2.2.2.2.2.2.1, (o24.2.2.2.2.2.2.2.2.1, (o24.2.2.2.2.2.2.2.2.2.1, (o24.2.2.2.2.2.2.2.2.2.2.1, (o24.2.2.2.2.2.2.2.2.2.2.2.1, (o24.2.2.2.2.2.2.2.2.2.2.2.2.1, (o24.2.2.2.2.2.2.2.2.2.2.2.2.2.1, (o24.2.2.2.2.2.2.2.2.2.2.2.2.2.2.1, (o24.2.2.2.2.2.2.2.2.2.2.2.2.2.2.2.1, (o24.2.2.2.2.2.2.2.2.2.2.2.2.2.2.2.2.1, o24.2.2.2.2.2.2.2.2.2.2.2.2.2.2.2.2.2)))))))))))))))))))) fun o25 =>
                    some (o25.1, (o25.2.1, (o25.2.2.1, (o25.2.2.2.1, (o25.2.2.2.2.1, (o25.2.2.2.2.2.1, (o25.2.2.2.2.2.2.1, (o25.2.2.2.2.2.2.2.1, (o25.2.2.2.2.2.2.2.2.1, (o25.2.2.2.2.2.2.2.2.2.1, (o25.2.2.2.2.2.2.2.2.2.2.1, (o25.2.2.2.2.2.2.2.2.2.2.2.1, (o25.2.2.2.2.2.2.2.2.2.2.2.2.1, (o25.2.2.2.2.2.2.2.2.2.2.2.2.2.1, (o25.2.2.2.2.2.2.2.2.2.2.2.2.2.2.1, (o25.2.2.2.2.2.2.2.2.2.2.2.2.2.2.2.1, (o25.2.2.2.2.2.2.2.2.2.2.2.2.2.2.2.2.1, (o25.2.2.2.2.2.2.2.2.2.2.2.2.2.2.2.2.2.1, ([], (o25.2.2.2.2.2.2.2.2.2.2.2.2.2.2.2.2.2.2.1, (o25.2.2.2.2.2.2.2.2.2.2.2.2.2.2.2.2.2.2.2, [])))))))))))))))))))))) fun o26 =>
                some (0, (0, (o26.1, (o26.2.1, (o26.2.2.1, (o26.2.2.2.1, (o26.2.2.2.2.1, (o26.2.2.2.2.2.1, (o26.2.2.2.2.2.2.1, (o26.2.2.2.2.2.2.2.1, (o26.2.2.2.2.2.2.2.2.1, (o26.2.2.2.2.2.2.2.2.2.1, (o26.2.2.2.2.2.2.2.2.2.2.1, (o26.2.2.2.2.2.2.2.2.2.2.2.1, (o26.2.2.2.2.2.2.2.2.2.2.2.2.1, (o26.2.2.2.2.2.2.2.2.2.2.2.2.2.1, (o26.2.2.2.2.2.2.2.2.2.2.2.2.2.2.1, (o26.2.2.2.2.2.2.2.2.2.2.2.2.2.2.2.1, (o26.2.2.2.2.2.2.2.2.2.2.2.2.2.2.2.2.1, (o26.2.2.2.2.2.2.2.2.2.2.2.2.2.2.2.2.2.1, (o26.2.2.2.2.2.2.2.2.2.2.2.2.2.2.2.2.2.2.1, (o26.2.2.2.2.2.2.2.2.2.2.2.2.2.2.2.2.2.2.2.1, (o26.2.2.2.2.2.2.2.2.2.2.2.2.2.2.2.2.2.2.2.2.1, o26.2.2.2.2.2.2.2.2.2.2.2.2.2.2.2.2.2.2.2.2.2)))))))))))))))))))))))) fun o27 =>
            some (o27.1, (o27.2.1, (o27.2.2.1, (o27.2.2.2.1, (o27.2.2.2.2.1, (o27.2.2.2.2.2.1, (o27.2.2.2.2.2.2.1, (o27.2.2.2.2.2.2.2.1, (o27.2.2.2.2.2.2.2.2.1, (o27.2.2.2.2.2.2.2.2.2.1, (o27.2.2.2.2.2.2.2.2.2.2.1, (o27.2.2.2.2.2.2.2.2.2.2.2.1, (o27.2.2.2.2.2.2.2.2.2.2.2.2.1, (o27.2.2.2.2.2.2.2.2.2.2.2.2.2.1, (o27.2.2.2.2.2.2.2.2.2.2.2.2.2.2.1, (o27.2.2.2.2.2.2.2.2.2.2.2.2.2.2.2.1, (o27.2.2.2.2.2.2.2.2.2.2.2.2.2.2.2.2.1, (o27.2.2.2.2.2.2.2.2.2.2.2.2.2.2.2.2.2.1, (o27.2.2.2.2.2.2.2.2.2.2.2.2.2.2.2.2.2.2.1, (o27.2.2.2.2.2.2.2.2.2.2.2.2.2.2.2.2.2.2.2.1, (o27.2.2.2.2.2.2.2.2.2.2.2.2.2.2.2.2.2.2.2.2.1, (o27.2.2.2.2.2.2.2.2.2.2.2.2.2.2.2.2.2.2.2.2.2.1, (o27.2.2.2.2.2.2.2.2.2.2.2.2.2.2.2.2.2.2.2.2.2.2.1, o27.2.2.2.2.2.2.2.2.2.2.2.2.2.2.2.2.2.2.2.2.2.2.2)))))))))))))))))))))))) fun o28 =>
        Option.bind (α := ((Bool × (Int × (Int × (List ((Int × (Int × List (UInt8)))) × ((List (((Int × Int) × Nat)) × Nat) × (Int × (Int × List (((Int × (Int × List (UInt8))) × Bool))))))))))) (
          bif (!(o28.1 == o28.2.1)) then
            some (true, (o28.2.2.2.2.2.2.1, (o28.2.2.2.2.2.2.2.1, (o28.2.2.2.2.2.2.2.2.1, (o28.2.2.2.2.2.2.2.2.2.1, (o28.2.2.2.2.2.2.2.2.2.2.1, (o28.2.2.2.2.2.2.2.2.2.2.2.1, o28.2.2.2.2.2.2.2.2.2.2.2.2.1)))))))
          else
            (law07_like fu (o28.2.2.2.2.2.2.2.2.2.2.2.2.2.2.2.2.2.2.1, (o28.2.2.2.2.2.2.2.2.2.2.2.2.2.2.2.2.2.2.2.1, o28.2.2.2.2.2.2.2.2.2.2.2.2.2.2.2.2.2.2.2.2.1)) (o28.2.2.2.2.2.2.2.2.2.2.2.2.2.2.2.2.2.2.2.2.2.1, (o28.2.2.2.2.2.2.2.2.2.2.2.2.2.2.2.2.2.2.2.2.2.2.1, o28.2.2.2.2.2.2.2.2.2.2.2.2.2.2.2.2.2.2.2.2.2.2.2))).bind fun r42 =>
            bif (!r42) then
              some (true, (o28.2.2.2.2.2.2.1, (o28.2.2.2.2.2.2.2.1, (o28.2.2.2.2.2.2.2.2.1, (o28.2.2.2.2.2.2.2.2.2.1, (o28.2.2.2.2.2.2.2.2.2.2.1, (o28.2.2.2.2.2.2.2.2.2.2.2.1, o28.2.2.2.2.2.2.2.2.2.2.2.2.1)))))))
            else
              bif (!(o28.2.2.1 == o28.2.2.2.1)) then
                some (true, (o28.2.2.2.2.2.2.1, (o28.2.2.2.2.2.2.2.1, (o28.2.2.2.2.2.2.2.2.1, (o28.2.2.2.2.2.2.2.2.2.1, (o28.2.2.2.2.2.2.2.2.2.2.1, (o28.2.2.2.2.2.2.2.2.2.2.2.1, o28.2.2.2.2.2.2.2.2.2.2.2.2.1)))))))
              else
                bif (!(o28.2.2.2.2.1 == o28.2.2.2.2.2.1)) then
                  some (true, (o28.2.2.2.2.2.2.1, (o28.2.2.2.2.2.2.2.1, (o28.2.2.2.2.2.2.2.2.1, (o28.2.2.2.2.2.2.2.2.2.1, (o28.2.2.2.2.2.2.2.2.2.2.1, (o28.2.2.2.2.2.2.2.2.2.2.2.1, o28.2.2.2.2.2.2.2.2.2.2.2.2.1)))))))
                else
                  (law07_heaped__com fu (o28.2.2.2.2.2.2.2.2.2.2.1, (o28.2.2.2.2.2.2.2.2.2.2.2.1, o28.2.2.2.2.2.2.2.2.2.2.2.2.1)) o28.2.2.2.2.2.2.1 o28.2.2.2.2.2.2.2.1 o28.2.2.2.2.2.2.2.2.1 o28.2.2.2.2.2.2.2.2.2.1).bind fun r43 =>
                  bif (!r43.1) then
                    some (true, (r43.2.1, (r43.2.2.1, (r43.2.2.2.1, (r43.2.2.2.2, (o28.2.2.2.2.2.2.2.2.2.2.1, (o28.2.2.2.2.2.2.2.2.2.2.2.1, o28.2.2.2.2.2.2.2.2.2.2.2.2.1)))))))
                  else
                    (net_Net_Waiting__com fu o28.2.2.2.2.2.2.2.2.2.2.2.2.2.2.2.1 r43.2.1 r43.2.2.1 r43.2.2.2.1 r43.2.2.2.2).bind fun r44 =>
                    (ref07_Net_Waiting fu (o28.2.2.2.2.2.2.2.2.2.2.1, (o28.2.2.2.2.2.2.2.2.2.2.2.1, o28.2.2.2.2.2.2.2.2.2.2.2.2.1)) o28.2.2.2.2.2.2.2.2.2.2.2.2.2.2.2.1).bind fun r45 =>
                    some ((!(r44.1 == r45)), (r44.2.1, (r44.2.2.1, (r44.2.2.2.1, (r44.2.2.2.2, (o28.2.2.2.2.2.2.2.2.2.2.1, (o28.2.2.2.2.2.2.2.2.2.2.2.1, o28.2.2.2.2.2.2.2.2.2.2.2.2.1)))))))) fun o29 =>
        bif o29.1 then
          some (.inr (.inr (.inr false)))
        else
          some (.inl (o29.2.1, (o29.2.2.1, (o29.2.2.2.1, (o29.2.2.2.2.1, (o29.2.2.2.2.2.1, (o29.2.2.2.2.2.2.1, o29.2.2.2.2.2.2.2)))))))) fun o30 =>
    match o30 with
    | .inl s2 =>
      some (.inl ((IntKind.wrap .i64 (i1 + 1)), (s2.1, (s2.2.1, (s2.2.2.1, (s2.2.2.2.1, (s2.2.2.2.2.1, (s2.2.2.2.2.2.1, s2.2.2.2.2.2.2))))))))
    | .inr o31 =>
      some o31
  else
    some (.inr (.inl ()))
def law07_NetTells_l1_it (fu : Nat) (l : List ((UInt8 × (Int × (Int × (Int × List (UInt8))))))) (r2 : (Int × (Int × (Int × (List (((Int × Int) × Nat)) × Nat))))) (tt : (Int × (Int × (Int × (List ((Int × (Int × List (UInt8)))) × ((List (((Int × Int) × Nat)) × Nat) × (Int × (Int × List (((Int × (Int × List (UInt8))) × Bool)))))))))) : Option (Unit ⊕ Bool) :=
  iter fu (fun tt => law07_NetTells_l1 fu l r2 tt.1 tt.2.1 tt.2.2.1 tt.2.2.2.1 tt.2.2.2.2.1 tt.2.2.2.2.2.1 tt.2.2.2.2.2.2.1 tt.2.2.2.2.2.2.2) tt
def law07_NetTells (fu : Nat) (ends : Int) (most : Int) (l : List ((UInt8 × (Int × (Int × (Int × List (UInt8))))))) : Option (Bool) :=
  (net_New fu ends most).bind fun r =>
  match r with
  | .inl r1 =>
    (ref07_New fu ends most).bind fun r3 =>
    Option.bind (α := ((Bool × (Int × Int)))) (
      bif (!(r1 == r3.2.2)) then
        some (true, (r3.1, r3.2.1))
      else
        some ((!(true == (!(r1 == 0)))), (r3.1, r3.2.1))) fun o =>
    bif o.1 then
      some false
    else
      (law07_NetTells_l0_it fu l r1 (0, (o.2.1, (o.2.2, [])))).bind fun o13 =>
      match o13 with
      | .inl s1 =>
        (law07_awake fu).bind fun r20 =>
        some r20
      | .inr o14 =>
        some o14
  | .inr r2 =>
    (ref07_New fu ends most).bind fun r21 =>
    Option.bind (α := ((Bool × (Int × (Int × ((List (((Int × Int) × Nat)) × Nat) × (Int × Int))))))) (
      bif (!(r2.1 == r21.2.2)) then
        some (true, (r2.2.1, (r2.2.2.1, (r2.2.2.2, (r21.1, r21.2.1)))))
      else
        some ((!(false == (!(r2.1 == 0)))), (r2.2.1, (r2.2.2.1, (r2.2.2.2, (r21.1, r21.2.1)))))) fun o15 =>
    bif o15.1 then
      some false
    else
      (law07_NetTells_l1_it fu l r2 (0, (o15.2.1, (o15.2.2.1, ([], (o15.2.2.2.1, (o15.2.2.2.2.1, (o15.2.2.2.2.2, [])))))))).bind fun o32 =>
      match o32 with
      | .inl s3 =>
        (law07_awake fu).bind fun r46 =>
        some r46
      | .inr o33 =>
        some o33
def law07_NetTells_fa : FnA := ⟨.two (.leaf) (.two (.reg [(2, { ids := [100, 101] })]) (.sel (.slot 7 (.nilp (.pointer none))) (.two (.reg [(2, { fn := 1 }), (6, { ids := [103] })]) (.two (.two (.join ⟨[9, 42], ⟨(.cons (.own 0 103 0 0) (.cons (.p .bool) .nil)), [(103, false, (.vars (.cons (.p (.int .i64)) (.cons (.p (.int .i64)) (.cons (.nilp (.slice none 0 0)) .nil)))))]⟩⟩ false [] (.leaf)) (.two (.leaf) (.leaf))) (.two (.two (.leaf) (.one (.loop ⟨[9, 11], ⟨(.cons (.own 0 103 0 0) (.cons (.p (.int .i64)) .nil)), [(103, false, (.vars (.cons (.p (.int .i64)) (.cons (.p (.int .i64)) (.cons (.p (.sl (.pair (.pair (.int .i64) (.pair (.int .i64) (.sl .byte))) .bool))) .nil)))))]⟩⟩ true [(0, ⟨[], ⟨.nil, []⟩⟩)] (.two (.two (.join ⟨[9, 54], ⟨(.cons (.own 0 103 0 0) (.cons (.p .bool) .nil)), [(103, false, (.vars (.cons (.p (.int .i64)) (.cons (.p (.int .i64)) (.cons (.p (.sl (.pair (.pair (.int .i64) (.pair (.int .i64) (.sl .byte))) .bool))) .nil)))))]⟩⟩ false [] (.leaf)) (.leaf)) (.two (.join ⟨[9], ⟨(.cons (.own 0 103 0 0) .nil), [(103, false, (.vars (.cons (.p (.int .i64)) (.cons (.p (.int .i64)) (.cons (.p (.sl (.pair (.pair (.int .i64) (.pair (.int .i64) (.sl .byte))) .bool))) .nil)))))]⟩⟩ true [] (.one (.two (.reg [(4, { ids := [104] })]) (.two (.two (.leaf) (.leaf)) (.two (.leaf) (.two (.reg [(0, { ids := [105] }), (1, { ids := [106] })]) (.two (.leaf) (.two (.leaf) (.two (.two (.leaf) (.one (.two (.two (.leaf) (.join ⟨[9, 12, 15, 16, 67], ⟨(.cons (.own 0 103 0 0) (.cons (.own 0 104 0 0) (.cons (.own 0 105 0 0) (.cons (.own 0 106 0 0) (.cons (.p .bool) .nil))))), [(103, false, (.vars (.cons (.p (.int .i64)) (.cons (.p (.int .i64)) (.cons (.p (.sl (.pair (.pair (.int .i64) (.pair (.int .i64) (.sl .byte))) .bool))) .nil))))), (104, false, (.vars (.cons (.p (.int .u8)) (.cons (.p (.int .i64)) (.cons (.p (.int .i64)) (.cons (.p (.int .i64)) (.cons (.p (.sl .byte)) .nil))))))), (105, false, (.vars (.cons (.p (.int .i64)) (.cons (.p (.int .i64)) (.cons (.nilp (.slice none 0 0)) .nil))))), (106, false, (.vars (.cons (.p (.int .i64)) (.cons (.p (.int .i64)) (.cons (.nilp (.slice none 0 0)) .nil)))))]⟩⟩ false [] (.two (.leaf) (.two (.leaf) (.join ⟨[9, 12, 15, 16, 67], ⟨(.cons (.own 0 103 0 0) (.cons (.own 0 104 0 0) (.cons (.own 0 105 0 0) (.cons (.own 0 106 0 0) (.cons (.p .bool) .nil))))), [(103, false, (.vars (.cons (.p (.int .i64)) (.cons (.p (.int .i64)) (.cons (.p (.sl (.pair (.pair (.int .i64) (.pair (.int .i64) (.sl .byte))) .bool))) .nil))))), (104, false, (.vars (.cons (.p (.int .u8)) (.cons (.p (.int .i64)) (.cons (.p (.int .i64)) (.cons (.p (.int .i64)) (.cons (.p (.sl .byte)) .nil))))))), (105, false, (.vars (.cons (.p (.int .i64)) (.cons (.p (.int .i64)) (.cons (.nilp (.slice none 0 0)) .nil))))), (106, false, (.vars (.cons (.p (.int .i64)) (.cons (.p (.int .i64)) (.cons (.nilp (.slice none 0 0)) .nil)))))]⟩⟩ false [] (.two (.leaf) (.two (.leaf) (.join ⟨[9, 12, 15, 16, 67], ⟨(.cons (.own 0 103 0 0) (.cons (.own 0 104 0 0) (.cons (.own 0 105 0 0) (.cons (.own 0 106 0 0) (.cons (.p .bool) .nil))))), [(103, false, (.vars (.cons (.p (.int .i64)) (.cons (.p (.int .i64)) (.cons (.p (.sl (.pair (.pair (.int .i64) (.pair (.int .i64) (.sl .byte))) .bool))) .nil))))), (104, false, (.vars (.cons (.p (.int .u8)) (.cons (.p (.int .i64)) (.cons (.p (.int .i64)) (.cons (.p (.int .i64)) (.cons (.p (.sl .byte)) .nil))))))), (105, false, (.vars (.cons (.p (.int .i64)) (.cons (.p (.int .i64)) (.cons (.nilp (.slice none 0 0)) .nil))))), (106, false, (.vars (.cons (.p (.int .i64)) (.cons (.p (.int .i64)) (.cons (.nilp (.slice none 0 0)) .nil)))))]⟩⟩ false [] (.leaf))))))))) (.join ⟨[9, 12, 13, 14, 15, 16, 17, 18, 19, 20], ⟨(.cons (.own 0 103 0 0) (.cons (.own 0 104 0 0) (.cons (.p (.int .i64)) (.cons (.p (.int .i64)) (.cons (.own 0 105 0 0) (.cons (.own 0 106 0 0) (.cons (.p .bool) (.cons (.p .bool) (.cons (.p (.int .i64)) (.cons (.p (.int .i64)) .nil)))))))))), [(103, false, (.vars (.cons (.p (.int .i64)) (.cons (.p (.int .i64)) (.cons (.p (.sl (.pair (.pair (.int .i64) (.pair (.int .i64) (.sl .byte))) .bool))) .nil))))), (104, false, (.vars (.cons (.p (.int .u8)) (.cons (.p (.int .i64)) (.cons (.p (.int .i64)) (.cons (.p (.int .i64)) (.cons (.p (.sl .byte)) .nil))))))), (105, false, (.vars (.cons (.p (.int .i64)) (.cons (.p (.int .i64)) (.cons (.nilp (.slice none 0 0)) .nil))))), (106, false, (.vars (.cons (.p (.int .i64)) (.cons (.p (.int .i64)) (.cons (.p (.sl .byte)) .nil)))))]⟩⟩ false [] (.two (.two (.reg [(7, { fn := 2 })]) (.reg [(7, { fn := 3 })])) (.two (.leaf) (.join ⟨[9, 12, 13, 14, 15, 16, 17, 18, 19, 20], ⟨(.cons (.own 0 103 0 0) (.cons (.own 0 104 0 0) (.cons (.p (.int .i64)) (.cons (.p (.int .i64)) (.cons (.own 0 105 0 0) (.cons (.own 0 106 0 0) (.cons (.p .bool) (.cons (.p .bool) (.cons (.p (.int .i64)) (.cons (.p (.int .i64)) .nil)))))))))), [(103, false, (.vars (.cons (.p (.int .i64)) (.cons (.p (.int .i64)) (.cons (.p (.sl (.pair (.pair (.int .i64) (.pair (.int .i64) (.sl .byte))) .bool))) .nil))))), (104, false, (.vars (.cons (.p (.int .u8)) (.cons (.p (.int .i64)) (.cons (.p (.int .i64)) (.cons (.p (.int .i64)) (.cons (.p (.sl .byte)) .nil))))))), (105, false, (.vars (.cons (.p (.int .i64)) (.cons (.p (.int .i64)) (.cons (.nilp (.slice none 0 0)) .nil))))), (106, false, (.vars (.cons (.p (.int .i64)) (.cons (.p (.int .i64)) (.cons (.p (.sl .byte)) .nil)))))]⟩⟩ false [] (.two (.two (.reg [(3, { fn := 4 })]) (.reg [(3, { fn := 5 })])) (.two (.leaf) (.join ⟨[9, 12, 15, 16, 17, 18, 19, 20], ⟨(.cons (.own 0 103 0 0) (.cons (.own 0 104 0 0) (.cons (.own 0 105 0 0) (.cons (.own 0 106 0 0) (.cons (.p .bool) (.cons (.p .bool) (.cons (.p (.int .i64)) (.cons (.p (.int .i64)) .nil)))))))), [(103, false, (.vars (.cons (.p (.int .i64)) (.cons (.p (.int .i64)) (.cons (.p (.sl (.pair (.pair (.int .i64) (.pair (.int .i64) (.sl .byte))) .bool))) .nil))))), (104, false, (.vars (.cons (.p (.int .u8)) (.cons (.p (.int .i64)) (.cons (.p (.int .i64)) (.cons (.p (.int .i64)) (.cons (.p (.sl .byte)) .nil))))))), (105, false, (.vars (.cons (.p (.int .i64)) (.cons (.p (.int .i64)) (.cons (.nilp (.slice none 0 0)) .nil))))), (106, false, (.vars (.cons (.p (.int .i64)) (.cons (.p (.int .i64)) (.cons (.p (.sl .byte)) .nil)))))]⟩⟩ false [] (.two (.two (.reg [(3, { fn := 6 })]) (.two (.reg [(3, { fn := 7 })]) (.reg [(3, { fn := 8 })]))) (.two (.leaf) (.join ⟨[9, 12, 15, 16, 17, 18, 19, 20], ⟨(.cons (.own 0 103 0 0) (.cons (.own 0 104 0 0) (.cons (.own 0 105 0 0) (.cons (.own 0 106 0 0) (.cons (.p .bool) (.cons (.p .bool) (.cons (.p (.int .i64)) (.cons (.p (.int .i64)) .nil)))))))), [(103, false, (.vars (.cons (.p (.int .i64)) (.cons (.p (.int .i64)) (.cons (.p (.sl (.pair (.pair (.int .i64) (.pair (.int .i64) (.sl .byte))) .bool))) .nil))))), (104, false, (.vars (.cons (.p (.int .u8)) (.cons (.p (.int .i64)) (.cons (.p (.int .i64)) (.cons (.p (.int .i64)) (.cons (.p (.sl .byte)) .nil))))))), (105, false, (.vars (.cons (.p (.int .i64)) (.cons (.p (.int .i64)) (.cons (.nilp (.slice none 0 0)) .nil))))), (106, false, (.vars (.cons (.p (.int .i64)) (.cons (.p (.int .i64)) (.cons (.nilp (.slice none 0 0)) .nil)))))]⟩⟩ false [] (.two (.two (.reg [(3, { fn := 9 })]) (.reg [(3, { fn := 8 })])) (.two (.leaf) (.join ⟨[9, 12, 15, 16, 19, 20], ⟨(.cons (.own 0 103 0 0) (.cons (.own 0 104 0 0) (.cons (.own 0 105 0 0) (.cons (.own 0 106 0 0) (.cons (.p (.int .i64)) (.cons (.p (.int .i64)) .nil)))))), [(103, false, (.vars (.cons (.p (.int .i64)) (.cons (.p (.int .i64)) (.cons (.p (.sl (.pair (.pair (.int .i64) (.pair (.int .i64) (.sl .byte))) .bool))) .nil))))), (104, false, (.vars (.cons (.p (.int .u8)) (.cons (.p (.int .i64)) (.cons (.p (.int .i64)) (.cons (.p (.int .i64)) (.cons (.p (.sl .byte)) .nil))))))), (105, false, (.vars (.cons (.p (.int .i64)) (.cons (.p (.int .i64)) (.cons (.nilp (.slice none 0 0)) .nil))))), (106, false, (.vars (.cons (.p (.int .i64)) (.cons (.p (.int .i64)) (.cons (.nilp (.slice none 0 0)) .nil)))))]⟩⟩ false [] (.post (.pureCell 103 2) (.two (.two (.reg [(3, { fn := 10 })]) (.reg [(3, { ids := [107], fn := 11 })])) (.leaf))))))))))))))))))) (.two (.join ⟨[9, 188], ⟨(.cons (.own 0 103 0 0) (.cons (.p .bool) .nil)), [(103, false, (.vars (.cons (.p (.int .i64)) (.cons (.p (.int .i64)) (.cons (.p (.sl (.pair (.pair (.int .i64) (.pair (.int .i64) (.sl .byte))) .bool))) .nil)))))]⟩⟩ false [] (.reg [(6, { fn := 12 }), (22, { fn := 13 }), (29, { fn := 14 }), (33, { fn := 15 })])) (.two (.leaf) (.leaf)))))))))))) (.leaf)))))) (.two (.reg [(0, { fn := 16 })]) (.leaf))))) (.two (.reg [(2, { fn := 1 }), (6, { ids := [103] })]) (.two (.two (.join ⟨[7, 9, 42], ⟨(.cons (.own 0 100 0 0) (.cons (.own 0 103 0 0) (.cons (.p .bool) .nil))), [(100, false, (.vars (.cons (.p (.int .i64)) (.cons (.p (.int .i64)) (.cons (.nilp (.slice none 0 0)) (.cons (.mp 101) .nil)))))), (101, false, (.map (.int .i64) (.int .i64))), (103, false, (.vars (.cons (.p (.int .i64)) (.cons (.p (.int .i64)) (.cons (.nilp (.slice none 0 0)) .nil)))))]⟩⟩ false [] (.leaf)) (.two (.leaf) (.leaf))) (.two (.two (.leaf) (.one (.pre (.ownCell 100 2 34 104) (.loop ⟨[7, 9, 11], ⟨(.cons (.own 0 100 0 0) (.cons (.own 0 103 0 0) (.cons (.p (.int .i64)) .nil))), [(100, false, (.vars (.cons (.p (.int .i64)) (.cons (.p (.int .i64)) (.cons (.slf 3 104) (.cons (.mp 101) .nil)))))), (104, false, (.rows 34 (.pair (.int .i64) (.pair (.int .i64) (.sl .byte))))), (101, false, (.map (.int .i64) (.int .i64))), (103, false, (.vars (.cons (.p (.int .i64)) (.cons (.p (.int .i64)) (.cons (.p (.sl (.pair (.pair (.int .i64) (.pair (.int .i64) (.sl .byte))) .bool))) .nil)))))]⟩⟩ true [(0, ⟨[], ⟨.nil, []⟩⟩)] (.two (.two (.join ⟨[7, 9, 54], ⟨(.cons (.own 0 100 0 0) (.cons (.own 0 103 0 0) (.cons (.p .bool) .nil))), [(100, false, (.vars (.cons (.p (.int .i64)) (.cons (.p (.int .i64)) (.cons (.slf 3 104) (.cons (.mp 101) .nil)))))), (104, false, (.rows 34 (.pair (.int .i64) (.pair (.int .i64) (.sl .byte))))), (101, false, (.map (.int .i64) (.int .i64))), (103, false, (.vars (.cons (.p (.int .i64)) (.cons (.p (.int .i64)) (.cons (.p (.sl (.pair (.pair (.int .i64) (.pair (.int .i64) (.sl .byte))) .bool))) .nil)))))]⟩⟩ false [] (.leaf)) (.leaf)) (.two (.join ⟨[7, 9], ⟨(.cons (.own 0 100 0 0) (.cons (.own 0 103 0 0) .nil)), [(100, false, (.vars (.cons (.p (.int .i64)) (.cons (.p (.int .i64)) (.cons (.slf 3 104) (.cons (.mp 101) .nil)))))), (104, false, (.rows 34 (.pair (.int .i64) (.pair (.int .i64) (.sl .byte))))), (101, false, (.map (.int .i64) (.int .i64))), (103, false, (.vars (.cons (.p (.int .i64)) (.cons (.p (.int .i64)) (.cons (.p (.sl (.pair (.pair (.int .i64) (.pair (.int .i64) (.sl .byte))) .bool))) .nil)))))]⟩⟩ true [] (.one (.two (.reg [(4, { ids := [105] })]) (.two (.two (.leaf) (.leaf)) (.two (.leaf) (.two (.reg [(0, { ids := [106] }), (1, { ids := [107] })]) (.two (.leaf) (.two (.leaf) (.two (.two (.leaf) (.one (.two (.two (.leaf) (.join ⟨[7, 9, 12, 15, 16, 67], ⟨(.cons (.own 0 100 0 0) (.cons (.own 0 103 0 0) (.cons (.own 0 105 0 0) (.cons (.own 0 106 0 0) (.cons (.own 0 107 0 0) (.cons (.p .bool) .nil)))))), [(100, false, (.vars (.cons (.p (.int .i64)) (.cons (.p (.int .i64)) (.cons (.slf 3 104) (.cons (.mp 101) .nil)))))), (104, false, (.rows 34 (.pair (.int .i64) (.pair (.int .i64) (.sl .byte))))), (101, false, (.map (.int .i64) (.int .i64))), (103, false, (.vars (.cons (.p (.int .i64)) (.cons (.p (.int .i64)) (.cons (.p (.sl (.pair (.pair (.int .i64) (.pair (.int .i64) (.sl .byte))) .bool))) .nil))))), (105, false, (.vars (.cons (.p (.int .u8)) (.cons (.p (.int .i64)) (.cons (.p (.int .i64)) (.cons (.p (.int .i64)) (.cons (.p (.sl .byte)) .nil))))))), (106, false, (.vars (.cons (.p (.int .i64)) (.cons (.p (.int .i64)) (.cons (.nilp (.slice none 0 0)) .nil))))), (107, false, (.vars (.cons (.p (.int .i64)) (.cons (.p (.int .i64)) (.cons (.nilp (.slice none 0 0)) .nil)))))]⟩⟩ false [] (.two (.leaf) (.two (.leaf) (.join ⟨[7, 9, 12, 15, 16, 67], ⟨(.cons (.own 0 100 0 0) (.cons (.own 0 103 0 0) (.cons (.own 0 105 0 0) (.cons (.own 0 106 0 0) (.cons (.own 0 107 0 0) (.cons (.p .bool) .nil)))))), [(100, false, (.vars (.cons (.p (.int .i64)) (.cons (.p (.int .i64)) (.cons (.slf 3 104) (.cons (.mp 101) .nil)))))), (104, false, (.rows 34 (.pair (.int .i64) (.pair (.int .i64) (.sl .byte))))), (101, false, (.map (.int .i64) (.int .i64))), (103, false, (.vars (.cons (.p (.int .i64)) (.cons (.p (.int .i64)) (.cons (.p (.sl (.pair (.pair (.int .i64) (.pair (.int .i64) (.sl .byte))) .bool))) .nil))))), (105, false, (.vars (.cons (.p (.int .u8)) (.cons (.p (.int .i64)) (.cons (.p (.int .i64)) (.cons (.p (.int .i64)) (.cons (.p (.sl .byte)) .nil))))))), (106, false, (.vars (.cons (.p (.int .i64)) (.cons (.p (.int .i64)) (.cons (.nilp (.slice none 0 0)) .nil))))), (107, false, (.vars (.cons (.p (.int .i64)) (.cons (.p (.int .i64)) (.cons (.nilp (.slice none 0 0)) .nil)))))]⟩⟩ false [] (.two (.leaf) (.two (.leaf) (.join ⟨[7, 9, 12, 15, 16, 67], ⟨(.cons (.own 0 100 0 0) (.cons (.own 0 103 0 0) (.cons (.own 0 105 0 0) (.cons (.own 0 106 0 0) (.cons (.own 0 107 0 0) (.cons (.p .bool) .nil)))))), [(100, false, (.vars (.cons (.p (.int .i64)) (.cons (.p (.int .i64)) (.cons (.slf 3 104) (.cons (.mp 101) .nil)))))), (104, false, (.rows 34 (.pair (.int .i64) (.pair (.int .i64) (.sl .byte))))), (101, false, (.map (.int .i64) (.int .i64))), (103, false, (.vars (.cons (.p (.int .i64)) (.cons (.p (.int .i64)) (.cons (.p (.sl (.pair (.pair (.int .i64) (.pair (.int .i64) (.sl .byte))) .bool))) .nil))))), (105, false, (.vars (.cons (.p (.int .u8)) (.cons (.p (.int .i64)) (.cons (.p (.int .i64)) (.cons (.p (.int .i64)) (.cons (.p (.sl .byte)) .nil))))))), (106, false, (.vars (.cons (.p (.int .i64)) (.cons (.p (.int .i64)) (.cons (.nilp (.slice none 0 0)) .nil))))), (107, false, (.vars (.cons (.p (.int .i64)) (.cons (.p (.int .i64)) (.cons (.nilp (.slice none 0 0)) .nil)))))]⟩⟩ false [] (.leaf))))))))) (.join ⟨[7, 9, 12, 13, 14, 15, 16, 17, 18, 19, 20], ⟨(.cons (.own 0 100 0 0) (.cons (.own 0 103 0 0) (.cons (.own 0 105 0 0) (.cons (.p (.int .i64)) (.cons (.p (.int .i64)) (.cons (.own 0 106 0 0) (.cons (.own 0 107 0 0) (.cons (.p .bool) (.cons (.p .bool) (.cons (.p (.int .i64)) (.cons (.p (.int .i64)) .nil))))))))))), [(100, false, (.vars (.cons (.p (.int .i64)) (.cons (.p (.int .i64)) (.cons (.slf 3 104) (.cons (.mp 101) .nil)))))), (104, false, (.rows 34 (.pair (.int .i64) (.pair (.int .i64) (.sl .byte))))), (101, false, (.map (.int .i64) (.int .i64))), (103, false, (.vars (.cons (.p (.int .i64)) (.cons (.p (.int .i64)) (.cons (.p (.sl (.pair (.pair (.int .i64) (.pair (.int .i64) (.sl .byte))) .bool))) .nil))))), (105, false, (.vars (.cons (.p (.int .u8)) (.cons (.p (.int .i64)) (.cons (.p (.int .i64)) (.cons (.p (.int .i64)) (.cons (.p (.sl .byte)) .nil))))))), (106, false, (.vars (.cons (.p (.int .i64)) (.cons (.p (.int .i64)) (.cons (.p (.sl .byte)) .nil))))), (107, false, (.vars (.cons (.p (.int .i64)) (.cons (.p (.int .i64)) (.cons (.p (.sl .byte)) .nil)))))]⟩⟩ false [] (.two (.two (.join ⟨[7, 9, 12, 13, 15, 16], ⟨(.cons (.own 0 100 0 0) (.cons (.own 0 103 0 0) (.cons (.own 0 105 0 0) (.cons (.p (.int .i64)) (.cons (.own 0 106 0 0) (.cons (.own 0 107 0 0) .nil)))))), [(100, false, (.vars (.cons (.p (.int .i64)) (.cons (.p (.int .i64)) (.cons (.slf 3 104) (.cons (.mp 101) .nil)))))), (104, false, (.rows 34 (.pair (.int .i64) (.pair (.int .i64) (.sl .byte))))), (101, false, (.map (.int .i64) (.int .i64))), (103, false, (.vars (.cons (.p (.int .i64)) (.cons (.p (.int .i64)) (.cons (.p (.sl (.pair (.pair (.int .i64) (.pair (.int .i64) (.sl .byte))) .bool))) .nil))))), (105, false, (.vars (.cons (.p (.int .u8)) (.cons (.p (.int .i64)) (.cons (.p (.int .i64)) (.cons (.p (.int .i64)) (.cons (.p (.sl .byte)) .nil))))))), (106, false, (.vars (.cons (.p (.int .i64)) (.cons (.p (.int .i64)) (.cons (.nilp (.slice none 0 0)) .nil))))), (107, false, (.vars (.cons (.p (.int .i64)) (.cons (.p (.int .i64)) (.cons (.nilp (.slice none 0 0)) .nil)))))]⟩⟩ false [] (.reg [(7, { ids := [108], sh := [100, 104, 101], fn := 17 })])) (.reg [(7, { fn := 3 })])) (.two (.leaf) (.join ⟨[7, 9, 12, 13, 14, 15, 16, 17, 18, 19, 20], ⟨(.cons (.own 0 100 0 0) (.cons (.own 0 103 0 0) (.cons (.own 0 105 0 0) (.cons (.p (.int .i64)) (.cons (.p (.int .i64)) (.cons (.own 0 106 0 0) (.cons (.own 0 107 0 0) (.cons (.p .bool) (.cons (.p .bool) (.cons (.p (.int .i64)) (.cons (.p (.int .i64)) .nil))))))))))), [(100, false, (.vars (.cons (.p (.int .i64)) (.cons (.p (.int .i64)) (.cons (.slf 3 104) (.cons (.mp 101) .nil)))))), (104, false, (.rows 34 (.pair (.int .i64) (.pair (.int .i64) (.sl .byte))))), (101, false, (.map (.int .i64) (.int .i64))), (103, false, (.vars (.cons (.p (.int .i64)) (.cons (.p (.int .i64)) (.cons (.p (.sl (.pair (.pair (.int .i64) (.pair (.int .i64) (.sl .byte))) .bool))) .nil))))), (105, false, (.vars (.cons (.p (.int .u8)) (.cons (.p (.int .i64)) (.cons (.p (.int .i64)) (.cons (.p (.int .i64)) (.cons (.p (.sl .byte)) .nil))))))), (106, false, (.vars (.cons (.p (.int .i64)) (.cons (.p (.int .i64)) (.cons (.p (.sl .byte)) .nil))))), (107, false, (.vars (.cons (.p (.int .i64)) (.cons (.p (.int .i64)) (.cons (.p (.sl .byte)) .nil)))))]⟩⟩ false [] (.two (.two (.join ⟨[7, 9, 12, 13, 15, 16], ⟨(.cons (.own 0 100 0 0) (.cons (.own 0 103 0 0) (.cons (.own 0 105 0 0) (.cons (.p (.int .i64)) (.cons (.own 0 106 0 0) (.cons (.own 0 107 0 0) .nil)))))), [(100, false, (.vars (.cons (.p (.int .i64)) (.cons (.p (.int .i64)) (.cons (.slf 3 104) (.cons (.mp 101) .nil)))))), (104, false, (.rows 34 (.pair (.int .i64) (.pair (.int .i64) (.sl .byte))))), (101, false, (.map (.int .i64) (.int .i64))), (103, false, (.vars (.cons (.p (.int .i64)) (.cons (.p (.int .i64)) (.cons (.p (.sl (.pair (.pair (.int .i64) (.pair (.int .i64) (.sl .byte))) .bool))) .nil))))), (105, false, (.vars (.cons (.p (.int .u8)) (.cons (.p (.int .i64)) (.cons (.p (.int .i64)) (.cons (.p (.int .i64)) (.cons (.p (.sl .byte)) .nil))))))), (106, false, (.vars (.cons (.p (.int .i64)) (.cons (.p (.int .i64)) (.cons (.nilp (.slice none 0 0)) .nil))))), (107, false, (.vars (.cons (.p (.int .i64)) (.cons (.p (.int .i64)) (.cons (.nilp (.slice none 0 0)) .nil)))))]⟩⟩ false [] (.reg [(3, { ids := [109], sh := [100, 104, 101], fn := 18 })])) (.reg [(3, { fn := 5 })])) (.two (.leaf) (.join ⟨[7, 9, 12, 15, 16, 17, 18, 19, 20], ⟨(.cons (.own 0 100 0 0) (.cons (.own 0 103 0 0) (.cons (.own 0 105 0 0) (.cons (.own 0 106 0 0) (.cons (.own 0 107 0 0) (.cons (.p .bool) (.cons (.p .bool) (.cons (.p (.int .i64)) (.cons (.p (.int .i64)) .nil))))))))), [(100, false, (.vars (.cons (.p (.int .i64)) (.cons (.p (.int .i64)) (.cons (.slf 3 104) (.cons (.mp 101) .nil)))))), (104, false, (.rows 34 (.pair (.int .i64) (.pair (.int .i64) (.sl .byte))))), (101, false, (.map (.int .i64) (.int .i64))), (103, false, (.vars (.cons (.p (.int .i64)) (.cons (.p (.int .i64)) (.cons (.p (.sl (.pair (.pair (.int .i64) (.pair (.int .i64) (.sl .byte))) .bool))) .nil))))), (105, false, (.vars (.cons (.p (.int .u8)) (.cons (.p (.int .i64)) (.cons (.p (.int .i64)) (.cons (.p (.int .i64)) (.cons (.p (.sl .byte)) .nil))))))), (106, false, (.vars (.cons (.p (.int .i64)) (.cons (.p (.int .i64)) (.cons (.p (.sl .byte)) .nil))))), (107, false, (.vars (.cons (.p (.int .i64)) (.cons (.p (.int .i64)) (.cons (.p (.sl .byte)) .nil)))))]⟩⟩ false [] (.two (.two (.join ⟨[7, 9, 12, 15, 16, 17], ⟨(.cons (.own 0 100 0 0) (.cons (.own 0 103 0 0) (.cons (.own 0 105 0 0) (.cons (.own 0 106 0 0) (.cons (.own 0 107 0 0) (.cons (.p .bool) .nil)))))), [(100, false, (.vars (.cons (.p (.int .i64)) (.cons (.p (.int .i64)) (.cons (.slf 3 104) (.cons (.mp 101) .nil)))))), (104, false, (.rows 34 (.pair (.int .i64) (.pair (.int .i64) (.sl .byte))))), (101, false, (.map (.int .i64) (.int .i64))), (103, false, (.vars (.cons (.p (.int .i64)) (.cons (.p (.int .i64)) (.cons (.p (.sl (.pair (.pair (.int .i64) (.pair (.int .i64) (.sl .byte))) .bool))) .nil))))), (105, false, (.vars (.cons (.p (.int .u8)) (.cons (.p (.int .i64)) (.cons (.p (.int .i64)) (.cons (.p (.int .i64)) (.cons (.p (.sl .byte)) .nil))))))), (106, false, (.vars (.cons (.p (.int .i64)) (.cons (.p (.int .i64)) (.cons (.p (.sl .byte)) .nil))))), (107, false, (.vars (.cons (.p (.int .i64)) (.cons (.p (.int .i64)) (.cons (.nilp (.slice none 0 0)) .nil)))))]⟩⟩ false [] (.reg [(3, { ids := [110], sh := [100, 104, 101], fn := 19 })])) (.two (.reg [(3, { fn := 7 })]) (.reg [(3, { fn := 8 })]))) (.two (.leaf) (.join ⟨[7, 9, 12, 15, 16, 17, 18, 19, 20], ⟨(.cons (.own 0 100 0 0) (.cons (.own 0 103 0 0) (.cons (.own 0 105 0 0) (.cons (.own 0 106 0 0) (.cons (.own 0 107 0 0) (.cons (.p .bool) (.cons (.p .bool) (.cons (.p (.int .i64)) (.cons (.p (.int .i64)) .nil))))))))), [(100, false, (.vars (.cons (.p (.int .i64)) (.cons (.p (.int .i64)) (.cons (.slf 3 104) (.cons (.mp 101) .nil)))))), (104, false, (.rows 34 (.pair (.int .i64) (.pair (.int .i64) (.sl .byte))))), (101, false, (.map (.int .i64) (.int .i64))), (103, false, (.vars (.cons (.p (.int .i64)) (.cons (.p (.int .i64)) (.cons (.p (.sl (.pair (.pair (.int .i64) (.pair (.int .i64) (.sl .byte))) .bool))) .nil))))), (105, false, (.vars (.cons (.p (.int .u8)) (.cons (.p (.int .i64)) (.cons (.p (.int .i64)) (.cons (.p (.int .i64)) (.cons (.p (.sl .byte)) .nil))))))), (106, false, (.vars (.cons (.p (.int .i64)) (.cons (.p (.int .i64)) (.cons (.nilp (.slice none 0 0)) .nil))))), (107, false, (.vars (.cons (.p (.int .i64)) (.cons (.p (.int .i64)) (.cons (.nilp (.slice none 0 0)) .nil)))))]⟩⟩ false [] (.two (.two (.join ⟨[7, 9, 12, 15, 16, 17], ⟨(.cons (.own 0 100 0 0) (.cons (.own 0 103 0 0) (.cons (.own 0 105 0 0) (.cons (.own 0 106 0 0) (.cons (.own 0 107 0 0) (.cons (.p .bool) .nil)))))), [(100, false, (.vars (.cons (.p (.int .i64)) (.cons (.p (.int .i64)) (.cons (.slf 3 104) (.cons (.mp 101) .nil)))))), (104, false, (.rows 34 (.pair (.int .i64) (.pair (.int .i64) (.sl .byte))))), (101, false, (.map (.int .i64) (.int .i64))), (103, false, (.vars (.cons (.p (.int .i64)) (.cons (.p (.int .i64)) (.cons (.p (.sl (.pair (.pair (.int .i64) (.pair (.int .i64) (.sl .byte))) .bool))) .nil))))), (105, false, (.vars (.cons (.p (.int .u8)) (.cons (.p (.int .i64)) (.cons (.p (.int .i64)) (.cons (.p (.int .i64)) (.cons (.p (.sl .byte)) .nil))))))), (106, false, (.vars (.cons (.p (.int .i64)) (.cons (.p (.int .i64)) (.cons (.nilp (.slice none 0 0)) .nil))))), (107, false, (.vars (.cons (.p (.int .i64)) (.cons (.p (.int .i64)) (.cons (.nilp (.slice none 0 0)) .nil)))))]⟩⟩ false [] (.reg [(3, { ids := [111], sh := [100, 104, 101], fn := 20 })])) (.reg [(3, { fn := 8 })])) (.two (.leaf) (.join ⟨[7, 9, 12, 15, 16, 19, 20], ⟨(.cons (.own 0 100 0 0) (.cons (.own 0 103 0 0) (.cons (.own 0 105 0 0) (.cons (.own 0 106 0 0) (.cons (.own 0 107 0 0) (.cons (.p (.int .i64)) (.cons (.p (.int .i64)) .nil))))))), [(100, false, (.vars (.cons (.p (.int .i64)) (.cons (.p (.int .i64)) (.cons (.slf 3 112) (.cons (.mp 101) .nil)))))), (112, false, (.rows 34 (.pair (.int .i64) (.pair (.int .i64) (.sl .byte))))), (101, false, (.map (.int .i64) (.int .i64))), (103, false, (.vars (.cons (.p (.int .i64)) (.cons (.p (.int .i64)) (.cons (.p (.sl (.pair (.pair (.int .i64) (.pair (.int .i64) (.sl .byte))) .bool))) .nil))))), (105, false, (.vars (.cons (.p (.int .u8)) (.cons (.p (.int .i64)) (.cons (.p (.int .i64)) (.cons (.p (.int .i64)) (.cons (.p (.sl .byte)) .nil))))))), (106, false, (.vars (.cons (.p (.int .i64)) (.cons (.p (.int .i64)) (.cons (.nilp (.slice none 0 0)) .nil))))), (107, false, (.vars (.cons (.p (.int .i64)) (.cons (.p (.int .i64)) (.cons (.nilp (.slice none 0 0)) .nil)))))]⟩⟩ false [] (.post (.pureCell 103 2) (.two (.two (.reg [(3, { ids := [112], sh := [100, 104, 101], fn := 21 })]) (.reg [(3, { ids := [113], fn := 11 })])) (.leaf))))))))))))))))))) (.two (.join ⟨[7, 9, 188], ⟨(.cons (.own 0 100 0 0) (.cons (.own 0 103 0 0) (.cons (.p .bool) .nil))), [(100, false, (.vars (.cons (.p (.int .i64)) (.cons (.p (.int .i64)) (.cons (.slf 3 104) (.cons (.mp 101) .nil)))))), (104, false, (.rows 34 (.pair (.int .i64) (.pair (.int .i64) (.sl .byte))))), (101, false, (.map (.int .i64) (.int .i64))), (103, false, (.vars (.cons (.p (.int .i64)) (.cons (.p (.int .i64)) (.cons (.p (.sl (.pair (.pair (.int .i64) (.pair (.int .i64) (.sl .byte))) .bool))) .nil)))))]⟩⟩ false [] (.reg [(6, { fn := 12 }), (22, { sh := [100, 104, 101], fn := 22 }), (29, { sh := [100, 104, 101], fn := 23 }), (33, { fn := 15 })])) (.two (.leaf) (.leaf)))))))))))) (.leaf))))))) (.two (.reg [(0, { fn := 16 })]) (.leaf))))))), ⟨(.cons (.p (.int .i64)) (.cons (.p (.int .i64)) (.cons (.p (.sl (.pair .byte (.pair (.int .i64) (.pair (.int .i64) (.pair (.int .i64) (.sl .byte))))))) .nil))), []⟩, [⟨(.cons (.p .bool) .nil), []⟩], [0]⟩
def law07_NetTells_ft (fu : Nat) : FnT := ⟨4, ⟨(.cons (.p (.int .i64)) (.cons (.p (.int .i64)) (.cons (.p (.sl (.pair .byte (.pair (.int .i64) (.pair (.int .i64) (.pair (.int .i64) (.sl .byte))))))) .nil))), []⟩, [⟨(.cons (.p .bool) .nil), []⟩], fun t => law07_NetTells fu t.1 t.2.1 t.2.2⟩
theorem law07_NetTells_eq (fu : Nat) : ∀ t, evF Go.Proofs.Try.prog [net_New_ft fu, ref07_New_ft fu, net_Net_Send_n0_ft fu, ref07_Net_Send_ft fu, net_Net_Copy_n0_ft fu, ref07_Net_Copy_ft fu, net_Net_Take_n0_ft fu, ref07_Net_Look_ft fu, ref07_Net_Drop_ft fu, net_Net_Drop_n0_ft fu, net_Net_Forget_n0_ft fu, ref07_Net_Forget_ft fu, law07_like_ft fu, law07_heaped_n0_ft fu, net_Net_Waiting_n0_ft fu, ref07_Net_Waiting_ft fu, law07_awake_ft fu, net_Net_Send__com_ft fu, net_Net_Copy__com_ft fu, net_Net_Take__com_ft fu, net_Net_Drop__com_ft fu, net_Net_Forget__com_ft fu, law07_heaped__com_ft fu, net_Net_Waiting__com_ft fu] fu Go.Proofs.Try.f4 law07_NetTells_fa t = (law07_NetTells_ft fu).spec t := fun t => by kernel_rfl
theorem law07_NetTells_told (fu : Nat) : Told Go.Proofs.Try.prog (law07_NetTells_ft fu) := told_of (allT_cons (net_New_told fu) (allT_cons (ref07_New_told fu) (allT_cons (net_Net_Send_n0_told fu) (allT_cons (ref07_Net_Send_told fu) (allT_cons (net_Net_Copy_n0_told fu) (allT_cons (ref07_Net_Copy_told fu) (allT_cons (net_Net_Take_n0_told fu) (allT_cons (ref07_Net_Look_told fu) (allT_cons (ref07_Net_Drop_told fu) (allT_cons (net_Net_Drop_n0_told fu) (allT_cons (net_Net_Forget_n0_told fu) (allT_cons (ref07_Net_Forget_told fu) (allT_cons (law07_like_told fu) (allT_cons (law07_heaped_n0_told fu) (allT_cons (net_Net_Waiting_n0_told fu) (allT_cons (ref07_Net_Waiting_told fu) (allT_cons (law07_awake_told fu) (allT_cons (net_Net_Send__com_told fu) (allT_cons (net_Net_Copy__com_told fu) (allT_cons (net_Net_Take__com_told fu) (allT_cons (net_Net_Drop__com_told fu) (allT_cons (net_Net_Forget__com_told fu) (allT_cons (law07_heaped__com_told fu) (allT_cons (net_Net_Waiting__com_told fu) allT_nil)))))))))))))))))))))))) mixed Go.Proofs.Try.func4 (by kernel_rfl) (by kernel_rfl) (law07_NetTells_eq fu)

def low_Pick (fu : Nat) (x : Int) (n : Int) : Option (Int) :=
  bif (decide (n ≤ 0)) then
    some 0
  else
    need (!(decide (n = 0))) <|
    bif (decide ((Int.tmod x n) < 0)) then
      some (IntKind.wrap .i64 ((Int.tmod x n) + n))
    else
      some (Int.tmod x n)
def low_Pick_fa : FnA := ⟨.two (.leaf) (.two (.two (.leaf) (.two (.leaf) (.leaf))) (.two (.leaf) (.two (.two (.leaf) (.leaf)) (.leaf)))), ⟨(.cons (.p (.int .i64)) (.cons (.p (.int .i64)) .nil)), []⟩, [⟨(.cons (.p (.int .i64)) .nil), []⟩], [0]⟩
def low_Pick_ft (fu : Nat) : FnT := ⟨30, ⟨(.cons (.p (.int .i64)) (.cons (.p (.int .i64)) .nil)), []⟩, [⟨(.cons (.p (.int .i64)) .nil), []⟩], fun t => low_Pick fu t.1 t.2⟩
theorem low_Pick_eq (fu : Nat) : ∀ t, evF Go.Proofs.Try.prog [] fu Go.Proofs.Try.f30 low_Pick_fa t = (low_Pick_ft fu).spec t := fun t => by kernel_rfl
theorem low_Pick_told (fu : Nat) : Told Go.Proofs.Try.prog (low_Pick_ft fu) := told_of allT_nil mixed Go.Proofs.Try.func30 (by kernel_rfl) (by kernel_rfl) (low_Pick_eq fu)

def law07_laid_l0 (fu : Nat) (l : List ((Int × (Int × List (UInt8))))) (e : Int) (i : Int) (h : List ((Int × (Int × List (UInt8))))) : Option ((Int × (Int × List ((Int × (Int × List (UInt8)))))) ⊕ ((Int × List ((Int × (Int × List (UInt8))))))) :=
  Option.bind (α := ((Bool × List ((Int × (Int × List (UInt8))))))) (
    bif (decide (i < ((l.length : Nat) : Int))) then
      bif (decide (i < 50)) then
        some ((e == 0), h)
      else
        some (false, h)
    else
      some (false, h)) fun o =>
  bif o.1 then
    (idx? i l.length).bind fun q =>
    (l)[q]?.bind fun r3 =>
    (low_Pick fu r3.1 5).bind fun r4 =>
    (idx? i l.length).bind fun q1 =>
    (l)[q1]?.bind fun r5 =>
    (low_Pick fu r5.2.1 5).bind fun r6 =>
    (idx? i l.length).bind fun q2 =>
    (l)[q2]?.bind fun r7 =>
    (idx? i l.length).bind fun q3 =>
    (l)[q3]?.bind fun r8 =>
    (upto? (if 60 < ((r8.2.2.length : Nat) : Int) then 60 else ((r8.2.2.length : Nat) : Int)) r7.2.2.length).bind fun q4 =>
    (net_Net_Send_n0 fu r4 r6 (List.take q4 r7.2.2)).bind fun r9 =>
    need ((Nat.ble ((o.2.length + 1) * 40) room) && (Nat.ble (o.2.length + 1) room)) <|
    some (.inl (r9, ((IntKind.wrap .i64 (i + 1)), (o.2 ++ [(r4, (r6, (List.take q4 r7.2.2)))]))))
  else
    some (.inr (e, o.2))
def law07_laid_l0_it (fu : Nat) (l : List ((Int × (Int × List (UInt8))))) (tt : (Int × (Int × List ((Int × (Int × List (UInt8))))))) : Option ((Int × List ((Int × (Int × List (UInt8)))))) :=
  iter fu (fun tt => law07_laid_l0 fu l tt.1 tt.2.1 tt.2.2) tt
def law07_laid_l1 (fu : Nat) (l : List ((Int × (Int × List (UInt8))))) (e1 : Int) (i1 : Int) (h1 : Int) (h2 : Int) (h3 : List ((Int × (Int × List (UInt8))))) (h4 : (List (((Int × Int) × Nat)) × Nat)) (h5 : List ((Int × (Int × List (UInt8))))) : Option ((Int × (Int × (Int × (Int × (List ((Int × (Int × List (UInt8)))) × ((List (((Int × Int) × Nat)) × Nat) × List ((Int × (Int × List (UInt8)))))))))) ⊕ ((Int × (Int × (Int × (List ((Int × (Int × List (UInt8)))) × ((List (((Int × Int) × Nat)) × Nat) × List ((Int × (Int × List (UInt8))))))))))) :=
  Option.bind (α := ((Bool × (Int × (Int × (List ((Int × (Int × List (UInt8)))) × ((List (((Int × Int) × Nat)) × Nat) × List ((Int × (Int × List (UInt8))))))))))) (
    bif (decide (i1 < ((l.length : Nat) : Int))) then
      bif (decide (i1 < 50)) then
        some ((e1 == 0), (h1, (h2, (h3, (h4, h5)))))
      else
        some (false, (h1, (h2, (h3, (h4, h5)))))
    else
      some (false, (h1, (h2, (h3, (h4, h5)))))) fun o2 =>
  bif o2.1 then
    (idx? i1 l.length).bind fun q5 =>
    (l)[q5]?.bind fun r10 =>
    (low_Pick fu r10.1 5).bind fun r11 =>
    (idx? i1 l.length).bind fun q6 =>
    (l)[q6]?.bind fun r12 =>
    (low_Pick fu r12.2.1 5).bind fun r13 =>
    (idx? i1 l.length).bind fun q7 =>
    (l)[q7]?.bind fun r14 =>
    (idx? i1 l.length).bind fun q8 =>
    (l)[q8]?.bind fun r15 =>
    (upto? (if 60 < ((r15.2.2.length : Nat) : Int) then 60 else ((r15.2.2.length : Nat) : Int)) r14.2.2.length).bind fun q9 =>
    Option.bind (α := ((Int × (Int × (Int × (List ((Int × (Int × List (UInt8)))) × ((List (((Int × Int) × Nat)) × Nat) × (List ((Int × (Int × List (UInt8)))) × (Int × (Int × List (UInt8))))))))))) (
      (net_Net_Send__com fu r11 r13 (List.take q9 r14.2.2) o2.2.1 o2.2.2.1 o2.2.2.2.1 o2.2.2.2.2.1).bind fun r16 =>
      match r16 with
      | .inl r17 =>
        some (r17.1, (r17.2.1, (r17.2.2.1, (r17.2.2.2.1, (r17.2.2.2.2, (o2.2.2.2.2.2, (r11, (r13, (List.take q9 r14.2.2)))))))))
      | .inr r18 =>
        some (r18.1, (r18.2.1, (r18.2.2.1, (r18.2.2.2.2, (r18.2.2.2.1, (o2.2.2.2.2.2, (r11, (r13, (List.take q9 r14.2.2)))))))))) fun o3 =>
    need ((Nat.ble ((o3.2.2.2.2.2.1.length + 1) * 40) room) && (Nat.ble (o3.2.2.2.2.2.1.length + 1) room)) <|
    some (.inl (o3.1, ((IntKind.wrap .i64 (i1 + 1)), (o3.2.1, (o3.2.2.1, (o3.2.2.2.1, (o3.2.2.2.2.1, (o3.2.2.2.2.2.1 ++ [(o3.2.2.2.2.2.2.1, (o3.2.2.2.2.2.2.2.1, o3.2.2.2.2.2.2.2.2))]))))))))
  else
    some (.inr (e1, (o2.2.1, (o2.2.2.1, (o2.2.2.2.1, (o2.2.2.2.2.1, o2.2.2.2.2.2))))))
def law07_laid_l1_it (fu : Nat) (l : List ((Int × (Int × List (UInt8))))) (tt : (Int × (Int × (Int × (Int × (List ((Int × (Int × List (UInt8)))) × ((List (((Int × Int) × Nat)) × Nat) × List ((Int × (Int × List (UInt8))))))))))) : Option ((Int × (Int × (Int × (List ((Int × (Int × List (UInt8)))) × ((List (((Int × Int) × Nat)) × Nat) × List ((Int × (Int × List (UInt8)))))))))) :=
  iter fu (fun tt => law07_laid_l1 fu l tt.1 tt.2.1 tt.2.2.1 tt.2.2.2.1 tt.2.2.2.2.1 tt.2.2.2.2.2.1 tt.2.2.2.2.2.2) tt
def law07_laid (fu : Nat) (l : List ((Int × (Int × List (UInt8))))) : Option ((Bool × List ((Int × (Int × List (UInt8))))) ⊕ (Bool × (Int × (Int × (List ((Int × (Int × List (UInt8)))) × ((List (((Int × Int) × Nat)) × Nat) × List ((Int × (Int × List (UInt8)))))))))) :=
  (net_New fu 5 200).bind fun r =>
  match r with
  | .inl r1 =>
    (law07_laid_l0_it fu l (r1, (0, []))).bind fun o1 =>
    some (.inl ((o1.1 == 0), o1.2))
  | .inr r2 =>
    (law07_laid_l1_it fu l (r2.1, (0, (r2.2.1, (r2.2.2.1, ([], (r2.2.2.2, []))))))).bind fun o4 =>
    some (.inr ((o4.1 == 0), (o4.2.1, (o4.2.2.1, (o4.2.2.2.1, (o4.2.2.2.2.1, o4.2.2.2.2.2))))))
def law07_laid_fa : FnA := ⟨.two (.leaf) (.two (.reg [(0, { ids := [100, 101] })]) (.sel (.slot 5 (.nilp (.pointer none))) (.two (.leaf) (.two (.two (.leaf) (.one (.pre (.ownNil 7 34 103) (.loop ⟨[6, 7, 8], ⟨(.cons (.p (.int .i64)) (.cons (.slf 3 103) (.cons (.p (.int .i64)) .nil))), [(103, false, (.rows 34 (.pair (.int .i64) (.pair (.int .i64) (.sl .byte)))))]⟩⟩ false [(0, ⟨[6, 7], ⟨(.cons (.p (.int .i64)) (.cons (.slf 3 103) .nil)), [(103, false, (.rows 34 (.pair (.int .i64) (.pair (.int .i64) (.sl .byte)))))]⟩⟩)] (.two (.two (.join ⟨[7, 25], ⟨(.cons (.slf 3 103) (.cons (.p .bool) .nil)), [(103, false, (.rows 34 (.pair (.int .i64) (.pair (.int .i64) (.sl .byte)))))]⟩⟩ false [] (.leaf)) (.leaf)) (.two (.one (.two (.reg [(5, { fn := 1 }), (11, { fn := 1 }), (26, { ids := [104] })]) (.two (.reg [(7, { fn := 2 })]) (.reg [(2, { ids := [105] }), (3, { ids := [106] })])))) (.leaf))))))) (.leaf))) (.two (.leaf) (.two (.two (.leaf) (.one (.pre (.ownCell 100 2 34 103) (.pre (.ownNil 7 34 104) (.loop ⟨[5, 6, 7, 8], ⟨(.cons (.own 0 100 0 0) (.cons (.p (.int .i64)) (.cons (.slf 3 104) (.cons (.p (.int .i64)) .nil)))), [(100, false, (.vars (.cons (.p (.int .i64)) (.cons (.p (.int .i64)) (.cons (.slf 3 103) (.cons (.mp 101) .nil)))))), (103, false, (.rows 34 (.pair (.int .i64) (.pair (.int .i64) (.sl .byte))))), (101, false, (.map (.int .i64) (.int .i64))), (104, false, (.rows 34 (.pair (.int .i64) (.pair (.int .i64) (.sl .byte)))))]⟩⟩ false [(0, ⟨[5, 6, 7], ⟨(.cons (.own 0 100 0 0) (.cons (.p (.int .i64)) (.cons (.slf 3 104) .nil))), [(100, false, (.vars (.cons (.p (.int .i64)) (.cons (.p (.int .i64)) (.cons (.slf 3 103) (.cons (.mp 101) .nil)))))), (103, false, (.rows 34 (.pair (.int .i64) (.pair (.int .i64) (.sl .byte))))), (101, false, (.map (.int .i64) (.int .i64))), (104, false, (.rows 34 (.pair (.int .i64) (.pair (.int .i64) (.sl .byte)))))]⟩⟩)] (.two (.two (.join ⟨[5, 7, 25], ⟨(.cons (.own 0 100 0 0) (.cons (.slf 3 104) (.cons (.p .bool) .nil))), [(100, false, (.vars (.cons (.p (.int .i64)) (.cons (.p (.int .i64)) (.cons (.slf 3 103) (.cons (.mp 101) .nil)))))), (103, false, (.rows 34 (.pair (.int .i64) (.pair (.int .i64) (.sl .byte))))), (101, false, (.map (.int .i64) (.int .i64))), (104, false, (.rows 34 (.pair (.int .i64) (.pair (.int .i64) (.sl .byte)))))]⟩⟩ false [] (.leaf)) (.leaf)) (.two (.one (.two (.reg [(5, { fn := 1 }), (11, { fn := 1 }), (26, { ids := [105] })]) (.two (.join ⟨[5, 6, 7, 9], ⟨(.cons (.own 0 100 0 0) (.cons (.p (.int .i64)) (.cons (.slf 3 104) (.cons (.own 0 105 0 0) .nil)))), [(100, false, (.vars (.cons (.p (.int .i64)) (.cons (.p (.int .i64)) (.cons (.slf 3 103) (.cons (.mp 101) .nil)))))), (103, false, (.rows 34 (.pair (.int .i64) (.pair (.int .i64) (.sl .byte))))), (101, false, (.map (.int .i64) (.int .i64))), (104, false, (.rows 34 (.pair (.int .i64) (.pair (.int .i64) (.sl .byte))))), (105, false, (.vars (.cons (.p (.int .i64)) (.cons (.p (.int .i64)) (.cons (.p (.sl .byte)) .nil)))))]⟩⟩ false [] (.reg [(7, { ids := [106], sh := [100, 103, 101], fn := 3 })])) (.reg [(2, { ids := [107] }), (3, { ids := [108] })])))) (.leaf)))))))) (.leaf))))), ⟨(.cons (.p (.sl (.pair (.int .i64) (.pair (.int .i64) (.sl .byte))))) .nil), []⟩, [⟨(.cons (.nilp (.pointer none)) (.cons (.slf 3 0) (.cons (.p .bool) .nil))), [(0, false, (.rows 34 (.pair (.int .i64) (.pair (.int .i64) (.sl .byte)))))]⟩, ⟨(.cons (.own 0 0 0 0) (.cons (.slf 3 3) (.cons (.p .bool) .nil))), [(0, false, (.vars (.cons (.p (.int .i64)) (.cons (.p (.int .i64)) (.cons (.slf 3 1) (.cons (.mp 2) .nil)))))), (1, false, (.rows 34 (.pair (.int .i64) (.pair (.int .i64) (.sl .byte))))), (2, false, (.map (.int .i64) (.int .i64))), (3, false, (.rows 34 (.pair (.int .i64) (.pair (.int .i64) (.sl .byte)))))]⟩], [0, 0, 0]⟩
def law07_laid_ft (fu : Nat) : FnT := ⟨33, ⟨(.cons (.p (.sl (.pair (.int .i64) (.pair (.int .i64) (.sl .byte))))) .nil), []⟩, [⟨(.cons (.nilp (.pointer none)) (.cons (.slf 3 0) (.cons (.p .bool) .nil))), [(0, false, (.rows 34 (.pair (.int .i64) (.pair (.int .i64) (.sl .byte)))))]⟩, ⟨(.cons (.own 0 0 0 0) (.cons (.slf 3 3) (.cons (.p .bool) .nil))), [(0, false, (.vars (.cons (.p (.int .i64)) (.cons (.p (.int .i64)) (.cons (.slf 3 1) (.cons (.mp 2) .nil)))))), (1, false, (.rows 34 (.pair (.int .i64) (.pair (.int .i64) (.sl .byte))))), (2, false, (.map (.int .i64) (.int .i64))), (3, false, (.rows 34 (.pair (.int .i64) (.pair (.int .i64) (.sl .byte)))))]⟩], fun t => law07_laid fu t⟩
theorem law07_laid_eq (fu : Nat) : ∀ t, evF Go.Proofs.Try.prog [net_New_ft fu, low_Pick_ft fu, net_Net_Send_n0_ft fu, net_Net_Send__com_ft fu] fu Go.Proofs.Try.f33 law07_laid_fa t = (law07_laid_ft fu).spec t := fun t => by kernel_rfl
theorem law07_laid_told (fu : Nat) : Told Go.Proofs.Try.prog (law07_laid_ft fu) := told_of (allT_cons (net_New_told fu) (allT_cons (low_Pick_told fu) (allT_cons (net_Net_Send_n0_told fu) (allT_cons (net_Net_Send__com_told fu) allT_nil)))) mixed Go.Proofs.Try.func33 (by kernel_rfl) (by kernel_rfl) (law07_laid_eq fu)

def law07_NetQueue_l0 (fu : Nat) (way : Int) (places : List (UInt8)) (k : Int) (h : List ((Int × (Int × List (UInt8))))) : Option ((Int × List ((Int × (Int × List (UInt8))))) ⊕ (Unit ⊕ (Unit ⊕ (Int ⊕ (Unit ⊕ Bool))))) :=
  bif (decide (((h.length : Nat) : Int) > 0)) then
    Option.bind (α := ((Int × List ((Int × (Int × List (UInt8))))))) (
      bif (way == 1) then
        some ((IntKind.wrap .i64 (((h.length : Nat) : Int) - 1)), h)
      else
        Option.bind (α := ((Bool × List ((Int × (Int × List (UInt8))))))) (
          bif (way == 2) then
            some ((decide (k < ((places.length : Nat) : Int))), h)
          else
            some (false, h)) fun o =>
        Option.bind (α := ((Int × List ((Int × (Int × List (UInt8))))))) (
          bif o.1 then
            (idx? k places.length).bind fun q =>
            (places)[q]?.bind fun r3 =>
            need (!(decide (((o.2.length : Nat) : Int) = 0))) <|
            some ((Int.tmod (IntKind.wrap .i64 ((r3.toNat : Nat) : Int)) ((o.2.length : Nat) : Int)), o.2)
          else
            some (0, o.2)) fun o1 =>
        some (o1.1, o1.2)) fun o2 =>
    (net_Net_Take_n0 fu o2.1).bind fun r4 =>
    Option.bind (α := ((Bool × List ((Int × (Int × List (UInt8))))))) (
      bif (!r4.2.2) then
        some (true, o2.2)
      else
        (idx? o2.1 o2.2.length).bind fun q1 =>
        (o2.2)[q1]?.bind fun r5 =>
        (law07_like fu (r4.1, (r4.2.1, [])) r5).bind fun r6 =>
        some ((!r6), o2.2)) fun o3 =>
    bif o3.1 then
      some (.inr (.inr (.inr (.inr (.inr false)))))
    else
      (upto? o2.1 o3.2.length).bind fun q2 =>
      need ((Nat.ble ((0 + (List.take q2 o3.2).length) * 40) room) && (Nat.ble (0 + (List.take q2 o3.2).length) room)) <|
      (upto? (IntKind.wrap .i64 (o2.1 + 1)) o3.2.length).bind fun q3 =>
      need ((Nat.ble (((List.take q2 o3.2).length + (List.drop q3 o3.2).length) * 40) room) && (Nat.ble ((List.take q2 o3.2).length + (List.drop q3 o3.2).length) room)) <|
      some (.inl ((IntKind.wrap .i64 (k + 1)), ((List.take q2 o3.2) ++ (List.drop q3 o3.2))))
  else
    some (.inr (.inl ()))
def law07_NetQueue_l0_it (fu : Nat) (way : Int) (places : List (UInt8)) (tt : (Int × List ((Int × (Int × List (UInt8)))))) : Option (Unit ⊕ (Unit ⊕ (Int ⊕ (Unit ⊕ Bool)))) :=
  iter fu (fun tt => law07_NetQueue_l0 fu way places tt.1 tt.2) tt
def law07_NetQueue_l1 (fu : Nat) (way : Int) (places : List (UInt8)) (k1 : Int) (h1 : Int) (h2 : Int) (h3 : List ((Int × (Int × List (UInt8))))) (h4 : (List (((Int × Int) × Nat)) × Nat)) (h5 : List ((Int × (Int × List (UInt8))))) : Option ((Int × (Int × (Int × (List ((Int × (Int × List (UInt8)))) × ((List (((Int × Int) × Nat)) × Nat) × List ((Int × (Int × List (UInt8))))))))) ⊕ ((Int × (Int × (List ((Int × (Int × List (UInt8)))) × (List (((Int × Int) × Nat)) × Nat)))) ⊕ (Unit ⊕ (Int ⊕ (Unit ⊕ Bool))))) :=
  bif (decide (((h5.length : Nat) : Int) > 0)) then
    Option.bind (α := ((Int × (Int × (Int × (List ((Int × (Int × List (UInt8)))) × ((List (((Int × Int) × Nat)) × Nat) × List ((Int × (Int × List (UInt8))))))))))) (
      bif (way == 1) then
        some ((IntKind.wrap .i64 (((h5.length : Nat) : Int) - 1)), (h1, (h2, (h3, (h4, h5)))))
      else
        Option.bind (α := ((Bool × (Int × (Int × (List ((Int × (Int × List (UInt8)))) × ((List (((Int × Int) × Nat)) × Nat) × List ((Int × (Int × List (UInt8))))))))))) (
          bif (way == 2) then
            some ((decide (k1 < ((places.length : Nat) : Int))), (h1, (h2, (h3, (h4, h5)))))
          else
            some (false, (h1, (h2, (h3, (h4, h5)))))) fun o7 =>
        Option.bind (α := ((Int × (Int × (Int × (List ((Int × (Int × List (UInt8)))) × ((List (((Int × Int) × Nat)) × Nat) × List ((Int × (Int × List (UInt8))))))))))) (
          bif o7.1 then
            (idx? k1 places.length).bind fun q4 =>
            (places)[q4]?.bind fun r9 =>
            need (!(decide (((o7.2.2.2.2.2.length : Nat) : Int) = 0))) <|
            some ((Int.tmod (IntKind.wrap .i64 ((r9.toNat : Nat) : Int)) ((o7.2.2.2.2.2.length : Nat) : Int)), (o7.2.1, (o7.2.2.1, (o7.2.2.2.1, (o7.2.2.2.2.1, o7.2.2.2.2.2)))))
          else
            some (0, (o7.2.1, (o7.2.2.1, (o7.2.2.2.1, (o7.2.2.2.2.1, o7.2.2.2.2.2)))))) fun o8 =>
        some (o8.1, (o8.2.1, (o8.2.2.1, (o8.2.2.2.1, (o8.2.2.2.2.1, o8.2.2.2.2.2)))))) fun o9 =>
    Option.bind (α := ((Bool × (Int × (Int × (List ((Int × (Int × List (UInt8)))) × ((List (((Int × Int) × Nat)) × Nat) × (List ((Int × (Int × List (UInt8)))) × (Int × (Int × List (UInt8))))))))))) (
      (net_Net_Take__com fu o9.1 o9.2.1 o9.2.2.1 o9.2.2.2.1 o9.2.2.2.2.1).bind fun r10 =>
      match r10 with
      | .inl r11 =>
        some (r11.2.2.2.1, (r11.2.2.2.2.1, (r11.2.2.2.2.2.1, (r11.2.2.2.2.2.2.1, (r11.2.2.2.2.2.2.2, (o9.2.2.2.2.2, (r11.1, (r11.2.1, r11.2.2.1))))))))
      | .inr r12 =>
        some (r12.2.2.2.1, (r12.2.2.2.2.1, (r12.2.2.2.2.2.1, (r12.2.2.2.2.2.2.2.2, (r12.2.2.2.2.2.2.1, (o9.2.2.2.2.2, (r12.1, (r12.2.1, r12.2.2.1))))))))) fun o10 =>
    Option.bind (α := ((Bool × (Int × (Int × (List ((Int × (Int × List (UInt8)))) × ((List (((Int × Int) × Nat)) × Nat) × List ((Int × (Int × List (UInt8))))))))))) (
      bif (!o10.1) then
        some (true, (o10.2.1, (o10.2.2.1, (o10.2.2.2.1, (o10.2.2.2.2.1, o10.2.2.2.2.2.1)))))
      else
        (idx? o9.1 o10.2.2.2.2.2.1.length).bind fun q5 =>
        (o10.2.2.2.2.2.1)[q5]?.bind fun r13 =>
        (law07_like fu (o10.2.2.2.2.2.2.1, (o10.2.2.2.2.2.2.2.1, o10.2.2.2.2.2.2.2.2)) r13).bind fun r14 =>
        some ((!r14), (o10.2.1, (o10.2.2.1, (o10.2.2.2.1, (o10.2.2.2.2.1, o10.2.2.2.2.2.1)))))) fun o11 =>
    bif o11.1 then
      some (.inr (.inr (.inr (.inr (.inr false)))))
    else
      (upto? o9.1 o11.2.2.2.2.2.length).bind fun q6 =>
      need ((Nat.ble ((0 + (List.take q6 o11.2.2.2.2.2).length) * 40) room) && (Nat.ble (0 + (List.take q6 o11.2.2.2.2.2).length) room)) <|
      (upto? (IntKind.wrap .i64 (o9.1 + 1)) o11.2.2.2.2.2.length).bind fun q7 =>
      need ((Nat.ble (((List.take q6 o11.2.2.2.2.2).length + (List.drop q7 o11.2.2.2.2.2).length) * 40) room) && (Nat.ble ((List.take q6 o11.2.2.2.2.2).length + (List.drop q7 o11.2.2.2.2.2).length) room)) <|
      some (.inl ((IntKind.wrap .i64 (k1 + 1)), (o11.2.1, (o11.2.2.1, (o11.2.2.2.1, (o11.2.2.2.2.1, ((List.take q6 o11.2.2.2.2.2) ++ (List.drop q7 o11.2.2.2.2.2))))))))
  else
    some (.inr (.inl (h1, (h2, (h3, h4)))))
def law07_NetQueue_l1_it (fu : Nat) (way : Int) (places : List (UInt8)) (tt : (Int × (Int × (Int × (List ((Int × (Int × List (UInt8)))) × ((List (((Int × Int) × Nat)) × Nat) × List ((Int × (Int × List (UInt8)))))))))) : Option ((Int × (Int × (List ((Int × (Int × List (UInt8)))) × (List (((Int × Int) × Nat)) × Nat)))) ⊕ (Unit ⊕ (Int ⊕ (Unit ⊕ Bool)))) :=
  iter fu (fun tt => law07_NetQueue_l1 fu way places tt.1 tt.2.1 tt.2.2.1 tt.2.2.2.1 tt.2.2.2.2.1 tt.2.2.2.2.2) tt
def law07_NetQueue_l2 (fu : Nat) (l : List ((Int × (Int × List (UInt8))))) (places : List (UInt8)) (way : Int) : Option (Int ⊕ (Unit ⊕ Bool)) :=
  bif (decide (way < 3)) then
    Option.bind (α := (Unit ⊕ (Int ⊕ (Unit ⊕ Bool)))) (
      (law07_laid fu l).bind fun r =>
      match r with
      | .inl r1 =>
        bif (!r1.1) then
          some (.inr (.inr (.inr false)))
        else
          (law07_NetQueue_l0_it fu way places (0, r1.2)).bind fun o4 =>
          match o4 with
          | .inl s =>
            (net_Net_Take_n0 fu 0).bind fun r7 =>
            Option.bind (α := (Bool)) (
              bif r7.2.2 then
                some true
              else
                (net_Net_Flying_n0 fu).bind fun r8 =>
                some (!(r8 == 0))) fun o6 =>
            bif o6 then
              some (.inr (.inr (.inr false)))
            else
              some (.inl ())
          | .inr o5 =>
            some o5
      | .inr r2 =>
        bif (!r2.1) then
          some (.inr (.inr (.inr false)))
        else
          (law07_NetQueue_l1_it fu way places (0, (r2.2.1, (r2.2.2.1, (r2.2.2.2.1, (r2.2.2.2.2.1, r2.2.2.2.2.2)))))).bind fun o12 =>
          match o12 with
          | .inl s1 =>
            Option.bind (α := ((Bool × (Int × (Int × (List ((Int × (Int × List (UInt8)))) × (List (((Int × Int) × Nat)) × Nat))))))) (
              (net_Net_Take__com fu 0 s1.1 s1.2.1 s1.2.2.1 s1.2.2.2).bind fun r15 =>
              match r15 with
              | .inl r16 =>
                some (r16.2.2.2.1, (r16.2.2.2.2.1, (r16.2.2.2.2.2.1, (r16.2.2.2.2.2.2.1, r16.2.2.2.2.2.2.2))))
              | .inr r17 =>
                some (r17.2.2.2.1, (r17.2.2.2.2.1, (r17.2.2.2.2.2.1, (r17.2.2.2.2.2.2.2.2, r17.2.2.2.2.2.2.1))))) fun o14 =>
            Option.bind (α := (Bool)) (
              bif o14.1 then
                some true
              else
                (net_Net_Flying__com fu o14.2.1 o14.2.2.1 o14.2.2.2.1 o14.2.2.2.2).bind fun r18 =>
                some (!(r18.1 == 0))) fun o15 =>
            bif o15 then
              some (.inr (.inr (.inr false)))
            else
              some (.inl ())
          | .inr o13 =>
            some o13) fun o16 =>
    match o16 with
    | .inl s2 =>
      some (.inl (IntKind.wrap .i64 (way + 1)))
    | .inr o17 =>
      some o17
  else
    some (.inr (.inl ()))
def law07_NetQueue_l2_it (fu : Nat) (l : List ((Int × (Int × List (UInt8))))) (places : List (UInt8)) (tt : Int) : Option (Unit ⊕ Bool) :=
  iter fu (fun tt => law07_NetQueue_l2 fu l places tt) tt
def law07_NetQueue (fu : Nat) (l : List ((Int × (Int × List (UInt8))))) (places : List (UInt8)) : Option (Bool) :=
  (law07_NetQueue_l2_it fu l places 0).bind fun o18 =>
  match o18 with
  | .inl s3 =>
    (law07_awake fu).bind fun r19 =>
    some r19
  | .inr o19 =>
    some o19
def law07_NetQueue_fa : FnA := ⟨.two (.leaf) (.two (.two (.leaf) (.one (.loop ⟨[5], ⟨(.cons (.p (.int .i64)) .nil), []⟩⟩ true [(0, ⟨[], ⟨.nil, []⟩⟩)] (.two (.two (.leaf) (.leaf)) (.two (.join ⟨[], ⟨.nil, []⟩⟩ true [] (.one (.two (.reg [(1, { ids := [100, 101, 102, 103] })]) (.sel (.slot 6 (.nilp (.pointer none))) (.two (.two (.leaf) (.two (.leaf) (.leaf))) (.two (.two (.leaf) (.one (.loop ⟨[7, 9], ⟨(.cons (.slf 3 100) (.cons (.p (.int .i64)) .nil)), [(100, false, (.rows 34 (.pair (.int .i64) (.pair (.int .i64) (.sl .byte)))))]⟩⟩ true [(2, ⟨[], ⟨.nil, []⟩⟩)] (.two (.two (.leaf) (.leaf)) (.two (.one (.two (.leaf) (.two (.one (.two (.leaf) (.join ⟨[7, 10], ⟨(.cons (.slf 3 100) (.cons (.p (.int .i64)) .nil)), [(100, false, (.rows 34 (.pair (.int .i64) (.pair (.int .i64) (.sl .byte)))))]⟩⟩ false [] (.two (.leaf) (.two (.join ⟨[7, 38], ⟨(.cons (.slf 3 100) (.cons (.p .bool) .nil)), [(100, false, (.rows 34 (.pair (.int .i64) (.pair (.int .i64) (.sl .byte)))))]⟩⟩ false [] (.leaf)) (.join ⟨[7, 10], ⟨(.cons (.slf 3 100) (.cons (.p (.int .i64)) .nil)), [(100, false, (.rows 34 (.pair (.int .i64) (.pair (.int .i64) (.sl .byte)))))]⟩⟩ false [] (.leaf))))))) (.two (.reg [(2, { fn := 1 }), (6, { ids := [105] })]) (.two (.two (.join ⟨[7, 71], ⟨(.cons (.slf 3 100) (.cons (.p .bool) .nil)), [(100, false, (.rows 34 (.pair (.int .i64) (.pair (.int .i64) (.sl .byte)))))]⟩⟩ false [] (.reg [(8, { fn := 2 })])) (.two (.leaf) (.leaf))) (.pre (.pure 7) (.reg [(0, { ids := [106] }), (4, { ids := [107] }), (9, { ids := [108] })]))))))) (.leaf)))))) (.two (.reg [(1, { fn := 1 }), (5, { ids := [109] })]) (.two (.join ⟨[92], ⟨(.cons (.p .bool) .nil), []⟩⟩ false [] (.reg [(3, { fn := 3 })])) (.two (.leaf) (.leaf)))))) (.two (.two (.leaf) (.two (.leaf) (.leaf))) (.two (.two (.leaf) (.one (.loop ⟨[6, 7, 9], ⟨(.cons (.own 0 100 0 0) (.cons (.slf 3 103) (.cons (.p (.int .i64)) .nil))), [(100, false, (.vars (.cons (.p (.int .i64)) (.cons (.p (.int .i64)) (.cons (.slf 3 101) (.cons (.mp 102) .nil)))))), (101, false, (.rows 34 (.pair (.int .i64) (.pair (.int .i64) (.sl .byte))))), (102, false, (.map (.int .i64) (.int .i64))), (103, false, (.rows 34 (.pair (.int .i64) (.pair (.int .i64) (.sl .byte)))))]⟩⟩ true [(2, ⟨[6], ⟨(.cons (.own 0 100 0 0) .nil), [(100, false, (.vars (.cons (.p (.int .i64)) (.cons (.p (.int .i64)) (.cons (.slf 3 101) (.cons (.mp 102) .nil)))))), (101, false, (.rows 34 (.pair (.int .i64) (.pair (.int .i64) (.sl .byte))))), (102, false, (.map (.int .i64) (.int .i64)))]⟩⟩)] (.two (.two (.leaf) (.leaf)) (.two (.one (.two (.leaf) (.two (.one (.two (.leaf) (.join ⟨[6, 7, 10], ⟨(.cons (.own 0 100 0 0) (.cons (.slf 3 103) (.cons (.p (.int .i64)) .nil))), [(100, false, (.vars (.cons (.p (.int .i64)) (.cons (.p (.int .i64)) (.cons (.slf 3 101) (.cons (.mp 102) .nil)))))), (101, false, (.rows 34 (.pair (.int .i64) (.pair (.int .i64) (.sl .byte))))), (102, false, (.map (.int .i64) (.int .i64))), (103, false, (.rows 34 (.pair (.int .i64) (.pair (.int .i64) (.sl .byte)))))]⟩⟩ false [] (.two (.leaf) (.two (.join ⟨[6, 7, 38], ⟨(.cons (.own 0 100 0 0) (.cons (.slf 3 103) (.cons (.p .bool) .nil))), [(100, false, (.vars (.cons (.p (.int .i64)) (.cons (.p (.int .i64)) (.cons (.slf 3 101) (.cons (.mp 102) .nil)))))), (101, false, (.rows 34 (.pair (.int .i64) (.pair (.int .i64) (.sl .byte))))), (102, false, (.map (.int .i64) (.int .i64))), (103, false, (.rows 34 (.pair (.int .i64) (.pair (.int .i64) (.sl .byte)))))]⟩⟩ false [] (.leaf)) (.join ⟨[6, 7, 10], ⟨(.cons (.own 0 100 0 0) (.cons (.slf 3 103) (.cons (.p (.int .i64)) .nil))), [(100, false, (.vars (.cons (.p (.int .i64)) (.cons (.p (.int .i64)) (.cons (.slf 3 101) (.cons (.mp 102) .nil)))))), (101, false, (.rows 34 (.pair (.int .i64) (.pair (.int .i64) (.sl .byte))))), (102, false, (.map (.int .i64) (.int .i64))), (103, false, (.rows 34 (.pair (.int .i64) (.pair (.int .i64) (.sl .byte)))))]⟩⟩ false [] (.leaf))))))) (.two (.join ⟨[6, 7, 11, 12], ⟨(.cons (.own 0 100 0 0) (.cons (.slf 3 103) (.cons (.own 0 106 0 0) (.cons (.p .bool) .nil)))), [(100, false, (.vars (.cons (.p (.int .i64)) (.cons (.p (.int .i64)) (.cons (.slf 3 101) (.cons (.mp 102) .nil)))))), (101, false, (.rows 34 (.pair (.int .i64) (.pair (.int .i64) (.sl .byte))))), (102, false, (.map (.int .i64) (.int .i64))), (103, false, (.rows 34 (.pair (.int .i64) (.pair (.int .i64) (.sl .byte))))), (106, false, (.vars (.cons (.p (.int .i64)) (.cons (.p (.int .i64)) (.cons (.p (.sl .byte)) .nil)))))]⟩⟩ false [] (.reg [(2, { ids := [105], sh := [100, 101, 102], fn := 4 }), (6, { ids := [106] })])) (.two (.two (.join ⟨[6, 7, 71], ⟨(.cons (.own 0 100 0 0) (.cons (.slf 3 103) (.cons (.p .bool) .nil))), [(100, false, (.vars (.cons (.p (.int .i64)) (.cons (.p (.int .i64)) (.cons (.slf 3 101) (.cons (.mp 102) .nil)))))), (101, false, (.rows 34 (.pair (.int .i64) (.pair (.int .i64) (.sl .byte))))), (102, false, (.map (.int .i64) (.int .i64))), (103, false, (.rows 34 (.pair (.int .i64) (.pair (.int .i64) (.sl .byte)))))]⟩⟩ false [] (.reg [(8, { fn := 2 })])) (.two (.leaf) (.leaf))) (.pre (.pure 7) (.reg [(0, { ids := [107] }), (4, { ids := [108] }), (9, { ids := [109] })]))))))) (.leaf)))))) (.two (.join ⟨[6, 14], ⟨(.cons (.own 0 100 0 0) (.cons (.p .bool) .nil)), [(100, false, (.vars (.cons (.p (.int .i64)) (.cons (.p (.int .i64)) (.cons (.slf 3 101) (.cons (.mp 102) .nil)))))), (101, false, (.rows 34 (.pair (.int .i64) (.pair (.int .i64) (.sl .byte))))), (102, false, (.map (.int .i64) (.int .i64)))]⟩⟩ false [] (.reg [(1, { ids := [110], sh := [100, 101, 102], fn := 4 }), (5, { ids := [111] })])) (.two (.join ⟨[92], ⟨(.cons (.p .bool) .nil), []⟩⟩ false [] (.reg [(3, { sh := [100, 101, 102], fn := 5 })])) (.two (.leaf) (.leaf)))))))))) (.leaf)))))) (.two (.reg [(0, { fn := 6 })]) (.leaf))), ⟨(.cons (.p (.sl (.pair (.int .i64) (.pair (.int .i64) (.sl .byte))))) (.cons (.p (.sl .byte)) .nil)), []⟩, [⟨(.cons (.p .bool) .nil), []⟩], [0]⟩
def law07_NetQueue_ft (fu : Nat) : FnT := ⟨7, ⟨(.cons (.p (.sl (.pair (.int .i64) (.pair (.int .i64) (.sl .byte))))) (.cons (.p (.sl .byte)) .nil)), []⟩, [⟨(.cons (.p .bool) .nil), []⟩], fun t => law07_NetQueue fu t.1 t.2⟩
theorem law07_NetQueue_eq (fu : Nat) : ∀ t, evF Go.Proofs.Try.prog [law07_laid_ft fu, net_Net_Take_n0_ft fu, law07_like_ft fu, net_Net_Flying_n0_ft fu, net_Net_Take__com_ft fu, net_Net_Flying__com_ft fu, law07_awake_ft fu] fu Go.Proofs.Try.f7 law07_NetQueue_fa t = (law07_NetQueue_ft fu).spec t := fun t => by kernel_rfl
theorem law07_NetQueue_told (fu : Nat) : Told Go.Proofs.Try.prog (law07_NetQueue_ft fu) := told_of (allT_cons (law07_laid_told fu) (allT_cons (net_Net_Take_n0_told fu) (allT_cons (law07_like_told fu) (allT_cons (net_Net_Flying_n0_told fu) (allT_cons (net_Net_Take__com_told fu) (allT_cons (net_Net_Flying__com_told fu) (allT_cons (law07_awake_told fu) allT_nil))))))) mixed Go.Proofs.Try.func7 (by kernel_rfl) (by kernel_rfl) (law07_NetQueue_eq fu)

def law07_tag (fu : Nat) (d : (Int × (Int × List (UInt8)))) : Option (List UInt8) :=
  (byte? (IntKind.wrap .u8 d.1)).bind fun c =>
  (byte? (IntKind.wrap .u8 d.2.1)).bind fun c1 =>
  need (Nat.ble (2 + d.2.2.length) room) <|
  some ([c, c1] ++ d.2.2)
def law07_tag_fa : FnA := ⟨.two (.reg [(0, { ids := [100] })]) (.two (.reg [(6, { ids := [101] })]) (.leaf)), ⟨(.cons (.p (.pair (.int .i64) (.pair (.int .i64) (.sl .byte)))) .nil), []⟩, [⟨(.cons (.p .str) .nil), []⟩], [0]⟩
def law07_tag_ft (fu : Nat) : FnT := ⟨31, ⟨(.cons (.p (.pair (.int .i64) (.pair (.int .i64) (.sl .byte)))) .nil), []⟩, [⟨(.cons (.p .str) .nil), []⟩], fun t => law07_tag fu t⟩
theorem law07_tag_eq (fu : Nat) : ∀ t, evF Go.Proofs.Try.prog [] fu Go.Proofs.Try.f31 law07_tag_fa t = (law07_tag_ft fu).spec t := fun t => by kernel_rfl
theorem law07_tag_told (fu : Nat) : Told Go.Proofs.Try.prog (law07_tag_ft fu) := told_of allT_nil mixed Go.Proofs.Try.func31 (by kernel_rfl) (by kernel_rfl) (law07_tag_eq fu)

def law07_deed_n0 (fu : Nat) (do_ : Int) (from_ : Int) (to_ : Int) (at_ : Int) (b : List (UInt8)) : Option (List UInt8) :=
  Option.bind (α := (Bool)) (
    bif (do_ == 0) then
      some (do_ == 0)
    else
      Option.bind (α := (Bool)) (
        bif (do_ == 1) then
          some (do_ == 1)
        else
          Option.bind (α := (Bool)) (
            bif (do_ == 2) then
              some (do_ == 2)
            else
              some (do_ == 3)) fun o =>
          some o) fun o1 =>
      some o1) fun o2 =>
  bif o2 then
    (net_Net_Send_n0 fu from_ to_ b).bind fun r =>
    (byte? (IntKind.wrap .u8 r)).bind fun c =>
    some [c]
  else
    bif (do_ == 4) then
      (net_Net_Copy_n0 fu at_).bind fun r1 =>
      (byte? (IntKind.wrap .u8 r1)).bind fun c1 =>
      some [c1]
    else
      bif (do_ == 5) then
        (net_Net_Take_n0 fu at_).bind fun r2 =>
        (law07_tag fu (r2.1, (r2.2.1, []))).bind fun r3 =>
        some r3
      else
        bif (do_ == 6) then
          (net_Net_Drop_n0 fu at_).bind fun r4 =>
          some []
        else
          bif (do_ == 7) then
            (net_Net_Forget_n0 fu to_).bind fun r5 =>
            (byte? (IntKind.wrap .u8 r5)).bind fun c2 =>
            some [c2]
          else
            some []
def law07_deed_n0_fa : FnA := ⟨.two (.leaf) (.two (.two (.leaf) (.one (.two (.two (.leaf) (.join ⟨[16], ⟨(.cons (.p .bool) .nil), []⟩⟩ false [] (.two (.leaf) (.two (.leaf) (.join ⟨[16], ⟨(.cons (.p .bool) .nil), []⟩⟩ false [] (.two (.leaf) (.two (.leaf) (.join ⟨[16], ⟨(.cons (.p .bool) .nil), []⟩⟩ false [] (.leaf))))))))) (.two (.two (.reg [(4, {  }), (6, { ids := [100] })]) (.leaf)) (.two (.leaf) (.two (.two (.reg [(2, { fn := 1 }), (4, { ids := [101] })]) (.leaf)) (.two (.leaf) (.two (.two (.reg [(2, { fn := 2 }), (6, { ids := [102] })]) (.two (.reg [(1, { fn := 3 })]) (.leaf))) (.two (.leaf) (.two (.reg [(2, { fn := 4 })]) (.two (.leaf) (.two (.two (.reg [(2, { fn := 5 }), (4, { ids := [103] })]) (.leaf)) (.leaf))))))))))))) (.leaf)), ⟨(.cons (.nilp (.pointer none)) (.cons (.p (.int .u8)) (.cons (.p (.int .i64)) (.cons (.p (.int .i64)) (.cons (.p (.int .i64)) (.cons (.p (.sl .byte)) .nil)))))), []⟩, [⟨(.cons (.p .str) .nil), []⟩], [0]⟩
def law07_deed_n0_ft (fu : Nat) : FnT := ⟨34, ⟨(.cons (.nilp (.pointer none)) (.cons (.p (.int .u8)) (.cons (.p (.int .i64)) (.cons (.p (.int .i64)) (.cons (.p (.int .i64)) (.cons (.p (.sl .byte)) .nil)))))), []⟩, [⟨(.cons (.p .str) .nil), []⟩], fun t => law07_deed_n0 fu t.1 t.2.1 t.2.2.1 t.2.2.2.1 t.2.2.2.2⟩
theorem law07_deed_n0_eq (fu : Nat) : ∀ t, evF Go.Proofs.Try.prog [net_Net_Send_n0_ft fu, net_Net_Copy_n0_ft fu, net_Net_Take_n0_ft fu, law07_tag_ft fu, net_Net_Drop_n0_ft fu, net_Net_Forget_n0_ft fu] fu Go.Proofs.Try.f34 law07_deed_n0_fa t = (law07_deed_n0_ft fu).spec t := fun t => by kernel_rfl
theorem law07_deed_n0_told (fu : Nat) : Told Go.Proofs.Try.prog (law07_deed_n0_ft fu) := told_of (allT_cons (net_Net_Send_n0_told fu) (allT_cons (net_Net_Copy_n0_told fu) (allT_cons (net_Net_Take_n0_told fu) (allT_cons (law07_tag_told fu) (allT_cons (net_Net_Drop_n0_told fu) (allT_cons (net_Net_Forget_n0_told fu) allT_nil)))))) mixed Go.Proofs.Try.func34 (by kernel_rfl) (by kernel_rfl) (law07_deed_n0_eq fu)

def law07_alike_n0n1_l0 (fu : Nat) (to_ : Int) (i : Int) (h : List ((Int × (Int × List (UInt8))))) : Option ((Int × List ((Int × (Int × List (UInt8))))) ⊕ (List ((Int × (Int × List (UInt8)))))) :=
  (net_Net_Flying_n0 fu).bind fun r =>
  bif (decide (i < r)) then
    (net_Net_Look_n0 fu i).bind fun r1 =>
    Option.bind (α := (List ((Int × (Int × List (UInt8)))))) (
      bif (r1.2.1 == to_) then
        need ((Nat.ble ((h.length + 1) * 40) room) && (Nat.ble (h.length + 1) room)) <|
        some (h ++ [(r1.1, (r1.2.1, []))])
      else
        some h) fun o =>
    some (.inl ((IntKind.wrap .i64 (i + 1)), o))
  else
    some (.inr h)
def law07_alike_n0n1_l0_it (fu : Nat) (to_ : Int) (tt : (Int × List ((Int × (Int × List (UInt8)))))) : Option (List ((Int × (Int × List (UInt8))))) :=
  iter fu (fun tt => law07_alike_n0n1_l0 fu to_ tt.1 tt.2) tt
def law07_alike_n0n1_l1 (fu : Nat) (o2 : (Bool × List ((Int × (Int × List (UInt8)))))) (x : Int) (h1 : List ((Int × (Int × List (UInt8))))) : Option ((Int × List ((Int × (Int × List (UInt8))))) ⊕ (Unit ⊕ Bool)) :=
  bif (decide (x < ((o2.2.length : Nat) : Int))) then
    (net_Net_Look_n0 fu x).bind fun r5 =>
    (idx? x h1.length).bind fun q =>
    (h1)[q]?.bind fun r6 =>
    (law07_like fu (r5.1, (r5.2.1, [])) r6).bind fun r7 =>
    bif (!r7) then
      some (.inr (.inr false))
    else
      some (.inl ((IntKind.wrap .i64 (x + 1)), h1))
  else
    some (.inr (.inl ()))
def law07_alike_n0n1_l1_it (fu : Nat) (o2 : (Bool × List ((Int × (Int × List (UInt8)))))) (tt : (Int × List ((Int × (Int × List (UInt8)))))) : Option (Unit ⊕ Bool) :=
  iter fu (fun tt => law07_alike_n0n1_l1 fu o2 tt.1 tt.2) tt
def law07_alike_n0n1 (fu : Nat) (to_ : Int) : Option (Bool) :=
  (law07_alike_n0n1_l0_it fu to_ (0, [])).bind fun o1 =>
  Option.bind (α := ((Bool × List ((Int × (Int × List (UInt8))))))) (
    (net_Net_Flying_n0 fu).bind fun r2 =>
    bif (!(r2 == ((o1.length : Nat) : Int))) then
      some (true, o1)
    else
      (net_Net_Waiting_n0 fu to_).bind fun r3 =>
      bif (!(r3 == ((o1.length : Nat) : Int))) then
        some (true, o1)
      else
        (net_Net_Waiting_n0 fu to_).bind fun r4 =>
        some ((!(r4 == ((o1.length : Nat) : Int))), o1)) fun o2 =>
  bif o2.1 then
    some false
  else
    (law07_alike_n0n1_l1_it fu o2 (0, o2.2)).bind fun o3 =>
    match o3 with
    | .inl s =>
      some true
    | .inr o4 =>
      some o4
def law07_alike_n0n1_fa : FnA := ⟨.two (.leaf) (.two (.leaf) (.two (.two (.leaf) (.one (.pre (.ownNil 7 34 100) (.loop ⟨[7, 8], ⟨(.cons (.slf 3 100) (.cons (.p (.int .i64)) .nil)), [(100, false, (.rows 34 (.pair (.int .i64) (.pair (.int .i64) (.sl .byte)))))]⟩⟩ false [(0, ⟨[7], ⟨(.cons (.slf 3 100) .nil), [(100, false, (.rows 34 (.pair (.int .i64) (.pair (.int .i64) (.sl .byte)))))]⟩⟩)] (.two (.two (.reg [(2, {  })]) (.leaf)) (.two (.one (.two (.reg [(2, { fn := 1 }), (6, { ids := [101] })]) (.two (.leaf) (.join ⟨[7], ⟨(.cons (.slf 3 103) .nil), [(103, false, (.rows 34 (.pair (.int .i64) (.pair (.int .i64) (.sl .byte)))))]⟩⟩ false [] (.two (.reg [(2, { ids := [102] }), (3, { ids := [103] })]) (.leaf)))))) (.leaf))))))) (.two (.two (.join ⟨[7, 54], ⟨(.cons (.slf 3 100) (.cons (.p .bool) .nil)), [(100, false, (.rows 34 (.pair (.int .i64) (.pair (.int .i64) (.sl .byte)))))]⟩⟩ false [] (.reg [(1, {  }), (8, { fn := 2 }), (16, { fn := 2 })])) (.two (.leaf) (.leaf))) (.two (.two (.leaf) (.one (.loop ⟨[7, 57], ⟨(.cons (.slf 3 100) (.cons (.p (.int .i64)) .nil)), [(100, false, (.rows 34 (.pair (.int .i64) (.pair (.int .i64) (.sl .byte)))))]⟩⟩ true [(2, ⟨[], ⟨.nil, []⟩⟩)] (.two (.leaf) (.two (.leaf) (.two (.one (.two (.leaf) (.two (.reg [(2, { fn := 1 }), (6, { ids := [104] })]) (.two (.reg [(5, { fn := 3 })]) (.two (.leaf) (.leaf)))))) (.leaf))))))) (.leaf))))), ⟨(.cons (.nilp (.pointer none)) (.cons (.nilp (.pointer none)) (.cons (.p (.int .i64)) .nil))), []⟩, [⟨(.cons (.p .bool) .nil), []⟩], [0]⟩
def law07_alike_n0n1_ft (fu : Nat) : FnT := ⟨35, ⟨(.cons (.nilp (.pointer none)) (.cons (.nilp (.pointer none)) (.cons (.p (.int .i64)) .nil))), []⟩, [⟨(.cons (.p .bool) .nil), []⟩], fun t => law07_alike_n0n1 fu t⟩
theorem law07_alike_n0n1_eq (fu : Nat) : ∀ t, evF Go.Proofs.Try.prog [net_Net_Flying_n0_ft fu, net_Net_Look_n0_ft fu, net_Net_Waiting_n0_ft fu, law07_like_ft fu] fu Go.Proofs.Try.f35 law07_alike_n0n1_fa t = (law07_alike_n0n1_ft fu).spec t := fun t => by kernel_rfl
theorem law07_alike_n0n1_told (fu : Nat) : Told Go.Proofs.Try.prog (law07_alike_n0n1_ft fu) := told_of (allT_cons (net_Net_Flying_n0_told fu) (allT_cons (net_Net_Look_n0_told fu) (allT_cons (net_Net_Waiting_n0_told fu) (allT_cons (law07_like_told fu) allT_nil)))) mixed Go.Proofs.Try.func35 (by kernel_rfl) (by kernel_rfl) (law07_alike_n0n1_eq fu)
end
end Go.Ab.D
