/- Functions of the program as plain Lean functions: each equation is checked by the kernel; what is told of a function follows from it. -/
import Derived.Test.YtndinkcemkfpdaaE3
import Derived.Test.YtndinkcemkfpdaaProg
import Derived.KernelRfl
set_option linter.all false
set_option maxRecDepth 100000
set_option maxHeartbeats 4000000
namespace Go.Ab.D
open Go Go.Ab
noncomputable section
theorem mixed : Go.Proofs.Try.prog.follows .mixedOrders = true := by kernel_rfl
def net_New_1 (fu : Nat) (k : Int) (high : Int) : Option (Bool) :=
  bif (decide (0 < k)) then
    some (decide (k ≤ high))
  else
    some false
def net_New_1_fa : FnA := ⟨.two (.leaf) (.leaf), ⟨(.cons (.p (.int .i64)) (.cons (.p (.int .i64)) .nil)), []⟩, [⟨(.cons (.p .bool) .nil), []⟩], [0]⟩
def net_New_1_ft (fu : Nat) : FnT := ⟨38, ⟨(.cons (.p (.int .i64)) (.cons (.p (.int .i64)) .nil)), []⟩, [⟨(.cons (.p .bool) .nil), []⟩], fun t => net_New_1 fu t.1 t.2⟩
theorem net_New_1_eq (fu : Nat) : ∀ t, evF Go.Proofs.Try.prog [] fu Go.Proofs.Try.f38 net_New_1_fa t = (net_New_1_ft fu).spec t := fun t => by kernel_rfl
theorem net_New_1_told (fu : Nat) : Told Go.Proofs.Try.prog (net_New_1_ft fu) := told_of allT_nil mixed Go.Proofs.Try.func38 (by kernel_rfl) (by kernel_rfl) (net_New_1_eq fu)

def net_New (fu : Nat) (ends : Int) (most : Int) : Option (Int ⊕ (Int × (Int × (Int × (List (((Int × Int) × Nat)) × Nat))))) :=
  Option.bind (α := (Bool)) (
    (net_New_1 fu ends 300).bind fun r =>
    bif (!r) then
      some true
    else
      (net_New_1 fu most 10000).bind fun r1 =>
      some (!r1)) fun o =>
  bif o then
    some (.inl 2)
  else
    some (.inr (0, (ends, (most, ([], 0)))))
def net_New_fa : FnA := ⟨.two (.leaf) (.two (.leaf) (.two (.two (.join ⟨[16], ⟨(.cons (.p .bool) .nil), []⟩⟩ false [] (.reg [(2, {  }), (7, {  })])) (.two (.leaf) (.leaf))) (.two (.reg [(2, { ids := [100] }), (4, { ids := [101] })]) (.leaf)))), ⟨(.cons (.p (.int .i64)) (.cons (.p (.int .i64)) .nil)), []⟩, [⟨(.cons (.nilp (.pointer none)) (.cons (.p (.int .i64)) .nil)), []⟩, ⟨(.cons (.own 0 0 0 0) (.cons (.p (.int .i64)) .nil)), [(0, false, (.vars (.cons (.p (.int .i64)) (.cons (.p (.int .i64)) (.cons (.nilp (.slice none 0 0)) (.cons (.mp 1) .nil)))))), (1, false, (.map (.int .i64) (.int .i64)))]⟩], [0, 0]⟩
def net_New_ft (fu : Nat) : FnT := ⟨11, ⟨(.cons (.p (.int .i64)) (.cons (.p (.int .i64)) .nil)), []⟩, [⟨(.cons (.nilp (.pointer none)) (.cons (.p (.int .i64)) .nil)), []⟩, ⟨(.cons (.own 0 0 0 0) (.cons (.p (.int .i64)) .nil)), [(0, false, (.vars (.cons (.p (.int .i64)) (.cons (.p (.int .i64)) (.cons (.nilp (.slice none 0 0)) (.cons (.mp 1) .nil)))))), (1, false, (.map (.int .i64) (.int .i64)))]⟩], fun t => net_New fu t.1 t.2⟩
theorem net_New_eq (fu : Nat) : ∀ t, evF Go.Proofs.Try.prog [net_New_1_ft fu] fu Go.Proofs.Try.f11 net_New_fa t = (net_New_ft fu).spec t := fun t => by kernel_rfl
theorem net_New_told (fu : Nat) : Told Go.Proofs.Try.prog (net_New_ft fu) := told_of (allT_cons (net_New_1_told fu) allT_nil) mixed Go.Proofs.Try.func11 (by kernel_rfl) (by kernel_rfl) (net_New_eq fu)

def net_Net_made_n0 (fu : Nat)  : Option (Bool) :=
  some false
def net_Net_made_n0_fa : FnA := ⟨.two (.leaf) (.leaf), ⟨(.cons (.nilp (.pointer none)) .nil), []⟩, [⟨(.cons (.p .bool) .nil), []⟩], [0]⟩
def net_Net_made_n0_ft (fu : Nat) : FnT := ⟨39, ⟨(.cons (.nilp (.pointer none)) .nil), []⟩, [⟨(.cons (.p .bool) .nil), []⟩], fun t => net_Net_made_n0 fu ⟩
theorem net_Net_made_n0_eq (fu : Nat) : ∀ t, evF Go.Proofs.Try.prog [] fu Go.Proofs.Try.f39 net_Net_made_n0_fa t = (net_Net_made_n0_ft fu).spec t := fun t => by kernel_rfl
theorem net_Net_made_n0_told (fu : Nat) : Told Go.Proofs.Try.prog (net_Net_made_n0_ft fu) := told_of allT_nil mixed Go.Proofs.Try.func39 (by kernel_rfl) (by kernel_rfl) (net_Net_made_n0_eq fu)

def net_Net_full_n0 (fu : Nat) (to_ : Int) : Option (Empty) :=
  none
def net_Net_full_n0_fa : FnA := ⟨.two (.leaf) (.leaf), ⟨(.cons (.nilp (.pointer none)) (.cons (.p (.int .i64)) .nil)), []⟩, [], [0]⟩
def net_Net_full_n0_ft (fu : Nat) : FnT := ⟨50, ⟨(.cons (.nilp (.pointer none)) (.cons (.p (.int .i64)) .nil)), []⟩, [], fun t => net_Net_full_n0 fu t⟩
theorem net_Net_full_n0_eq (fu : Nat) : ∀ t, evF Go.Proofs.Try.prog [] fu Go.Proofs.Try.f50 net_Net_full_n0_fa t = (net_Net_full_n0_ft fu).spec t := fun t => by kernel_rfl
theorem net_Net_full_n0_told (fu : Nat) : Told Go.Proofs.Try.prog (net_Net_full_n0_ft fu) := told_of allT_nil mixed Go.Proofs.Try.func50 (by kernel_rfl) (by kernel_rfl) (net_Net_full_n0_eq fu)

def net_Net_lay_n0 (fu : Nat) (d : (Int × (Int × List (UInt8)))) : Option (Empty) :=
  (net_Net_full_n0 fu d.2.1).bind fun r =>
  Empty.elim r
def net_Net_lay_n0_fa : FnA := ⟨.two (.reg [(0, { ids := [100] })]) (.two (.two (.reg [(3, {  })]) (.leaf)) (.leaf)), ⟨(.cons (.nilp (.pointer none)) (.cons (.p (.pair (.int .i64) (.pair (.int .i64) (.sl .byte)))) .nil)), []⟩, [], [0]⟩
def net_Net_lay_n0_ft (fu : Nat) : FnT := ⟨40, ⟨(.cons (.nilp (.pointer none)) (.cons (.p (.pair (.int .i64) (.pair (.int .i64) (.sl .byte)))) .nil)), []⟩, [], fun t => net_Net_lay_n0 fu t⟩
theorem net_Net_lay_n0_eq (fu : Nat) : ∀ t, evF Go.Proofs.Try.prog [net_Net_full_n0_ft fu] fu Go.Proofs.Try.f40 net_Net_lay_n0_fa t = (net_Net_lay_n0_ft fu).spec t := fun t => by kernel_rfl
theorem net_Net_lay_n0_told (fu : Nat) : Told Go.Proofs.Try.prog (net_Net_lay_n0_ft fu) := told_of (allT_cons (net_Net_full_n0_told fu) allT_nil) mixed Go.Proofs.Try.func40 (by kernel_rfl) (by kernel_rfl) (net_Net_lay_n0_eq fu)

def net_Net_Send_n0_l0 (fu : Nat) (from_ : Int) (to_ : Int) (x : Int) : Option (Int ⊕ (Unit ⊕ Int)) :=
  bif (decide (x < 2)) then
    (idx? x 2).bind fun q =>
    ([from_, to_])[q]?.bind fun x1 =>
    bif (decide (x1 < 0)) then
      some (.inr (.inr 2))
    else
      none
  else
    some (.inr (.inl ()))
def net_Net_Send_n0_l0_it (fu : Nat) (from_ : Int) (to_ : Int) (tt : Int) : Option (Unit ⊕ Int) :=
  iter fu (fun tt => net_Net_Send_n0_l0 fu from_ to_ tt) tt
def net_Net_Send_n0 (fu : Nat) (from_ : Int) (to_ : Int) (b : List (UInt8)) : Option (Int) :=
  (net_Net_made_n0 fu).bind fun r =>
  bif (!r) then
    some 1
  else
    (net_Net_Send_n0_l0_it fu from_ to_ 0).bind fun o =>
    match o with
    | .inl s =>
      bif (decide (((b.length : Nat) : Int) > 131072)) then
        some 3
      else
        (net_Net_lay_n0 fu (from_, (to_, b))).bind fun r1 =>
        Empty.elim r1
    | .inr o1 =>
      some o1
def net_Net_Send_n0_fa : FnA := ⟨.two (.leaf) (.two (.two (.reg [(1, {  })]) (.two (.leaf) (.leaf))) (.two (.two (.leaf) (.one (.loop ⟨[17], ⟨(.cons (.p (.int .i64)) .nil), []⟩⟩ true [(0, ⟨[], ⟨.nil, []⟩⟩)] (.two (.leaf) (.two (.leaf) (.two (.one (.two (.leaf) (.two (.leaf) (.two (.leaf) (.leaf))))) (.leaf))))))) (.two (.two (.leaf) (.two (.leaf) (.leaf))) (.two (.reg [(5, { fn := 1 })]) (.leaf))))), ⟨(.cons (.nilp (.pointer none)) (.cons (.p (.int .i64)) (.cons (.p (.int .i64)) (.cons (.p (.sl .byte)) .nil)))), []⟩, [⟨(.cons (.p (.int .i64)) .nil), []⟩], [0]⟩
def net_Net_Send_n0_ft (fu : Nat) : FnT := ⟨12, ⟨(.cons (.nilp (.pointer none)) (.cons (.p (.int .i64)) (.cons (.p (.int .i64)) (.cons (.p (.sl .byte)) .nil)))), []⟩, [⟨(.cons (.p (.int .i64)) .nil), []⟩], fun t => net_Net_Send_n0 fu t.1 t.2.1 t.2.2⟩
theorem net_Net_Send_n0_eq (fu : Nat) : ∀ t, evF Go.Proofs.Try.prog [net_Net_made_n0_ft fu, net_Net_lay_n0_ft fu] fu Go.Proofs.Try.f12 net_Net_Send_n0_fa t = (net_Net_Send_n0_ft fu).spec t := fun t => by kernel_rfl
theorem net_Net_Send_n0_told (fu : Nat) : Told Go.Proofs.Try.prog (net_Net_Send_n0_ft fu) := told_of (allT_cons (net_Net_made_n0_told fu) (allT_cons (net_Net_lay_n0_told fu) allT_nil)) mixed Go.Proofs.Try.func12 (by kernel_rfl) (by kernel_rfl) (net_Net_Send_n0_eq fu)

def net_Net_Flying_n0 (fu : Nat)  : Option (Int) :=
  (net_Net_made_n0 fu).bind fun r =>
  bif (!r) then
    some 0
  else
    none
def net_Net_Flying_n0_fa : FnA := ⟨.two (.leaf) (.two (.two (.reg [(1, {  })]) (.two (.leaf) (.leaf))) (.leaf)), ⟨(.cons (.nilp (.pointer none)) .nil), []⟩, [⟨(.cons (.p (.int .i64)) .nil), []⟩], [0]⟩
def net_Net_Flying_n0_ft (fu : Nat) : FnT := ⟨14, ⟨(.cons (.nilp (.pointer none)) .nil), []⟩, [⟨(.cons (.p (.int .i64)) .nil), []⟩], fun t => net_Net_Flying_n0 fu ⟩
theorem net_Net_Flying_n0_eq (fu : Nat) : ∀ t, evF Go.Proofs.Try.prog [net_Net_made_n0_ft fu] fu Go.Proofs.Try.f14 net_Net_Flying_n0_fa t = (net_Net_Flying_n0_ft fu).spec t := fun t => by kernel_rfl
theorem net_Net_Flying_n0_told (fu : Nat) : Told Go.Proofs.Try.prog (net_Net_Flying_n0_ft fu) := told_of (allT_cons (net_Net_made_n0_told fu) allT_nil) mixed Go.Proofs.Try.func14 (by kernel_rfl) (by kernel_rfl) (net_Net_Flying_n0_eq fu)

def net_Net_there_n0 (fu : Nat) (i : Int) : Option (Bool) :=
  (net_Net_made_n0 fu).bind fun r =>
  bif r then
    none
  else
    some false
def net_Net_there_n0_fa : FnA := ⟨.two (.leaf) (.two (.reg [(1, {  })]) (.leaf)), ⟨(.cons (.nilp (.pointer none)) (.cons (.p (.int .i64)) .nil)), []⟩, [⟨(.cons (.p .bool) .nil), []⟩], [0]⟩
def net_Net_there_n0_ft (fu : Nat) : FnT := ⟨41, ⟨(.cons (.nilp (.pointer none)) (.cons (.p (.int .i64)) .nil)), []⟩, [⟨(.cons (.p .bool) .nil), []⟩], fun t => net_Net_there_n0 fu t⟩
theorem net_Net_there_n0_eq (fu : Nat) : ∀ t, evF Go.Proofs.Try.prog [net_Net_made_n0_ft fu] fu Go.Proofs.Try.f41 net_Net_there_n0_fa t = (net_Net_there_n0_ft fu).spec t := fun t => by kernel_rfl
theorem net_Net_there_n0_told (fu : Nat) : Told Go.Proofs.Try.prog (net_Net_there_n0_ft fu) := told_of (allT_cons (net_Net_made_n0_told fu) allT_nil) mixed Go.Proofs.Try.func41 (by kernel_rfl) (by kernel_rfl) (net_Net_there_n0_eq fu)

def net_Net_Copy_n0 (fu : Nat) (i : Int) : Option (Int) :=
  (net_Net_made_n0 fu).bind fun r =>
  bif (!r) then
    some 1
  else
    (net_Net_there_n0 fu i).bind fun r1 =>
    bif (!r1) then
      some 2
    else
      none
def net_Net_Copy_n0_fa : FnA := ⟨.two (.leaf) (.two (.one (.two (.reg [(1, {  })]) (.two (.leaf) (.two (.reg [(2, { fn := 1 })]) (.two (.leaf) (.leaf)))))) (.leaf)), ⟨(.cons (.nilp (.pointer none)) (.cons (.p (.int .i64)) .nil)), []⟩, [⟨(.cons (.p (.int .i64)) .nil), []⟩], [0]⟩
def net_Net_Copy_n0_ft (fu : Nat) : FnT := ⟨15, ⟨(.cons (.nilp (.pointer none)) (.cons (.p (.int .i64)) .nil)), []⟩, [⟨(.cons (.p (.int .i64)) .nil), []⟩], fun t => net_Net_Copy_n0 fu t⟩
theorem net_Net_Copy_n0_eq (fu : Nat) : ∀ t, evF Go.Proofs.Try.prog [net_Net_made_n0_ft fu, net_Net_there_n0_ft fu] fu Go.Proofs.Try.f15 net_Net_Copy_n0_fa t = (net_Net_Copy_n0_ft fu).spec t := fun t => by kernel_rfl
theorem net_Net_Copy_n0_told (fu : Nat) : Told Go.Proofs.Try.prog (net_Net_Copy_n0_ft fu) := told_of (allT_cons (net_Net_made_n0_told fu) (allT_cons (net_Net_there_n0_told fu) allT_nil)) mixed Go.Proofs.Try.func15 (by kernel_rfl) (by kernel_rfl) (net_Net_Copy_n0_eq fu)

def net_Net_Look_n0 (fu : Nat) (i : Int) : Option ((Int × (Int × Bool))) :=
  (net_Net_there_n0 fu i).bind fun r =>
  bif (!r) then
    some (0, (0, false))
  else
    none
def net_Net_Look_n0_fa : FnA := ⟨.two (.reg [(0, { ids := [100] })]) (.two (.two (.reg [(2, {  })]) (.two (.leaf) (.leaf))) (.leaf)), ⟨(.cons (.nilp (.pointer none)) (.cons (.p (.int .i64)) .nil)), []⟩, [⟨(.cons (.agg (.cons (.p (.int .i64)) (.cons (.p (.int .i64)) (.cons (.nilp (.slice none 0 0)) .nil)))) (.cons (.p .bool) .nil)), []⟩], [0, 0]⟩
def net_Net_Look_n0_ft (fu : Nat) : FnT := ⟨17, ⟨(.cons (.nilp (.pointer none)) (.cons (.p (.int .i64)) .nil)), []⟩, [⟨(.cons (.agg (.cons (.p (.int .i64)) (.cons (.p (.int .i64)) (.cons (.nilp (.slice none 0 0)) .nil)))) (.cons (.p .bool) .nil)), []⟩], fun t => net_Net_Look_n0 fu t⟩
theorem net_Net_Look_n0_eq (fu : Nat) : ∀ t, evF Go.Proofs.Try.prog [net_Net_there_n0_ft fu] fu Go.Proofs.Try.f17 net_Net_Look_n0_fa t = (net_Net_Look_n0_ft fu).spec t := fun t => by kernel_rfl
theorem net_Net_Look_n0_told (fu : Nat) : Told Go.Proofs.Try.prog (net_Net_Look_n0_ft fu) := told_of (allT_cons (net_Net_there_n0_told fu) allT_nil) mixed Go.Proofs.Try.func17 (by kernel_rfl) (by kernel_rfl) (net_Net_Look_n0_eq fu)

def law07_like (fu : Nat) (a : (Int × (Int × List (UInt8)))) (b : (Int × (Int × List (UInt8)))) : Option (Bool) :=
  bif (a.1 == b.1) then
    bif (a.2.1 == b.2.1) then
      some (a.2.2 == b.2.2)
    else
      some false
  else
    some false
def law07_like_fa : FnA := ⟨.two (.reg [(0, { ids := [100] }), (1, { ids := [101] })]) (.leaf), ⟨(.cons (.p (.pair (.int .i64) (.pair (.int .i64) (.sl .byte)))) (.cons (.p (.pair (.int .i64) (.pair (.int .i64) (.sl .byte)))) .nil)), []⟩, [⟨(.cons (.p .bool) .nil), []⟩], [0]⟩
def law07_like_ft (fu : Nat) : FnT := ⟨27, ⟨(.cons (.p (.pair (.int .i64) (.pair (.int .i64) (.sl .byte)))) (.cons (.p (.pair (.int .i64) (.pair (.int .i64) (.sl .byte)))) .nil)), []⟩, [⟨(.cons (.p .bool) .nil), []⟩], fun t => law07_like fu t.1 t.2⟩
theorem law07_like_eq (fu : Nat) : ∀ t, evF Go.Proofs.Try.prog [] fu Go.Proofs.Try.f27 law07_like_fa t = (law07_like_ft fu).spec t := fun t => by kernel_rfl
theorem law07_like_told (fu : Nat) : Told Go.Proofs.Try.prog (law07_like_ft fu) := told_of allT_nil mixed Go.Proofs.Try.func27 (by kernel_rfl) (by kernel_rfl) (law07_like_eq fu)

def law07_is_n0 (fu : Nat) (i : Int) (from_ : Int) (to_ : Int) (b : List UInt8) : Option (Bool) :=
  (net_Net_Look_n0 fu i).bind fun r =>
  bif r.2.2 then
    need (Nat.ble b.length room) <|
    (law07_like fu (r.1, (r.2.1, [])) (from_, (to_, b))).bind fun r1 =>
    some r1
  else
    some false
def law07_is_n0_fa : FnA := ⟨.two (.leaf) (.two (.reg [(2, {  }), (6, { ids := [100] })]) (.two (.reg [(6, { ids := [101] }), (8, { md := [0, 2], fn := 1 })]) (.leaf))), ⟨(.cons (.nilp (.pointer none)) (.cons (.p (.int .i64)) (.cons (.p (.int .i64)) (.cons (.p (.int .i64)) (.cons (.p .str) .nil))))), []⟩, [⟨(.cons (.p .bool) .nil), []⟩], [0]⟩
def law07_is_n0_ft (fu : Nat) : FnT := ⟨46, ⟨(.cons (.nilp (.pointer none)) (.cons (.p (.int .i64)) (.cons (.p (.int .i64)) (.cons (.p (.int .i64)) (.cons (.p .str) .nil))))), []⟩, [⟨(.cons (.p .bool) .nil), []⟩], fun t => law07_is_n0 fu t.1 t.2.1 t.2.2.1 t.2.2.2⟩
theorem law07_is_n0_eq (fu : Nat) : ∀ t, evF Go.Proofs.Try.prog [net_Net_Look_n0_ft fu, law07_like_ft fu] fu Go.Proofs.Try.f46 law07_is_n0_fa t = (law07_is_n0_ft fu).spec t := fun t => by kernel_rfl
theorem law07_is_n0_told (fu : Nat) : Told Go.Proofs.Try.prog (law07_is_n0_ft fu) := told_of (allT_cons (net_Net_Look_n0_told fu) (allT_cons (law07_like_told fu) allT_nil)) mixed Go.Proofs.Try.func46 (by kernel_rfl) (by kernel_rfl) (law07_is_n0_eq fu)

def net_Net_Waiting_n0 (fu : Nat) (to_ : Int) : Option (Int) :=
  (net_Net_made_n0 fu).bind fun r =>
  bif (!r) then
    some 0
  else
    none
def net_Net_Waiting_n0_fa : FnA := ⟨.two (.leaf) (.two (.two (.reg [(1, {  })]) (.two (.leaf) (.leaf))) (.leaf)), ⟨(.cons (.nilp (.pointer none)) (.cons (.p (.int .i64)) .nil)), []⟩, [⟨(.cons (.p (.int .i64)) .nil), []⟩], [0]⟩
def net_Net_Waiting_n0_ft (fu : Nat) : FnT := ⟨18, ⟨(.cons (.nilp (.pointer none)) (.cons (.p (.int .i64)) .nil)), []⟩, [⟨(.cons (.p (.int .i64)) .nil), []⟩], fun t => net_Net_Waiting_n0 fu t⟩
theorem net_Net_Waiting_n0_eq (fu : Nat) : ∀ t, evF Go.Proofs.Try.prog [net_Net_made_n0_ft fu] fu Go.Proofs.Try.f18 net_Net_Waiting_n0_fa t = (net_Net_Waiting_n0_ft fu).spec t := fun t => by kernel_rfl
theorem net_Net_Waiting_n0_told (fu : Nat) : Told Go.Proofs.Try.prog (net_Net_Waiting_n0_ft fu) := told_of (allT_cons (net_Net_made_n0_told fu) allT_nil) mixed Go.Proofs.Try.func18 (by kernel_rfl) (by kernel_rfl) (net_Net_Waiting_n0_eq fu)

def net_Net_Drop_n0 (fu : Nat) (i : Int) : Option (Bool) :=
  (net_Net_there_n0 fu i).bind fun r =>
  bif (!r) then
    some false
  else
    none
def net_Net_Drop_n0_fa : FnA := ⟨.two (.leaf) (.two (.two (.reg [(2, {  })]) (.two (.leaf) (.leaf))) (.leaf)), ⟨(.cons (.nilp (.pointer none)) (.cons (.p (.int .i64)) .nil)), []⟩, [⟨(.cons (.p .bool) .nil), []⟩], [0]⟩
def net_Net_Drop_n0_ft (fu : Nat) : FnT := ⟨13, ⟨(.cons (.nilp (.pointer none)) (.cons (.p (.int .i64)) .nil)), []⟩, [⟨(.cons (.p .bool) .nil), []⟩], fun t => net_Net_Drop_n0 fu t⟩
theorem net_Net_Drop_n0_eq (fu : Nat) : ∀ t, evF Go.Proofs.Try.prog [net_Net_there_n0_ft fu] fu Go.Proofs.Try.f13 net_Net_Drop_n0_fa t = (net_Net_Drop_n0_ft fu).spec t := fun t => by kernel_rfl
theorem net_Net_Drop_n0_told (fu : Nat) : Told Go.Proofs.Try.prog (net_Net_Drop_n0_ft fu) := told_of (allT_cons (net_Net_there_n0_told fu) allT_nil) mixed Go.Proofs.Try.func13 (by kernel_rfl) (by kernel_rfl) (net_Net_Drop_n0_eq fu)

def net_Net_Take_n0 (fu : Nat) (i : Int) : Option ((Int × (Int × Bool))) :=
  (net_Net_Look_n0 fu i).bind fun r =>
  bif r.2.2 then
    (net_Net_Drop_n0 fu i).bind fun r1 =>
    some (r.1, (r.2.1, r1))
  else
    some (r.1, (r.2.1, false))
def net_Net_Take_n0_fa : FnA := ⟨.two (.reg [(0, { ids := [100] })]) (.two (.reg [(2, {  }), (6, { ids := [101] })]) (.two (.reg [(5, { fn := 1 })]) (.leaf))), ⟨(.cons (.nilp (.pointer none)) (.cons (.p (.int .i64)) .nil)), []⟩, [⟨(.cons (.agg (.cons (.p (.int .i64)) (.cons (.p (.int .i64)) (.cons (.nilp (.slice none 0 0)) .nil)))) (.cons (.p .bool) .nil)), []⟩], [0, 0]⟩
def net_Net_Take_n0_ft (fu : Nat) : FnT := ⟨16, ⟨(.cons (.nilp (.pointer none)) (.cons (.p (.int .i64)) .nil)), []⟩, [⟨(.cons (.agg (.cons (.p (.int .i64)) (.cons (.p (.int .i64)) (.cons (.nilp (.slice none 0 0)) .nil)))) (.cons (.p .bool) .nil)), []⟩], fun t => net_Net_Take_n0 fu t⟩
theorem net_Net_Take_n0_eq (fu : Nat) : ∀ t, evF Go.Proofs.Try.prog [net_Net_Look_n0_ft fu, net_Net_Drop_n0_ft fu] fu Go.Proofs.Try.f16 net_Net_Take_n0_fa t = (net_Net_Take_n0_ft fu).spec t := fun t => by kernel_rfl
theorem net_Net_Take_n0_told (fu : Nat) : Told Go.Proofs.Try.prog (net_Net_Take_n0_ft fu) := told_of (allT_cons (net_Net_Look_n0_told fu) (allT_cons (net_Net_Drop_n0_told fu) allT_nil)) mixed Go.Proofs.Try.func16 (by kernel_rfl) (by kernel_rfl) (net_Net_Take_n0_eq fu)

def net_Net_Forget_n0 (fu : Nat) (to_ : Int) : Option (Int) :=
  (net_Net_Waiting_n0 fu to_).bind fun r =>
  bif (decide (r > 0)) then
    none
  else
    some r
def net_Net_Forget_n0_fa : FnA := ⟨.two (.reg [(0, { ids := [100] })]) (.two (.reg [(2, {  })]) (.two (.two (.leaf) (.two (.leaf) (.leaf))) (.leaf))), ⟨(.cons (.nilp (.pointer none)) (.cons (.p (.int .i64)) .nil)), []⟩, [⟨(.cons (.p (.int .i64)) .nil), []⟩], [0]⟩
def net_Net_Forget_n0_ft (fu : Nat) : FnT := ⟨19, ⟨(.cons (.nilp (.pointer none)) (.cons (.p (.int .i64)) .nil)), []⟩, [⟨(.cons (.p (.int .i64)) .nil), []⟩], fun t => net_Net_Forget_n0 fu t⟩
theorem net_Net_Forget_n0_eq (fu : Nat) : ∀ t, evF Go.Proofs.Try.prog [net_Net_Waiting_n0_ft fu] fu Go.Proofs.Try.f19 net_Net_Forget_n0_fa t = (net_Net_Forget_n0_ft fu).spec t := fun t => by kernel_rfl
theorem net_Net_Forget_n0_told (fu : Nat) : Told Go.Proofs.Try.prog (net_Net_Forget_n0_ft fu) := told_of (allT_cons (net_Net_Waiting_n0_told fu) allT_nil) mixed Go.Proofs.Try.func19 (by kernel_rfl) (by kernel_rfl) (net_Net_Forget_n0_eq fu)

def slices_Clone__byte_byte (fu : Nat) (s : List (UInt8)) : Option (List (UInt8)) :=
  nilQ s.length fun isNil =>
  bif isNil then
    some []
  else
    need ((Nat.ble ((0 + s.length) * 1) room) && (Nat.ble (0 + s.length) room)) <|
    some s
def slices_Clone__byte_byte_fa : FnA := ⟨.two (.leaf) (.two (.two (.leaf) (.two (.leaf) (.leaf))) (.two (.reg [(0, { ids := [100] }), (2, { ids := [101] })]) (.leaf))), ⟨(.cons (.p (.sl .byte)) .nil), []⟩, [⟨(.cons (.slf 1 0) .nil), [(0, false, (.rows 5 .byte))]⟩], [15]⟩
def slices_Clone__byte_byte_ft (fu : Nat) : FnT := ⟨43, ⟨(.cons (.p (.sl .byte)) .nil), []⟩, [⟨(.cons (.slf 1 0) .nil), [(0, false, (.rows 5 .byte))]⟩], fun t => slices_Clone__byte_byte fu t⟩
theorem slices_Clone__byte_byte_eq (fu : Nat) : ∀ t, evF Go.Proofs.Try.prog [] fu Go.Proofs.Try.f43 slices_Clone__byte_byte_fa t = (slices_Clone__byte_byte_ft fu).spec t := fun t => by kernel_rfl
theorem slices_Clone__byte_byte_told (fu : Nat) : Told Go.Proofs.Try.prog (slices_Clone__byte_byte_ft fu) := told_of allT_nil mixed Go.Proofs.Try.func43 (by kernel_rfl) (by kernel_rfl) (slices_Clone__byte_byte_eq fu)

def net_Net_made__com (fu : Nat) (h : Int) (h1 : Int) (h2 : List ((Int × (Int × List (UInt8))))) (h3 : (List (((Int × Int) × Nat)) × Nat)) : Option ((Bool × (Int × (Int × (List ((Int × (Int × List (UInt8)))) × (List (((Int × Int) × Nat)) × Nat)))))) :=
  some (true, (h, (h1, (h2, h3))))
def net_Net_made__com_fa : FnA := ⟨.two (.leaf) (.leaf), ⟨(.cons (.own 0 0 0 0) .nil), [(0, false, (.vars (.cons (.p (.int .i64)) (.cons (.p (.int .i64)) (.cons (.slf 3 1) (.cons (.mp 2) .nil)))))), (1, false, (.rows 34 (.pair (.int .i64) (.pair (.int .i64) (.sl .byte))))), (2, false, (.map (.int .i64) (.int .i64)))]⟩, [⟨(.cons (.p .bool) .nil), [(0, false, (.vars (.cons (.p (.int .i64)) (.cons (.p (.int .i64)) (.cons (.slf 3 1) (.cons (.mp 2) .nil)))))), (1, false, (.rows 34 (.pair (.int .i64) (.pair (.int .i64) (.sl .byte))))), (2, false, (.map (.int .i64) (.int .i64)))]⟩], [0]⟩
def net_Net_made__com_ft (fu : Nat) : FnT := ⟨39, ⟨(.cons (.own 0 0 0 0) .nil), [(0, false, (.vars (.cons (.p (.int .i64)) (.cons (.p (.int .i64)) (.cons (.slf 3 1) (.cons (.mp 2) .nil)))))), (1, false, (.rows 34 (.pair (.int .i64) (.pair (.int .i64) (.sl .byte))))), (2, false, (.map (.int .i64) (.int .i64)))]⟩, [⟨(.cons (.p .bool) .nil), [(0, false, (.vars (.cons (.p (.int .i64)) (.cons (.p (.int .i64)) (.cons (.slf 3 1) (.cons (.mp 2) .nil)))))), (1, false, (.rows 34 (.pair (.int .i64) (.pair (.int .i64) (.sl .byte))))), (2, false, (.map (.int .i64) (.int .i64)))]⟩], fun t => net_Net_made__com fu t.1 t.2.1 t.2.2.1 t.2.2.2⟩
theorem net_Net_made__com_eq (fu : Nat) : ∀ t, evF Go.Proofs.Try.prog [] fu Go.Proofs.Try.f39 net_Net_made__com_fa t = (net_Net_made__com_ft fu).spec t := fun t => by kernel_rfl
theorem net_Net_made__com_told (fu : Nat) : Told Go.Proofs.Try.prog (net_Net_made__com_ft fu) := told_of allT_nil mixed Go.Proofs.Try.func39 (by kernel_rfl) (by kernel_rfl) (net_Net_made__com_eq fu)

def net_Net_Flying__com (fu : Nat) (h : Int) (h1 : Int) (h2 : List ((Int × (Int × List (UInt8))))) (h3 : (List (((Int × Int) × Nat)) × Nat)) : Option ((Int × (Int × (Int × (List ((Int × (Int × List (UInt8)))) × (List (((Int × Int) × Nat)) × Nat)))))) :=
  (net_Net_made__com fu h h1 h2 h3).bind fun r =>
  bif (!r.1) then
    some (0, (r.2.1, (r.2.2.1, (r.2.2.2.1, r.2.2.2.2))))
  else
    some (((r.2.2.2.1.length : Nat) : Int), (r.2.1, (r.2.2.1, (r.2.2.2.1, r.2.2.2.2))))
def net_Net_Flying__com_fa : FnA := ⟨.two (.leaf) (.two (.two (.reg [(1, { sh := [0, 1, 2] })]) (.two (.leaf) (.leaf))) (.leaf)), ⟨(.cons (.own 0 0 0 0) .nil), [(0, false, (.vars (.cons (.p (.int .i64)) (.cons (.p (.int .i64)) (.cons (.slf 3 1) (.cons (.mp 2) .nil)))))), (1, false, (.rows 34 (.pair (.int .i64) (.pair (.int .i64) (.sl .byte))))), (2, false, (.map (.int .i64) (.int .i64)))]⟩, [⟨(.cons (.p (.int .i64)) .nil), [(0, false, (.vars (.cons (.p (.int .i64)) (.cons (.p (.int .i64)) (.cons (.slf 3 1) (.cons (.mp 2) .nil)))))), (1, false, (.rows 34 (.pair (.int .i64) (.pair (.int .i64) (.sl .byte))))), (2, false, (.map (.int .i64) (.int .i64)))]⟩], [0]⟩
def net_Net_Flying__com_ft (fu : Nat) : FnT := ⟨14, ⟨(.cons (.own 0 0 0 0) .nil), [(0, false, (.vars (.cons (.p (.int .i64)) (.cons (.p (.int .i64)) (.cons (.slf 3 1) (.cons (.mp 2) .nil)))))), (1, false, (.rows 34 (.pair (.int .i64) (.pair (.int .i64) (.sl .byte))))), (2, false, (.map (.int .i64) (.int .i64)))]⟩, [⟨(.cons (.p (.int .i64)) .nil), [(0, false, (.vars (.cons (.p (.int .i64)) (.cons (.p (.int .i64)) (.cons (.slf 3 1) (.cons (.mp 2) .nil)))))), (1, false, (.rows 34 (.pair (.int .i64) (.pair (.int .i64) (.sl .byte))))), (2, false, (.map (.int .i64) (.int .i64)))]⟩], fun t => net_Net_Flying__com fu t.1 t.2.1 t.2.2.1 t.2.2.2⟩
theorem net_Net_Flying__com_eq (fu : Nat) : ∀ t, evF Go.Proofs.Try.prog [net_Net_made__com_ft fu] fu Go.Proofs.Try.f14 net_Net_Flying__com_fa t = (net_Net_Flying__com_ft fu).spec t := fun t => by kernel_rfl
theorem net_Net_Flying__com_told (fu : Nat) : Told Go.Proofs.Try.prog (net_Net_Flying__com_ft fu) := told_of (allT_cons (net_Net_made__com_told fu) allT_nil) mixed Go.Proofs.Try.func14 (by kernel_rfl) (by kernel_rfl) (net_Net_Flying__com_eq fu)

def net_Net_there__com (fu : Nat) (i : Int) (h : Int) (h1 : Int) (h2 : List ((Int × (Int × List (UInt8))))) (h3 : (List (((Int × Int) × Nat)) × Nat)) : Option ((Bool × (Int × (Int × (List ((Int × (Int × List (UInt8)))) × (List (((Int × Int) × Nat)) × Nat)))))) :=
  (net_Net_made__com fu h h1 h2 h3).bind fun r =>
  bif r.1 then
    some ((decide ((IntKind.wrap .u64 i) < (IntKind.wrap .u64 ((r.2.2.2.1.length : Nat) : Int)))), (r.2.1, (r.2.2.1, (r.2.2.2.1, r.2.2.2.2))))
  else
    some (false, (r.2.1, (r.2.2.1, (r.2.2.2.1, r.2.2.2.2))))
def net_Net_there__com_fa : FnA := ⟨.two (.leaf) (.two (.reg [(1, { sh := [0, 1, 2] })]) (.leaf)), ⟨(.cons (.own 0 0 0 0) (.cons (.p (.int .i64)) .nil)), [(0, false, (.vars (.cons (.p (.int .i64)) (.cons (.p (.int .i64)) (.cons (.slf 3 1) (.cons (.mp 2) .nil)))))), (1, false, (.rows 34 (.pair (.int .i64) (.pair (.int .i64) (.sl .byte))))), (2, false, (.map (.int .i64) (.int .i64)))]⟩, [⟨(.cons (.p .bool) .nil), [(0, false, (.vars (.cons (.p (.int .i64)) (.cons (.p (.int .i64)) (.cons (.slf 3 1) (.cons (.mp 2) .nil)))))), (1, false, (.rows 34 (.pair (.int .i64) (.pair (.int .i64) (.sl .byte))))), (2, false, (.map (.int .i64) (.int .i64)))]⟩], [0]⟩
def net_Net_there__com_ft (fu : Nat) : FnT := ⟨41, ⟨(.cons (.own 0 0 0 0) (.cons (.p (.int .i64)) .nil)), [(0, false, (.vars (.cons (.p (.int .i64)) (.cons (.p (.int .i64)) (.cons (.slf 3 1) (.cons (.mp 2) .nil)))))), (1, false, (.rows 34 (.pair (.int .i64) (.pair (.int .i64) (.sl .byte))))), (2, false, (.map (.int .i64) (.int .i64)))]⟩, [⟨(.cons (.p .bool) .nil), [(0, false, (.vars (.cons (.p (.int .i64)) (.cons (.p (.int .i64)) (.cons (.slf 3 1) (.cons (.mp 2) .nil)))))), (1, false, (.rows 34 (.pair (.int .i64) (.pair (.int .i64) (.sl .byte))))), (2, false, (.map (.int .i64) (.int .i64)))]⟩], fun t => net_Net_there__com fu t.1 t.2.1 t.2.2.1 t.2.2.2.1 t.2.2.2.2⟩
theorem net_Net_there__com_eq (fu : Nat) : ∀ t, evF Go.Proofs.Try.prog [net_Net_made__com_ft fu] fu Go.Proofs.Try.f41 net_Net_there__com_fa t = (net_Net_there__com_ft fu).spec t := fun t => by kernel_rfl
theorem net_Net_there__com_told (fu : Nat) : Told Go.Proofs.Try.prog (net_Net_there__com_ft fu) := told_of (allT_cons (net_Net_made__com_told fu) allT_nil) mixed Go.Proofs.Try.func41 (by kernel_rfl) (by kernel_rfl) (net_Net_there__com_eq fu)

def net_Net_full__com (fu : Nat) (to_ : Int) (h : Int) (h1 : Int) (h2 : List ((Int × (Int × List (UInt8))))) (h3 : (List (((Int × Int) × Nat)) × Nat)) : Option ((Bool × (Int × (Int × (List ((Int × (Int × List (UInt8)))) × (List (((Int × Int) × Nat)) × Nat)))))) :=
  bif ((Option.getD (mget (k := (.int .i64)) (v := (.int .i64)) h3 to_) 0) == h1) then
    some (true, (h, (h1, (h2, h3))))
  else
    some ((((h2.length : Nat) : Int) == 10000), (h, (h1, (h2, h3))))
def net_Net_full__com_fa : FnA := ⟨.two (.leaf) (.leaf), ⟨(.cons (.own 0 0 0 0) (.cons (.p (.int .i64)) .nil)), [(0, false, (.vars (.cons (.p (.int .i64)) (.cons (.p (.int .i64)) (.cons (.slf 3 1) (.cons (.mp 2) .nil)))))), (1, false, (.rows 34 (.pair (.int .i64) (.pair (.int .i64) (.sl .byte))))), (2, false, (.map (.int .i64) (.int .i64)))]⟩, [⟨(.cons (.p .bool) .nil), [(0, false, (.vars (.cons (.p (.int .i64)) (.cons (.p (.int .i64)) (.cons (.slf 3 1) (.cons (.mp 2) .nil)))))), (1, false, (.rows 34 (.pair (.int .i64) (.pair (.int .i64) (.sl .byte))))), (2, false, (.map (.int .i64) (.int .i64)))]⟩], [0]⟩
def net_Net_full__com_ft (fu : Nat) : FnT := ⟨50, ⟨(.cons (.own 0 0 0 0) (.cons (.p (.int .i64)) .nil)), [(0, false, (.vars (.cons (.p (.int .i64)) (.cons (.p (.int .i64)) (.cons (.slf 3 1) (.cons (.mp 2) .nil)))))), (1, false, (.rows 34 (.pair (.int .i64) (.pair (.int .i64) (.sl .byte))))), (2, false, (.map (.int .i64) (.int .i64)))]⟩, [⟨(.cons (.p .bool) .nil), [(0, false, (.vars (.cons (.p (.int .i64)) (.cons (.p (.int .i64)) (.cons (.slf 3 1) (.cons (.mp 2) .nil)))))), (1, false, (.rows 34 (.pair (.int .i64) (.pair (.int .i64) (.sl .byte))))), (2, false, (.map (.int .i64) (.int .i64)))]⟩], fun t => net_Net_full__com fu t.1 t.2.1 t.2.2.1 t.2.2.2.1 t.2.2.2.2⟩
theorem net_Net_full__com_eq (fu : Nat) : ∀ t, evF Go.Proofs.Try.prog [] fu Go.Proofs.Try.f50 net_Net_full__com_fa t = (net_Net_full__com_ft fu).spec t := fun t => by kernel_rfl
theorem net_Net_full__com_told (fu : Nat) : Told Go.Proofs.Try.prog (net_Net_full__com_ft fu) := told_of allT_nil mixed Go.Proofs.Try.func50 (by kernel_rfl) (by kernel_rfl) (net_Net_full__com_eq fu)

def net_Net_lay__com (fu : Nat) (d : (Int × (Int × List (UInt8)))) (h : Int) (h1 : Int) (h2 : List ((Int × (Int × List (UInt8))))) (h3 : (List (((Int × Int) × Nat)) × Nat)) : Option ((Int × (Int × (Int × (List ((Int × (Int × List (UInt8)))) × (List (((Int × Int) × Nat)) × Nat))))) ⊕ (Int × (Int × (Int × ((List (((Int × Int) × Nat)) × Nat) × List ((Int × (Int × List (UInt8))))))))) :=
  (net_Net_full__com fu d.2.1 h h1 h2 h3).bind fun r =>
  bif r.1 then
    some (.inl (5, (r.2.1, (r.2.2.1, (r.2.2.2.1, r.2.2.2.2)))))
  else
    (slices_Clone__byte_byte fu d.2.2).bind fun r1 =>
    need ((Nat.ble ((r.2.2.2.1.length + 1) * 40) room) && (Nat.ble (r.2.2.2.1.length + 1) room)) <|
    some (.inr (0, (r.2.1, (r.2.2.1, ((mput (k := (.int .i64)) (v := (.int .i64)) r.2.2.2.2 d.2.1 (IntKind.wrap .i64 ((Option.getD (mget (k := (.int .i64)) (v := (.int .i64)) r.2.2.2.2 d.2.1) 0) + 1))), (r.2.2.2.1 ++ [(d.1, (d.2.1, r1))]))))))
def net_Net_lay__com_fa : FnA := ⟨.two (.reg [(0, { ids := [100] })]) (.two (.two (.reg [(3, { sh := [0, 1, 2] })]) (.two (.leaf) (.leaf))) (.two (.reg [(2, { ids := [101], fn := 1 })]) (.two (.reg [(6, { ids := [102] }), (7, { ids := [103] })]) (.two (.leaf) (.leaf))))), ⟨(.cons (.own 0 0 0 0) (.cons (.p (.pair (.int .i64) (.pair (.int .i64) (.sl .byte)))) .nil)), [(0, false, (.vars (.cons (.p (.int .i64)) (.cons (.p (.int .i64)) (.cons (.slf 3 1) (.cons (.mp 2) .nil)))))), (1, false, (.rows 34 (.pair (.int .i64) (.pair (.int .i64) (.sl .byte))))), (2, false, (.map (.int .i64) (.int .i64)))]⟩, [⟨(.cons (.p (.int .i64)) .nil), [(0, false, (.vars (.cons (.p (.int .i64)) (.cons (.p (.int .i64)) (.cons (.slf 3 1) (.cons (.mp 2) .nil)))))), (1, false, (.rows 34 (.pair (.int .i64) (.pair (.int .i64) (.sl .byte))))), (2, false, (.map (.int .i64) (.int .i64)))]⟩, ⟨(.cons (.p (.int .i64)) .nil), [(0, false, (.vars (.cons (.p (.int .i64)) (.cons (.p (.int .i64)) (.cons (.slf 3 3) (.cons (.mp 2) .nil)))))), (2, false, (.map (.int .i64) (.int .i64))), (3, false, (.rows 34 (.pair (.int .i64) (.pair (.int .i64) (.sl .byte)))))]⟩], [0]⟩
def net_Net_lay__com_ft (fu : Nat) : FnT := ⟨40, ⟨(.cons (.own 0 0 0 0) (.cons (.p (.pair (.int .i64) (.pair (.int .i64) (.sl .byte)))) .nil)), [(0, false, (.vars (.cons (.p (.int .i64)) (.cons (.p (.int .i64)) (.cons (.slf 3 1) (.cons (.mp 2) .nil)))))), (1, false, (.rows 34 (.pair (.int .i64) (.pair (.int .i64) (.sl .byte))))), (2, false, (.map (.int .i64) (.int .i64)))]⟩, [⟨(.cons (.p (.int .i64)) .nil), [(0, false, (.vars (.cons (.p (.int .i64)) (.cons (.p (.int .i64)) (.cons (.slf 3 1) (.cons (.mp 2) .nil)))))), (1, false, (.rows 34 (.pair (.int .i64) (.pair (.int .i64) (.sl .byte))))), (2, false, (.map (.int .i64) (.int .i64)))]⟩, ⟨(.cons (.p (.int .i64)) .nil), [(0, false, (.vars (.cons (.p (.int .i64)) (.cons (.p (.int .i64)) (.cons (.slf 3 3) (.cons (.mp 2) .nil)))))), (2, false, (.map (.int .i64) (.int .i64))), (3, false, (.rows 34 (.pair (.int .i64) (.pair (.int .i64) (.sl .byte)))))]⟩], fun t => net_Net_lay__com fu t.1 t.2.1 t.2.2.1 t.2.2.2.1 t.2.2.2.2⟩
theorem net_Net_lay__com_eq (fu : Nat) : ∀ t, evF Go.Proofs.Try.prog [net_Net_full__com_ft fu, slices_Clone__byte_byte_ft fu] fu Go.Proofs.Try.f40 net_Net_lay__com_fa t = (net_Net_lay__com_ft fu).spec t := fun t => by kernel_rfl
theorem net_Net_lay__com_told (fu : Nat) : Told Go.Proofs.Try.prog (net_Net_lay__com_ft fu) := told_of (allT_cons (net_Net_full__com_told fu) (allT_cons (slices_Clone__byte_byte_told fu) allT_nil)) mixed Go.Proofs.Try.func40 (by kernel_rfl) (by kernel_rfl) (net_Net_lay__com_eq fu)

def net_Net_Copy__com (fu : Nat) (i : Int) (h : Int) (h1 : Int) (h2 : List ((Int × (Int × List (UInt8))))) (h3 : (List (((Int × Int) × Nat)) × Nat)) : Option ((Int × (Int × (Int × (List ((Int × (Int × List (UInt8)))) × (List (((Int × Int) × Nat)) × Nat))))) ⊕ (Int × (Int × (Int × ((List (((Int × Int) × Nat)) × Nat) × List ((Int × (Int × List (UInt8))))))))) :=
  (net_Net_made__com fu h h1 h2 h3).bind fun r =>
  bif (!r.1) then
    some (.inl (1, (r.2.1, (r.2.2.1, (r.2.2.2.1, r.2.2.2.2)))))
  else
    (net_Net_there__com fu i r.2.1 r.2.2.1 r.2.2.2.1 r.2.2.2.2).bind fun r1 =>
    bif (!r1.1) then
      some (.inl (2, (r1.2.1, (r1.2.2.1, (r1.2.2.2.1, r1.2.2.2.2)))))
    else
      (idx? i r1.2.2.2.1.length).bind fun q =>
      (r1.2.2.2.1)[q]?.bind fun r2 =>
      (net_Net_lay__com fu r2 r1.2.1 r1.2.2.1 r1.2.2.2.1 r1.2.2.2.2).bind fun r3 =>
      match r3 with
      | .inl r4 =>
        some (.inl (r4.1, (r4.2.1, (r4.2.2.1, (r4.2.2.2.1, r4.2.2.2.2)))))
      | .inr r5 =>
        some (.inr (r5.1, (r5.2.1, (r5.2.2.1, (r5.2.2.2.1, r5.2.2.2.2)))))
def net_Net_Copy__com_fa : FnA := ⟨.two (.leaf) (.two (.one (.two (.reg [(1, { sh := [0, 1, 2] })]) (.two (.leaf) (.two (.reg [(2, { sh := [0, 1, 2], fn := 1 })]) (.two (.leaf) (.leaf)))))) (.two (.reg [(8, { ids := [100], sh := [0, 1, 2], fn := 2 })]) (.leaf))), ⟨(.cons (.own 0 0 0 0) (.cons (.p (.int .i64)) .nil)), [(0, false, (.vars (.cons (.p (.int .i64)) (.cons (.p (.int .i64)) (.cons (.slf 3 1) (.cons (.mp 2) .nil)))))), (1, false, (.rows 34 (.pair (.int .i64) (.pair (.int .i64) (.sl .byte))))), (2, false, (.map (.int .i64) (.int .i64)))]⟩, [⟨(.cons (.p (.int .i64)) .nil), [(0, false, (.vars (.cons (.p (.int .i64)) (.cons (.p (.int .i64)) (.cons (.slf 3 1) (.cons (.mp 2) .nil)))))), (1, false, (.rows 34 (.pair (.int .i64) (.pair (.int .i64) (.sl .byte))))), (2, false, (.map (.int .i64) (.int .i64)))]⟩, ⟨(.cons (.p (.int .i64)) .nil), [(0, false, (.vars (.cons (.p (.int .i64)) (.cons (.p (.int .i64)) (.cons (.slf 3 3) (.cons (.mp 2) .nil)))))), (2, false, (.map (.int .i64) (.int .i64))), (3, false, (.rows 34 (.pair (.int .i64) (.pair (.int .i64) (.sl .byte)))))]⟩], [0]⟩
def net_Net_Copy__com_ft (fu : Nat) : FnT := ⟨15, ⟨(.cons (.own 0 0 0 0) (.cons (.p (.int .i64)) .nil)), [(0, false, (.vars (.cons (.p (.int .i64)) (.cons (.p (.int .i64)) (.cons (.slf 3 1) (.cons (.mp 2) .nil)))))), (1, false, (.rows 34 (.pair (.int .i64) (.pair (.int .i64) (.sl .byte))))), (2, false, (.map (.int .i64) (.int .i64)))]⟩, [⟨(.cons (.p (.int .i64)) .nil), [(0, false, (.vars (.cons (.p (.int .i64)) (.cons (.p (.int .i64)) (.cons (.slf 3 1) (.cons (.mp 2) .nil)))))), (1, false, (.rows 34 (.pair (.int .i64) (.pair (.int .i64) (.sl .byte))))), (2, false, (.map (.int .i64) (.int .i64)))]⟩, ⟨(.cons (.p (.int .i64)) .nil), [(0, false, (.vars (.cons (.p (.int .i64)) (.cons (.p (.int .i64)) (.cons (.slf 3 3) (.cons (.mp 2) .nil)))))), (2, false, (.map (.int .i64) (.int .i64))), (3, false, (.rows 34 (.pair (.int .i64) (.pair (.int .i64) (.sl .byte)))))]⟩], fun t => net_Net_Copy__com fu t.1 t.2.1 t.2.2.1 t.2.2.2.1 t.2.2.2.2⟩
theorem net_Net_Copy__com_eq (fu : Nat) : ∀ t, evF Go.Proofs.Try.prog [net_Net_made__com_ft fu, net_Net_there__com_ft fu, net_Net_lay__com_ft fu] fu Go.Proofs.Try.f15 net_Net_Copy__com_fa t = (net_Net_Copy__com_ft fu).spec t := fun t => by kernel_rfl
theorem net_Net_Copy__com_told (fu : Nat) : Told Go.Proofs.Try.prog (net_Net_Copy__com_ft fu) := told_of (allT_cons (net_Net_made__com_told fu) (allT_cons (net_Net_there__com_told fu) (allT_cons (net_Net_lay__com_told fu) allT_nil))) mixed Go.Proofs.Try.func15 (by kernel_rfl) (by kernel_rfl) (net_Net_Copy__com_eq fu)

def net_Net_Send__com_l0 (fu : Nat) (from_ : Int) (to_ : Int) (x : Int) (h4 : Int) (h5 : Int) (h6 : List ((Int × (Int × List (UInt8))))) (h7 : (List (((Int × Int) × Nat)) × Nat)) : Option ((Int × (Int × (Int × (List ((Int × (Int × List (UInt8)))) × (List (((Int × Int) × Nat)) × Nat))))) ⊕ ((Int × (Int × (List ((Int × (Int × List (UInt8)))) × (List (((Int × Int) × Nat)) × Nat)))) ⊕ (Int × (Int × (Int × (List ((Int × (Int × List (UInt8)))) × (List (((Int × Int) × Nat)) × Nat))))) ⊕ (Int × (Int × (Int × ((List (((Int × Int) × Nat)) × Nat) × List ((Int × (Int × List (UInt8)))))))))) :=
  bif (decide (x < 2)) then
    (idx? x 2).bind fun q =>
    ([from_, to_])[q]?.bind fun x1 =>
    Option.bind (α := ((Bool × (Int × (Int × (List ((Int × (Int × List (UInt8)))) × (List (((Int × Int) × Nat)) × Nat))))))) (
      bif (decide (x1 < 0)) then
        some (true, (h4, (h5, (h6, h7))))
      else
        some ((decide (x1 ≥ h4)), (h4, (h5, (h6, h7))))) fun o =>
    bif o.1 then
      some (.inr (.inr (.inl (2, (o.2.1, (o.2.2.1, (o.2.2.2.1, o.2.2.2.2)))))))
    else
      some (.inl ((IntKind.wrap .i64 (x + 1)), (o.2.1, (o.2.2.1, (o.2.2.2.1, o.2.2.2.2)))))
  else
    some (.inr (.inl (h4, (h5, (h6, h7)))))
def net_Net_Send__com_l0_it (fu : Nat) (from_ : Int) (to_ : Int) (tt : (Int × (Int × (Int × (List ((Int × (Int × List (UInt8)))) × (List (((Int × Int) × Nat)) × Nat)))))) : Option ((Int × (Int × (List ((Int × (Int × List (UInt8)))) × (List (((Int × Int) × Nat)) × Nat)))) ⊕ (Int × (Int × (Int × (List ((Int × (Int × List (UInt8)))) × (List (((Int × Int) × Nat)) × Nat))))) ⊕ (Int × (Int × (Int × ((List (((Int × Int) × Nat)) × Nat) × List ((Int × (Int × List (UInt8))))))))) :=
  iter fu (fun tt => net_Net_Send__com_l0 fu from_ to_ tt.1 tt.2.1 tt.2.2.1 tt.2.2.2.1 tt.2.2.2.2) tt
def net_Net_Send__com (fu : Nat) (from_ : Int) (to_ : Int) (b : List (UInt8)) (h : Int) (h1 : Int) (h2 : List ((Int × (Int × List (UInt8))))) (h3 : (List (((Int × Int) × Nat)) × Nat)) : Option ((Int × (Int × (Int × (List ((Int × (Int × List (UInt8)))) × (List (((Int × Int) × Nat)) × Nat))))) ⊕ (Int × (Int × (Int × ((List (((Int × Int) × Nat)) × Nat) × List ((Int × (Int × List (UInt8))))))))) :=
  (net_Net_made__com fu h h1 h2 h3).bind fun r =>
  bif (!r.1) then
    some (.inl (1, (r.2.1, (r.2.2.1, (r.2.2.2.1, r.2.2.2.2)))))
  else
    (net_Net_Send__com_l0_it fu from_ to_ (0, (r.2.1, (r.2.2.1, (r.2.2.2.1, r.2.2.2.2))))).bind fun o1 =>
    match o1 with
    | .inl s =>
      bif (decide (((b.length : Nat) : Int) > 131072)) then
        some (.inl (3, (s.1, (s.2.1, (s.2.2.1, s.2.2.2)))))
      else
        (net_Net_lay__com fu (from_, (to_, b)) s.1 s.2.1 s.2.2.1 s.2.2.2).bind fun r1 =>
        match r1 with
        | .inl r2 =>
          some (.inl (r2.1, (r2.2.1, (r2.2.2.1, (r2.2.2.2.1, r2.2.2.2.2)))))
        | .inr r3 =>
          some (.inr (r3.1, (r3.2.1, (r3.2.2.1, (r3.2.2.2.1, r3.2.2.2.2)))))
    | .inr o2 =>
      some o2
def net_Net_Send__com_fa : FnA := ⟨.two (.leaf) (.two (.two (.reg [(1, { sh := [0, 1, 2] })]) (.two (.leaf) (.leaf))) (.two (.two (.leaf) (.one (.loop ⟨[0, 17], ⟨(.cons (.own 0 0 0 0) (.cons (.p (.int .i64)) .nil)), [(0, false, (.vars (.cons (.p (.int .i64)) (.cons (.p (.int .i64)) (.cons (.slf 3 1) (.cons (.mp 2) .nil)))))), (1, false, (.rows 34 (.pair (.int .i64) (.pair (.int .i64) (.sl .byte))))), (2, false, (.map (.int .i64) (.int .i64)))]⟩⟩ true [(0, ⟨[0], ⟨(.cons (.own 0 0 0 0) .nil), [(0, false, (.vars (.cons (.p (.int .i64)) (.cons (.p (.int .i64)) (.cons (.slf 3 1) (.cons (.mp 2) .nil)))))), (1, false, (.rows 34 (.pair (.int .i64) (.pair (.int .i64) (.sl .byte))))), (2, false, (.map (.int .i64) (.int .i64)))]⟩⟩)] (.two (.leaf) (.two (.leaf) (.two (.one (.two (.leaf) (.two (.join ⟨[0, 29], ⟨(.cons (.own 0 0 0 0) (.cons (.p .bool) .nil)), [(0, false, (.vars (.cons (.p (.int .i64)) (.cons (.p (.int .i64)) (.cons (.slf 3 1) (.cons (.mp 2) .nil)))))), (1, false, (.rows 34 (.pair (.int .i64) (.pair (.int .i64) (.sl .byte))))), (2, false, (.map (.int .i64) (.int .i64)))]⟩⟩ false [] (.leaf)) (.two (.leaf) (.leaf))))) (.leaf))))))) (.two (.two (.leaf) (.two (.leaf) (.leaf))) (.two (.reg [(5, { ids := [100], sh := [0, 1, 2], fn := 1 })]) (.leaf))))), ⟨(.cons (.own 0 0 0 0) (.cons (.p (.int .i64)) (.cons (.p (.int .i64)) (.cons (.p (.sl .byte)) .nil)))), [(0, false, (.vars (.cons (.p (.int .i64)) (.cons (.p (.int .i64)) (.cons (.slf 3 1) (.cons (.mp 2) .nil)))))), (1, false, (.rows 34 (.pair (.int .i64) (.pair (.int .i64) (.sl .byte))))), (2, false, (.map (.int .i64) (.int .i64)))]⟩, [⟨(.cons (.p (.int .i64)) .nil), [(0, false, (.vars (.cons (.p (.int .i64)) (.cons (.p (.int .i64)) (.cons (.slf 3 1) (.cons (.mp 2) .nil)))))), (1, false, (.rows 34 (.pair (.int .i64) (.pair (.int .i64) (.sl .byte))))), (2, false, (.map (.int .i64) (.int .i64)))]⟩, ⟨(.cons (.p (.int .i64)) .nil), [(0, false, (.vars (.cons (.p (.int .i64)) (.cons (.p (.int .i64)) (.cons (.slf 3 3) (.cons (.mp 2) .nil)))))), (2, false, (.map (.int .i64) (.int .i64))), (3, false, (.rows 34 (.pair (.int .i64) (.pair (.int .i64) (.sl .byte)))))]⟩], [0]⟩
def net_Net_Send__com_ft (fu : Nat) : FnT := ⟨12, ⟨(.cons (.own 0 0 0 0) (.cons (.p (.int .i64)) (.cons (.p (.int .i64)) (.cons (.p (.sl .byte)) .nil)))), [(0, false, (.vars (.cons (.p (.int .i64)) (.cons (.p (.int .i64)) (.cons (.slf 3 1) (.cons (.mp 2) .nil)))))), (1, false, (.rows 34 (.pair (.int .i64) (.pair (.int .i64) (.sl .byte))))), (2, false, (.map (.int .i64) (.int .i64)))]⟩, [⟨(.cons (.p (.int .i64)) .nil), [(0, false, (.vars (.cons (.p (.int .i64)) (.cons (.p (.int .i64)) (.cons (.slf 3 1) (.cons (.mp 2) .nil)))))), (1, false, (.rows 34 (.pair (.int .i64) (.pair (.int .i64) (.sl .byte))))), (2, false, (.map (.int .i64) (.int .i64)))]⟩, ⟨(.cons (.p (.int .i64)) .nil), [(0, false, (.vars (.cons (.p (.int .i64)) (.cons (.p (.int .i64)) (.cons (.slf 3 3) (.cons (.mp 2) .nil)))))), (2, false, (.map (.int .i64) (.int .i64))), (3, false, (.rows 34 (.pair (.int .i64) (.pair (.int .i64) (.sl .byte)))))]⟩], fun t => net_Net_Send__com fu t.1 t.2.1 t.2.2.1 t.2.2.2.1 t.2.2.2.2.1 t.2.2.2.2.2.1 t.2.2.2.2.2.2⟩
theorem net_Net_Send__com_eq (fu : Nat) : ∀ t, evF Go.Proofs.Try.prog [net_Net_made__com_ft fu, net_Net_lay__com_ft fu] fu Go.Proofs.Try.f12 net_Net_Send__com_fa t = (net_Net_Send__com_ft fu).spec t := fun t => by kernel_rfl
theorem net_Net_Send__com_told (fu : Nat) : Told Go.Proofs.Try.prog (net_Net_Send__com_ft fu) := told_of (allT_cons (net_Net_made__com_told fu) (allT_cons (net_Net_lay__com_told fu) allT_nil)) mixed Go.Proofs.Try.func12 (by kernel_rfl) (by kernel_rfl) (net_Net_Send__com_eq fu)

def net_Net_Look__com (fu : Nat) (i : Int) (h : Int) (h1 : Int) (h2 : List ((Int × (Int × List (UInt8))))) (h3 : (List (((Int × Int) × Nat)) × Nat)) : Option ((Int × (Int × (Bool × (Int × (Int × (List ((Int × (Int × List (UInt8)))) × (List (((Int × Int) × Nat)) × Nat))))))) ⊕ (Int × (Int × (Bool × (Int × (Int × (List ((Int × (Int × List (UInt8)))) × ((List (((Int × Int) × Nat)) × Nat) × List (UInt8))))))))) :=
  (net_Net_there__com fu i h h1 h2 h3).bind fun r =>
  bif (!r.1) then
    some (.inl (0, (0, (false, (r.2.1, (r.2.2.1, (r.2.2.2.1, r.2.2.2.2)))))))
  else
    (idx? i r.2.2.2.1.length).bind fun q =>
    (r.2.2.2.1)[q]?.bind fun r1 =>
    (slices_Clone__byte_byte fu r1.2.2).bind fun r2 =>
    some (.inr (r1.1, (r1.2.1, (true, (r.2.1, (r.2.2.1, (r.2.2.2.1, (r.2.2.2.2, r2))))))))
def net_Net_Look__com_fa : FnA := ⟨.two (.reg [(0, { ids := [100] })]) (.two (.two (.reg [(2, { sh := [0, 1, 2] })]) (.two (.leaf) (.leaf))) (.two (.reg [(7, { ids := [101] })]) (.two (.reg [(6, { ids := [102], fn := 1 })]) (.leaf)))), ⟨(.cons (.own 0 0 0 0) (.cons (.p (.int .i64)) .nil)), [(0, false, (.vars (.cons (.p (.int .i64)) (.cons (.p (.int .i64)) (.cons (.slf 3 1) (.cons (.mp 2) .nil)))))), (1, false, (.rows 34 (.pair (.int .i64) (.pair (.int .i64) (.sl .byte))))), (2, false, (.map (.int .i64) (.int .i64)))]⟩, [⟨(.cons (.agg (.cons (.p (.int .i64)) (.cons (.p (.int .i64)) (.cons (.nilp (.slice none 0 0)) .nil)))) (.cons (.p .bool) .nil)), [(0, false, (.vars (.cons (.p (.int .i64)) (.cons (.p (.int .i64)) (.cons (.slf 3 1) (.cons (.mp 2) .nil)))))), (1, false, (.rows 34 (.pair (.int .i64) (.pair (.int .i64) (.sl .byte))))), (2, false, (.map (.int .i64) (.int .i64)))]⟩, ⟨(.cons (.agg (.cons (.p (.int .i64)) (.cons (.p (.int .i64)) (.cons (.slf 1 3) .nil)))) (.cons (.p .bool) .nil)), [(0, false, (.vars (.cons (.p (.int .i64)) (.cons (.p (.int .i64)) (.cons (.slf 3 1) (.cons (.mp 2) .nil)))))), (1, false, (.rows 34 (.pair (.int .i64) (.pair (.int .i64) (.sl .byte))))), (2, false, (.map (.int .i64) (.int .i64))), (3, false, (.rows 5 .byte))]⟩], [0, 0]⟩
def net_Net_Look__com_ft (fu : Nat) : FnT := ⟨17, ⟨(.cons (.own 0 0 0 0) (.cons (.p (.int .i64)) .nil)), [(0, false, (.vars (.cons (.p (.int .i64)) (.cons (.p (.int .i64)) (.cons (.slf 3 1) (.cons (.mp 2) .nil)))))), (1, false, (.rows 34 (.pair (.int .i64) (.pair (.int .i64) (.sl .byte))))), (2, false, (.map (.int .i64) (.int .i64)))]⟩, [⟨(.cons (.agg (.cons (.p (.int .i64)) (.cons (.p (.int .i64)) (.cons (.nilp (.slice none 0 0)) .nil)))) (.cons (.p .bool) .nil)), [(0, false, (.vars (.cons (.p (.int .i64)) (.cons (.p (.int .i64)) (.cons (.slf 3 1) (.cons (.mp 2) .nil)))))), (1, false, (.rows 34 (.pair (.int .i64) (.pair (.int .i64) (.sl .byte))))), (2, false, (.map (.int .i64) (.int .i64)))]⟩, ⟨(.cons (.agg (.cons (.p (.int .i64)) (.cons (.p (.int .i64)) (.cons (.slf 1 3) .nil)))) (.cons (.p .bool) .nil)), [(0, false, (.vars (.cons (.p (.int .i64)) (.cons (.p (.int .i64)) (.cons (.slf 3 1) (.cons (.mp 2) .nil)))))), (1, false, (.rows 34 (.pair (.int .i64) (.pair (.int .i64) (.sl .byte))))), (2, false, (.map (.int .i64) (.int .i64))), (3, false, (.rows 5 .byte))]⟩], fun t => net_Net_Look__com fu t.1 t.2.1 t.2.2.1 t.2.2.2.1 t.2.2.2.2⟩
theorem net_Net_Look__com_eq (fu : Nat) : ∀ t, evF Go.Proofs.Try.prog [net_Net_there__com_ft fu, slices_Clone__byte_byte_ft fu] fu Go.Proofs.Try.f17 net_Net_Look__com_fa t = (net_Net_Look__com_ft fu).spec t := fun t => by kernel_rfl
theorem net_Net_Look__com_told (fu : Nat) : Told Go.Proofs.Try.prog (net_Net_Look__com_ft fu) := told_of (allT_cons (net_Net_there__com_told fu) (allT_cons (slices_Clone__byte_byte_told fu) allT_nil)) mixed Go.Proofs.Try.func17 (by kernel_rfl) (by kernel_rfl) (net_Net_Look__com_eq fu)

def law07_is__com (fu : Nat) (i : Int) (from_ : Int) (to_ : Int) (b : List UInt8) (h : Int) (h1 : Int) (h2 : List ((Int × (Int × List (UInt8))))) (h3 : (List (((Int × Int) × Nat)) × Nat)) : Option ((Bool × (Int × (Int × (List ((Int × (Int × List (UInt8)))) × (List (((Int × Int) × Nat)) × Nat)))))) :=
  Option.bind (α := ((Bool × (Int × (Int × (List ((Int × (Int × List (UInt8)))) × ((List (((Int × Int) × Nat)) × Nat) × (Int × (Int × List (UInt8)))))))))) (
    (net_Net_Look__com fu i h h1 h2 h3).bind fun r =>
    match r with
    | .inl r1 =>
      some (r1.2.2.1, (r1.2.2.2.1, (r1.2.2.2.2.1, (r1.2.2.2.2.2.1, (r1.2.2.2.2.2.2, (r1.1, (r1.2.1, [])))))))
    | .inr r2 =>
      some (r2.2.2.1, (r2.2.2.2.1, (r2.2.2.2.2.1, (r2.2.2.2.2.2.1, (r2.2.2.2.2.2.2.1, (r2.1, (r2.2.1, r2.2.2.2.2.2.2.2)))))))) fun o =>
  bif o.1 then
    need (Nat.ble b.length room) <|
    (law07_like fu (o.2.2.2.2.2.1, (o.2.2.2.2.2.2.1, o.2.2.2.2.2.2.2)) (from_, (to_, b))).bind fun r3 =>
    some (r3, (o.2.1, (o.2.2.1, (o.2.2.2.1, o.2.2.2.2.1))))
  else
    some (false, (o.2.1, (o.2.2.1, (o.2.2.2.1, o.2.2.2.2.1))))
def law07_is__com_fa : FnA := ⟨.two (.leaf) (.two (.join ⟨[0, 11, 12], ⟨(.cons (.own 0 0 0 0) (.cons (.own 0 101 0 0) (.cons (.p .bool) .nil))), [(0, false, (.vars (.cons (.p (.int .i64)) (.cons (.p (.int .i64)) (.cons (.slf 3 1) (.cons (.mp 2) .nil)))))), (1, false, (.rows 34 (.pair (.int .i64) (.pair (.int .i64) (.sl .byte))))), (2, false, (.map (.int .i64) (.int .i64))), (101, false, (.vars (.cons (.p (.int .i64)) (.cons (.p (.int .i64)) (.cons (.slf 1 102) .nil))))), (102, false, (.rows 5 .byte))]⟩⟩ false [] (.post (.ownCell 101 2 5 102) (.reg [(2, { ids := [100], sh := [0, 1, 2] }), (6, { ids := [101] })]))) (.two (.reg [(6, { ids := [103] }), (8, { md := [2, 2], fn := 1 })]) (.leaf))), ⟨(.cons (.own 0 0 0 0) (.cons (.p (.int .i64)) (.cons (.p (.int .i64)) (.cons (.p (.int .i64)) (.cons (.p .str) .nil))))), [(0, false, (.vars (.cons (.p (.int .i64)) (.cons (.p (.int .i64)) (.cons (.slf 3 1) (.cons (.mp 2) .nil)))))), (1, false, (.rows 34 (.pair (.int .i64) (.pair (.int .i64) (.sl .byte))))), (2, false, (.map (.int .i64) (.int .i64)))]⟩, [⟨(.cons (.p .bool) .nil), [(0, false, (.vars (.cons (.p (.int .i64)) (.cons (.p (.int .i64)) (.cons (.slf 3 1) (.cons (.mp 2) .nil)))))), (1, false, (.rows 34 (.pair (.int .i64) (.pair (.int .i64) (.sl .byte))))), (2, false, (.map (.int .i64) (.int .i64)))]⟩], [0]⟩
def law07_is__com_ft (fu : Nat) : FnT := ⟨46, ⟨(.cons (.own 0 0 0 0) (.cons (.p (.int .i64)) (.cons (.p (.int .i64)) (.cons (.p (.int .i64)) (.cons (.p .str) .nil))))), [(0, false, (.vars (.cons (.p (.int .i64)) (.cons (.p (.int .i64)) (.cons (.slf 3 1) (.cons (.mp 2) .nil)))))), (1, false, (.rows 34 (.pair (.int .i64) (.pair (.int .i64) (.sl .byte))))), (2, false, (.map (.int .i64) (.int .i64)))]⟩, [⟨(.cons (.p .bool) .nil), [(0, false, (.vars (.cons (.p (.int .i64)) (.cons (.p (.int .i64)) (.cons (.slf 3 1) (.cons (.mp 2) .nil)))))), (1, false, (.rows 34 (.pair (.int .i64) (.pair (.int .i64) (.sl .byte))))), (2, false, (.map (.int .i64) (.int .i64)))]⟩], fun t => law07_is__com fu t.1 t.2.1 t.2.2.1 t.2.2.2.1 t.2.2.2.2.1 t.2.2.2.2.2.1 t.2.2.2.2.2.2.1 t.2.2.2.2.2.2.2⟩
theorem law07_is__com_eq (fu : Nat) : ∀ t, evF Go.Proofs.Try.prog [net_Net_Look__com_ft fu, law07_like_ft fu] fu Go.Proofs.Try.f46 law07_is__com_fa t = (law07_is__com_ft fu).spec t := fun t => by kernel_rfl
theorem law07_is__com_told (fu : Nat) : Told Go.Proofs.Try.prog (law07_is__com_ft fu) := told_of (allT_cons (net_Net_Look__com_told fu) (allT_cons (law07_like_told fu) allT_nil)) mixed Go.Proofs.Try.func46 (by kernel_rfl) (by kernel_rfl) (law07_is__com_eq fu)

def net_Net_Waiting__com (fu : Nat) (to_ : Int) (h : Int) (h1 : Int) (h2 : List ((Int × (Int × List (UInt8))))) (h3 : (List (((Int × Int) × Nat)) × Nat)) : Option ((Int × (Int × (Int × (List ((Int × (Int × List (UInt8)))) × (List (((Int × Int) × Nat)) × Nat)))))) :=
  (net_Net_made__com fu h h1 h2 h3).bind fun r =>
  bif (!r.1) then
    some (0, (r.2.1, (r.2.2.1, (r.2.2.2.1, r.2.2.2.2))))
  else
    some ((Option.getD (mget (k := (.int .i64)) (v := (.int .i64)) r.2.2.2.2 to_) 0), (r.2.1, (r.2.2.1, (r.2.2.2.1, r.2.2.2.2))))
def net_Net_Waiting__com_fa : FnA := ⟨.two (.leaf) (.two (.two (.reg [(1, { sh := [0, 1, 2] })]) (.two (.leaf) (.leaf))) (.leaf)), ⟨(.cons (.own 0 0 0 0) (.cons (.p (.int .i64)) .nil)), [(0, false, (.vars (.cons (.p (.int .i64)) (.cons (.p (.int .i64)) (.cons (.slf 3 1) (.cons (.mp 2) .nil)))))), (1, false, (.rows 34 (.pair (.int .i64) (.pair (.int .i64) (.sl .byte))))), (2, false, (.map (.int .i64) (.int .i64)))]⟩, [⟨(.cons (.p (.int .i64)) .nil), [(0, false, (.vars (.cons (.p (.int .i64)) (.cons (.p (.int .i64)) (.cons (.slf 3 1) (.cons (.mp 2) .nil)))))), (1, false, (.rows 34 (.pair (.int .i64) (.pair (.int .i64) (.sl .byte))))), (2, false, (.map (.int .i64) (.int .i64)))]⟩], [0]⟩
def net_Net_Waiting__com_ft (fu : Nat) : FnT := ⟨18, ⟨(.cons (.own 0 0 0 0) (.cons (.p (.int .i64)) .nil)), [(0, false, (.vars (.cons (.p (.int .i64)) (.cons (.p (.int .i64)) (.cons (.slf 3 1) (.cons (.mp 2) .nil)))))), (1, false, (.rows 34 (.pair (.int .i64) (.pair (.int .i64) (.sl .byte))))), (2, false, (.map (.int .i64) (.int .i64)))]⟩, [⟨(.cons (.p (.int .i64)) .nil), [(0, false, (.vars (.cons (.p (.int .i64)) (.cons (.p (.int .i64)) (.cons (.slf 3 1) (.cons (.mp 2) .nil)))))), (1, false, (.rows 34 (.pair (.int .i64) (.pair (.int .i64) (.sl .byte))))), (2, false, (.map (.int .i64) (.int .i64)))]⟩], fun t => net_Net_Waiting__com fu t.1 t.2.1 t.2.2.1 t.2.2.2.1 t.2.2.2.2⟩
theorem net_Net_Waiting__com_eq (fu : Nat) : ∀ t, evF Go.Proofs.Try.prog [net_Net_made__com_ft fu] fu Go.Proofs.Try.f18 net_Net_Waiting__com_fa t = (net_Net_Waiting__com_ft fu).spec t := fun t => by kernel_rfl
theorem net_Net_Waiting__com_told (fu : Nat) : Told Go.Proofs.Try.prog (net_Net_Waiting__com_ft fu) := told_of (allT_cons (net_Net_made__com_told fu) allT_nil) mixed Go.Proofs.Try.func18 (by kernel_rfl) (by kernel_rfl) (net_Net_Waiting__com_eq fu)

def slices_Grow__api_Datum_api_Datum_n0 (fu : Nat) (n : Int) : Option (List ((Int × (Int × List (UInt8))))) :=
  bif (decide (n < 0)) then
    none
  else
    bif (decide ((IntKind.wrap .i64 (n - 0)) > 0)) then
      (upto? (IntKind.wrap .i64 (n - 0)) room).bind fun q =>
      need ((Nat.ble (q * 40) room) && (Nat.ble q room)) <|
      (upto? 0 (List.replicate (α := (Int × (Int × List (UInt8)))) q (0, (0, []))).length).bind fun q1 =>
      need (Nat.ble q1 (List.replicate (α := (Int × (Int × List (UInt8)))) q (0, (0, []))).length) <|
      some (List.take q1 (List.replicate (α := (Int × (Int × List (UInt8)))) q (0, (0, []))))
    else
      some []
def slices_Grow__api_Datum_api_Datum_n0_fa : FnA := ⟨.two (.leaf) (.two (.two (.leaf) (.leaf)) (.two (.two (.leaf) (.two (.leaf) (.two (.reg [(5, { ids := [100] })]) (.leaf)))) (.leaf))), ⟨(.cons (.nilp (.slice none 0 0)) (.cons (.p (.int .i64)) .nil)), []⟩, [⟨(.cons (.slf 3 0) .nil), [(0, false, (.rows 34 (.pair (.int .i64) (.pair (.int .i64) (.sl .byte)))))]⟩], [44]⟩
def slices_Grow__api_Datum_api_Datum_n0_ft (fu : Nat) : FnT := ⟨51, ⟨(.cons (.nilp (.slice none 0 0)) (.cons (.p (.int .i64)) .nil)), []⟩, [⟨(.cons (.slf 3 0) .nil), [(0, false, (.rows 34 (.pair (.int .i64) (.pair (.int .i64) (.sl .byte)))))]⟩], fun t => slices_Grow__api_Datum_api_Datum_n0 fu t⟩
theorem slices_Grow__api_Datum_api_Datum_n0_eq (fu : Nat) : ∀ t, evF Go.Proofs.Try.prog [] fu Go.Proofs.Try.f51 slices_Grow__api_Datum_api_Datum_n0_fa t = (slices_Grow__api_Datum_api_Datum_n0_ft fu).spec t := fun t => by kernel_rfl
theorem slices_Grow__api_Datum_api_Datum_n0_told (fu : Nat) : Told Go.Proofs.Try.prog (slices_Grow__api_Datum_api_Datum_n0_ft fu) := told_of allT_nil mixed Go.Proofs.Try.func51 (by kernel_rfl) (by kernel_rfl) (slices_Grow__api_Datum_api_Datum_n0_eq fu)

def slices_Concat__api_Datum_api_Datum_l0 (fu : Nat) (slices : List (List ((Int × (Int × List (UInt8)))))) (size : Int) (x : Int) : Option ((Int × Int) ⊕ (Int)) :=
  bif (decide (x < ((slices.length : Nat) : Int))) then
    (idx? x slices.length).bind fun q =>
    (slices)[q]?.bind fun r =>
    bif (decide ((IntKind.wrap .i64 (size + ((r.length : Nat) : Int))) < 0)) then
      none
    else
      some (.inl ((IntKind.wrap .i64 (size + ((r.length : Nat) : Int))), (IntKind.wrap .i64 (x + 1))))
  else
    some (.inr size)
def slices_Concat__api_Datum_api_Datum_l0_it (fu : Nat) (slices : List (List ((Int × (Int × List (UInt8)))))) (tt : (Int × Int)) : Option (Int) :=
  iter fu (fun tt => slices_Concat__api_Datum_api_Datum_l0 fu slices tt.1 tt.2) tt
def slices_Concat__api_Datum_api_Datum_l1 (fu : Nat) (slices : List (List ((Int × (Int × List (UInt8)))))) (x1 : Int) (h : List ((Int × (Int × List (UInt8))))) : Option ((Int × List ((Int × (Int × List (UInt8))))) ⊕ (List ((Int × (Int × List (UInt8)))))) :=
  bif (decide (x1 < ((slices.length : Nat) : Int))) then
    (idx? x1 slices.length).bind fun q1 =>
    (slices)[q1]?.bind fun r2 =>
    need ((Nat.ble ((h.length + r2.length) * 40) room) && (Nat.ble (h.length + r2.length) room)) <|
    some (.inl ((IntKind.wrap .i64 (x1 + 1)), (h ++ r2)))
  else
    some (.inr h)
def slices_Concat__api_Datum_api_Datum_l1_it (fu : Nat) (slices : List (List ((Int × (Int × List (UInt8)))))) (tt : (Int × List ((Int × (Int × List (UInt8)))))) : Option (List ((Int × (Int × List (UInt8))))) :=
  iter fu (fun tt => slices_Concat__api_Datum_api_Datum_l1 fu slices tt.1 tt.2) tt
def slices_Concat__api_Datum_api_Datum (fu : Nat) (slices : List (List ((Int × (Int × List (UInt8)))))) : Option (List ((Int × (Int × List (UInt8))))) :=
  (slices_Concat__api_Datum_api_Datum_l0_it fu slices (0, 0)).bind fun o =>
  (slices_Grow__api_Datum_api_Datum_n0 fu o).bind fun r1 =>
  (slices_Concat__api_Datum_api_Datum_l1_it fu slices (0, r1)).bind fun o1 =>
  some o1
def slices_Concat__api_Datum_api_Datum_fa : FnA := ⟨.two (.leaf) (.two (.leaf) (.two (.two (.leaf) (.one (.loop ⟨[3, 11], ⟨(.cons (.p (.int .i64)) (.cons (.p (.int .i64)) .nil)), []⟩⟩ false [(0, ⟨[3], ⟨(.cons (.p (.int .i64)) .nil), []⟩⟩)] (.two (.leaf) (.two (.leaf) (.two (.one (.two (.leaf) (.two (.leaf) (.two (.leaf) (.leaf))))) (.leaf))))))) (.two (.reg [(1, { ids := [100] })]) (.two (.two (.leaf) (.one (.loop ⟨[6, 27], ⟨(.cons (.slf 3 100) (.cons (.p (.int .i64)) .nil)), [(100, false, (.rows 34 (.pair (.int .i64) (.pair (.int .i64) (.sl .byte)))))]⟩⟩ false [(2, ⟨[6], ⟨(.cons (.slf 3 100) .nil), [(100, false, (.rows 34 (.pair (.int .i64) (.pair (.int .i64) (.sl .byte)))))]⟩⟩)] (.two (.leaf) (.two (.leaf) (.two (.one (.two (.leaf) (.reg [(2, { ids := [101] })]))) (.leaf))))))) (.leaf))))), ⟨(.cons (.p (.sl (.sl (.pair (.int .i64) (.pair (.int .i64) (.sl .byte)))))) .nil), []⟩, [⟨(.cons (.slf 3 0) .nil), [(0, false, (.rows 34 (.pair (.int .i64) (.pair (.int .i64) (.sl .byte)))))]⟩], [0]⟩
def slices_Concat__api_Datum_api_Datum_ft (fu : Nat) : FnT := ⟨42, ⟨(.cons (.p (.sl (.sl (.pair (.int .i64) (.pair (.int .i64) (.sl .byte)))))) .nil), []⟩, [⟨(.cons (.slf 3 0) .nil), [(0, false, (.rows 34 (.pair (.int .i64) (.pair (.int .i64) (.sl .byte)))))]⟩], fun t => slices_Concat__api_Datum_api_Datum fu t⟩
theorem slices_Concat__api_Datum_api_Datum_eq (fu : Nat) : ∀ t, evF Go.Proofs.Try.prog [slices_Grow__api_Datum_api_Datum_n0_ft fu] fu Go.Proofs.Try.f42 slices_Concat__api_Datum_api_Datum_fa t = (slices_Concat__api_Datum_api_Datum_ft fu).spec t := fun t => by kernel_rfl
theorem slices_Concat__api_Datum_api_Datum_told (fu : Nat) : Told Go.Proofs.Try.prog (slices_Concat__api_Datum_api_Datum_ft fu) := told_of (allT_cons (slices_Grow__api_Datum_api_Datum_n0_told fu) allT_nil) mixed Go.Proofs.Try.func42 (by kernel_rfl) (by kernel_rfl) (slices_Concat__api_Datum_api_Datum_eq fu)

def net_Net_Drop__com (fu : Nat) (i : Int) (h : Int) (h1 : Int) (h2 : List ((Int × (Int × List (UInt8))))) (h3 : (List (((Int × Int) × Nat)) × Nat)) : Option ((Bool × (Int × (Int × (List ((Int × (Int × List (UInt8)))) × (List (((Int × Int) × Nat)) × Nat))))) ⊕ (Bool × (Int × (Int × ((List (((Int × Int) × Nat)) × Nat) × (List ((Int × (Int × List (UInt8)))) × List ((Int × (Int × List (UInt8)))))))))) :=
  (net_Net_there__com fu i h h1 h2 h3).bind fun r =>
  bif (!r.1) then
    some (.inl (false, (r.2.1, (r.2.2.1, (r.2.2.2.1, r.2.2.2.2)))))
  else
    (idx? i r.2.2.2.1.length).bind fun q =>
    (r.2.2.2.1)[q]?.bind fun r1 =>
    (upto? i r.2.2.2.1.length).bind fun q1 =>
    (upto? (IntKind.wrap .i64 (i + 1)) r.2.2.2.1.length).bind fun q2 =>
    need (Nat.ble (0 + q1) r.2.2.2.1.length) <|
    need (Nat.ble (q2 + (r.2.2.2.1.length - q2)) r.2.2.2.1.length) <|
    (slices_Concat__api_Datum_api_Datum fu [(List.take q1 (List.drop 0 r.2.2.2.1)), (List.take (r.2.2.2.1.length - q2) (List.drop q2 r.2.2.2.1))]).bind fun r2 =>
    some (.inr (true, (r.2.1, (r.2.2.1, ((mput (k := (.int .i64)) (v := (.int .i64)) r.2.2.2.2 r1.2.1 (IntKind.wrap .i64 ((Option.getD (mget (k := (.int .i64)) (v := (.int .i64)) r.2.2.2.2 r1.2.1) 0) - 1))), (r.2.2.2.1, r2))))))
def net_Net_Drop__com_fa : FnA := ⟨.two (.leaf) (.two (.two (.reg [(2, { sh := [0, 1, 2] })]) (.two (.leaf) (.leaf))) (.two (.leaf) (.two (.reg [(14, { ids := [100] }), (15, { ids := [101], md := [1], fn := 1 })]) (.leaf)))), ⟨(.cons (.own 0 0 0 0) (.cons (.p (.int .i64)) .nil)), [(0, false, (.vars (.cons (.p (.int .i64)) (.cons (.p (.int .i64)) (.cons (.slf 3 1) (.cons (.mp 2) .nil)))))), (1, false, (.rows 34 (.pair (.int .i64) (.pair (.int .i64) (.sl .byte))))), (2, false, (.map (.int .i64) (.int .i64)))]⟩, [⟨(.cons (.p .bool) .nil), [(0, false, (.vars (.cons (.p (.int .i64)) (.cons (.p (.int .i64)) (.cons (.slf 3 1) (.cons (.mp 2) .nil)))))), (1, false, (.rows 34 (.pair (.int .i64) (.pair (.int .i64) (.sl .byte))))), (2, false, (.map (.int .i64) (.int .i64)))]⟩, ⟨(.cons (.p .bool) .nil), [(0, false, (.vars (.cons (.p (.int .i64)) (.cons (.p (.int .i64)) (.cons (.slf 3 3) (.cons (.mp 2) .nil)))))), (2, false, (.map (.int .i64) (.int .i64))), (1, true, (.rows 34 (.pair (.int .i64) (.pair (.int .i64) (.sl .byte))))), (3, false, (.rows 34 (.pair (.int .i64) (.pair (.int .i64) (.sl .byte)))))]⟩], [0]⟩
def net_Net_Drop__com_ft (fu : Nat) : FnT := ⟨13, ⟨(.cons (.own 0 0 0 0) (.cons (.p (.int .i64)) .nil)), [(0, false, (.vars (.cons (.p (.int .i64)) (.cons (.p (.int .i64)) (.cons (.slf 3 1) (.cons (.mp 2) .nil)))))), (1, false, (.rows 34 (.pair (.int .i64) (.pair (.int .i64) (.sl .byte))))), (2, false, (.map (.int .i64) (.int .i64)))]⟩, [⟨(.cons (.p .bool) .nil), [(0, false, (.vars (.cons (.p (.int .i64)) (.cons (.p (.int .i64)) (.cons (.slf 3 1) (.cons (.mp 2) .nil)))))), (1, false, (.rows 34 (.pair (.int .i64) (.pair (.int .i64) (.sl .byte))))), (2, false, (.map (.int .i64) (.int .i64)))]⟩, ⟨(.cons (.p .bool) .nil), [(0, false, (.vars (.cons (.p (.int .i64)) (.cons (.p (.int .i64)) (.cons (.slf 3 3) (.cons (.mp 2) .nil)))))), (2, false, (.map (.int .i64) (.int .i64))), (1, true, (.rows 34 (.pair (.int .i64) (.pair (.int .i64) (.sl .byte))))), (3, false, (.rows 34 (.pair (.int .i64) (.pair (.int .i64) (.sl .byte)))))]⟩], fun t => net_Net_Drop__com fu t.1 t.2.1 t.2.2.1 t.2.2.2.1 t.2.2.2.2⟩
theorem net_Net_Drop__com_eq (fu : Nat) : ∀ t, evF Go.Proofs.Try.prog [net_Net_there__com_ft fu, slices_Concat__api_Datum_api_Datum_ft fu] fu Go.Proofs.Try.f13 net_Net_Drop__com_fa t = (net_Net_Drop__com_ft fu).spec t := fun t => by kernel_rfl
theorem net_Net_Drop__com_told (fu : Nat) : Told Go.Proofs.Try.prog (net_Net_Drop__com_ft fu) := told_of (allT_cons (net_Net_there__com_told fu) (allT_cons (slices_Concat__api_Datum_api_Datum_told fu) allT_nil)) mixed Go.Proofs.Try.func13 (by kernel_rfl) (by kernel_rfl) (net_Net_Drop__com_eq fu)

def net_Net_Take__com (fu : Nat) (i : Int) (h : Int) (h1 : Int) (h2 : List ((Int × (Int × List (UInt8))))) (h3 : (List (((Int × Int) × Nat)) × Nat)) : Option ((Int × (Int × (Bool × (Int × (Int × (List ((Int × (Int × List (UInt8)))) × ((List (((Int × Int) × Nat)) × Nat) × List (UInt8)))))))) ⊕ (Int × (Int × (Bool × (Int × (Int × ((List (((Int × Int) × Nat)) × Nat) × (List ((Int × (Int × List (UInt8)))) × (List ((Int × (Int × List (UInt8)))) × List (UInt8)))))))))) :=
  Option.bind (α := ((Bool × (Int × (Int × (List ((Int × (Int × List (UInt8)))) × ((List (((Int × Int) × Nat)) × Nat) × (Int × (Int × (Int × (Int × List (UInt8)))))))))))) (
    (net_Net_Look__com fu i h h1 h2 h3).bind fun r =>
    match r with
    | .inl r1 =>
      some (r1.2.2.1, (r1.2.2.2.1, (r1.2.2.2.2.1, (r1.2.2.2.2.2.1, (r1.2.2.2.2.2.2, (0, (0, (r1.1, (r1.2.1, [])))))))))
    | .inr r2 =>
      some (r2.2.2.1, (r2.2.2.2.1, (r2.2.2.2.2.1, (r2.2.2.2.2.2.1, (r2.2.2.2.2.2.2.1, (0, (0, (r2.1, (r2.2.1, r2.2.2.2.2.2.2.2)))))))))) fun o =>
  bif o.1 then
    (net_Net_Drop__com fu i o.2.1 o.2.2.1 o.2.2.2.1 o.2.2.2.2.1).bind fun r3 =>
    match r3 with
    | .inl r4 =>
      some (.inl (o.2.2.2.2.2.2.2.1, (o.2.2.2.2.2.2.2.2.1, (r4.1, (r4.2.1, (r4.2.2.1, (r4.2.2.2.1, (r4.2.2.2.2, o.2.2.2.2.2.2.2.2.2))))))))
    | .inr r5 =>
      some (.inr (o.2.2.2.2.2.2.2.1, (o.2.2.2.2.2.2.2.2.1, (r5.1, (r5.2.1, (r5.2.2.1, (r5.2.2.2.1, (r5.2.2.2.2.1, (r5.2.2.2.2.2, o.2.2.2.2.2.2.2.2.2)))))))))
  else
    some (.inl (o.2.2.2.2.2.2.2.1, (o.2.2.2.2.2.2.2.2.1, (false, (o.2.1, (o.2.2.1, (o.2.2.2.1, (o.2.2.2.2.1, o.2.2.2.2.2.2.2.2.2))))))))
def net_Net_Take__com_fa : FnA := ⟨.two (.reg [(0, { ids := [100] })]) (.two (.join ⟨[0, 4, 6, 7], ⟨(.cons (.own 0 0 0 0) (.cons (.own 0 100 0 0) (.cons (.own 0 102 0 0) (.cons (.p .bool) .nil)))), [(0, false, (.vars (.cons (.p (.int .i64)) (.cons (.p (.int .i64)) (.cons (.slf 3 1) (.cons (.mp 2) .nil)))))), (1, false, (.rows 34 (.pair (.int .i64) (.pair (.int .i64) (.sl .byte))))), (2, false, (.map (.int .i64) (.int .i64))), (100, false, (.vars (.cons (.p (.int .i64)) (.cons (.p (.int .i64)) (.cons (.nilp (.slice none 0 0)) .nil))))), (102, false, (.vars (.cons (.p (.int .i64)) (.cons (.p (.int .i64)) (.cons (.slf 1 103) .nil))))), (103, false, (.rows 5 .byte))]⟩⟩ false [] (.post (.ownCell 102 2 5 103) (.reg [(2, { ids := [101], sh := [0, 1, 2] }), (6, { ids := [102] })]))) (.two (.reg [(5, { ids := [104], sh := [0, 1, 2], fn := 1 })]) (.leaf))), ⟨(.cons (.own 0 0 0 0) (.cons (.p (.int .i64)) .nil)), [(0, false, (.vars (.cons (.p (.int .i64)) (.cons (.p (.int .i64)) (.cons (.slf 3 1) (.cons (.mp 2) .nil)))))), (1, false, (.rows 34 (.pair (.int .i64) (.pair (.int .i64) (.sl .byte))))), (2, false, (.map (.int .i64) (.int .i64)))]⟩, [⟨(.cons (.agg (.cons (.p (.int .i64)) (.cons (.p (.int .i64)) (.cons (.slf 1 3) .nil)))) (.cons (.p .bool) .nil)), [(0, false, (.vars (.cons (.p (.int .i64)) (.cons (.p (.int .i64)) (.cons (.slf 3 1) (.cons (.mp 2) .nil)))))), (1, false, (.rows 34 (.pair (.int .i64) (.pair (.int .i64) (.sl .byte))))), (2, false, (.map (.int .i64) (.int .i64))), (3, false, (.rows 5 .byte))]⟩, ⟨(.cons (.agg (.cons (.p (.int .i64)) (.cons (.p (.int .i64)) (.cons (.slf 1 4) .nil)))) (.cons (.p .bool) .nil)), [(0, false, (.vars (.cons (.p (.int .i64)) (.cons (.p (.int .i64)) (.cons (.slf 3 3) (.cons (.mp 2) .nil)))))), (2, false, (.map (.int .i64) (.int .i64))), (1, true, (.rows 34 (.pair (.int .i64) (.pair (.int .i64) (.sl .byte))))), (3, false, (.rows 34 (.pair (.int .i64) (.pair (.int .i64) (.sl .byte))))), (4, false, (.rows 5 .byte))]⟩], [0, 0]⟩
def net_Net_Take__com_ft (fu : Nat) : FnT := ⟨16, ⟨(.cons (.own 0 0 0 0) (.cons (.p (.int .i64)) .nil)), [(0, false, (.vars (.cons (.p (.int .i64)) (.cons (.p (.int .i64)) (.cons (.slf 3 1) (.cons (.mp 2) .nil)))))), (1, false, (.rows 34 (.pair (.int .i64) (.pair (.int .i64) (.sl .byte))))), (2, false, (.map (.int .i64) (.int .i64)))]⟩, [⟨(.cons (.agg (.cons (.p (.int .i64)) (.cons (.p (.int .i64)) (.cons (.slf 1 3) .nil)))) (.cons (.p .bool) .nil)), [(0, false, (.vars (.cons (.p (.int .i64)) (.cons (.p (.int .i64)) (.cons (.slf 3 1) (.cons (.mp 2) .nil)))))), (1, false, (.rows 34 (.pair (.int .i64) (.pair (.int .i64) (.sl .byte))))), (2, false, (.map (.int .i64) (.int .i64))), (3, false, (.rows 5 .byte))]⟩, ⟨(.cons (.agg (.cons (.p (.int .i64)) (.cons (.p (.int .i64)) (.cons (.slf 1 4) .nil)))) (.cons (.p .bool) .nil)), [(0, false, (.vars (.cons (.p (.int .i64)) (.cons (.p (.int .i64)) (.cons (.slf 3 3) (.cons (.mp 2) .nil)))))), (2, false, (.map (.int .i64) (.int .i64))), (1, true, (.rows 34 (.pair (.int .i64) (.pair (.int .i64) (.sl .byte))))), (3, false, (.rows 34 (.pair (.int .i64) (.pair (.int .i64) (.sl .byte))))), (4, false, (.rows 5 .byte))]⟩], fun t => net_Net_Take__com fu t.1 t.2.1 t.2.2.1 t.2.2.2.1 t.2.2.2.2⟩
theorem net_Net_Take__com_eq (fu : Nat) : ∀ t, evF Go.Proofs.Try.prog [net_Net_Look__com_ft fu, net_Net_Drop__com_ft fu] fu Go.Proofs.Try.f16 net_Net_Take__com_fa t = (net_Net_Take__com_ft fu).spec t := fun t => by kernel_rfl
theorem net_Net_Take__com_told (fu : Nat) : Told Go.Proofs.Try.prog (net_Net_Take__com_ft fu) := told_of (allT_cons (net_Net_Look__com_told fu) (allT_cons (net_Net_Drop__com_told fu) allT_nil)) mixed Go.Proofs.Try.func16 (by kernel_rfl) (by kernel_rfl) (net_Net_Take__com_eq fu)

def net_Net_Forget_1 (fu : Nat) (d : (Int × (Int × List (UInt8)))) (h : Int) : Option ((Bool × Int)) :=
  some ((d.2.1 == h), h)
def net_Net_Forget_1_fa : FnA := ⟨.two (.reg [(0, { ids := [100] })]) (.leaf), ⟨(.cons (.p (.pair (.int .i64) (.pair (.int .i64) (.sl .byte)))) (.cons (.own 0 0 0 0) .nil)), [(0, false, (.vars (.cons (.p (.int .i64)) .nil)))]⟩, [⟨(.cons (.p .bool) .nil), [(0, false, (.vars (.cons (.p (.int .i64)) .nil)))]⟩], [0]⟩
def net_Net_Forget_1_ft (fu : Nat) : FnT := ⟨45, ⟨(.cons (.p (.pair (.int .i64) (.pair (.int .i64) (.sl .byte)))) (.cons (.own 0 0 0 0) .nil)), [(0, false, (.vars (.cons (.p (.int .i64)) .nil)))]⟩, [⟨(.cons (.p .bool) .nil), [(0, false, (.vars (.cons (.p (.int .i64)) .nil)))]⟩], fun t => net_Net_Forget_1 fu t.1 t.2⟩
theorem net_Net_Forget_1_eq (fu : Nat) : ∀ t, evF Go.Proofs.Try.prog [] fu Go.Proofs.Try.f45 net_Net_Forget_1_fa t = (net_Net_Forget_1_ft fu).spec t := fun t => by kernel_rfl
theorem net_Net_Forget_1_told (fu : Nat) : Told Go.Proofs.Try.prog (net_Net_Forget_1_ft fu) := told_of allT_nil mixed Go.Proofs.Try.func45 (by kernel_rfl) (by kernel_rfl) (net_Net_Forget_1_eq fu)

def slices_IndexFunc__api_Datum_api_Datum_o0f11_l0 (fu : Nat) (h : List ((Int × (Int × List (UInt8))))) (x : Int) (h2 : List ((Int × (Int × List (UInt8))))) (h3 : Int) : Option ((Int × (List ((Int × (Int × List (UInt8)))) × Int)) ⊕ ((List ((Int × (Int × List (UInt8)))) × Int) ⊕ (Int × (List ((Int × (Int × List (UInt8)))) × Int)))) :=
  bif (decide (x < ((h.length : Nat) : Int))) then
    (idx? x h2.length).bind fun q =>
    (h2)[q]?.bind fun r =>
    (net_Net_Forget_1 fu r h3).bind fun r1 =>
    bif r1.1 then
      some (.inr (.inr (x, (h2, r1.2))))
    else
      some (.inl ((IntKind.wrap .i64 (x + 1)), (h2, r1.2)))
  else
    some (.inr (.inl (h2, h3)))
def slices_IndexFunc__api_Datum_api_Datum_o0f11_l0_it (fu : Nat) (h : List ((Int × (Int × List (UInt8))))) (tt : (Int × (List ((Int × (Int × List (UInt8)))) × Int))) : Option ((List ((Int × (Int × List (UInt8)))) × Int) ⊕ (Int × (List ((Int × (Int × List (UInt8)))) × Int))) :=
  iter fu (fun tt => slices_IndexFunc__api_Datum_api_Datum_o0f11_l0 fu h tt.1 tt.2.1 tt.2.2) tt
def slices_IndexFunc__api_Datum_api_Datum_o0f11 (fu : Nat) (h : List ((Int × (Int × List (UInt8))))) (h1 : Int) : Option ((Int × (List ((Int × (Int × List (UInt8)))) × Int))) :=
  (slices_IndexFunc__api_Datum_api_Datum_o0f11_l0_it fu h (0, (h, h1))).bind fun o =>
  match o with
  | .inl s =>
    some ((-1), (s.1, s.2))
  | .inr o1 =>
    some o1
def slices_IndexFunc__api_Datum_api_Datum_o0f11_fa : FnA := ⟨.two (.leaf) (.two (.two (.leaf) (.one (.loop ⟨[0, 1, 8], ⟨(.cons (.slf 3 0) (.cons (.fn 45 .nil (.cons (.own 0 1 0 0) .nil)) (.cons (.p (.int .i64)) .nil))), [(0, false, (.rows 34 (.pair (.int .i64) (.pair (.int .i64) (.sl .byte))))), (1, false, (.vars (.cons (.p (.int .i64)) .nil)))]⟩⟩ true [(0, ⟨[0, 1], ⟨(.cons (.slf 3 0) (.cons (.fn 45 .nil (.cons (.own 0 1 0 0) .nil)) .nil)), [(0, false, (.rows 34 (.pair (.int .i64) (.pair (.int .i64) (.sl .byte))))), (1, false, (.vars (.cons (.p (.int .i64)) .nil)))]⟩⟩)] (.two (.leaf) (.two (.leaf) (.two (.one (.two (.leaf) (.two (.reg [(5, { sh := [1] })]) (.two (.leaf) (.leaf))))) (.leaf))))))) (.leaf)), ⟨(.cons (.slf 3 0) (.cons (.fn 45 .nil (.cons (.own 0 1 0 0) .nil)) .nil)), [(0, false, (.rows 34 (.pair (.int .i64) (.pair (.int .i64) (.sl .byte))))), (1, false, (.vars (.cons (.p (.int .i64)) .nil)))]⟩, [⟨(.cons (.p (.int .i64)) .nil), [(0, false, (.rows 34 (.pair (.int .i64) (.pair (.int .i64) (.sl .byte))))), (1, false, (.vars (.cons (.p (.int .i64)) .nil)))]⟩], [0]⟩
def slices_IndexFunc__api_Datum_api_Datum_o0f11_ft (fu : Nat) : FnT := ⟨52, ⟨(.cons (.slf 3 0) (.cons (.fn 45 .nil (.cons (.own 0 1 0 0) .nil)) .nil)), [(0, false, (.rows 34 (.pair (.int .i64) (.pair (.int .i64) (.sl .byte))))), (1, false, (.vars (.cons (.p (.int .i64)) .nil)))]⟩, [⟨(.cons (.p (.int .i64)) .nil), [(0, false, (.rows 34 (.pair (.int .i64) (.pair (.int .i64) (.sl .byte))))), (1, false, (.vars (.cons (.p (.int .i64)) .nil)))]⟩], fun t => slices_IndexFunc__api_Datum_api_Datum_o0f11 fu t.1 t.2⟩
theorem slices_IndexFunc__api_Datum_api_Datum_o0f11_eq (fu : Nat) : ∀ t, evF Go.Proofs.Try.prog [net_Net_Forget_1_ft fu] fu Go.Proofs.Try.f52 slices_IndexFunc__api_Datum_api_Datum_o0f11_fa t = (slices_IndexFunc__api_Datum_api_Datum_o0f11_ft fu).spec t := fun t => by kernel_rfl
theorem slices_IndexFunc__api_Datum_api_Datum_o0f11_told (fu : Nat) : Told Go.Proofs.Try.prog (slices_IndexFunc__api_Datum_api_Datum_o0f11_ft fu) := told_of (allT_cons (net_Net_Forget_1_told fu) allT_nil) mixed Go.Proofs.Try.func52 (by kernel_rfl) (by kernel_rfl) (slices_IndexFunc__api_Datum_api_Datum_o0f11_eq fu)

def slices_DeleteFunc__api_Datum_api_Datum_o0f11_l0 (fu : Nat) (i : Int) (j : Int) (h2 : List ((Int × (Int × List (UInt8))))) (h3 : Int) : Option ((Int × (Int × (List ((Int × (Int × List (UInt8)))) × Int))) ⊕ ((Int × (List ((Int × (Int × List (UInt8)))) × Int)))) :=
  bif (decide (j < ((h2.length : Nat) : Int))) then
    (idx? j h2.length).bind fun q =>
    (h2)[q]?.bind fun r1 =>
    (net_Net_Forget_1 fu (r1.1, (r1.2.1, r1.2.2)) h3).bind fun r2 =>
    Option.bind (α := ((Int × (List ((Int × (Int × List (UInt8)))) × Int)))) (
      bif (!r2.1) then
        (idx? i h2.length).bind fun q1 =>
        (h2)[q1]?.bind fun r3 =>
        some ((IntKind.wrap .i64 (i + 1)), ((List.set h2 q1 (r1.1, (r1.2.1, r1.2.2))), r2.2))
      else
        some (i, (h2, r2.2))) fun o =>
    some (.inl (o.1, ((IntKind.wrap .i64 (j + 1)), (o.2.1, o.2.2))))
  else
    some (.inr (i, (h2, h3)))
def slices_DeleteFunc__api_Datum_api_Datum_o0f11_l0_it (fu : Nat)  (tt : (Int × (Int × (List ((Int × (Int × List (UInt8)))) × Int)))) : Option ((Int × (List ((Int × (Int × List (UInt8)))) × Int))) :=
  iter fu (fun tt => slices_DeleteFunc__api_Datum_api_Datum_o0f11_l0 fu tt.1 tt.2.1 tt.2.2.1 tt.2.2.2) tt
def slices_DeleteFunc__api_Datum_api_Datum_o0f11 (fu : Nat) (h : List ((Int × (Int × List (UInt8))))) (h1 : Int) : Option ((List ((Int × (Int × List (UInt8)))) × Int) ⊕ (Int × List ((Int × (Int × List (UInt8)))))) :=
  (slices_IndexFunc__api_Datum_api_Datum_o0f11 fu h h1).bind fun r =>
  bif (r.1 == (-1)) then
    some (.inl (r.2.1, r.2.2))
  else
    (slices_DeleteFunc__api_Datum_api_Datum_o0f11_l0_it fu  (r.1, ((IntKind.wrap .i64 (r.1 + 1)), (r.2.1, r.2.2)))).bind fun o1 =>
    (upto? o1.1 o1.2.1.length).bind fun q2 =>
    need (Nat.ble (q2 + (o1.2.1.length - q2)) o1.2.1.length) <|
    (upto? o1.1 (splice o1.2.1 q2 (List.replicate (α := (Int × (Int × List (UInt8)))) (o1.2.1.length - q2) (0, (0, [])))).length).bind fun q3 =>
    need (Nat.ble q3 (splice o1.2.1 q2 (List.replicate (α := (Int × (Int × List (UInt8)))) (o1.2.1.length - q2) (0, (0, [])))).length) <|
    some (.inr (o1.2.2, (List.take q3 (splice o1.2.1 q2 (List.replicate (α := (Int × (Int × List (UInt8)))) (o1.2.1.length - q2) (0, (0, [])))))))
def slices_DeleteFunc__api_Datum_api_Datum_o0f11_fa : FnA := ⟨.two (.leaf) (.two (.reg [(2, { sh := [0, 1] })]) (.two (.two (.leaf) (.two (.leaf) (.leaf))) (.two (.two (.leaf) (.one (.loop ⟨[0, 1, 5, 6], ⟨(.cons (.slf 3 0) (.cons (.fn 45 .nil (.cons (.own 0 1 0 0) .nil)) (.cons (.p (.int .i64)) (.cons (.p (.int .i64)) .nil)))), [(0, false, (.rows 34 (.pair (.int .i64) (.pair (.int .i64) (.sl .byte))))), (1, false, (.vars (.cons (.p (.int .i64)) .nil)))]⟩⟩ false [(0, ⟨[0, 1, 5], ⟨(.cons (.slf 3 0) (.cons (.fn 45 .nil (.cons (.own 0 1 0 0) .nil)) (.cons (.p (.int .i64)) .nil))), [(0, false, (.rows 34 (.pair (.int .i64) (.pair (.int .i64) (.sl .byte))))), (1, false, (.vars (.cons (.p (.int .i64)) .nil)))]⟩⟩)] (.two (.two (.leaf) (.leaf)) (.two (.one (.two (.reg [(4, { ids := [100] })]) (.two (.reg [(2, { sh := [1], fn := 1 })]) (.join ⟨[0, 1, 5], ⟨(.cons (.slf 3 0) (.cons (.fn 45 .nil (.cons (.own 0 1 0 0) .nil)) (.cons (.p (.int .i64)) .nil))), [(0, false, (.rows 34 (.pair (.int .i64) (.pair (.int .i64) (.sl .byte))))), (1, false, (.vars (.cons (.p (.int .i64)) .nil)))]⟩⟩ false [] (.two (.leaf) (.leaf)))))) (.leaf)))))) (.two (.leaf) (.leaf))))), ⟨(.cons (.slf 3 0) (.cons (.fn 45 .nil (.cons (.own 0 1 0 0) .nil)) .nil)), [(0, false, (.rows 34 (.pair (.int .i64) (.pair (.int .i64) (.sl .byte))))), (1, false, (.vars (.cons (.p (.int .i64)) .nil)))]⟩, [⟨(.cons (.slf 3 0) .nil), [(0, false, (.rows 34 (.pair (.int .i64) (.pair (.int .i64) (.sl .byte))))), (1, false, (.vars (.cons (.p (.int .i64)) .nil)))]⟩, ⟨(.cons (.slf 3 2) .nil), [(1, false, (.vars (.cons (.p (.int .i64)) .nil))), (2, false, (.rows 34 (.pair (.int .i64) (.pair (.int .i64) (.sl .byte)))))]⟩], [44]⟩
def slices_DeleteFunc__api_Datum_api_Datum_o0f11_ft (fu : Nat) : FnT := ⟨44, ⟨(.cons (.slf 3 0) (.cons (.fn 45 .nil (.cons (.own 0 1 0 0) .nil)) .nil)), [(0, false, (.rows 34 (.pair (.int .i64) (.pair (.int .i64) (.sl .byte))))), (1, false, (.vars (.cons (.p (.int .i64)) .nil)))]⟩, [⟨(.cons (.slf 3 0) .nil), [(0, false, (.rows 34 (.pair (.int .i64) (.pair (.int .i64) (.sl .byte))))), (1, false, (.vars (.cons (.p (.int .i64)) .nil)))]⟩, ⟨(.cons (.slf 3 2) .nil), [(1, false, (.vars (.cons (.p (.int .i64)) .nil))), (2, false, (.rows 34 (.pair (.int .i64) (.pair (.int .i64) (.sl .byte)))))]⟩], fun t => slices_DeleteFunc__api_Datum_api_Datum_o0f11 fu t.1 t.2⟩
theorem slices_DeleteFunc__api_Datum_api_Datum_o0f11_eq (fu : Nat) : ∀ t, evF Go.Proofs.Try.prog [slices_IndexFunc__api_Datum_api_Datum_o0f11_ft fu, net_Net_Forget_1_ft fu] fu Go.Proofs.Try.f44 slices_DeleteFunc__api_Datum_api_Datum_o0f11_fa t = (slices_DeleteFunc__api_Datum_api_Datum_o0f11_ft fu).spec t := fun t => by kernel_rfl
theorem slices_DeleteFunc__api_Datum_api_Datum_o0f11_told (fu : Nat) : Told Go.Proofs.Try.prog (slices_DeleteFunc__api_Datum_api_Datum_o0f11_ft fu) := told_of (allT_cons (slices_IndexFunc__api_Datum_api_Datum_o0f11_told fu) (allT_cons (net_Net_Forget_1_told fu) allT_nil)) mixed Go.Proofs.Try.func44 (by kernel_rfl) (by kernel_rfl) (slices_DeleteFunc__api_Datum_api_Datum_o0f11_eq fu)

def net_Net_Forget__com (fu : Nat) (to_ : Int) (h : Int) (h1 : Int) (h2 : List ((Int × (Int × List (UInt8))))) (h3 : (List (((Int × Int) × Nat)) × Nat)) : Option ((Int × (Int × (Int × ((List (((Int × Int) × Nat)) × Nat) × List ((Int × (Int × List (UInt8))))))))) :=
  (net_Net_Waiting__com fu to_ h h1 h2 h3).bind fun r =>
  bif (decide (r.1 > 0)) then
    Option.bind (α := ((Int × (Int × (List ((Int × (Int × List (UInt8)))) × ((List (((Int × Int) × Nat)) × Nat) × Int)))))) (
      (slices_DeleteFunc__api_Datum_api_Datum_o0f11 fu r.2.2.2.1 to_).bind fun r1 =>
      match r1 with
      | .inl r2 =>
        some (r.2.1, (r.2.2.1, (r2.1, (r.2.2.2.2, r2.2))))
      | .inr r3 =>
        some (r.2.1, (r.2.2.1, (r3.2, (r.2.2.2.2, r3.1))))) fun o =>
    some (r.1, (o.1, (o.2.1, ((mdel (k := (.int .i64)) (v := (.int .i64)) o.2.2.2.1 o.2.2.2.2), o.2.2.1))))
  else
    some (r.1, (r.2.1, (r.2.2.1, (r.2.2.2.2, r.2.2.2.1))))
def net_Net_Forget__com_fa : FnA := ⟨.two (.reg [(0, { ids := [100] })]) (.two (.reg [(2, { sh := [0, 1, 2] })]) (.two (.two (.leaf) (.pre (.renum 1 101) (.two (.two (.join ⟨[0, 3], ⟨(.cons (.own 0 0 0 0) (.cons (.own 0 100 0 0) .nil)), [(0, false, (.vars (.cons (.p (.int .i64)) (.cons (.p (.int .i64)) (.cons (.slf 3 101) (.cons (.mp 2) .nil)))))), (101, false, (.rows 34 (.pair (.int .i64) (.pair (.int .i64) (.sl .byte))))), (2, false, (.map (.int .i64) (.int .i64))), (100, false, (.vars (.cons (.p (.int .i64)) .nil)))]⟩⟩ false [] (.reg [(6, { ids := [102], sh := [101, 100], fn := 1 })])) (.leaf)) (.leaf)))) (.leaf))), ⟨(.cons (.own 0 0 0 0) (.cons (.p (.int .i64)) .nil)), [(0, false, (.vars (.cons (.p (.int .i64)) (.cons (.p (.int .i64)) (.cons (.slf 3 1) (.cons (.mp 2) .nil)))))), (1, false, (.rows 34 (.pair (.int .i64) (.pair (.int .i64) (.sl .byte))))), (2, false, (.map (.int .i64) (.int .i64)))]⟩, [⟨(.cons (.p (.int .i64)) .nil), [(0, false, (.vars (.cons (.p (.int .i64)) (.cons (.p (.int .i64)) (.cons (.slf 3 3) (.cons (.mp 2) .nil)))))), (2, false, (.map (.int .i64) (.int .i64))), (3, false, (.rows 34 (.pair (.int .i64) (.pair (.int .i64) (.sl .byte)))))]⟩], [0]⟩
def net_Net_Forget__com_ft (fu : Nat) : FnT := ⟨19, ⟨(.cons (.own 0 0 0 0) (.cons (.p (.int .i64)) .nil)), [(0, false, (.vars (.cons (.p (.int .i64)) (.cons (.p (.int .i64)) (.cons (.slf 3 1) (.cons (.mp 2) .nil)))))), (1, false, (.rows 34 (.pair (.int .i64) (.pair (.int .i64) (.sl .byte))))), (2, false, (.map (.int .i64) (.int .i64)))]⟩, [⟨(.cons (.p (.int .i64)) .nil), [(0, false, (.vars (.cons (.p (.int .i64)) (.cons (.p (.int .i64)) (.cons (.slf 3 3) (.cons (.mp 2) .nil)))))), (2, false, (.map (.int .i64) (.int .i64))), (3, false, (.rows 34 (.pair (.int .i64) (.pair (.int .i64) (.sl .byte)))))]⟩], fun t => net_Net_Forget__com fu t.1 t.2.1 t.2.2.1 t.2.2.2.1 t.2.2.2.2⟩
theorem net_Net_Forget__com_eq (fu : Nat) : ∀ t, evF Go.Proofs.Try.prog [net_Net_Waiting__com_ft fu, slices_DeleteFunc__api_Datum_api_Datum_o0f11_ft fu] fu Go.Proofs.Try.f19 net_Net_Forget__com_fa t = (net_Net_Forget__com_ft fu).spec t := fun t => by kernel_rfl
theorem net_Net_Forget__com_told (fu : Nat) : Told Go.Proofs.Try.prog (net_Net_Forget__com_ft fu) := told_of (allT_cons (net_Net_Waiting__com_told fu) (allT_cons (slices_DeleteFunc__api_Datum_api_Datum_o0f11_told fu) allT_nil)) mixed Go.Proofs.Try.func19 (by kernel_rfl) (by kernel_rfl) (net_Net_Forget__com_eq fu)

def law07_awake (fu : Nat)  : Option (Bool) :=
  (net_New fu 2 2).bind fun r =>
  match r with
  | .inl r1 =>
    Option.bind (α := (Bool)) (
      bif (!(r1 == 0)) then
        some true
      else
        (net_Net_Send_n0 fu 0 1 [(UInt8.ofNat 97)]).bind fun r3 =>
        bif (!(r3 == 0)) then
          some true
        else
          (net_Net_Send_n0 fu 1 0 [(UInt8.ofNat 98)]).bind fun r4 =>
          bif (!(r4 == 0)) then
            some true
          else
            (net_Net_Flying_n0 fu).bind fun r5 =>
            bif (!(r5 == 2)) then
              some true
            else
              (net_Net_Copy_n0 fu 0).bind fun r6 =>
              some (!(r6 == 0))) fun o =>
    bif o then
      some false
    else
      Option.bind (α := (Bool)) (
        (net_Net_Flying_n0 fu).bind fun r7 =>
        bif (r7 == 3) then
          (law07_is_n0 fu 0 0 1 [97]).bind fun r8 =>
          bif r8 then
            (law07_is_n0 fu 1 1 0 [98]).bind fun r9 =>
            bif r9 then
              (law07_is_n0 fu 2 0 1 [97]).bind fun r10 =>
              bif r10 then
                (net_Net_Waiting_n0 fu 1).bind fun r11 =>
                some (r11 == 2)
              else
                some false
            else
              some false
          else
            some false
        else
          some false) fun o1 =>
      (net_Net_Send_n0 fu 0 1 [(UInt8.ofNat 99)]).bind fun r12 =>
      (net_Net_Take_n0 fu 1).bind fun r13 =>
      Option.bind (α := (Bool)) (
        bif (!o1) then
          some true
        else
          bif (!(r12 == 5)) then
            some true
          else
            bif (!r13.2.2) then
              some true
            else
              (law07_like fu (r13.1, (r13.2.1, [])) (1, (0, [(UInt8.ofNat 98)]))).bind fun r14 =>
              bif (!r14) then
                some true
              else
                (net_Net_Drop_n0 fu 0).bind fun r15 =>
                bif (!r15) then
                  some true
                else
                  (net_Net_Forget_n0 fu 1).bind fun r16 =>
                  some (!(r16 == 1))) fun o2 =>
      bif o2 then
        some false
      else
        (net_Net_Look_n0 fu 0).bind fun r17 =>
        bif (!r17.2.2) then
          (net_Net_Flying_n0 fu).bind fun r18 =>
          some (r18 == 0)
        else
          some false
  | .inr r2 =>
    Option.bind (α := ((Bool × (Int × (Int × (List ((Int × (Int × List (UInt8)))) × (List (((Int × Int) × Nat)) × Nat))))))) (
      bif (!(r2.1 == 0)) then
        some (true, (r2.2.1, (r2.2.2.1, ([], r2.2.2.2))))
      else
        (net_Net_Send__com fu 0 1 [(UInt8.ofNat 97)] r2.2.1 r2.2.2.1 [] r2.2.2.2).bind fun r19 =>
        match r19 with
        | .inl r20 =>
          bif (!(r20.1 == 0)) then
            some (true, (r20.2.1, (r20.2.2.1, (r20.2.2.2.1, r20.2.2.2.2))))
          else
            (net_Net_Send__com fu 1 0 [(UInt8.ofNat 98)] r20.2.1 r20.2.2.1 r20.2.2.2.1 r20.2.2.2.2).bind fun r22 =>
            match r22 with
            | .inl r23 =>
              bif (!(r23.1 == 0)) then
                some (true, (r23.2.1, (r23.2.2.1, (r23.2.2.2.1, r23.2.2.2.2))))
              else
                (net_Net_Flying__com fu r23.2.1 r23.2.2.1 r23.2.2.2.1 r23.2.2.2.2).bind fun r25 =>
                bif (!(r25.1 == 2)) then
                  some (true, (r25.2.1, (r25.2.2.1, (r25.2.2.2.1, r25.2.2.2.2))))
                else
                  (net_Net_Copy__com fu 0 r25.2.1 r25.2.2.1 r25.2.2.2.1 r25.2.2.2.2).bind fun r26 =>
                  match r26 with
                  | .inl r27 =>
                    some ((!(r27.1 == 0)), (r27.2.1, (r27.2.2.1, (r27.2.2.2.1, r27.2.2.2.2))))
                  | .inr r28 =>
                    some ((!(r28.1 == 0)), (r28.2.1, (r28.2.2.1, (r28.2.2.2.2, r28.2.2.2.1))))
            | .inr r24 =>
              bif (!(r24.1 == 0)) then
                some (true, (r24.2.1, (r24.2.2.1, (r24.2.2.2.2, r24.2.2.2.1))))
              else
                (net_Net_Flying__com fu r24.2.1 r24.2.2.1 r24.2.2.2.2 r24.2.2.2.1).bind fun r29 =>
                bif (!(r29.1 == 2)) then
                  some (true, (r29.2.1, (r29.2.2.1, (r29.2.2.2.1, r29.2.2.2.2))))
                else
                  (net_Net_Copy__com fu 0 r29.2.1 r29.2.2.1 r29.2.2.2.1 r29.2.2.2.2).bind fun r30 =>
                  match r30 with
                  | .inl r31 =>
                    some ((!(r31.1 == 0)), (r31.2.1, (r31.2.2.1, (r31.2.2.2.1, r31.2.2.2.2))))
                  | .inr r32 =>
                    some ((!(r32.1 == 0)), (r32.2.1, (r32.2.2.1, (r32.2.2.2.2, r32.2.2.2.1))))
        | .inr r21 =>
          bif (!(r21.1 == 0)) then
            some (true, (r21.2.1, (r21.2.2.1, (r21.2.2.2.2, r21.2.2.2.1))))
          else
            (net_Net_Send__com fu 1 0 [(UInt8.ofNat 98)] r21.2.1 r21.2.2.1 r21.2.2.2.2 r21.2.2.2.1).bind fun r33 =>
            match r33 with
            | .inl r34 =>
              bif (!(r34.1 == 0)) then
                some (true, (r34.2.1, (r34.2.2.1, (r34.2.2.2.1, r34.2.2.2.2))))
              else
                (net_Net_Flying__com fu r34.2.1 r34.2.2.1 r34.2.2.2.1 r34.2.2.2.2).bind fun r36 =>
                bif (!(r36.1 == 2)) then
                  some (true, (r36.2.1, (r36.2.2.1, (r36.2.2.2.1, r36.2.2.2.2))))
                else
                  (net_Net_Copy__com fu 0 r36.2.1 r36.2.2.1 r36.2.2.2.1 r36.2.2.2.2).bind fun r37 =>
                  match r37 with
                  | .inl r38 =>
                    some ((!(r38.1 == 0)), (r38.2.1, (r38.2.2.1, (r38.2.2.2.1, r38.2.2.2.2))))
                  | .inr r39 =>
                    some ((!(r39.1 == 0)), (r39.2.1, (r39.2.2.1, (r39.2.2.2.2, r39.2.2.2.1))))
            | .inr r35 =>
              bif (!(r35.1 == 0)) then
                some (true, (r35.2.1, (r35.2.2.1, (r35.2.2.2.2, r35.2.2.2.1))))
              else
                (net_Net_Flying__com fu r35.2.1 r35.2.2.1 r35.2.2.2.2 r35.2.2.2.1).bind fun r40 =>
                bif (!(r40.1 == 2)) then
                  some (true, (r40.2.1, (r40.2.2.1, (r40.2.2.2.1, r40.2.2.2.2))))
                else
                  (net_Net_Copy__com fu 0 r40.2.1 r40.2.2.1 r40.2.2.2.1 r40.2.2.2.2).bind fun r41 =>
                  match r41 with
                  | .inl r42 =>
                    some ((!(r42.1 == 0)), (r42.2.1, (r42.2.2.1, (r42.2.2.2.1, r42.2.2.2.2))))
                  | .inr r43 =>
                    some ((!(r43.1 == 0)), (r43.2.1, (r43.2.2.1, (r43.2.2.2.2, r43.2.2.2.1))))) fun o3 =>
    bif o3.1 then
      some false
    else
      Option.bind (α := ((Bool × (Int × (Int × (List ((Int × (Int × List (UInt8)))) × (List (((Int × Int) × Nat)) × Nat))))))) (
        (net_Net_Flying__com fu o3.2.1 o3.2.2.1 o3.2.2.2.1 o3.2.2.2.2).bind fun r44 =>
        bif (r44.1 == 3) then
          (law07_is__com fu 0 0 1 [97] r44.2.1 r44.2.2.1 r44.2.2.2.1 r44.2.2.2.2).bind fun r45 =>
          bif r45.1 then
            (law07_is__com fu 1 1 0 [98] r45.2.1 r45.2.2.1 r45.2.2.2.1 r45.2.2.2.2).bind fun r46 =>
            bif r46.1 then
              (law07_is__com fu 2 0 1 [97] r46.2.1 r46.2.2.1 r46.2.2.2.1 r46.2.2.2.2).bind fun r47 =>
              bif r47.1 then
                (net_Net_Waiting__com fu 1 r47.2.1 r47.2.2.1 r47.2.2.2.1 r47.2.2.2.2).bind fun r48 =>
                some ((r48.1 == 2), (r48.2.1, (r48.2.2.1, (r48.2.2.2.1, r48.2.2.2.2))))
              else
                some (false, (r47.2.1, (r47.2.2.1, (r47.2.2.2.1, r47.2.2.2.2))))
            else
              some (false, (r46.2.1, (r46.2.2.1, (r46.2.2.2.1, r46.2.2.2.2))))
          else
            some (false, (r45.2.1, (r45.2.2.1, (r45.2.2.2.1, r45.2.2.2.2))))
        else
          some (false, (r44.2.1, (r44.2.2.1, (r44.2.2.2.1, r44.2.2.2.2))))) fun o4 =>
      Option.bind (α := ((Int × (Int × (Int × (List ((Int × (Int × List (UInt8)))) × (List (((Int × Int) × Nat)) × Nat))))))) (
        (net_Net_Send__com fu 0 1 [(UInt8.ofNat 99)] o4.2.1 o4.2.2.1 o4.2.2.2.1 o4.2.2.2.2).bind fun r49 =>
        match r49 with
        | .inl r50 =>
          some (r50.1, (r50.2.1, (r50.2.2.1, (r50.2.2.2.1, r50.2.2.2.2))))
        | .inr r51 =>
          some (r51.1, (r51.2.1, (r51.2.2.1, (r51.2.2.2.2, r51.2.2.2.1))))) fun o5 =>
      Option.bind (α := ((Bool × (Int × (Int × (List ((Int × (Int × List (UInt8)))) × ((List (((Int × Int) × Nat)) × Nat) × (Int × (Int × List (UInt8)))))))))) (
        (net_Net_Take__com fu 1 o5.2.1 o5.2.2.1 o5.2.2.2.1 o5.2.2.2.2).bind fun r52 =>
        match r52 with
        | .inl r53 =>
          some (r53.2.2.1, (r53.2.2.2.1, (r53.2.2.2.2.1, (r53.2.2.2.2.2.1, (r53.2.2.2.2.2.2.1, (r53.1, (r53.2.1, r53.2.2.2.2.2.2.2)))))))
        | .inr r54 =>
          some (r54.2.2.1, (r54.2.2.2.1, (r54.2.2.2.2.1, (r54.2.2.2.2.2.2.2.1, (r54.2.2.2.2.2.1, (r54.1, (r54.2.1, r54.2.2.2.2.2.2.2.2)))))))) fun o6 =>
      Option.bind (α := ((Bool × (Int × (Int × (List ((Int × (Int × List (UInt8)))) × (List (((Int × Int) × Nat)) × Nat))))))) (
        bif (!o4.1) then
          some (true, (o6.2.1, (o6.2.2.1, (o6.2.2.2.1, o6.2.2.2.2.1))))
        else
          bif (!(o5.1 == 5)) then
            some (true, (o6.2.1, (o6.2.2.1, (o6.2.2.2.1, o6.2.2.2.2.1))))
          else
            bif (!o6.1) then
              some (true, (o6.2.1, (o6.2.2.1, (o6.2.2.2.1, o6.2.2.2.2.1))))
            else
              (law07_like fu (o6.2.2.2.2.2.1, (o6.2.2.2.2.2.2.1, o6.2.2.2.2.2.2.2)) (1, (0, [(UInt8.ofNat 98)]))).bind fun r55 =>
              bif (!r55) then
                some (true, (o6.2.1, (o6.2.2.1, (o6.2.2.2.1, o6.2.2.2.2.1))))
              else
                (net_Net_Drop__com fu 0 o6.2.1 o6.2.2.1 o6.2.2.2.1 o6.2.2.2.2.1).bind fun r56 =>
                match r56 with
                | .inl r57 =>
                  bif (!r57.1) then
                    some (true, (r57.2.1, (r57.2.2.1, (r57.2.2.2.1, r57.2.2.2.2))))
                  else
                    (net_Net_Forget__com fu 1 r57.2.1 r57.2.2.1 r57.2.2.2.1 r57.2.2.2.2).bind fun r59 =>
                    some ((!(r59.1 == 1)), (r59.2.1, (r59.2.2.1, (r59.2.2.2.2, r59.2.2.2.1))))
                | .inr r58 =>
                  bif (!r58.1) then
                    some (true, (r58.2.1, (r58.2.2.1, (r58.2.2.2.2.2, r58.2.2.2.1))))
                  else
                    (net_Net_Forget__com fu 1 r58.2.1 r58.2.2.1 r58.2.2.2.2.2 r58.2.2.2.1).bind fun r60 =>
                    some ((!(r60.1 == 1)), (r60.2.1, (r60.2.2.1, (r60.2.2.2.2, r60.2.2.2.1))))) fun o7 =>
      bif o7.1 then
        some false
      else
        Option.bind (α := ((Bool × (Int × (Int × (List ((Int × (Int × List (UInt8)))) × (List (((Int × Int) × Nat)) × Nat))))))) (
          (net_Net_Look__com fu 0 o7.2.1 o7.2.2.1 o7.2.2.2.1 o7.2.2.2.2).bind fun r61 =>
          match r61 with
          | .inl r62 =>
            some (r62.2.2.1, (r62.2.2.2.1, (r62.2.2.2.2.1, (r62.2.2.2.2.2.1, r62.2.2.2.2.2.2))))
          | .inr r63 =>
            some (r63.2.2.1, (r63.2.2.2.1, (r63.2.2.2.2.1, (r63.2.2.2.2.2.1, r63.2.2.2.2.2.2.1))))) fun o8 =>
        bif (!o8.1) then
          (net_Net_Flying__com fu o8.2.1 o8.2.2.1 o8.2.2.2.1 o8.2.2.2.2).bind fun r64 =>
          some (r64.1 == 0)
        else
          some false
def law07_awake_fa : FnA := ⟨.two (.leaf) (.two (.reg [(0, { ids := [100, 101] })]) (.sel (.slot 1 (.nilp (.pointer none))) (.two (.two (.join ⟨[36], ⟨(.cons (.p .bool) .nil), []⟩⟩ false [] (.reg [(4, { ids := [103] }), (6, { md := [0, 0, 0, 2], fn := 1 }), (11, { ids := [104] }), (13, { md := [0, 0, 0, 2], fn := 1 }), (18, { fn := 2 }), (23, { fn := 3 })])) (.two (.leaf) (.leaf))) (.two (.join ⟨[3], ⟨(.cons (.p .bool) .nil), []⟩⟩ false [] (.reg [(1, { fn := 2 }), (5, { fn := 4 }), (9, { fn := 4 }), (13, { fn := 4 }), (17, { fn := 5 })])) (.two (.reg [(1, { ids := [105] }), (3, { md := [0, 0, 0, 2], fn := 1 })]) (.two (.reg [(1, { fn := 6 }), (5, { ids := [106] })]) (.two (.two (.join ⟨[93], ⟨(.cons (.p .bool) .nil), []⟩⟩ false [] (.reg [(12, { ids := [107] }), (15, { md := [0, 2], fn := 7 }), (20, { fn := 8 }), (25, { fn := 9 })])) (.two (.leaf) (.leaf))) (.two (.reg [(1, { fn := 10 })]) (.two (.reg [(4, { fn := 2 })]) (.leaf)))))))) (.pre (.ownCell 100 2 34 103) (.two (.two (.join ⟨[1, 36], ⟨(.cons (.own 0 100 0 0) (.cons (.p .bool) .nil)), [(100, false, (.vars (.cons (.p (.int .i64)) (.cons (.p (.int .i64)) (.cons (.slf 3 103) (.cons (.mp 101) .nil)))))), (103, false, (.rows 34 (.pair (.int .i64) (.pair (.int .i64) (.sl .byte))))), (101, false, (.map (.int .i64) (.int .i64)))]⟩⟩ false [] (.reg [(4, { ids := [104] }), (6, { ids := [105], sh := [100, 103, 101], md := [0, 0, 0, 1], fn := 11 }), (11, { ids := [106] }), (13, { ids := [107], sh := [100, 103, 101], md := [0, 0, 0, 1], fn := 11, more := [{ ids := [107], sh := [100, 105, 101], md := [0, 0, 0, 1], fn := 11 }] }), (18, { sh := [100, 103, 101], fn := 12, more := [{ sh := [100, 107, 101], fn := 12 }, { sh := [100, 105, 101], fn := 12 }] }), (23, { ids := [108], sh := [100, 103, 101], fn := 13, more := [{ ids := [108], sh := [100, 107, 101], fn := 13 }, { ids := [108], sh := [100, 105, 101], fn := 13 }] })])) (.two (.leaf) (.leaf))) (.two (.join ⟨[1, 3], ⟨(.cons (.own 0 100 0 0) (.cons (.p .bool) .nil)), [(100, false, (.vars (.cons (.p (.int .i64)) (.cons (.p (.int .i64)) (.cons (.slf 3 103) (.cons (.mp 101) .nil)))))), (103, false, (.rows 34 (.pair (.int .i64) (.pair (.int .i64) (.sl .byte))))), (101, false, (.map (.int .i64) (.int .i64)))]⟩⟩ false [] (.reg [(1, { sh := [100, 103, 101], fn := 12 }), (5, { sh := [100, 103, 101], fn := 14 }), (9, { sh := [100, 103, 101], fn := 14 }), (13, { sh := [100, 103, 101], fn := 14 }), (17, { sh := [100, 103, 101], fn := 15 })])) (.two (.join ⟨[1, 4], ⟨(.cons (.own 0 100 0 0) (.cons (.p (.int .i64)) .nil)), [(100, false, (.vars (.cons (.p (.int .i64)) (.cons (.p (.int .i64)) (.cons (.slf 3 103) (.cons (.mp 101) .nil)))))), (103, false, (.rows 34 (.pair (.int .i64) (.pair (.int .i64) (.sl .byte))))), (101, false, (.map (.int .i64) (.int .i64)))]⟩⟩ false [] (.reg [(1, { ids := [109] }), (3, { ids := [110], sh := [100, 103, 101], md := [0, 0, 0, 1], fn := 11 })])) (.two (.join ⟨[1, 5, 6], ⟨(.cons (.own 0 100 0 0) (.cons (.own 0 113 0 0) (.cons (.p .bool) .nil))), [(100, false, (.vars (.cons (.p (.int .i64)) (.cons (.p (.int .i64)) (.cons (.slf 3 103) (.cons (.mp 101) .nil)))))), (103, false, (.rows 34 (.pair (.int .i64) (.pair (.int .i64) (.sl .byte))))), (101, false, (.map (.int .i64) (.int .i64))), (113, false, (.vars (.cons (.p (.int .i64)) (.cons (.p (.int .i64)) (.cons (.slf 1 111) .nil))))), (111, false, (.rows 5 .byte))]⟩⟩ false [] (.reg [(1, { ids := [111, 112], sh := [100, 103, 101], fn := 16 }), (5, { ids := [113] })])) (.two (.two (.join ⟨[1, 93], ⟨(.cons (.own 0 100 0 0) (.cons (.p .bool) .nil)), [(100, false, (.vars (.cons (.p (.int .i64)) (.cons (.p (.int .i64)) (.cons (.slf 3 103) (.cons (.mp 101) .nil)))))), (103, false, (.rows 34 (.pair (.int .i64) (.pair (.int .i64) (.sl .byte))))), (101, false, (.map (.int .i64) (.int .i64)))]⟩⟩ false [] (.reg [(12, { ids := [114] }), (15, { md := [2, 2], fn := 7 }), (20, { ids := [115], sh := [100, 103, 101], fn := 17 }), (25, { ids := [116], sh := [100, 103, 101], fn := 18, more := [{ ids := [116], sh := [100, 115, 101], fn := 18 }] })])) (.two (.leaf) (.leaf))) (.two (.join ⟨[1, 6], ⟨(.cons (.own 0 100 0 0) (.cons (.p .bool) .nil)), [(100, false, (.vars (.cons (.p (.int .i64)) (.cons (.p (.int .i64)) (.cons (.slf 3 103) (.cons (.mp 101) .nil)))))), (103, false, (.rows 34 (.pair (.int .i64) (.pair (.int .i64) (.sl .byte))))), (101, false, (.map (.int .i64) (.int .i64)))]⟩⟩ false [] (.reg [(1, { ids := [117], sh := [100, 103, 101], fn := 19 })])) (.two (.reg [(4, { sh := [100, 103, 101], fn := 12 })]) (.leaf))))))))))), ⟨.nil, []⟩, [⟨(.cons (.p .bool) .nil), []⟩], [0]⟩
def law07_awake_ft (fu : Nat) : FnT := ⟨20, ⟨.nil, []⟩, [⟨(.cons (.p .bool) .nil), []⟩], fun t => law07_awake fu ⟩
theorem law07_awake_eq (fu : Nat) : ∀ t, evF Go.Proofs.Try.prog [net_New_ft fu, net_Net_Send_n0_ft fu, net_Net_Flying_n0_ft fu, net_Net_Copy_n0_ft fu, law07_is_n0_ft fu, net_Net_Waiting_n0_ft fu, net_Net_Take_n0_ft fu, law07_like_ft fu, net_Net_Drop_n0_ft fu, net_Net_Forget_n0_ft fu, net_Net_Look_n0_ft fu, net_Net_Send__com_ft fu, net_Net_Flying__com_ft fu, net_Net_Copy__com_ft fu, law07_is__com_ft fu, net_Net_Waiting__com_ft fu, net_Net_Take__com_ft fu, net_Net_Drop__com_ft fu, net_Net_Forget__com_ft fu, net_Net_Look__com_ft fu] fu Go.Proofs.Try.f20 law07_awake_fa t = (law07_awake_ft fu).spec t := fun t => by kernel_rfl
theorem law07_awake_told (fu : Nat) : Told Go.Proofs.Try.prog (law07_awake_ft fu) := told_of (allT_cons (net_New_told fu) (allT_cons (net_Net_Send_n0_told fu) (allT_cons (net_Net_Flying_n0_told fu) (allT_cons (net_Net_Copy_n0_told fu) (allT_cons (law07_is_n0_told fu) (allT_cons (net_Net_Waiting_n0_told fu) (allT_cons (net_Net_Take_n0_told fu) (allT_cons (law07_like_told fu) (allT_cons (net_Net_Drop_n0_told fu) (allT_cons (net_Net_Forget_n0_told fu) (allT_cons (net_Net_Look_n0_told fu) (allT_cons (net_Net_Send__com_told fu) (allT_cons (net_Net_Flying__com_told fu) (allT_cons (net_Net_Copy__com_told fu) (allT_cons (law07_is__com_told fu) (allT_cons (net_Net_Waiting__com_told fu) (allT_cons (net_Net_Take__com_told fu) (allT_cons (net_Net_Drop__com_told fu) (allT_cons (net_Net_Forget__com_told fu) (allT_cons (net_Net_Look__com_told fu) allT_nil)))))))))))))))))))) mixed Go.Proofs.Try.func20 (by kernel_rfl) (by kernel_rfl) (law07_awake_eq fu)

def low_CopyBytes (fu : Nat) (l : List (UInt8)) : Option (List (UInt8)) :=
  need ((Nat.ble (l.length * 1) room) && (Nat.ble l.length room)) <|
  some l
def low_CopyBytes_fa : FnA := ⟨.two (.leaf) (.two (.leaf) (.two (.reg [(2, { ids := [100] })]) (.leaf))), ⟨(.cons (.p (.sl .byte)) .nil), []⟩, [⟨(.cons (.slf 1 0) .nil), [(0, false, (.rows 5 .byte))]⟩], [0]⟩
def low_CopyBytes_ft (fu : Nat) : FnT := ⟨37, ⟨(.cons (.p (.sl .byte)) .nil), []⟩, [⟨(.cons (.slf 1 0) .nil), [(0, false, (.rows 5 .byte))]⟩], fun t => low_CopyBytes fu t⟩
theorem low_CopyBytes_eq (fu : Nat) : ∀ t, evF Go.Proofs.Try.prog [] fu Go.Proofs.Try.f37 low_CopyBytes_fa t = (low_CopyBytes_ft fu).spec t := fun t => by kernel_rfl
theorem low_CopyBytes_told (fu : Nat) : Told Go.Proofs.Try.prog (low_CopyBytes_ft fu) := told_of allT_nil mixed Go.Proofs.Try.func37 (by kernel_rfl) (by kernel_rfl) (low_CopyBytes_eq fu)

def net_Net_lay_n0go1 (fu : Nat) (d : Int) (d1 : Int) (h : List (UInt8)) : Option (Empty) :=
  (net_Net_full_n0 fu d1).bind fun r =>
  Empty.elim r
def net_Net_lay_n0go1_fa : FnA := ⟨.two (.reg [(0, { ids := [100] })]) (.two (.two (.reg [(3, {  })]) (.leaf)) (.leaf)), ⟨(.cons (.nilp (.pointer none)) (.cons (.agg (.cons (.p (.int .i64)) (.cons (.p (.int .i64)) (.cons (.slf 1 0) .nil)))) .nil)), [(0, false, (.rows 5 .byte))]⟩, [], [0]⟩
def net_Net_lay_n0go1_ft (fu : Nat) : FnT := ⟨40, ⟨(.cons (.nilp (.pointer none)) (.cons (.agg (.cons (.p (.int .i64)) (.cons (.p (.int .i64)) (.cons (.slf 1 0) .nil)))) .nil)), [(0, false, (.rows 5 .byte))]⟩, [], fun t => net_Net_lay_n0go1 fu t.1 t.2.1 t.2.2⟩
theorem net_Net_lay_n0go1_eq (fu : Nat) : ∀ t, evF Go.Proofs.Try.prog [net_Net_full_n0_ft fu] fu Go.Proofs.Try.f40 net_Net_lay_n0go1_fa t = (net_Net_lay_n0go1_ft fu).spec t := fun t => by kernel_rfl
theorem net_Net_lay_n0go1_told (fu : Nat) : Told Go.Proofs.Try.prog (net_Net_lay_n0go1_ft fu) := told_of (allT_cons (net_Net_full_n0_told fu) allT_nil) mixed Go.Proofs.Try.func40 (by kernel_rfl) (by kernel_rfl) (net_Net_lay_n0go1_eq fu)

def net_Net_Send_n0o3_l0 (fu : Nat) (from_ : Int) (to_ : Int) (x : Int) (h1 : List (UInt8)) : Option ((Int × List (UInt8)) ⊕ (List (UInt8) ⊕ (Int × List (UInt8)))) :=
  bif (decide (x < 2)) then
    (idx? x 2).bind fun q =>
    ([from_, to_])[q]?.bind fun x1 =>
    bif (decide (x1 < 0)) then
      some (.inr (.inr (2, h1)))
    else
      none
  else
    some (.inr (.inl h1))
def net_Net_Send_n0o3_l0_it (fu : Nat) (from_ : Int) (to_ : Int) (tt : (Int × List (UInt8))) : Option (List (UInt8) ⊕ (Int × List (UInt8))) :=
  iter fu (fun tt => net_Net_Send_n0o3_l0 fu from_ to_ tt.1 tt.2) tt
def net_Net_Send_n0o3 (fu : Nat) (from_ : Int) (to_ : Int) (h : List (UInt8)) : Option ((Int × List (UInt8))) :=
  (net_Net_made_n0 fu).bind fun r =>
  bif (!r) then
    some (1, h)
  else
    (net_Net_Send_n0o3_l0_it fu from_ to_ (0, h)).bind fun o =>
    match o with
    | .inl s =>
      bif (decide (((s.length : Nat) : Int) > 131072)) then
        some (3, s)
      else
        (net_Net_lay_n0go1 fu from_ to_ s).bind fun r1 =>
        Empty.elim r1
    | .inr o1 =>
      some o1
def net_Net_Send_n0o3_fa : FnA := ⟨.two (.leaf) (.two (.two (.reg [(1, {  })]) (.two (.leaf) (.leaf))) (.two (.two (.leaf) (.one (.loop ⟨[3, 17], ⟨(.cons (.slf 1 0) (.cons (.p (.int .i64)) .nil)), [(0, false, (.rows 5 .byte))]⟩⟩ true [(0, ⟨[3], ⟨(.cons (.slf 1 0) .nil), [(0, false, (.rows 5 .byte))]⟩⟩)] (.two (.leaf) (.two (.leaf) (.two (.one (.two (.leaf) (.two (.leaf) (.two (.leaf) (.leaf))))) (.leaf))))))) (.two (.two (.leaf) (.two (.leaf) (.leaf))) (.two (.reg [(5, { sh := [0], fn := 1 })]) (.leaf))))), ⟨(.cons (.nilp (.pointer none)) (.cons (.p (.int .i64)) (.cons (.p (.int .i64)) (.cons (.slf 1 0) .nil)))), [(0, false, (.rows 5 .byte))]⟩, [⟨(.cons (.p (.int .i64)) .nil), [(0, false, (.rows 5 .byte))]⟩], [0]⟩
def net_Net_Send_n0o3_ft (fu : Nat) : FnT := ⟨12, ⟨(.cons (.nilp (.pointer none)) (.cons (.p (.int .i64)) (.cons (.p (.int .i64)) (.cons (.slf 1 0) .nil)))), [(0, false, (.rows 5 .byte))]⟩, [⟨(.cons (.p (.int .i64)) .nil), [(0, false, (.rows 5 .byte))]⟩], fun t => net_Net_Send_n0o3 fu t.1 t.2.1 t.2.2⟩
theorem net_Net_Send_n0o3_eq (fu : Nat) : ∀ t, evF Go.Proofs.Try.prog [net_Net_made_n0_ft fu, net_Net_lay_n0go1_ft fu] fu Go.Proofs.Try.f12 net_Net_Send_n0o3_fa t = (net_Net_Send_n0o3_ft fu).spec t := fun t => by kernel_rfl
theorem net_Net_Send_n0o3_told (fu : Nat) : Told Go.Proofs.Try.prog (net_Net_Send_n0o3_ft fu) := told_of (allT_cons (net_Net_made_n0_told fu) (allT_cons (net_Net_lay_n0go1_told fu) allT_nil)) mixed Go.Proofs.Try.func12 (by kernel_rfl) (by kernel_rfl) (net_Net_Send_n0o3_eq fu)

def law07_NetOwn_1_o0_l0 (fu : Nat) (h : List (UInt8)) (x : Int) (h1 : List (UInt8)) : Option ((Int × List (UInt8)) ⊕ (List (UInt8))) :=
  bif (decide (x < ((h.length : Nat) : Int))) then
    (idx? x h1.length).bind fun q =>
    (h1)[q]?.bind fun r =>
    (idx? x h1.length).bind fun q1 =>
    (byte? (bitsI .xor .u8 255 ((r.toNat : Nat) : Int))).bind fun c =>
    (h1)[q1]?.bind fun r1 =>
    some (.inl ((IntKind.wrap .i64 (x + 1)), (List.set h1 q1 c)))
  else
    some (.inr h1)
def law07_NetOwn_1_o0_l0_it (fu : Nat) (h : List (UInt8)) (tt : (Int × List (UInt8))) : Option (List (UInt8)) :=
  iter fu (fun tt => law07_NetOwn_1_o0_l0 fu h tt.1 tt.2) tt
def law07_NetOwn_1_o0 (fu : Nat) (h : List (UInt8)) : Option (List (UInt8)) :=
  (law07_NetOwn_1_o0_l0_it fu h (0, h)).bind fun o =>
  some o
def law07_NetOwn_1_o0_fa : FnA := ⟨.two (.leaf) (.one (.loop ⟨[0, 5], ⟨(.cons (.slf 1 0) (.cons (.p (.int .i64)) .nil)), [(0, false, (.rows 5 .byte))]⟩⟩ false [(0, ⟨[0], ⟨(.cons (.slf 1 0) .nil), [(0, false, (.rows 5 .byte))]⟩⟩)] (.two (.leaf) (.two (.leaf) (.two (.one (.leaf)) (.leaf)))))), ⟨(.cons (.slf 1 0) .nil), [(0, false, (.rows 5 .byte))]⟩, [⟨.nil, [(0, false, (.rows 5 .byte))]⟩], []⟩
def law07_NetOwn_1_o0_ft (fu : Nat) : FnT := ⟨36, ⟨(.cons (.slf 1 0) .nil), [(0, false, (.rows 5 .byte))]⟩, [⟨.nil, [(0, false, (.rows 5 .byte))]⟩], fun t => law07_NetOwn_1_o0 fu t⟩
theorem law07_NetOwn_1_o0_eq (fu : Nat) : ∀ t, evF Go.Proofs.Try.prog [] fu Go.Proofs.Try.f36 law07_NetOwn_1_o0_fa t = (law07_NetOwn_1_o0_ft fu).spec t := fun t => by kernel_rfl
theorem law07_NetOwn_1_o0_told (fu : Nat) : Told Go.Proofs.Try.prog (law07_NetOwn_1_o0_ft fu) := told_of allT_nil mixed Go.Proofs.Try.func36 (by kernel_rfl) (by kernel_rfl) (law07_NetOwn_1_o0_eq fu)

def law07_NetOwn_1_n0_l0 (fu : Nat) (x : Int) : Option (Int ⊕ (Unit)) :=
  bif (decide (x < 0)) then
    none
  else
    some (.inr ())
def law07_NetOwn_1_n0_l0_it (fu : Nat)  (tt : Int) : Option (Unit) :=
  iter fu (fun tt => law07_NetOwn_1_n0_l0 fu tt) tt
def law07_NetOwn_1_n0 (fu : Nat)  : Option (Unit) :=
  (law07_NetOwn_1_n0_l0_it fu  0).bind fun o =>
  some ()
def law07_NetOwn_1_n0_fa : FnA := ⟨.two (.leaf) (.one (.loop ⟨[5], ⟨(.cons (.p (.int .i64)) .nil), []⟩⟩ false [(0, ⟨[], ⟨.nil, []⟩⟩)] (.two (.leaf) (.two (.leaf) (.two (.one (.leaf)) (.leaf)))))), ⟨(.cons (.nilp (.slice none 0 0)) .nil), []⟩, [⟨.nil, []⟩], []⟩
def law07_NetOwn_1_n0_ft (fu : Nat) : FnT := ⟨36, ⟨(.cons (.nilp (.slice none 0 0)) .nil), []⟩, [⟨.nil, []⟩], fun t => law07_NetOwn_1_n0 fu ⟩
theorem law07_NetOwn_1_n0_eq (fu : Nat) : ∀ t, evF Go.Proofs.Try.prog [] fu Go.Proofs.Try.f36 law07_NetOwn_1_n0_fa t = (law07_NetOwn_1_n0_ft fu).spec t := fun t => by kernel_rfl
theorem law07_NetOwn_1_n0_told (fu : Nat) : Told Go.Proofs.Try.prog (law07_NetOwn_1_n0_ft fu) := told_of allT_nil mixed Go.Proofs.Try.func36 (by kernel_rfl) (by kernel_rfl) (law07_NetOwn_1_n0_eq fu)

def slices_Clone__byte_byte_o0 (fu : Nat) (h : List (UInt8)) : Option ((List (UInt8) × List (UInt8))) :=
  nilQ h.length fun isNil =>
  bif isNil then
    some (h, [])
  else
    need ((Nat.ble ((0 + h.length) * 1) room) && (Nat.ble (0 + h.length) room)) <|
    some (h, h)
def slices_Clone__byte_byte_o0_fa : FnA := ⟨.two (.leaf) (.two (.two (.leaf) (.two (.leaf) (.leaf))) (.two (.reg [(0, { ids := [100] }), (2, { ids := [101] })]) (.leaf))), ⟨(.cons (.slf 1 0) .nil), [(0, false, (.rows 5 .byte))]⟩, [⟨(.cons (.slf 1 1) .nil), [(0, false, (.rows 5 .byte)), (1, false, (.rows 5 .byte))]⟩], [15]⟩
def slices_Clone__byte_byte_o0_ft (fu : Nat) : FnT := ⟨43, ⟨(.cons (.slf 1 0) .nil), [(0, false, (.rows 5 .byte))]⟩, [⟨(.cons (.slf 1 1) .nil), [(0, false, (.rows 5 .byte)), (1, false, (.rows 5 .byte))]⟩], fun t => slices_Clone__byte_byte_o0 fu t⟩
theorem slices_Clone__byte_byte_o0_eq (fu : Nat) : ∀ t, evF Go.Proofs.Try.prog [] fu Go.Proofs.Try.f43 slices_Clone__byte_byte_o0_fa t = (slices_Clone__byte_byte_o0_ft fu).spec t := fun t => by kernel_rfl
theorem slices_Clone__byte_byte_o0_told (fu : Nat) : Told Go.Proofs.Try.prog (slices_Clone__byte_byte_o0_ft fu) := told_of allT_nil mixed Go.Proofs.Try.func43 (by kernel_rfl) (by kernel_rfl) (slices_Clone__byte_byte_o0_eq fu)

def net_Net_lay_go1_com (fu : Nat) (d : Int) (d1 : Int) (h : Int) (h1 : Int) (h2 : List ((Int × (Int × List (UInt8))))) (h3 : (List (((Int × Int) × Nat)) × Nat)) (h4 : List (UInt8)) : Option ((Int × (Int × (Int × (List ((Int × (Int × List (UInt8)))) × ((List (((Int × Int) × Nat)) × Nat) × List (UInt8)))))) ⊕ (Int × (Int × (Int × ((List (((Int × Int) × Nat)) × Nat) × (List (UInt8) × List ((Int × (Int × List (UInt8)))))))))) :=
  (net_Net_full__com fu d1 h h1 h2 h3).bind fun r =>
  bif r.1 then
    some (.inl (5, (r.2.1, (r.2.2.1, (r.2.2.2.1, (r.2.2.2.2, h4))))))
  else
    (slices_Clone__byte_byte_o0 fu h4).bind fun r1 =>
    need ((Nat.ble ((r.2.2.2.1.length + 1) * 40) room) && (Nat.ble (r.2.2.2.1.length + 1) room)) <|
    some (.inr (0, (r.2.1, (r.2.2.1, ((mput (k := (.int .i64)) (v := (.int .i64)) r.2.2.2.2 d1 (IntKind.wrap .i64 ((Option.getD (mget (k := (.int .i64)) (v := (.int .i64)) r.2.2.2.2 d1) 0) + 1))), (r1.1, (r.2.2.2.1 ++ [(d, (d1, r1.2))])))))))
def net_Net_lay_go1_com_fa : FnA := ⟨.two (.reg [(0, { ids := [100] })]) (.two (.two (.reg [(3, { sh := [0, 1, 2] })]) (.two (.leaf) (.leaf))) (.two (.reg [(2, { ids := [101], sh := [3], fn := 1 })]) (.two (.reg [(6, { ids := [102] }), (7, { ids := [103] })]) (.two (.leaf) (.leaf))))), ⟨(.cons (.own 0 0 0 0) (.cons (.agg (.cons (.p (.int .i64)) (.cons (.p (.int .i64)) (.cons (.slf 1 3) .nil)))) .nil)), [(0, false, (.vars (.cons (.p (.int .i64)) (.cons (.p (.int .i64)) (.cons (.slf 3 1) (.cons (.mp 2) .nil)))))), (1, false, (.rows 34 (.pair (.int .i64) (.pair (.int .i64) (.sl .byte))))), (2, false, (.map (.int .i64) (.int .i64))), (3, false, (.rows 5 .byte))]⟩, [⟨(.cons (.p (.int .i64)) .nil), [(0, false, (.vars (.cons (.p (.int .i64)) (.cons (.p (.int .i64)) (.cons (.slf 3 1) (.cons (.mp 2) .nil)))))), (1, false, (.rows 34 (.pair (.int .i64) (.pair (.int .i64) (.sl .byte))))), (2, false, (.map (.int .i64) (.int .i64))), (3, false, (.rows 5 .byte))]⟩, ⟨(.cons (.p (.int .i64)) .nil), [(0, false, (.vars (.cons (.p (.int .i64)) (.cons (.p (.int .i64)) (.cons (.slf 3 4) (.cons (.mp 2) .nil)))))), (2, false, (.map (.int .i64) (.int .i64))), (3, false, (.rows 5 .byte)), (4, false, (.rows 34 (.pair (.int .i64) (.pair (.int .i64) (.sl .byte)))))]⟩], [0]⟩
def net_Net_lay_go1_com_ft (fu : Nat) : FnT := ⟨40, ⟨(.cons (.own 0 0 0 0) (.cons (.agg (.cons (.p (.int .i64)) (.cons (.p (.int .i64)) (.cons (.slf 1 3) .nil)))) .nil)), [(0, false, (.vars (.cons (.p (.int .i64)) (.cons (.p (.int .i64)) (.cons (.slf 3 1) (.cons (.mp 2) .nil)))))), (1, false, (.rows 34 (.pair (.int .i64) (.pair (.int .i64) (.sl .byte))))), (2, false, (.map (.int .i64) (.int .i64))), (3, false, (.rows 5 .byte))]⟩, [⟨(.cons (.p (.int .i64)) .nil), [(0, false, (.vars (.cons (.p (.int .i64)) (.cons (.p (.int .i64)) (.cons (.slf 3 1) (.cons (.mp 2) .nil)))))), (1, false, (.rows 34 (.pair (.int .i64) (.pair (.int .i64) (.sl .byte))))), (2, false, (.map (.int .i64) (.int .i64))), (3, false, (.rows 5 .byte))]⟩, ⟨(.cons (.p (.int .i64)) .nil), [(0, false, (.vars (.cons (.p (.int .i64)) (.cons (.p (.int .i64)) (.cons (.slf 3 4) (.cons (.mp 2) .nil)))))), (2, false, (.map (.int .i64) (.int .i64))), (3, false, (.rows 5 .byte)), (4, false, (.rows 34 (.pair (.int .i64) (.pair (.int .i64) (.sl .byte)))))]⟩], fun t => net_Net_lay_go1_com fu t.1 t.2.1 t.2.2.1 t.2.2.2.1 t.2.2.2.2.1 t.2.2.2.2.2.1 t.2.2.2.2.2.2⟩
theorem net_Net_lay_go1_com_eq (fu : Nat) : ∀ t, evF Go.Proofs.Try.prog [net_Net_full__com_ft fu, slices_Clone__byte_byte_o0_ft fu] fu Go.Proofs.Try.f40 net_Net_lay_go1_com_fa t = (net_Net_lay_go1_com_ft fu).spec t := fun t => by kernel_rfl
theorem net_Net_lay_go1_com_told (fu : Nat) : Told Go.Proofs.Try.prog (net_Net_lay_go1_com_ft fu) := told_of (allT_cons (net_Net_full__com_told fu) (allT_cons (slices_Clone__byte_byte_o0_told fu) allT_nil)) mixed Go.Proofs.Try.func40 (by kernel_rfl) (by kernel_rfl) (net_Net_lay_go1_com_eq fu)

def net_Net_Send_o3_com_l0 (fu : Nat) (from_ : Int) (to_ : Int) (x : Int) (h5 : Int) (h6 : Int) (h7 : List ((Int × (Int × List (UInt8))))) (h8 : (List (((Int × Int) × Nat)) × Nat)) (h9 : List (UInt8)) : Option ((Int × (Int × (Int × (List ((Int × (Int × List (UInt8)))) × ((List (((Int × Int) × Nat)) × Nat) × List (UInt8)))))) ⊕ ((Int × (Int × (List ((Int × (Int × List (UInt8)))) × ((List (((Int × Int) × Nat)) × Nat) × List (UInt8))))) ⊕ (Int × (Int × (Int × (List ((Int × (Int × List (UInt8)))) × ((List (((Int × Int) × Nat)) × Nat) × List (UInt8)))))) ⊕ (Int × (Int × (Int × ((List (((Int × Int) × Nat)) × Nat) × (List (UInt8) × List ((Int × (Int × List (UInt8))))))))))) :=
  bif (decide (x < 2)) then
    (idx? x 2).bind fun q =>
    ([from_, to_])[q]?.bind fun x1 =>
    Option.bind (α := ((Bool × (Int × (Int × (List ((Int × (Int × List (UInt8)))) × ((List (((Int × Int) × Nat)) × Nat) × List (UInt8)))))))) (
      bif (decide (x1 < 0)) then
        some (true, (h5, (h6, (h7, (h8, h9)))))
      else
        some ((decide (x1 ≥ h5)), (h5, (h6, (h7, (h8, h9)))))) fun o =>
    bif o.1 then
      some (.inr (.inr (.inl (2, (o.2.1, (o.2.2.1, (o.2.2.2.1, (o.2.2.2.2.1, o.2.2.2.2.2))))))))
    else
      some (.inl ((IntKind.wrap .i64 (x + 1)), (o.2.1, (o.2.2.1, (o.2.2.2.1, (o.2.2.2.2.1, o.2.2.2.2.2))))))
  else
    some (.inr (.inl (h5, (h6, (h7, (h8, h9))))))
def net_Net_Send_o3_com_l0_it (fu : Nat) (from_ : Int) (to_ : Int) (tt : (Int × (Int × (Int × (List ((Int × (Int × List (UInt8)))) × ((List (((Int × Int) × Nat)) × Nat) × List (UInt8))))))) : Option ((Int × (Int × (List ((Int × (Int × List (UInt8)))) × ((List (((Int × Int) × Nat)) × Nat) × List (UInt8))))) ⊕ (Int × (Int × (Int × (List ((Int × (Int × List (UInt8)))) × ((List (((Int × Int) × Nat)) × Nat) × List (UInt8)))))) ⊕ (Int × (Int × (Int × ((List (((Int × Int) × Nat)) × Nat) × (List (UInt8) × List ((Int × (Int × List (UInt8)))))))))) :=
  iter fu (fun tt => net_Net_Send_o3_com_l0 fu from_ to_ tt.1 tt.2.1 tt.2.2.1 tt.2.2.2.1 tt.2.2.2.2.1 tt.2.2.2.2.2) tt
def net_Net_Send_o3_com (fu : Nat) (from_ : Int) (to_ : Int) (h : Int) (h1 : Int) (h2 : List ((Int × (Int × List (UInt8))))) (h3 : (List (((Int × Int) × Nat)) × Nat)) (h4 : List (UInt8)) : Option ((Int × (Int × (Int × (List ((Int × (Int × List (UInt8)))) × ((List (((Int × Int) × Nat)) × Nat) × List (UInt8)))))) ⊕ (Int × (Int × (Int × ((List (((Int × Int) × Nat)) × Nat) × (List (UInt8) × List ((Int × (Int × List (UInt8)))))))))) :=
  (net_Net_made__com fu h h1 h2 h3).bind fun r =>
  bif (!r.1) then
    some (.inl (1, (r.2.1, (r.2.2.1, (r.2.2.2.1, (r.2.2.2.2, h4))))))
  else
    (net_Net_Send_o3_com_l0_it fu from_ to_ (0, (r.2.1, (r.2.2.1, (r.2.2.2.1, (r.2.2.2.2, h4)))))).bind fun o1 =>
    match o1 with
    | .inl s =>
      bif (decide (((s.2.2.2.2.length : Nat) : Int) > 131072)) then
        some (.inl (3, (s.1, (s.2.1, (s.2.2.1, (s.2.2.2.1, s.2.2.2.2))))))
      else
        (net_Net_lay_go1_com fu from_ to_ s.1 s.2.1 s.2.2.1 s.2.2.2.1 s.2.2.2.2).bind fun r1 =>
        match r1 with
        | .inl r2 =>
          some (.inl (r2.1, (r2.2.1, (r2.2.2.1, (r2.2.2.2.1, (r2.2.2.2.2.1, r2.2.2.2.2.2))))))
        | .inr r3 =>
          some (.inr (r3.1, (r3.2.1, (r3.2.2.1, (r3.2.2.2.1, (r3.2.2.2.2.1, r3.2.2.2.2.2))))))
    | .inr o2 =>
      some o2
def net_Net_Send_o3_com_fa : FnA := ⟨.two (.leaf) (.two (.two (.reg [(1, { sh := [0, 1, 2] })]) (.two (.leaf) (.leaf))) (.two (.two (.leaf) (.one (.loop ⟨[0, 3, 17], ⟨(.cons (.own 0 0 0 0) (.cons (.slf 1 3) (.cons (.p (.int .i64)) .nil))), [(0, false, (.vars (.cons (.p (.int .i64)) (.cons (.p (.int .i64)) (.cons (.slf 3 1) (.cons (.mp 2) .nil)))))), (1, false, (.rows 34 (.pair (.int .i64) (.pair (.int .i64) (.sl .byte))))), (2, false, (.map (.int .i64) (.int .i64))), (3, false, (.rows 5 .byte))]⟩⟩ true [(0, ⟨[0, 3], ⟨(.cons (.own 0 0 0 0) (.cons (.slf 1 3) .nil)), [(0, false, (.vars (.cons (.p (.int .i64)) (.cons (.p (.int .i64)) (.cons (.slf 3 1) (.cons (.mp 2) .nil)))))), (1, false, (.rows 34 (.pair (.int .i64) (.pair (.int .i64) (.sl .byte))))), (2, false, (.map (.int .i64) (.int .i64))), (3, false, (.rows 5 .byte))]⟩⟩)] (.two (.leaf) (.two (.leaf) (.two (.one (.two (.leaf) (.two (.join ⟨[0, 3, 29], ⟨(.cons (.own 0 0 0 0) (.cons (.slf 1 3) (.cons (.p .bool) .nil))), [(0, false, (.vars (.cons (.p (.int .i64)) (.cons (.p (.int .i64)) (.cons (.slf 3 1) (.cons (.mp 2) .nil)))))), (1, false, (.rows 34 (.pair (.int .i64) (.pair (.int .i64) (.sl .byte))))), (2, false, (.map (.int .i64) (.int .i64))), (3, false, (.rows 5 .byte))]⟩⟩ false [] (.leaf)) (.two (.leaf) (.leaf))))) (.leaf))))))) (.two (.two (.leaf) (.two (.leaf) (.leaf))) (.two (.reg [(5, { ids := [100], sh := [0, 1, 2, 3], fn := 1 })]) (.leaf))))), ⟨(.cons (.own 0 0 0 0) (.cons (.p (.int .i64)) (.cons (.p (.int .i64)) (.cons (.slf 1 3) .nil)))), [(0, false, (.vars (.cons (.p (.int .i64)) (.cons (.p (.int .i64)) (.cons (.slf 3 1) (.cons (.mp 2) .nil)))))), (1, false, (.rows 34 (.pair (.int .i64) (.pair (.int .i64) (.sl .byte))))), (2, false, (.map (.int .i64) (.int .i64))), (3, false, (.rows 5 .byte))]⟩, [⟨(.cons (.p (.int .i64)) .nil), [(0, false, (.vars (.cons (.p (.int .i64)) (.cons (.p (.int .i64)) (.cons (.slf 3 1) (.cons (.mp 2) .nil)))))), (1, false, (.rows 34 (.pair (.int .i64) (.pair (.int .i64) (.sl .byte))))), (2, false, (.map (.int .i64) (.int .i64))), (3, false, (.rows 5 .byte))]⟩, ⟨(.cons (.p (.int .i64)) .nil), [(0, false, (.vars (.cons (.p (.int .i64)) (.cons (.p (.int .i64)) (.cons (.slf 3 4) (.cons (.mp 2) .nil)))))), (2, false, (.map (.int .i64) (.int .i64))), (3, false, (.rows 5 .byte)), (4, false, (.rows 34 (.pair (.int .i64) (.pair (.int .i64) (.sl .byte)))))]⟩], [0]⟩
def net_Net_Send_o3_com_ft (fu : Nat) : FnT := ⟨12, ⟨(.cons (.own 0 0 0 0) (.cons (.p (.int .i64)) (.cons (.p (.int .i64)) (.cons (.slf 1 3) .nil)))), [(0, false, (.vars (.cons (.p (.int .i64)) (.cons (.p (.int .i64)) (.cons (.slf 3 1) (.cons (.mp 2) .nil)))))), (1, false, (.rows 34 (.pair (.int .i64) (.pair (.int .i64) (.sl .byte))))), (2, false, (.map (.int .i64) (.int .i64))), (3, false, (.rows 5 .byte))]⟩, [⟨(.cons (.p (.int .i64)) .nil), [(0, false, (.vars (.cons (.p (.int .i64)) (.cons (.p (.int .i64)) (.cons (.slf 3 1) (.cons (.mp 2) .nil)))))), (1, false, (.rows 34 (.pair (.int .i64) (.pair (.int .i64) (.sl .byte))))), (2, false, (.map (.int .i64) (.int .i64))), (3, false, (.rows 5 .byte))]⟩, ⟨(.cons (.p (.int .i64)) .nil), [(0, false, (.vars (.cons (.p (.int .i64)) (.cons (.p (.int .i64)) (.cons (.slf 3 4) (.cons (.mp 2) .nil)))))), (2, false, (.map (.int .i64) (.int .i64))), (3, false, (.rows 5 .byte)), (4, false, (.rows 34 (.pair (.int .i64) (.pair (.int .i64) (.sl .byte)))))]⟩], fun t => net_Net_Send_o3_com fu t.1 t.2.1 t.2.2.1 t.2.2.2.1 t.2.2.2.2.1 t.2.2.2.2.2.1 t.2.2.2.2.2.2⟩
theorem net_Net_Send_o3_com_eq (fu : Nat) : ∀ t, evF Go.Proofs.Try.prog [net_Net_made__com_ft fu, net_Net_lay_go1_com_ft fu] fu Go.Proofs.Try.f12 net_Net_Send_o3_com_fa t = (net_Net_Send_o3_com_ft fu).spec t := fun t => by kernel_rfl
theorem net_Net_Send_o3_com_told (fu : Nat) : Told Go.Proofs.Try.prog (net_Net_Send_o3_com_ft fu) := told_of (allT_cons (net_Net_made__com_told fu) (allT_cons (net_Net_lay_go1_com_told fu) allT_nil)) mixed Go.Proofs.Try.func12 (by kernel_rfl) (by kernel_rfl) (net_Net_Send_o3_com_eq fu)

def law07_NetOwn (fu : Nat) (b : List (UInt8)) : Option (Bool) :=
  Option.bind (α := (Bool)) (
    bif (((b.length : Nat) : Int) == 0) then
      some true
    else
      some (decide (((b.length : Nat) : Int) > 100))) fun o =>
  bif o then
    (law07_awake fu).bind fun r =>
    some r
  else
    (net_New fu 1 9).bind fun r1 =>
    match r1 with
    | .inl r2 =>
      (low_CopyBytes fu b).bind fun r4 =>
      Option.bind (α := ((Bool × List (UInt8)))) (
        bif (!(r2 == 0)) then
          some (true, r4)
        else
          (net_Net_Send_n0o3 fu 0 0 r4).bind fun r5 =>
          some ((!(r5.1 == 0)), r5.2)) fun o1 =>
      bif o1.1 then
        some false
      else
        (law07_NetOwn_1_o0 fu o1.2).bind fun r6 =>
        (net_Net_Look_n0 fu 0).bind fun r7 =>
        (law07_NetOwn_1_n0 fu).bind fun r8 =>
        (net_Net_Copy_n0 fu 0).bind fun r9 =>
        bif (!(r9 == 0)) then
          some false
        else
          (net_Net_Take_n0 fu 0).bind fun r10 =>
          Option.bind (α := ((Bool × (Int × Int)))) (
            bif (!r10.2.2) then
              some (true, (r10.1, r10.2.1))
            else
              some ((!([] == b)), (r10.1, r10.2.1))) fun o2 =>
          bif o2.1 then
            some false
          else
            (law07_NetOwn_1_n0 fu).bind fun r11 =>
            (net_Net_Take_n0 fu 0).bind fun r12 =>
            bif r12.2.2 then
              bif ([] == b) then
                (law07_awake fu).bind fun r13 =>
                some r13
              else
                some false
            else
              some false
    | .inr r3 =>
      (low_CopyBytes fu b).bind fun r14 =>
      Option.bind (α := ((Bool × (Int × (Int × (List ((Int × (Int × List (UInt8)))) × ((List (((Int × Int) × Nat)) × Nat) × List (UInt8)))))))) (
        bif (!(r3.1 == 0)) then
          some (true, (r3.2.1, (r3.2.2.1, ([], (r3.2.2.2, r14)))))
        else
          (net_Net_Send_o3_com fu 0 0 r3.2.1 r3.2.2.1 [] r3.2.2.2 r14).bind fun r15 =>
          match r15 with
          | .inl r16 =>
            some ((!(r16.1 == 0)), (r16.2.1, (r16.2.2.1, (r16.2.2.2.1, (r16.2.2.2.2.1, r16.2.2.2.2.2)))))
          | .inr r17 =>
            some ((!(r17.1 == 0)), (r17.2.1, (r17.2.2.1, (r17.2.2.2.2.2, (r17.2.2.2.1, r17.2.2.2.2.1)))))) fun o3 =>
      bif o3.1 then
        some false
      else
        (law07_NetOwn_1_o0 fu o3.2.2.2.2.2).bind fun r18 =>
        Option.bind (α := ((Int × (Int × (List ((Int × (Int × List (UInt8)))) × ((List (((Int × Int) × Nat)) × Nat) × (Int × (Int × List (UInt8))))))))) (
          (net_Net_Look__com fu 0 o3.2.1 o3.2.2.1 o3.2.2.2.1 o3.2.2.2.2.1).bind fun r19 =>
          match r19 with
          | .inl r20 =>
            some (r20.2.2.2.1, (r20.2.2.2.2.1, (r20.2.2.2.2.2.1, (r20.2.2.2.2.2.2, (r20.1, (r20.2.1, []))))))
          | .inr r21 =>
            some (r21.2.2.2.1, (r21.2.2.2.2.1, (r21.2.2.2.2.2.1, (r21.2.2.2.2.2.2.1, (r21.1, (r21.2.1, r21.2.2.2.2.2.2.2))))))) fun o4 =>
        (law07_NetOwn_1_o0 fu o4.2.2.2.2.2.2).bind fun r22 =>
        Option.bind (α := ((Bool × (Int × (Int × (List ((Int × (Int × List (UInt8)))) × (List (((Int × Int) × Nat)) × Nat))))))) (
          (net_Net_Copy__com fu 0 o4.1 o4.2.1 o4.2.2.1 o4.2.2.2.1).bind fun r23 =>
          match r23 with
          | .inl r24 =>
            some ((!(r24.1 == 0)), (r24.2.1, (r24.2.2.1, (r24.2.2.2.1, r24.2.2.2.2))))
          | .inr r25 =>
            some ((!(r25.1 == 0)), (r25.2.1, (r25.2.2.1, (r25.2.2.2.2, r25.2.2.2.1))))) fun o5 =>
        bif o5.1 then
          some false
        else
          Option.bind (α := ((Bool × (Int × (Int × (List ((Int × (Int × List (UInt8)))) × ((List (((Int × Int) × Nat)) × Nat) × (Int × (Int × List (UInt8)))))))))) (
            (net_Net_Take__com fu 0 o5.2.1 o5.2.2.1 o5.2.2.2.1 o5.2.2.2.2).bind fun r26 =>
            match r26 with
            | .inl r27 =>
              some (r27.2.2.1, (r27.2.2.2.1, (r27.2.2.2.2.1, (r27.2.2.2.2.2.1, (r27.2.2.2.2.2.2.1, (r27.1, (r27.2.1, r27.2.2.2.2.2.2.2)))))))
            | .inr r28 =>
              some (r28.2.2.1, (r28.2.2.2.1, (r28.2.2.2.2.1, (r28.2.2.2.2.2.2.2.1, (r28.2.2.2.2.2.1, (r28.1, (r28.2.1, r28.2.2.2.2.2.2.2.2)))))))) fun o6 =>
          Option.bind (α := ((Bool × (Int × (Int × (List ((Int × (Int × List (UInt8)))) × ((List (((Int × Int) × Nat)) × Nat) × (Int × (Int × List (UInt8)))))))))) (
            bif (!o6.1) then
              some (true, (o6.2.1, (o6.2.2.1, (o6.2.2.2.1, (o6.2.2.2.2.1, (o6.2.2.2.2.2.1, (o6.2.2.2.2.2.2.1, o6.2.2.2.2.2.2.2)))))))
            else
              some ((!(o6.2.2.2.2.2.2.2 == b)), (o6.2.1, (o6.2.2.1, (o6.2.2.2.1, (o6.2.2.2.2.1, (o6.2.2.2.2.2.1, (o6.2.2.2.2.2.2.1, o6.2.2.2.2.2.2.2)))))))) fun o7 =>
          bif o7.1 then
            some false
          else
            (law07_NetOwn_1_o0 fu o7.2.2.2.2.2.2.2).bind fun r29 =>
            Option.bind (α := ((Bool × (Int × (Int × List (UInt8)))))) (
              (net_Net_Take__com fu 0 o7.2.1 o7.2.2.1 o7.2.2.2.1 o7.2.2.2.2.1).bind fun r30 =>
              match r30 with
              | .inl r31 =>
                some (r31.2.2.1, (r31.1, (r31.2.1, r31.2.2.2.2.2.2.2)))
              | .inr r32 =>
                some (r32.2.2.1, (r32.1, (r32.2.1, r32.2.2.2.2.2.2.2.2)))) fun o8 =>
            bif o8.1 then
              bif (o8.2.2.2 == b) then
                (law07_awake fu).bind fun r33 =>
                some r33
              else
                some false
            else
              some false
def law07_NetOwn_fa : FnA := ⟨.two (.leaf) (.two (.two (.join ⟨[19], ⟨(.cons (.p .bool) .nil), []⟩⟩ false [] (.leaf)) (.two (.two (.reg [(0, {  })]) (.leaf)) (.leaf))) (.two (.reg [(0, { ids := [100, 101], fn := 1 })]) (.sel (.slot 3 (.nilp (.pointer none))) (.two (.leaf) (.two (.reg [(1, { ids := [103], fn := 2 })]) (.two (.two (.join ⟨[6, 34], ⟨(.cons (.slf 1 103) (.cons (.p .bool) .nil)), [(103, false, (.rows 5 .byte))]⟩⟩ false [] (.reg [(5, { sh := [103], fn := 3 })])) (.two (.leaf) (.leaf))) (.two (.reg [(2, { sh := [103], fn := 4 })]) (.two (.reg [(1, { fn := 5 }), (5, { ids := [104] })]) (.two (.reg [(3, { fn := 6 })]) (.two (.two (.reg [(1, { fn := 7 })]) (.two (.leaf) (.leaf))) (.two (.reg [(1, { fn := 8 }), (5, { ids := [105] })]) (.two (.two (.join ⟨[9, 64], ⟨(.cons (.own 0 105 0 0) (.cons (.p .bool) .nil)), [(105, false, (.vars (.cons (.p (.int .i64)) (.cons (.p (.int .i64)) (.cons (.nilp (.slice none 0 0)) .nil)))))]⟩⟩ false [] (.leaf)) (.two (.leaf) (.leaf))) (.two (.reg [(3, { fn := 6 })]) (.two (.reg [(1, { fn := 8 }), (5, { ids := [106] })]) (.two (.reg [(10, {  })]) (.leaf))))))))))))) (.two (.leaf) (.two (.reg [(1, { ids := [103], fn := 2 })]) (.pre (.ownCell 100 2 34 104) (.two (.two (.join ⟨[3, 6, 34], ⟨(.cons (.own 0 100 0 0) (.cons (.slf 1 103) (.cons (.p .bool) .nil))), [(100, false, (.vars (.cons (.p (.int .i64)) (.cons (.p (.int .i64)) (.cons (.slf 3 104) (.cons (.mp 101) .nil)))))), (104, false, (.rows 34 (.pair (.int .i64) (.pair (.int .i64) (.sl .byte))))), (101, false, (.map (.int .i64) (.int .i64))), (103, false, (.rows 5 .byte))]⟩⟩ false [] (.reg [(5, { ids := [105], sh := [100, 104, 101, 103], fn := 9 })])) (.two (.leaf) (.leaf))) (.two (.reg [(2, { sh := [103], fn := 4 })]) (.two (.join ⟨[3, 7], ⟨(.cons (.own 0 100 0 0) (.cons (.own 0 107 0 0) .nil)), [(100, false, (.vars (.cons (.p (.int .i64)) (.cons (.p (.int .i64)) (.cons (.slf 3 104) (.cons (.mp 101) .nil)))))), (104, false, (.rows 34 (.pair (.int .i64) (.pair (.int .i64) (.sl .byte))))), (101, false, (.map (.int .i64) (.int .i64))), (107, false, (.vars (.cons (.p (.int .i64)) (.cons (.p (.int .i64)) (.cons (.slf 1 108) .nil))))), (108, false, (.rows 5 .byte))]⟩⟩ false [] (.post (.ownCell 107 2 5 108) (.reg [(1, { ids := [106], sh := [100, 104, 101], fn := 10 }), (5, { ids := [107] })]))) (.two (.reg [(3, { sh := [108], fn := 4 })]) (.two (.two (.join ⟨[3, 49], ⟨(.cons (.own 0 100 0 0) (.cons (.p .bool) .nil)), [(100, false, (.vars (.cons (.p (.int .i64)) (.cons (.p (.int .i64)) (.cons (.slf 3 104) (.cons (.mp 101) .nil)))))), (104, false, (.rows 34 (.pair (.int .i64) (.pair (.int .i64) (.sl .byte))))), (101, false, (.map (.int .i64) (.int .i64)))]⟩⟩ false [] (.reg [(1, { ids := [109], sh := [100, 104, 101], fn := 11 })])) (.two (.leaf) (.leaf))) (.two (.join ⟨[3, 9, 10], ⟨(.cons (.own 0 100 0 0) (.cons (.own 0 112 0 0) (.cons (.p .bool) .nil))), [(100, false, (.vars (.cons (.p (.int .i64)) (.cons (.p (.int .i64)) (.cons (.slf 3 104) (.cons (.mp 101) .nil)))))), (104, false, (.rows 34 (.pair (.int .i64) (.pair (.int .i64) (.sl .byte))))), (101, false, (.map (.int .i64) (.int .i64))), (112, false, (.vars (.cons (.p (.int .i64)) (.cons (.p (.int .i64)) (.cons (.slf 1 110) .nil))))), (110, false, (.rows 5 .byte))]⟩⟩ false [] (.reg [(1, { ids := [110, 111], sh := [100, 104, 101], fn := 12 }), (5, { ids := [112] })])) (.two (.two (.join ⟨[3, 9, 64], ⟨(.cons (.own 0 100 0 0) (.cons (.own 0 112 0 0) (.cons (.p .bool) .nil))), [(100, false, (.vars (.cons (.p (.int .i64)) (.cons (.p (.int .i64)) (.cons (.slf 3 104) (.cons (.mp 101) .nil)))))), (104, false, (.rows 34 (.pair (.int .i64) (.pair (.int .i64) (.sl .byte))))), (101, false, (.map (.int .i64) (.int .i64))), (112, false, (.vars (.cons (.p (.int .i64)) (.cons (.p (.int .i64)) (.cons (.slf 1 110) .nil))))), (110, false, (.rows 5 .byte))]⟩⟩ false [] (.leaf)) (.two (.leaf) (.leaf))) (.two (.reg [(3, { sh := [110], fn := 4 })]) (.two (.join ⟨[10, 11], ⟨(.cons (.p .bool) (.cons (.own 0 115 0 0) .nil)), [(115, false, (.vars (.cons (.p (.int .i64)) (.cons (.p (.int .i64)) (.cons (.slf 1 113) .nil))))), (113, false, (.rows 5 .byte))]⟩⟩ false [] (.reg [(1, { ids := [113, 114], sh := [100, 104, 101], fn := 12 }), (5, { ids := [115] })])) (.two (.reg [(10, {  })]) (.leaf))))))))))))))))), ⟨(.cons (.p (.sl .byte)) .nil), []⟩, [⟨(.cons (.p .bool) .nil), []⟩], [0]⟩
def law07_NetOwn_ft (fu : Nat) : FnT := ⟨10, ⟨(.cons (.p (.sl .byte)) .nil), []⟩, [⟨(.cons (.p .bool) .nil), []⟩], fun t => law07_NetOwn fu t⟩
theorem law07_NetOwn_eq (fu : Nat) : ∀ t, evF Go.Proofs.Try.prog [law07_awake_ft fu, net_New_ft fu, low_CopyBytes_ft fu, net_Net_Send_n0o3_ft fu, law07_NetOwn_1_o0_ft fu, net_Net_Look_n0_ft fu, law07_NetOwn_1_n0_ft fu, net_Net_Copy_n0_ft fu, net_Net_Take_n0_ft fu, net_Net_Send_o3_com_ft fu, net_Net_Look__com_ft fu, net_Net_Copy__com_ft fu, net_Net_Take__com_ft fu] fu Go.Proofs.Try.f10 law07_NetOwn_fa t = (law07_NetOwn_ft fu).spec t := fun t => by kernel_rfl
theorem law07_NetOwn_told (fu : Nat) : Told Go.Proofs.Try.prog (law07_NetOwn_ft fu) := told_of (allT_cons (law07_awake_told fu) (allT_cons (net_New_told fu) (allT_cons (low_CopyBytes_told fu) (allT_cons (net_Net_Send_n0o3_told fu) (allT_cons (law07_NetOwn_1_o0_told fu) (allT_cons (net_Net_Look_n0_told fu) (allT_cons (law07_NetOwn_1_n0_told fu) (allT_cons (net_Net_Copy_n0_told fu) (allT_cons (net_Net_Take_n0_told fu) (allT_cons (net_Net_Send_o3_com_told fu) (allT_cons (net_Net_Look__com_told fu) (allT_cons (net_Net_Copy__com_told fu) (allT_cons (net_Net_Take__com_told fu) allT_nil))))))))))))) mixed Go.Proofs.Try.func10 (by kernel_rfl) (by kernel_rfl) (law07_NetOwn_eq fu)
end
end Go.Ab.D
