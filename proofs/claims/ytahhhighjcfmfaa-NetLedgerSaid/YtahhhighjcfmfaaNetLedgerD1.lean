/- Functions of the program as plain Lean functions: each equation is checked by the kernel; what is told of a function follows from it. -/
import Derived.Test.YtahhhighjcfmfaaE3
import Derived.Test.YtahhhighjcfmfaaProg
import Derived.KernelRfl
set_option linter.all false
set_option maxRecDepth 100000
set_option maxHeartbeats 4000000
namespace Go.Ab.D
open Go Go.Ab
noncomputable section
theorem mixed : Go.Proofs.Try.prog.follows .mixedOrders = true := by kernel_rfl
def net_New_1 (fu : Nat) (k : Int) (high : Int) : Option (Bool) :=
  bif (decide (0 < k)) then
    some (decide (k ≤ high))
  else
    some false
def net_New_1_fa : FnA := ⟨.two (.leaf) (.leaf), ⟨(.cons (.p (.int .i64)) (.cons (.p (.int .i64)) .nil)), []⟩, [⟨(.cons (.p .bool) .nil), []⟩], [0]⟩
def net_New_1_ft (fu : Nat) : FnT := ⟨17, ⟨(.cons (.p (.int .i64)) (.cons (.p (.int .i64)) .nil)), []⟩, [⟨(.cons (.p .bool) .nil), []⟩], fun t => net_New_1 fu t.1 t.2⟩
theorem net_New_1_eq (fu : Nat) : ∀ t, evF Go.Proofs.Try.prog [] fu Go.Proofs.Try.f17 net_New_1_fa t = (net_New_1_ft fu).spec t := fun t => by kernel_rfl
theorem net_New_1_told (fu : Nat) : Told Go.Proofs.Try.prog (net_New_1_ft fu) := told_of allT_nil mixed Go.Proofs.Try.func17 (by kernel_rfl) (by kernel_rfl) (net_New_1_eq fu)

def net_New (fu : Nat) (ends : Int) (most : Int) : Option (Int ⊕ (Int × (Int × (Int × (List (((Int × Int) × Nat)) × Nat))))) :=
  Option.bind (α := (Bool)) (
    (net_New_1 fu ends 300).bind fun r =>
    bif (!r) then
      some true
    else
      (net_New_1 fu most 10000).bind fun r1 =>
      some (!r1)) fun o =>
  bif o then
    some (.inl 2)
  else
    some (.inr (0, (ends, (most, ([], 0)))))
def net_New_fa : FnA := ⟨.two (.leaf) (.two (.leaf) (.two (.two (.join ⟨[16], ⟨(.cons (.p .bool) .nil), []⟩⟩ false [] (.reg [(2, {  }), (7, {  })])) (.two (.leaf) (.leaf))) (.two (.reg [(2, { ids := [100] }), (4, { ids := [101] })]) (.leaf)))), ⟨(.cons (.p (.int .i64)) (.cons (.p (.int .i64)) .nil)), []⟩, [⟨(.cons (.nilp (.pointer none)) (.cons (.p (.int .i64)) .nil)), []⟩, ⟨(.cons (.own 0 0 0 0) (.cons (.p (.int .i64)) .nil)), [(0, false, (.vars (.cons (.p (.int .i64)) (.cons (.p (.int .i64)) (.cons (.nilp (.slice none 0 0)) (.cons (.mp 1) .nil)))))), (1, false, (.map (.int .i64) (.int .i64)))]⟩], [0, 0]⟩
def net_New_ft (fu : Nat) : FnT := ⟨4, ⟨(.cons (.p (.int .i64)) (.cons (.p (.int .i64)) .nil)), []⟩, [⟨(.cons (.nilp (.pointer none)) (.cons (.p (.int .i64)) .nil)), []⟩, ⟨(.cons (.own 0 0 0 0) (.cons (.p (.int .i64)) .nil)), [(0, false, (.vars (.cons (.p (.int .i64)) (.cons (.p (.int .i64)) (.cons (.nilp (.slice none 0 0)) (.cons (.mp 1) .nil)))))), (1, false, (.map (.int .i64) (.int .i64)))]⟩], fun t => net_New fu t.1 t.2⟩
theorem net_New_eq (fu : Nat) : ∀ t, evF Go.Proofs.Try.prog [net_New_1_ft fu] fu Go.Proofs.Try.f4 net_New_fa t = (net_New_ft fu).spec t := fun t => by kernel_rfl
theorem net_New_told (fu : Nat) : Told Go.Proofs.Try.prog (net_New_ft fu) := told_of (allT_cons (net_New_1_told fu) allT_nil) mixed Go.Proofs.Try.func4 (by kernel_rfl) (by kernel_rfl) (net_New_eq fu)

def low_Pick (fu : Nat) (x : Int) (n : Int) : Option (Int) :=
  bif (decide (n ≤ 0)) then
    some 0
  else
    need (!(decide (n = 0))) <|
    bif (decide ((Int.tmod x n) < 0)) then
      some (IntKind.wrap .i64 ((Int.tmod x n) + n))
    else
      some (Int.tmod x n)
def low_Pick_fa : FnA := ⟨.two (.leaf) (.two (.two (.leaf) (.two (.leaf) (.leaf))) (.two (.leaf) (.two (.two (.leaf) (.leaf)) (.leaf)))), ⟨(.cons (.p (.int .i64)) (.cons (.p (.int .i64)) .nil)), []⟩, [⟨(.cons (.p (.int .i64)) .nil), []⟩], [0]⟩
def low_Pick_ft (fu : Nat) : FnT := ⟨5, ⟨(.cons (.p (.int .i64)) (.cons (.p (.int .i64)) .nil)), []⟩, [⟨(.cons (.p (.int .i64)) .nil), []⟩], fun t => low_Pick fu t.1 t.2⟩
theorem low_Pick_eq (fu : Nat) : ∀ t, evF Go.Proofs.Try.prog [] fu Go.Proofs.Try.f5 low_Pick_fa t = (low_Pick_ft fu).spec t := fun t => by kernel_rfl
theorem low_Pick_told (fu : Nat) : Told Go.Proofs.Try.prog (low_Pick_ft fu) := told_of allT_nil mixed Go.Proofs.Try.func5 (by kernel_rfl) (by kernel_rfl) (low_Pick_eq fu)

def net_Net_made_n0 (fu : Nat)  : Option (Bool) :=
  some false
def net_Net_made_n0_fa : FnA := ⟨.two (.leaf) (.leaf), ⟨(.cons (.nilp (.pointer none)) .nil), []⟩, [⟨(.cons (.p .bool) .nil), []⟩], [0]⟩
def net_Net_made_n0_ft (fu : Nat) : FnT := ⟨20, ⟨(.cons (.nilp (.pointer none)) .nil), []⟩, [⟨(.cons (.p .bool) .nil), []⟩], fun t => net_Net_made_n0 fu ⟩
theorem net_Net_made_n0_eq (fu : Nat) : ∀ t, evF Go.Proofs.Try.prog [] fu Go.Proofs.Try.f20 net_Net_made_n0_fa t = (net_Net_made_n0_ft fu).spec t := fun t => by kernel_rfl
theorem net_Net_made_n0_told (fu : Nat) : Told Go.Proofs.Try.prog (net_Net_made_n0_ft fu) := told_of allT_nil mixed Go.Proofs.Try.func20 (by kernel_rfl) (by kernel_rfl) (net_Net_made_n0_eq fu)

def net_Net_there_n0 (fu : Nat) (i : Int) : Option (Bool) :=
  (net_Net_made_n0 fu).bind fun r =>
  bif r then
    none
  else
    some false
def net_Net_there_n0_fa : FnA := ⟨.two (.leaf) (.two (.reg [(1, {  })]) (.leaf)), ⟨(.cons (.nilp (.pointer none)) (.cons (.p (.int .i64)) .nil)), []⟩, [⟨(.cons (.p .bool) .nil), []⟩], [0]⟩
def net_Net_there_n0_ft (fu : Nat) : FnT := ⟨18, ⟨(.cons (.nilp (.pointer none)) (.cons (.p (.int .i64)) .nil)), []⟩, [⟨(.cons (.p .bool) .nil), []⟩], fun t => net_Net_there_n0 fu t⟩
theorem net_Net_there_n0_eq (fu : Nat) : ∀ t, evF Go.Proofs.Try.prog [net_Net_made_n0_ft fu] fu Go.Proofs.Try.f18 net_Net_there_n0_fa t = (net_Net_there_n0_ft fu).spec t := fun t => by kernel_rfl
theorem net_Net_there_n0_told (fu : Nat) : Told Go.Proofs.Try.prog (net_Net_there_n0_ft fu) := told_of (allT_cons (net_Net_made_n0_told fu) allT_nil) mixed Go.Proofs.Try.func18 (by kernel_rfl) (by kernel_rfl) (net_Net_there_n0_eq fu)

def net_Net_Look_n0 (fu : Nat) (i : Int) : Option ((Int × (Int × Bool))) :=
  (net_Net_there_n0 fu i).bind fun r =>
  bif (!r) then
    some (0, (0, false))
  else
    none
def net_Net_Look_n0_fa : FnA := ⟨.two (.reg [(0, { ids := [100] })]) (.two (.two (.reg [(2, {  })]) (.two (.leaf) (.leaf))) (.leaf)), ⟨(.cons (.nilp (.pointer none)) (.cons (.p (.int .i64)) .nil)), []⟩, [⟨(.cons (.agg (.cons (.p (.int .i64)) (.cons (.p (.int .i64)) (.cons (.nilp (.slice none 0 0)) .nil)))) (.cons (.p .bool) .nil)), []⟩], [0, 0]⟩
def net_Net_Look_n0_ft (fu : Nat) : FnT := ⟨6, ⟨(.cons (.nilp (.pointer none)) (.cons (.p (.int .i64)) .nil)), []⟩, [⟨(.cons (.agg (.cons (.p (.int .i64)) (.cons (.p (.int .i64)) (.cons (.nilp (.slice none 0 0)) .nil)))) (.cons (.p .bool) .nil)), []⟩], fun t => net_Net_Look_n0 fu t⟩
theorem net_Net_Look_n0_eq (fu : Nat) : ∀ t, evF Go.Proofs.Try.prog [net_Net_there_n0_ft fu] fu Go.Proofs.Try.f6 net_Net_Look_n0_fa t = (net_Net_Look_n0_ft fu).spec t := fun t => by kernel_rfl
theorem net_Net_Look_n0_told (fu : Nat) : Told Go.Proofs.Try.prog (net_Net_Look_n0_ft fu) := told_of (allT_cons (net_Net_there_n0_told fu) allT_nil) mixed Go.Proofs.Try.func6 (by kernel_rfl) (by kernel_rfl) (net_Net_Look_n0_eq fu)

def net_Net_full_n0 (fu : Nat) (to_ : Int) : Option (Empty) :=
  none
def net_Net_full_n0_fa : FnA := ⟨.two (.leaf) (.leaf), ⟨(.cons (.nilp (.pointer none)) (.cons (.p (.int .i64)) .nil)), []⟩, [], [0]⟩
def net_Net_full_n0_ft (fu : Nat) : FnT := ⟨27, ⟨(.cons (.nilp (.pointer none)) (.cons (.p (.int .i64)) .nil)), []⟩, [], fun t => net_Net_full_n0 fu t⟩
theorem net_Net_full_n0_eq (fu : Nat) : ∀ t, evF Go.Proofs.Try.prog [] fu Go.Proofs.Try.f27 net_Net_full_n0_fa t = (net_Net_full_n0_ft fu).spec t := fun t => by kernel_rfl
theorem net_Net_full_n0_told (fu : Nat) : Told Go.Proofs.Try.prog (net_Net_full_n0_ft fu) := told_of allT_nil mixed Go.Proofs.Try.func27 (by kernel_rfl) (by kernel_rfl) (net_Net_full_n0_eq fu)

def net_Net_lay_n0 (fu : Nat) (d : (Int × (Int × List (UInt8)))) : Option (Empty) :=
  (net_Net_full_n0 fu d.2.1).bind fun r =>
  Empty.elim r
def net_Net_lay_n0_fa : FnA := ⟨.two (.reg [(0, { ids := [100] })]) (.two (.two (.reg [(3, {  })]) (.leaf)) (.leaf)), ⟨(.cons (.nilp (.pointer none)) (.cons (.p (.pair (.int .i64) (.pair (.int .i64) (.sl .byte)))) .nil)), []⟩, [], [0]⟩
def net_Net_lay_n0_ft (fu : Nat) : FnT := ⟨21, ⟨(.cons (.nilp (.pointer none)) (.cons (.p (.pair (.int .i64) (.pair (.int .i64) (.sl .byte)))) .nil)), []⟩, [], fun t => net_Net_lay_n0 fu t⟩
theorem net_Net_lay_n0_eq (fu : Nat) : ∀ t, evF Go.Proofs.Try.prog [net_Net_full_n0_ft fu] fu Go.Proofs.Try.f21 net_Net_lay_n0_fa t = (net_Net_lay_n0_ft fu).spec t := fun t => by kernel_rfl
theorem net_Net_lay_n0_told (fu : Nat) : Told Go.Proofs.Try.prog (net_Net_lay_n0_ft fu) := told_of (allT_cons (net_Net_full_n0_told fu) allT_nil) mixed Go.Proofs.Try.func21 (by kernel_rfl) (by kernel_rfl) (net_Net_lay_n0_eq fu)

def net_Net_Send_n0_l0 (fu : Nat) (from_ : Int) (to_ : Int) (x : Int) : Option (Int ⊕ (Unit ⊕ Int)) :=
  bif (decide (x < 2)) then
    (idx? x 2).bind fun q =>
    ([from_, to_])[q]?.bind fun x1 =>
    bif (decide (x1 < 0)) then
      some (.inr (.inr 2))
    else
      none
  else
    some (.inr (.inl ()))
def net_Net_Send_n0_l0_it (fu : Nat) (from_ : Int) (to_ : Int) (tt : Int) : Option (Unit ⊕ Int) :=
  iter fu (fun tt => net_Net_Send_n0_l0 fu from_ to_ tt) tt
def net_Net_Send_n0 (fu : Nat) (from_ : Int) (to_ : Int) (b : List (UInt8)) : Option (Int) :=
  (net_Net_made_n0 fu).bind fun r =>
  bif (!r) then
    some 1
  else
    (net_Net_Send_n0_l0_it fu from_ to_ 0).bind fun o =>
    match o with
    | .inl s =>
      bif (decide (((b.length : Nat) : Int) > 131072)) then
        some 3
      else
        (net_Net_lay_n0 fu (from_, (to_, b))).bind fun r1 =>
        Empty.elim r1
    | .inr o1 =>
      some o1
def net_Net_Send_n0_fa : FnA := ⟨.two (.leaf) (.two (.two (.reg [(1, {  })]) (.two (.leaf) (.leaf))) (.two (.two (.leaf) (.one (.loop ⟨[17], ⟨(.cons (.p (.int .i64)) .nil), []⟩⟩ true [(0, ⟨[], ⟨.nil, []⟩⟩)] (.two (.leaf) (.two (.leaf) (.two (.one (.two (.leaf) (.two (.leaf) (.two (.leaf) (.leaf))))) (.leaf))))))) (.two (.two (.leaf) (.two (.leaf) (.leaf))) (.two (.reg [(5, { fn := 1 })]) (.leaf))))), ⟨(.cons (.nilp (.pointer none)) (.cons (.p (.int .i64)) (.cons (.p (.int .i64)) (.cons (.p (.sl .byte)) .nil)))), []⟩, [⟨(.cons (.p (.int .i64)) .nil), []⟩], [0]⟩
def net_Net_Send_n0_ft (fu : Nat) : FnT := ⟨7, ⟨(.cons (.nilp (.pointer none)) (.cons (.p (.int .i64)) (.cons (.p (.int .i64)) (.cons (.p (.sl .byte)) .nil)))), []⟩, [⟨(.cons (.p (.int .i64)) .nil), []⟩], fun t => net_Net_Send_n0 fu t.1 t.2.1 t.2.2⟩
theorem net_Net_Send_n0_eq (fu : Nat) : ∀ t, evF Go.Proofs.Try.prog [net_Net_made_n0_ft fu, net_Net_lay_n0_ft fu] fu Go.Proofs.Try.f7 net_Net_Send_n0_fa t = (net_Net_Send_n0_ft fu).spec t := fun t => by kernel_rfl
theorem net_Net_Send_n0_told (fu : Nat) : Told Go.Proofs.Try.prog (net_Net_Send_n0_ft fu) := told_of (allT_cons (net_Net_made_n0_told fu) (allT_cons (net_Net_lay_n0_told fu) allT_nil)) mixed Go.Proofs.Try.func7 (by kernel_rfl) (by kernel_rfl) (net_Net_Send_n0_eq fu)

def law07_tag (fu : Nat) (d : (Int × (Int × List (UInt8)))) : Option (List UInt8) :=
  (byte? (IntKind.wrap .u8 d.1)).bind fun c =>
  (byte? (IntKind.wrap .u8 d.2.1)).bind fun c1 =>
  need (Nat.ble (2 + d.2.2.length) room) <|
  some ([c, c1] ++ d.2.2)
def law07_tag_fa : FnA := ⟨.two (.reg [(0, { ids := [100] })]) (.two (.reg [(6, { ids := [101] })]) (.leaf)), ⟨(.cons (.p (.pair (.int .i64) (.pair (.int .i64) (.sl .byte)))) .nil), []⟩, [⟨(.cons (.p .str) .nil), []⟩], [0]⟩
def law07_tag_ft (fu : Nat) : FnT := ⟨8, ⟨(.cons (.p (.pair (.int .i64) (.pair (.int .i64) (.sl .byte)))) .nil), []⟩, [⟨(.cons (.p .str) .nil), []⟩], fun t => law07_tag fu t⟩
theorem law07_tag_eq (fu : Nat) : ∀ t, evF Go.Proofs.Try.prog [] fu Go.Proofs.Try.f8 law07_tag_fa t = (law07_tag_ft fu).spec t := fun t => by kernel_rfl
theorem law07_tag_told (fu : Nat) : Told Go.Proofs.Try.prog (law07_tag_ft fu) := told_of allT_nil mixed Go.Proofs.Try.func8 (by kernel_rfl) (by kernel_rfl) (law07_tag_eq fu)

def net_Net_Copy_n0 (fu : Nat) (i : Int) : Option (Int) :=
  (net_Net_made_n0 fu).bind fun r =>
  bif (!r) then
    some 1
  else
    (net_Net_there_n0 fu i).bind fun r1 =>
    bif (!r1) then
      some 2
    else
      none
def net_Net_Copy_n0_fa : FnA := ⟨.two (.leaf) (.two (.one (.two (.reg [(1, {  })]) (.two (.leaf) (.two (.reg [(2, { fn := 1 })]) (.two (.leaf) (.leaf)))))) (.leaf)), ⟨(.cons (.nilp (.pointer none)) (.cons (.p (.int .i64)) .nil)), []⟩, [⟨(.cons (.p (.int .i64)) .nil), []⟩], [0]⟩
def net_Net_Copy_n0_ft (fu : Nat) : FnT := ⟨9, ⟨(.cons (.nilp (.pointer none)) (.cons (.p (.int .i64)) .nil)), []⟩, [⟨(.cons (.p (.int .i64)) .nil), []⟩], fun t => net_Net_Copy_n0 fu t⟩
theorem net_Net_Copy_n0_eq (fu : Nat) : ∀ t, evF Go.Proofs.Try.prog [net_Net_made_n0_ft fu, net_Net_there_n0_ft fu] fu Go.Proofs.Try.f9 net_Net_Copy_n0_fa t = (net_Net_Copy_n0_ft fu).spec t := fun t => by kernel_rfl
theorem net_Net_Copy_n0_told (fu : Nat) : Told Go.Proofs.Try.prog (net_Net_Copy_n0_ft fu) := told_of (allT_cons (net_Net_made_n0_told fu) (allT_cons (net_Net_there_n0_told fu) allT_nil)) mixed Go.Proofs.Try.func9 (by kernel_rfl) (by kernel_rfl) (net_Net_Copy_n0_eq fu)

def net_Net_Drop_n0 (fu : Nat) (i : Int) : Option (Bool) :=
  (net_Net_there_n0 fu i).bind fun r =>
  bif (!r) then
    some false
  else
    none
def net_Net_Drop_n0_fa : FnA := ⟨.two (.leaf) (.two (.two (.reg [(2, {  })]) (.two (.leaf) (.leaf))) (.leaf)), ⟨(.cons (.nilp (.pointer none)) (.cons (.p (.int .i64)) .nil)), []⟩, [⟨(.cons (.p .bool) .nil), []⟩], [0]⟩
def net_Net_Drop_n0_ft (fu : Nat) : FnT := ⟨12, ⟨(.cons (.nilp (.pointer none)) (.cons (.p (.int .i64)) .nil)), []⟩, [⟨(.cons (.p .bool) .nil), []⟩], fun t => net_Net_Drop_n0 fu t⟩
theorem net_Net_Drop_n0_eq (fu : Nat) : ∀ t, evF Go.Proofs.Try.prog [net_Net_there_n0_ft fu] fu Go.Proofs.Try.f12 net_Net_Drop_n0_fa t = (net_Net_Drop_n0_ft fu).spec t := fun t => by kernel_rfl
theorem net_Net_Drop_n0_told (fu : Nat) : Told Go.Proofs.Try.prog (net_Net_Drop_n0_ft fu) := told_of (allT_cons (net_Net_there_n0_told fu) allT_nil) mixed Go.Proofs.Try.func12 (by kernel_rfl) (by kernel_rfl) (net_Net_Drop_n0_eq fu)

def net_Net_Take_n0 (fu : Nat) (i : Int) : Option ((Int × (Int × Bool))) :=
  (net_Net_Look_n0 fu i).bind fun r =>
  bif r.2.2 then
    (net_Net_Drop_n0 fu i).bind fun r1 =>
    some (r.1, (r.2.1, r1))
  else
    some (r.1, (r.2.1, false))
def net_Net_Take_n0_fa : FnA := ⟨.two (.reg [(0, { ids := [100] })]) (.two (.reg [(2, {  }), (6, { ids := [101] })]) (.two (.reg [(5, { fn := 1 })]) (.leaf))), ⟨(.cons (.nilp (.pointer none)) (.cons (.p (.int .i64)) .nil)), []⟩, [⟨(.cons (.agg (.cons (.p (.int .i64)) (.cons (.p (.int .i64)) (.cons (.nilp (.slice none 0 0)) .nil)))) (.cons (.p .bool) .nil)), []⟩], [0, 0]⟩
def net_Net_Take_n0_ft (fu : Nat) : FnT := ⟨10, ⟨(.cons (.nilp (.pointer none)) (.cons (.p (.int .i64)) .nil)), []⟩, [⟨(.cons (.agg (.cons (.p (.int .i64)) (.cons (.p (.int .i64)) (.cons (.nilp (.slice none 0 0)) .nil)))) (.cons (.p .bool) .nil)), []⟩], fun t => net_Net_Take_n0 fu t⟩
theorem net_Net_Take_n0_eq (fu : Nat) : ∀ t, evF Go.Proofs.Try.prog [net_Net_Look_n0_ft fu, net_Net_Drop_n0_ft fu] fu Go.Proofs.Try.f10 net_Net_Take_n0_fa t = (net_Net_Take_n0_ft fu).spec t := fun t => by kernel_rfl
theorem net_Net_Take_n0_told (fu : Nat) : Told Go.Proofs.Try.prog (net_Net_Take_n0_ft fu) := told_of (allT_cons (net_Net_Look_n0_told fu) (allT_cons (net_Net_Drop_n0_told fu) allT_nil)) mixed Go.Proofs.Try.func10 (by kernel_rfl) (by kernel_rfl) (net_Net_Take_n0_eq fu)

def law07_like (fu : Nat) (a : (Int × (Int × List (UInt8)))) (b : (Int × (Int × List (UInt8)))) : Option (Bool) :=
  bif (a.1 == b.1) then
    bif (a.2.1 == b.2.1) then
      some (a.2.2 == b.2.2)
    else
      some false
  else
    some false
def law07_like_fa : FnA := ⟨.two (.reg [(0, { ids := [100] }), (1, { ids := [101] })]) (.leaf), ⟨(.cons (.p (.pair (.int .i64) (.pair (.int .i64) (.sl .byte)))) (.cons (.p (.pair (.int .i64) (.pair (.int .i64) (.sl .byte)))) .nil)), []⟩, [⟨(.cons (.p .bool) .nil), []⟩], [0]⟩
def law07_like_ft (fu : Nat) : FnT := ⟨11, ⟨(.cons (.p (.pair (.int .i64) (.pair (.int .i64) (.sl .byte)))) (.cons (.p (.pair (.int .i64) (.pair (.int .i64) (.sl .byte)))) .nil)), []⟩, [⟨(.cons (.p .bool) .nil), []⟩], fun t => law07_like fu t.1 t.2⟩
theorem law07_like_eq (fu : Nat) : ∀ t, evF Go.Proofs.Try.prog [] fu Go.Proofs.Try.f11 law07_like_fa t = (law07_like_ft fu).spec t := fun t => by kernel_rfl
theorem law07_like_told (fu : Nat) : Told Go.Proofs.Try.prog (law07_like_ft fu) := told_of allT_nil mixed Go.Proofs.Try.func11 (by kernel_rfl) (by kernel_rfl) (law07_like_eq fu)

def net_Net_Flying_n0 (fu : Nat)  : Option (Int) :=
  (net_Net_made_n0 fu).bind fun r =>
  bif (!r) then
    some 0
  else
    none
def net_Net_Flying_n0_fa : FnA := ⟨.two (.leaf) (.two (.two (.reg [(1, {  })]) (.two (.leaf) (.leaf))) (.leaf)), ⟨(.cons (.nilp (.pointer none)) .nil), []⟩, [⟨(.cons (.p (.int .i64)) .nil), []⟩], [0]⟩
def net_Net_Flying_n0_ft (fu : Nat) : FnT := ⟨13, ⟨(.cons (.nilp (.pointer none)) .nil), []⟩, [⟨(.cons (.p (.int .i64)) .nil), []⟩], fun t => net_Net_Flying_n0 fu ⟩
theorem net_Net_Flying_n0_eq (fu : Nat) : ∀ t, evF Go.Proofs.Try.prog [net_Net_made_n0_ft fu] fu Go.Proofs.Try.f13 net_Net_Flying_n0_fa t = (net_Net_Flying_n0_ft fu).spec t := fun t => by kernel_rfl
theorem net_Net_Flying_n0_told (fu : Nat) : Told Go.Proofs.Try.prog (net_Net_Flying_n0_ft fu) := told_of (allT_cons (net_Net_made_n0_told fu) allT_nil) mixed Go.Proofs.Try.func13 (by kernel_rfl) (by kernel_rfl) (net_Net_Flying_n0_eq fu)

def net_Net_Waiting_n0 (fu : Nat) (to_ : Int) : Option (Int) :=
  (net_Net_made_n0 fu).bind fun r =>
  bif (!r) then
    some 0
  else
    none
def net_Net_Waiting_n0_fa : FnA := ⟨.two (.leaf) (.two (.two (.reg [(1, {  })]) (.two (.leaf) (.leaf))) (.leaf)), ⟨(.cons (.nilp (.pointer none)) (.cons (.p (.int .i64)) .nil)), []⟩, [⟨(.cons (.p (.int .i64)) .nil), []⟩], [0]⟩
def net_Net_Waiting_n0_ft (fu : Nat) : FnT := ⟨23, ⟨(.cons (.nilp (.pointer none)) (.cons (.p (.int .i64)) .nil)), []⟩, [⟨(.cons (.p (.int .i64)) .nil), []⟩], fun t => net_Net_Waiting_n0 fu t⟩
theorem net_Net_Waiting_n0_eq (fu : Nat) : ∀ t, evF Go.Proofs.Try.prog [net_Net_made_n0_ft fu] fu Go.Proofs.Try.f23 net_Net_Waiting_n0_fa t = (net_Net_Waiting_n0_ft fu).spec t := fun t => by kernel_rfl
theorem net_Net_Waiting_n0_told (fu : Nat) : Told Go.Proofs.Try.prog (net_Net_Waiting_n0_ft fu) := told_of (allT_cons (net_Net_made_n0_told fu) allT_nil) mixed Go.Proofs.Try.func23 (by kernel_rfl) (by kernel_rfl) (net_Net_Waiting_n0_eq fu)

def net_Net_Forget_n0 (fu : Nat) (to_ : Int) : Option (Int) :=
  (net_Net_Waiting_n0 fu to_).bind fun r =>
  bif (decide (r > 0)) then
    none
  else
    some r
def net_Net_Forget_n0_fa : FnA := ⟨.two (.reg [(0, { ids := [100] })]) (.two (.reg [(2, {  })]) (.two (.two (.leaf) (.two (.leaf) (.leaf))) (.leaf))), ⟨(.cons (.nilp (.pointer none)) (.cons (.p (.int .i64)) .nil)), []⟩, [⟨(.cons (.p (.int .i64)) .nil), []⟩], [0]⟩
def net_Net_Forget_n0_ft (fu : Nat) : FnT := ⟨14, ⟨(.cons (.nilp (.pointer none)) (.cons (.p (.int .i64)) .nil)), []⟩, [⟨(.cons (.p (.int .i64)) .nil), []⟩], fun t => net_Net_Forget_n0 fu t⟩
theorem net_Net_Forget_n0_eq (fu : Nat) : ∀ t, evF Go.Proofs.Try.prog [net_Net_Waiting_n0_ft fu] fu Go.Proofs.Try.f14 net_Net_Forget_n0_fa t = (net_Net_Forget_n0_ft fu).spec t := fun t => by kernel_rfl
theorem net_Net_Forget_n0_told (fu : Nat) : Told Go.Proofs.Try.prog (net_Net_Forget_n0_ft fu) := told_of (allT_cons (net_Net_Waiting_n0_told fu) allT_nil) mixed Go.Proofs.Try.func14 (by kernel_rfl) (by kernel_rfl) (net_Net_Forget_n0_eq fu)

def law07_balanced_n0m1_l0 (fu : Nat) (k : Int) (h1 : (List (((List UInt8 × Int) × Nat)) × Nat)) (h2 : (List (((List UInt8 × Int) × Nat)) × Nat)) : Option ((Int × ((List (((List UInt8 × Int) × Nat)) × Nat) × (List (((List UInt8 × Int) × Nat)) × Nat))) ⊕ (((List (((List UInt8 × Int) × Nat)) × Nat) × (List (((List UInt8 × Int) × Nat)) × Nat)) ⊕ (Bool × (List (((List UInt8 × Int) × Nat)) × Nat)))) :=
  (net_Net_Flying_n0 fu).bind fun r =>
  bif (decide (k < r)) then
    (net_Net_Look_n0 fu k).bind fun r1 =>
    bif (!r1.2.2) then
      some (.inr (.inr (false, h1)))
    else
      (law07_tag fu (r1.1, (r1.2.1, []))).bind fun r2 =>
      some (.inl ((IntKind.wrap .i64 (k + 1)), (h1, (mput (k := .str) (v := (.int .i64)) h2 r2 (IntKind.wrap .i64 ((Option.getD (mget (k := .str) (v := (.int .i64)) h2 r2) 0) + 1))))))
  else
    some (.inr (.inl (h1, h2)))
def law07_balanced_n0m1_l0_it (fu : Nat)  (tt : (Int × ((List (((List UInt8 × Int) × Nat)) × Nat) × (List (((List UInt8 × Int) × Nat)) × Nat)))) : Option (((List (((List UInt8 × Int) × Nat)) × Nat) × (List (((List UInt8 × Int) × Nat)) × Nat)) ⊕ (Bool × (List (((List UInt8 × Int) × Nat)) × Nat))) :=
  iter fu (fun tt => law07_balanced_n0m1_l0 fu tt.1 tt.2.1 tt.2.2) tt
def law07_balanced_n0m1_l1 (fu : Nat) (h3 : (List (((List UInt8 × Int) × Nat)) × Nat)) (h4 : (List (((List UInt8 × Int) × Nat)) × Nat)) (en1 : ((List UInt8 × Int) × Nat)) : Option (((List (((List UInt8 × Int) × Nat)) × Nat) × (List (((List UInt8 × Int) × Nat)) × Nat)) ⊕ ((Bool × (List (((List UInt8 × Int) × Nat)) × Nat)))) :=
  bif (!((Option.getD (mget (k := .str) (v := (.int .i64)) h4 en1.1.1) 0) == en1.1.2)) then
    some (.inr (false, h3))
  else
    some (.inl (h3, h4))
def law07_balanced_n0m1_l1_hd (s : ((List (((List UInt8 × Int) × Nat)) × Nat) × (List (((List UInt8 × Int) × Nat)) × Nat))) (h3 : (List (((List UInt8 × Int) × Nat)) × Nat)) (h4 : (List (((List UInt8 × Int) × Nat)) × Nat)) : Option (List (((List UInt8 × Int) × Nat))) :=
  (need (Nat.beq h3.2 s.1.2) (some h3.1))
def law07_balanced_n0m1_l2 (fu : Nat) (h5 : (List (((List UInt8 × Int) × Nat)) × Nat)) (h6 : (List (((List UInt8 × Int) × Nat)) × Nat)) (en2 : ((List UInt8 × Int) × Nat)) : Option (((List (((List UInt8 × Int) × Nat)) × Nat) × (List (((List UInt8 × Int) × Nat)) × Nat)) ⊕ ((Bool × (List (((List UInt8 × Int) × Nat)) × Nat)))) :=
  bif ((Option.getD (mget (k := .str) (v := (.int .i64)) h5 en2.1.1) 0) == 0) then
    some (.inr (false, h5))
  else
    some (.inl (h5, h6))
def law07_balanced_n0m1_l2_hd (s1 : ((List (((List UInt8 × Int) × Nat)) × Nat) × (List (((List UInt8 × Int) × Nat)) × Nat))) (h5 : (List (((List UInt8 × Int) × Nat)) × Nat)) (h6 : (List (((List UInt8 × Int) × Nat)) × Nat)) : Option (List (((List UInt8 × Int) × Nat))) :=
  (need (Nat.beq h6.2 s1.2.2) (some h6.1))
def law07_balanced_n0m1 (fu : Nat) (h : (List (((List UInt8 × Int) × Nat)) × Nat)) : Option ((Bool × (List (((List UInt8 × Int) × Nat)) × Nat))) :=
  (law07_balanced_n0m1_l0_it fu  (0, (h, ([], 0)))).bind fun o =>
  match o with
  | .inl s =>
    mAll (fun (tt : ((List (((List UInt8 × Int) × Nat)) × Nat) × (List (((List UInt8 × Int) × Nat)) × Nat))) => law07_balanced_n0m1_l1_hd s tt.1 tt.2) (fun (tt : ((List (((List UInt8 × Int) × Nat)) × Nat) × (List (((List UInt8 × Int) × Nat)) × Nat))) (ee : ((List UInt8 × Int) × Nat)) => law07_balanced_n0m1_l1 fu tt.1 tt.2 ee) (s.1, s.2) fun o2 =>
    match o2 with
    | .inl s1 =>
      mAll (fun (tt : ((List (((List UInt8 × Int) × Nat)) × Nat) × (List (((List UInt8 × Int) × Nat)) × Nat))) => law07_balanced_n0m1_l2_hd s1 tt.1 tt.2) (fun (tt : ((List (((List UInt8 × Int) × Nat)) × Nat) × (List (((List UInt8 × Int) × Nat)) × Nat))) (ee : ((List UInt8 × Int) × Nat)) => law07_balanced_n0m1_l2 fu tt.1 tt.2 ee) (s1.1, s1.2) fun o4 =>
      match o4 with
      | .inl s2 =>
        some (true, s2.1)
      | .inr o5 =>
        some o5
    | .inr o3 =>
      some o3
  | .inr o1 =>
    some o1
def law07_balanced_n0m1_fa : FnA := ⟨.two (.leaf) (.two (.reg [(0, { ids := [100] })]) (.two (.two (.leaf) (.one (.loop ⟨[1, 5, 6], ⟨(.cons (.mp 0) (.cons (.mp 100) (.cons (.p (.int .i64)) .nil))), [(0, false, (.map .str (.int .i64))), (100, false, (.map .str (.int .i64)))]⟩⟩ true [(0, ⟨[1, 5], ⟨(.cons (.mp 0) (.cons (.mp 100) .nil)), [(0, false, (.map .str (.int .i64))), (100, false, (.map .str (.int .i64)))]⟩⟩)] (.two (.two (.reg [(2, {  })]) (.leaf)) (.two (.one (.two (.reg [(2, { fn := 1 }), (6, { ids := [101] })]) (.two (.two (.leaf) (.two (.leaf) (.leaf))) (.reg [(2, { fn := 2 })])))) (.leaf)))))) (.two (.mr [] [] .str (.int .i64) 0 ⟨[1, 5, 32], ⟨(.cons (.mp 0) (.cons (.mp 100) (.cons (.mp 0) .nil))), [(0, false, (.map .str (.int .i64))), (100, false, (.map .str (.int .i64)))]⟩⟩ true [] (.two (.leaf) (.two (.leaf) (.leaf)))) (.two (.mr [] [] .str (.int .i64) 100 ⟨[1, 44], ⟨(.cons (.mp 0) (.cons (.mp 100) .nil)), [(0, false, (.map .str (.int .i64))), (100, false, (.map .str (.int .i64)))]⟩⟩ true [] (.two (.leaf) (.two (.leaf) (.leaf)))) (.leaf))))), ⟨(.cons (.nilp (.pointer none)) (.cons (.mp 0) .nil)), [(0, false, (.map .str (.int .i64)))]⟩, [⟨(.cons (.p .bool) .nil), [(0, false, (.map .str (.int .i64)))]⟩], [0]⟩
def law07_balanced_n0m1_ft (fu : Nat) : FnT := ⟨15, ⟨(.cons (.nilp (.pointer none)) (.cons (.mp 0) .nil)), [(0, false, (.map .str (.int .i64)))]⟩, [⟨(.cons (.p .bool) .nil), [(0, false, (.map .str (.int .i64)))]⟩], fun t => law07_balanced_n0m1 fu t⟩
theorem law07_balanced_n0m1_eq (fu : Nat) : ∀ t, evF Go.Proofs.Try.prog [net_Net_Flying_n0_ft fu, net_Net_Look_n0_ft fu, law07_tag_ft fu] fu Go.Proofs.Try.f15 law07_balanced_n0m1_fa t = (law07_balanced_n0m1_ft fu).spec t := fun t => by kernel_rfl
theorem law07_balanced_n0m1_told (fu : Nat) : Told Go.Proofs.Try.prog (law07_balanced_n0m1_ft fu) := told_of (allT_cons (net_Net_Flying_n0_told fu) (allT_cons (net_Net_Look_n0_told fu) (allT_cons (law07_tag_told fu) allT_nil))) mixed Go.Proofs.Try.func15 (by kernel_rfl) (by kernel_rfl) (law07_balanced_n0m1_eq fu)

def law07_is_n0 (fu : Nat) (i : Int) (from_ : Int) (to_ : Int) (b : List UInt8) : Option (Bool) :=
  (net_Net_Look_n0 fu i).bind fun r =>
  bif r.2.2 then
    need (Nat.ble b.length room) <|
    (law07_like fu (r.1, (r.2.1, [])) (from_, (to_, b))).bind fun r1 =>
    some r1
  else
    some false
def law07_is_n0_fa : FnA := ⟨.two (.leaf) (.two (.reg [(2, {  }), (6, { ids := [100] })]) (.two (.reg [(6, { ids := [101] }), (8, { md := [0, 2], fn := 1 })]) (.leaf))), ⟨(.cons (.nilp (.pointer none)) (.cons (.p (.int .i64)) (.cons (.p (.int .i64)) (.cons (.p (.int .i64)) (.cons (.p .str) .nil))))), []⟩, [⟨(.cons (.p .bool) .nil), []⟩], [0]⟩
def law07_is_n0_ft (fu : Nat) : FnT := ⟨26, ⟨(.cons (.nilp (.pointer none)) (.cons (.p (.int .i64)) (.cons (.p (.int .i64)) (.cons (.p (.int .i64)) (.cons (.p .str) .nil))))), []⟩, [⟨(.cons (.p .bool) .nil), []⟩], fun t => law07_is_n0 fu t.1 t.2.1 t.2.2.1 t.2.2.2⟩
theorem law07_is_n0_eq (fu : Nat) : ∀ t, evF Go.Proofs.Try.prog [net_Net_Look_n0_ft fu, law07_like_ft fu] fu Go.Proofs.Try.f26 law07_is_n0_fa t = (law07_is_n0_ft fu).spec t := fun t => by kernel_rfl
theorem law07_is_n0_told (fu : Nat) : Told Go.Proofs.Try.prog (law07_is_n0_ft fu) := told_of (allT_cons (net_Net_Look_n0_told fu) (allT_cons (law07_like_told fu) allT_nil)) mixed Go.Proofs.Try.func26 (by kernel_rfl) (by kernel_rfl) (law07_is_n0_eq fu)

def slices_Clone__byte_byte (fu : Nat) (s : List (UInt8)) : Option (List (UInt8)) :=
  nilQ s.length fun isNil =>
  bif isNil then
    some []
  else
    need ((Nat.ble ((0 + s.length) * 1) room) && (Nat.ble (0 + s.length) room)) <|
    some s
def slices_Clone__byte_byte_fa : FnA := ⟨.two (.leaf) (.two (.two (.leaf) (.two (.leaf) (.leaf))) (.two (.reg [(0, { ids := [100] }), (2, { ids := [101] })]) (.leaf))), ⟨(.cons (.p (.sl .byte)) .nil), []⟩, [⟨(.cons (.slf 1 0) .nil), [(0, false, (.rows 5 .byte))]⟩], [15]⟩
def slices_Clone__byte_byte_ft (fu : Nat) : FnT := ⟨19, ⟨(.cons (.p (.sl .byte)) .nil), []⟩, [⟨(.cons (.slf 1 0) .nil), [(0, false, (.rows 5 .byte))]⟩], fun t => slices_Clone__byte_byte fu t⟩
theorem slices_Clone__byte_byte_eq (fu : Nat) : ∀ t, evF Go.Proofs.Try.prog [] fu Go.Proofs.Try.f19 slices_Clone__byte_byte_fa t = (slices_Clone__byte_byte_ft fu).spec t := fun t => by kernel_rfl
theorem slices_Clone__byte_byte_told (fu : Nat) : Told Go.Proofs.Try.prog (slices_Clone__byte_byte_ft fu) := told_of allT_nil mixed Go.Proofs.Try.func19 (by kernel_rfl) (by kernel_rfl) (slices_Clone__byte_byte_eq fu)

def net_Net_made__com (fu : Nat) (h : Int) (h1 : Int) (h2 : List ((Int × (Int × List (UInt8))))) (h3 : (List (((Int × Int) × Nat)) × Nat)) : Option ((Bool × (Int × (Int × (List ((Int × (Int × List (UInt8)))) × (List (((Int × Int) × Nat)) × Nat)))))) :=
  some (true, (h, (h1, (h2, h3))))
def net_Net_made__com_fa : FnA := ⟨.two (.leaf) (.leaf), ⟨(.cons (.own 0 0 0 0) .nil), [(0, false, (.vars (.cons (.p (.int .i64)) (.cons (.p (.int .i64)) (.cons (.slf 3 1) (.cons (.mp 2) .nil)))))), (1, false, (.rows 33 (.pair (.int .i64) (.pair (.int .i64) (.sl .byte))))), (2, false, (.map (.int .i64) (.int .i64)))]⟩, [⟨(.cons (.p .bool) .nil), [(0, false, (.vars (.cons (.p (.int .i64)) (.cons (.p (.int .i64)) (.cons (.slf 3 1) (.cons (.mp 2) .nil)))))), (1, false, (.rows 33 (.pair (.int .i64) (.pair (.int .i64) (.sl .byte))))), (2, false, (.map (.int .i64) (.int .i64)))]⟩], [0]⟩
def net_Net_made__com_ft (fu : Nat) : FnT := ⟨20, ⟨(.cons (.own 0 0 0 0) .nil), [(0, false, (.vars (.cons (.p (.int .i64)) (.cons (.p (.int .i64)) (.cons (.slf 3 1) (.cons (.mp 2) .nil)))))), (1, false, (.rows 33 (.pair (.int .i64) (.pair (.int .i64) (.sl .byte))))), (2, false, (.map (.int .i64) (.int .i64)))]⟩, [⟨(.cons (.p .bool) .nil), [(0, false, (.vars (.cons (.p (.int .i64)) (.cons (.p (.int .i64)) (.cons (.slf 3 1) (.cons (.mp 2) .nil)))))), (1, false, (.rows 33 (.pair (.int .i64) (.pair (.int .i64) (.sl .byte))))), (2, false, (.map (.int .i64) (.int .i64)))]⟩], fun t => net_Net_made__com fu t.1 t.2.1 t.2.2.1 t.2.2.2⟩
theorem net_Net_made__com_eq (fu : Nat) : ∀ t, evF Go.Proofs.Try.prog [] fu Go.Proofs.Try.f20 net_Net_made__com_fa t = (net_Net_made__com_ft fu).spec t := fun t => by kernel_rfl
theorem net_Net_made__com_told (fu : Nat) : Told Go.Proofs.Try.prog (net_Net_made__com_ft fu) := told_of allT_nil mixed Go.Proofs.Try.func20 (by kernel_rfl) (by kernel_rfl) (net_Net_made__com_eq fu)

def net_Net_Flying__com (fu : Nat) (h : Int) (h1 : Int) (h2 : List ((Int × (Int × List (UInt8))))) (h3 : (List (((Int × Int) × Nat)) × Nat)) : Option ((Int × (Int × (Int × (List ((Int × (Int × List (UInt8)))) × (List (((Int × Int) × Nat)) × Nat)))))) :=
  (net_Net_made__com fu h h1 h2 h3).bind fun r =>
  bif (!r.1) then
    some (0, (r.2.1, (r.2.2.1, (r.2.2.2.1, r.2.2.2.2))))
  else
    some (((r.2.2.2.1.length : Nat) : Int), (r.2.1, (r.2.2.1, (r.2.2.2.1, r.2.2.2.2))))
def net_Net_Flying__com_fa : FnA := ⟨.two (.leaf) (.two (.two (.reg [(1, { sh := [0, 1, 2] })]) (.two (.leaf) (.leaf))) (.leaf)), ⟨(.cons (.own 0 0 0 0) .nil), [(0, false, (.vars (.cons (.p (.int .i64)) (.cons (.p (.int .i64)) (.cons (.slf 3 1) (.cons (.mp 2) .nil)))))), (1, false, (.rows 33 (.pair (.int .i64) (.pair (.int .i64) (.sl .byte))))), (2, false, (.map (.int .i64) (.int .i64)))]⟩, [⟨(.cons (.p (.int .i64)) .nil), [(0, false, (.vars (.cons (.p (.int .i64)) (.cons (.p (.int .i64)) (.cons (.slf 3 1) (.cons (.mp 2) .nil)))))), (1, false, (.rows 33 (.pair (.int .i64) (.pair (.int .i64) (.sl .byte))))), (2, false, (.map (.int .i64) (.int .i64)))]⟩], [0]⟩
def net_Net_Flying__com_ft (fu : Nat) : FnT := ⟨13, ⟨(.cons (.own 0 0 0 0) .nil), [(0, false, (.vars (.cons (.p (.int .i64)) (.cons (.p (.int .i64)) (.cons (.slf 3 1) (.cons (.mp 2) .nil)))))), (1, false, (.rows 33 (.pair (.int .i64) (.pair (.int .i64) (.sl .byte))))), (2, false, (.map (.int .i64) (.int .i64)))]⟩, [⟨(.cons (.p (.int .i64)) .nil), [(0, false, (.vars (.cons (.p (.int .i64)) (.cons (.p (.int .i64)) (.cons (.slf 3 1) (.cons (.mp 2) .nil)))))), (1, false, (.rows 33 (.pair (.int .i64) (.pair (.int .i64) (.sl .byte))))), (2, false, (.map (.int .i64) (.int .i64)))]⟩], fun t => net_Net_Flying__com fu t.1 t.2.1 t.2.2.1 t.2.2.2⟩
theorem net_Net_Flying__com_eq (fu : Nat) : ∀ t, evF Go.Proofs.Try.prog [net_Net_made__com_ft fu] fu Go.Proofs.Try.f13 net_Net_Flying__com_fa t = (net_Net_Flying__com_ft fu).spec t := fun t => by kernel_rfl
theorem net_Net_Flying__com_told (fu : Nat) : Told Go.Proofs.Try.prog (net_Net_Flying__com_ft fu) := told_of (allT_cons (net_Net_made__com_told fu) allT_nil) mixed Go.Proofs.Try.func13 (by kernel_rfl) (by kernel_rfl) (net_Net_Flying__com_eq fu)

def net_Net_there__com (fu : Nat) (i : Int) (h : Int) (h1 : Int) (h2 : List ((Int × (Int × List (UInt8))))) (h3 : (List (((Int × Int) × Nat)) × Nat)) : Option ((Bool × (Int × (Int × (List ((Int × (Int × List (UInt8)))) × (List (((Int × Int) × Nat)) × Nat)))))) :=
  (net_Net_made__com fu h h1 h2 h3).bind fun r =>
  bif r.1 then
    some ((decide ((IntKind.wrap .u64 i) < (IntKind.wrap .u64 ((r.2.2.2.1.length : Nat) : Int)))), (r.2.1, (r.2.2.1, (r.2.2.2.1, r.2.2.2.2))))
  else
    some (false, (r.2.1, (r.2.2.1, (r.2.2.2.1, r.2.2.2.2))))
def net_Net_there__com_fa : FnA := ⟨.two (.leaf) (.two (.reg [(1, { sh := [0, 1, 2] })]) (.leaf)), ⟨(.cons (.own 0 0 0 0) (.cons (.p (.int .i64)) .nil)), [(0, false, (.vars (.cons (.p (.int .i64)) (.cons (.p (.int .i64)) (.cons (.slf 3 1) (.cons (.mp 2) .nil)))))), (1, false, (.rows 33 (.pair (.int .i64) (.pair (.int .i64) (.sl .byte))))), (2, false, (.map (.int .i64) (.int .i64)))]⟩, [⟨(.cons (.p .bool) .nil), [(0, false, (.vars (.cons (.p (.int .i64)) (.cons (.p (.int .i64)) (.cons (.slf 3 1) (.cons (.mp 2) .nil)))))), (1, false, (.rows 33 (.pair (.int .i64) (.pair (.int .i64) (.sl .byte))))), (2, false, (.map (.int .i64) (.int .i64)))]⟩], [0]⟩
def net_Net_there__com_ft (fu : Nat) : FnT := ⟨18, ⟨(.cons (.own 0 0 0 0) (.cons (.p (.int .i64)) .nil)), [(0, false, (.vars (.cons (.p (.int .i64)) (.cons (.p (.int .i64)) (.cons (.slf 3 1) (.cons (.mp 2) .nil)))))), (1, false, (.rows 33 (.pair (.int .i64) (.pair (.int .i64) (.sl .byte))))), (2, false, (.map (.int .i64) (.int .i64)))]⟩, [⟨(.cons (.p .bool) .nil), [(0, false, (.vars (.cons (.p (.int .i64)) (.cons (.p (.int .i64)) (.cons (.slf 3 1) (.cons (.mp 2) .nil)))))), (1, false, (.rows 33 (.pair (.int .i64) (.pair (.int .i64) (.sl .byte))))), (2, false, (.map (.int .i64) (.int .i64)))]⟩], fun t => net_Net_there__com fu t.1 t.2.1 t.2.2.1 t.2.2.2.1 t.2.2.2.2⟩
theorem net_Net_there__com_eq (fu : Nat) : ∀ t, evF Go.Proofs.Try.prog [net_Net_made__com_ft fu] fu Go.Proofs.Try.f18 net_Net_there__com_fa t = (net_Net_there__com_ft fu).spec t := fun t => by kernel_rfl
theorem net_Net_there__com_told (fu : Nat) : Told Go.Proofs.Try.prog (net_Net_there__com_ft fu) := told_of (allT_cons (net_Net_made__com_told fu) allT_nil) mixed Go.Proofs.Try.func18 (by kernel_rfl) (by kernel_rfl) (net_Net_there__com_eq fu)

def net_Net_full__com (fu : Nat) (to_ : Int) (h : Int) (h1 : Int) (h2 : List ((Int × (Int × List (UInt8))))) (h3 : (List (((Int × Int) × Nat)) × Nat)) : Option ((Bool × (Int × (Int × (List ((Int × (Int × List (UInt8)))) × (List (((Int × Int) × Nat)) × Nat)))))) :=
  bif ((Option.getD (mget (k := (.int .i64)) (v := (.int .i64)) h3 to_) 0) == h1) then
    some (true, (h, (h1, (h2, h3))))
  else
    some ((((h2.length : Nat) : Int) == 10000), (h, (h1, (h2, h3))))
def net_Net_full__com_fa : FnA := ⟨.two (.leaf) (.leaf), ⟨(.cons (.own 0 0 0 0) (.cons (.p (.int .i64)) .nil)), [(0, false, (.vars (.cons (.p (.int .i64)) (.cons (.p (.int .i64)) (.cons (.slf 3 1) (.cons (.mp 2) .nil)))))), (1, false, (.rows 33 (.pair (.int .i64) (.pair (.int .i64) (.sl .byte))))), (2, false, (.map (.int .i64) (.int .i64)))]⟩, [⟨(.cons (.p .bool) .nil), [(0, false, (.vars (.cons (.p (.int .i64)) (.cons (.p (.int .i64)) (.cons (.slf 3 1) (.cons (.mp 2) .nil)))))), (1, false, (.rows 33 (.pair (.int .i64) (.pair (.int .i64) (.sl .byte))))), (2, false, (.map (.int .i64) (.int .i64)))]⟩], [0]⟩
def net_Net_full__com_ft (fu : Nat) : FnT := ⟨27, ⟨(.cons (.own 0 0 0 0) (.cons (.p (.int .i64)) .nil)), [(0, false, (.vars (.cons (.p (.int .i64)) (.cons (.p (.int .i64)) (.cons (.slf 3 1) (.cons (.mp 2) .nil)))))), (1, false, (.rows 33 (.pair (.int .i64) (.pair (.int .i64) (.sl .byte))))), (2, false, (.map (.int .i64) (.int .i64)))]⟩, [⟨(.cons (.p .bool) .nil), [(0, false, (.vars (.cons (.p (.int .i64)) (.cons (.p (.int .i64)) (.cons (.slf 3 1) (.cons (.mp 2) .nil)))))), (1, false, (.rows 33 (.pair (.int .i64) (.pair (.int .i64) (.sl .byte))))), (2, false, (.map (.int .i64) (.int .i64)))]⟩], fun t => net_Net_full__com fu t.1 t.2.1 t.2.2.1 t.2.2.2.1 t.2.2.2.2⟩
theorem net_Net_full__com_eq (fu : Nat) : ∀ t, evF Go.Proofs.Try.prog [] fu Go.Proofs.Try.f27 net_Net_full__com_fa t = (net_Net_full__com_ft fu).spec t := fun t => by kernel_rfl
theorem net_Net_full__com_told (fu : Nat) : Told Go.Proofs.Try.prog (net_Net_full__com_ft fu) := told_of allT_nil mixed Go.Proofs.Try.func27 (by kernel_rfl) (by kernel_rfl) (net_Net_full__com_eq fu)

def net_Net_lay__com (fu : Nat) (d : (Int × (Int × List (UInt8)))) (h : Int) (h1 : Int) (h2 : List ((Int × (Int × List (UInt8))))) (h3 : (List (((Int × Int) × Nat)) × Nat)) : Option ((Int × (Int × (Int × (List ((Int × (Int × List (UInt8)))) × (List (((Int × Int) × Nat)) × Nat))))) ⊕ (Int × (Int × (Int × ((List (((Int × Int) × Nat)) × Nat) × List ((Int × (Int × List (UInt8))))))))) :=
  (net_Net_full__com fu d.2.1 h h1 h2 h3).bind fun r =>
  bif r.1 then
    some (.inl (5, (r.2.1, (r.2.2.1, (r.2.2.2.1, r.2.2.2.2)))))
  else
    (slices_Clone__byte_byte fu d.2.2).bind fun r1 =>
    need ((Nat.ble ((r.2.2.2.1.length + 1) * 40) room) && (Nat.ble (r.2.2.2.1.length + 1) room)) <|
    some (.inr (0, (r.2.1, (r.2.2.1, ((mput (k := (.int .i64)) (v := (.int .i64)) r.2.2.2.2 d.2.1 (IntKind.wrap .i64 ((Option.getD (mget (k := (.int .i64)) (v := (.int .i64)) r.2.2.2.2 d.2.1) 0) + 1))), (r.2.2.2.1 ++ [(d.1, (d.2.1, r1))]))))))
def net_Net_lay__com_fa : FnA := ⟨.two (.reg [(0, { ids := [100] })]) (.two (.two (.reg [(3, { sh := [0, 1, 2] })]) (.two (.leaf) (.leaf))) (.two (.reg [(2, { ids := [101], fn := 1 })]) (.two (.reg [(6, { ids := [102] }), (7, { ids := [103] })]) (.two (.leaf) (.leaf))))), ⟨(.cons (.own 0 0 0 0) (.cons (.p (.pair (.int .i64) (.pair (.int .i64) (.sl .byte)))) .nil)), [(0, false, (.vars (.cons (.p (.int .i64)) (.cons (.p (.int .i64)) (.cons (.slf 3 1) (.cons (.mp 2) .nil)))))), (1, false, (.rows 33 (.pair (.int .i64) (.pair (.int .i64) (.sl .byte))))), (2, false, (.map (.int .i64) (.int .i64)))]⟩, [⟨(.cons (.p (.int .i64)) .nil), [(0, false, (.vars (.cons (.p (.int .i64)) (.cons (.p (.int .i64)) (.cons (.slf 3 1) (.cons (.mp 2) .nil)))))), (1, false, (.rows 33 (.pair (.int .i64) (.pair (.int .i64) (.sl .byte))))), (2, false, (.map (.int .i64) (.int .i64)))]⟩, ⟨(.cons (.p (.int .i64)) .nil), [(0, false, (.vars (.cons (.p (.int .i64)) (.cons (.p (.int .i64)) (.cons (.slf 3 3) (.cons (.mp 2) .nil)))))), (2, false, (.map (.int .i64) (.int .i64))), (3, false, (.rows 33 (.pair (.int .i64) (.pair (.int .i64) (.sl .byte)))))]⟩], [0]⟩
def net_Net_lay__com_ft (fu : Nat) : FnT := ⟨21, ⟨(.cons (.own 0 0 0 0) (.cons (.p (.pair (.int .i64) (.pair (.int .i64) (.sl .byte)))) .nil)), [(0, false, (.vars (.cons (.p (.int .i64)) (.cons (.p (.int .i64)) (.cons (.slf 3 1) (.cons (.mp 2) .nil)))))), (1, false, (.rows 33 (.pair (.int .i64) (.pair (.int .i64) (.sl .byte))))), (2, false, (.map (.int .i64) (.int .i64)))]⟩, [⟨(.cons (.p (.int .i64)) .nil), [(0, false, (.vars (.cons (.p (.int .i64)) (.cons (.p (.int .i64)) (.cons (.slf 3 1) (.cons (.mp 2) .nil)))))), (1, false, (.rows 33 (.pair (.int .i64) (.pair (.int .i64) (.sl .byte))))), (2, false, (.map (.int .i64) (.int .i64)))]⟩, ⟨(.cons (.p (.int .i64)) .nil), [(0, false, (.vars (.cons (.p (.int .i64)) (.cons (.p (.int .i64)) (.cons (.slf 3 3) (.cons (.mp 2) .nil)))))), (2, false, (.map (.int .i64) (.int .i64))), (3, false, (.rows 33 (.pair (.int .i64) (.pair (.int .i64) (.sl .byte)))))]⟩], fun t => net_Net_lay__com fu t.1 t.2.1 t.2.2.1 t.2.2.2.1 t.2.2.2.2⟩
theorem net_Net_lay__com_eq (fu : Nat) : ∀ t, evF Go.Proofs.Try.prog [net_Net_full__com_ft fu, slices_Clone__byte_byte_ft fu] fu Go.Proofs.Try.f21 net_Net_lay__com_fa t = (net_Net_lay__com_ft fu).spec t := fun t => by kernel_rfl
theorem net_Net_lay__com_told (fu : Nat) : Told Go.Proofs.Try.prog (net_Net_lay__com_ft fu) := told_of (allT_cons (net_Net_full__com_told fu) (allT_cons (slices_Clone__byte_byte_told fu) allT_nil)) mixed Go.Proofs.Try.func21 (by kernel_rfl) (by kernel_rfl) (net_Net_lay__com_eq fu)

def net_Net_Copy__com (fu : Nat) (i : Int) (h : Int) (h1 : Int) (h2 : List ((Int × (Int × List (UInt8))))) (h3 : (List (((Int × Int) × Nat)) × Nat)) : Option ((Int × (Int × (Int × (List ((Int × (Int × List (UInt8)))) × (List (((Int × Int) × Nat)) × Nat))))) ⊕ (Int × (Int × (Int × ((List (((Int × Int) × Nat)) × Nat) × List ((Int × (Int × List (UInt8))))))))) :=
  (net_Net_made__com fu h h1 h2 h3).bind fun r =>
  bif (!r.1) then
    some (.inl (1, (r.2.1, (r.2.2.1, (r.2.2.2.1, r.2.2.2.2)))))
  else
    (net_Net_there__com fu i r.2.1 r.2.2.1 r.2.2.2.1 r.2.2.2.2).bind fun r1 =>
    bif (!r1.1) then
      some (.inl (2, (r1.2.1, (r1.2.2.1, (r1.2.2.2.1, r1.2.2.2.2)))))
    else
      (idx? i r1.2.2.2.1.length).bind fun q =>
      (r1.2.2.2.1)[q]?.bind fun r2 =>
      (net_Net_lay__com fu r2 r1.2.1 r1.2.2.1 r1.2.2.2.1 r1.2.2.2.2).bind fun r3 =>
      match r3 with
      | .inl r4 =>
        some (.inl (r4.1, (r4.2.1, (r4.2.2.1, (r4.2.2.2.1, r4.2.2.2.2)))))
      | .inr r5 =>
        some (.inr (r5.1, (r5.2.1, (r5.2.2.1, (r5.2.2.2.1, r5.2.2.2.2)))))
def net_Net_Copy__com_fa : FnA := ⟨.two (.leaf) (.two (.one (.two (.reg [(1, { sh := [0, 1, 2] })]) (.two (.leaf) (.two (.reg [(2, { sh := [0, 1, 2], fn := 1 })]) (.two (.leaf) (.leaf)))))) (.two (.reg [(8, { ids := [100], sh := [0, 1, 2], fn := 2 })]) (.leaf))), ⟨(.cons (.own 0 0 0 0) (.cons (.p (.int .i64)) .nil)), [(0, false, (.vars (.cons (.p (.int .i64)) (.cons (.p (.int .i64)) (.cons (.slf 3 1) (.cons (.mp 2) .nil)))))), (1, false, (.rows 33 (.pair (.int .i64) (.pair (.int .i64) (.sl .byte))))), (2, false, (.map (.int .i64) (.int .i64)))]⟩, [⟨(.cons (.p (.int .i64)) .nil), [(0, false, (.vars (.cons (.p (.int .i64)) (.cons (.p (.int .i64)) (.cons (.slf 3 1) (.cons (.mp 2) .nil)))))), (1, false, (.rows 33 (.pair (.int .i64) (.pair (.int .i64) (.sl .byte))))), (2, false, (.map (.int .i64) (.int .i64)))]⟩, ⟨(.cons (.p (.int .i64)) .nil), [(0, false, (.vars (.cons (.p (.int .i64)) (.cons (.p (.int .i64)) (.cons (.slf 3 3) (.cons (.mp 2) .nil)))))), (2, false, (.map (.int .i64) (.int .i64))), (3, false, (.rows 33 (.pair (.int .i64) (.pair (.int .i64) (.sl .byte)))))]⟩], [0]⟩
def net_Net_Copy__com_ft (fu : Nat) : FnT := ⟨9, ⟨(.cons (.own 0 0 0 0) (.cons (.p (.int .i64)) .nil)), [(0, false, (.vars (.cons (.p (.int .i64)) (.cons (.p (.int .i64)) (.cons (.slf 3 1) (.cons (.mp 2) .nil)))))), (1, false, (.rows 33 (.pair (.int .i64) (.pair (.int .i64) (.sl .byte))))), (2, false, (.map (.int .i64) (.int .i64)))]⟩, [⟨(.cons (.p (.int .i64)) .nil), [(0, false, (.vars (.cons (.p (.int .i64)) (.cons (.p (.int .i64)) (.cons (.slf 3 1) (.cons (.mp 2) .nil)))))), (1, false, (.rows 33 (.pair (.int .i64) (.pair (.int .i64) (.sl .byte))))), (2, false, (.map (.int .i64) (.int .i64)))]⟩, ⟨(.cons (.p (.int .i64)) .nil), [(0, false, (.vars (.cons (.p (.int .i64)) (.cons (.p (.int .i64)) (.cons (.slf 3 3) (.cons (.mp 2) .nil)))))), (2, false, (.map (.int .i64) (.int .i64))), (3, false, (.rows 33 (.pair (.int .i64) (.pair (.int .i64) (.sl .byte)))))]⟩], fun t => net_Net_Copy__com fu t.1 t.2.1 t.2.2.1 t.2.2.2.1 t.2.2.2.2⟩
theorem net_Net_Copy__com_eq (fu : Nat) : ∀ t, evF Go.Proofs.Try.prog [net_Net_made__com_ft fu, net_Net_there__com_ft fu, net_Net_lay__com_ft fu] fu Go.Proofs.Try.f9 net_Net_Copy__com_fa t = (net_Net_Copy__com_ft fu).spec t := fun t => by kernel_rfl
theorem net_Net_Copy__com_told (fu : Nat) : Told Go.Proofs.Try.prog (net_Net_Copy__com_ft fu) := told_of (allT_cons (net_Net_made__com_told fu) (allT_cons (net_Net_there__com_told fu) (allT_cons (net_Net_lay__com_told fu) allT_nil))) mixed Go.Proofs.Try.func9 (by kernel_rfl) (by kernel_rfl) (net_Net_Copy__com_eq fu)

def net_Net_Send__com_l0 (fu : Nat) (from_ : Int) (to_ : Int) (x : Int) (h4 : Int) (h5 : Int) (h6 : List ((Int × (Int × List (UInt8))))) (h7 : (List (((Int × Int) × Nat)) × Nat)) : Option ((Int × (Int × (Int × (List ((Int × (Int × List (UInt8)))) × (List (((Int × Int) × Nat)) × Nat))))) ⊕ ((Int × (Int × (List ((Int × (Int × List (UInt8)))) × (List (((Int × Int) × Nat)) × Nat)))) ⊕ (Int × (Int × (Int × (List ((Int × (Int × List (UInt8)))) × (List (((Int × Int) × Nat)) × Nat))))) ⊕ (Int × (Int × (Int × ((List (((Int × Int) × Nat)) × Nat) × List ((Int × (Int × List (UInt8)))))))))) :=
  bif (decide (x < 2)) then
    (idx? x 2).bind fun q =>
    ([from_, to_])[q]?.bind fun x1 =>
    Option.bind (α := ((Bool × (Int × (Int × (List ((Int × (Int × List (UInt8)))) × (List (((Int × Int) × Nat)) × Nat))))))) (
      bif (decide (x1 < 0)) then
        some (true, (h4, (h5, (h6, h7))))
      else
        some ((decide (x1 ≥ h4)), (h4, (h5, (h6, h7))))) fun o =>
    bif o.1 then
      some (.inr (.inr (.inl (2, (o.2.1, (o.2.2.1, (o.2.2.2.1, o.2.2.2.2)))))))
    else
      some (.inl ((IntKind.wrap .i64 (x + 1)), (o.2.1, (o.2.2.1, (o.2.2.2.1, o.2.2.2.2)))))
  else
    some (.inr (.inl (h4, (h5, (h6, h7)))))
def net_Net_Send__com_l0_it (fu : Nat) (from_ : Int) (to_ : Int) (tt : (Int × (Int × (Int × (List ((Int × (Int × List (UInt8)))) × (List (((Int × Int) × Nat)) × Nat)))))) : Option ((Int × (Int × (List ((Int × (Int × List (UInt8)))) × (List (((Int × Int) × Nat)) × Nat)))) ⊕ (Int × (Int × (Int × (List ((Int × (Int × List (UInt8)))) × (List (((Int × Int) × Nat)) × Nat))))) ⊕ (Int × (Int × (Int × ((List (((Int × Int) × Nat)) × Nat) × List ((Int × (Int × List (UInt8))))))))) :=
  iter fu (fun tt => net_Net_Send__com_l0 fu from_ to_ tt.1 tt.2.1 tt.2.2.1 tt.2.2.2.1 tt.2.2.2.2) tt
def net_Net_Send__com (fu : Nat) (from_ : Int) (to_ : Int) (b : List (UInt8)) (h : Int) (h1 : Int) (h2 : List ((Int × (Int × List (UInt8))))) (h3 : (List (((Int × Int) × Nat)) × Nat)) : Option ((Int × (Int × (Int × (List ((Int × (Int × List (UInt8)))) × (List (((Int × Int) × Nat)) × Nat))))) ⊕ (Int × (Int × (Int × ((List (((Int × Int) × Nat)) × Nat) × List ((Int × (Int × List (UInt8))))))))) :=
  (net_Net_made__com fu h h1 h2 h3).bind fun r =>
  bif (!r.1) then
    some (.inl (1, (r.2.1, (r.2.2.1, (r.2.2.2.1, r.2.2.2.2)))))
  else
    (net_Net_Send__com_l0_it fu from_ to_ (0, (r.2.1, (r.2.2.1, (r.2.2.2.1, r.2.2.2.2))))).bind fun o1 =>
    match o1 with
    | .inl s =>
      bif (decide (((b.length : Nat) : Int) > 131072)) then
        some (.inl (3, (s.1, (s.2.1, (s.2.2.1, s.2.2.2)))))
      else
        (net_Net_lay__com fu (from_, (to_, b)) s.1 s.2.1 s.2.2.1 s.2.2.2).bind fun r1 =>
        match r1 with
        | .inl r2 =>
          some (.inl (r2.1, (r2.2.1, (r2.2.2.1, (r2.2.2.2.1, r2.2.2.2.2)))))
        | .inr r3 =>
          some (.inr (r3.1, (r3.2.1, (r3.2.2.1, (r3.2.2.2.1, r3.2.2.2.2)))))
    | .inr o2 =>
      some o2
def net_Net_Send__com_fa : FnA := ⟨.two (.leaf) (.two (.two (.reg [(1, { sh := [0, 1, 2] })]) (.two (.leaf) (.leaf))) (.two (.two (.leaf) (.one (.loop ⟨[0, 17], ⟨(.cons (.own 0 0 0 0) (.cons (.p (.int .i64)) .nil)), [(0, false, (.vars (.cons (.p (.int .i64)) (.cons (.p (.int .i64)) (.cons (.slf 3 1) (.cons (.mp 2) .nil)))))), (1, false, (.rows 33 (.pair (.int .i64) (.pair (.int .i64) (.sl .byte))))), (2, false, (.map (.int .i64) (.int .i64)))]⟩⟩ true [(0, ⟨[0], ⟨(.cons (.own 0 0 0 0) .nil), [(0, false, (.vars (.cons (.p (.int .i64)) (.cons (.p (.int .i64)) (.cons (.slf 3 1) (.cons (.mp 2) .nil)))))), (1, false, (.rows 33 (.pair (.int .i64) (.pair (.int .i64) (.sl .byte))))), (2, false, (.map (.int .i64) (.int .i64)))]⟩⟩)] (.two (.leaf) (.two (.leaf) (.two (.one (.two (.leaf) (.two (.join ⟨[0, 29], ⟨(.cons (.own 0 0 0 0) (.cons (.p .bool) .nil)), [(0, false, (.vars (.cons (.p (.int .i64)) (.cons (.p (.int .i64)) (.cons (.slf 3 1) (.cons (.mp 2) .nil)))))), (1, false, (.rows 33 (.pair (.int .i64) (.pair (.int .i64) (.sl .byte))))), (2, false, (.map (.int .i64) (.int .i64)))]⟩⟩ false [] (.leaf)) (.two (.leaf) (.leaf))))) (.leaf))))))) (.two (.two (.leaf) (.two (.leaf) (.leaf))) (.two (.reg [(5, { ids := [100], sh := [0, 1, 2], fn := 1 })]) (.leaf))))), ⟨(.cons (.own 0 0 0 0) (.cons (.p (.int .i64)) (.cons (.p (.int .i64)) (.cons (.p (.sl .byte)) .nil)))), [(0, false, (.vars (.cons (.p (.int .i64)) (.cons (.p (.int .i64)) (.cons (.slf 3 1) (.cons (.mp 2) .nil)))))), (1, false, (.rows 33 (.pair (.int .i64) (.pair (.int .i64) (.sl .byte))))), (2, false, (.map (.int .i64) (.int .i64)))]⟩, [⟨(.cons (.p (.int .i64)) .nil), [(0, false, (.vars (.cons (.p (.int .i64)) (.cons (.p (.int .i64)) (.cons (.slf 3 1) (.cons (.mp 2) .nil)))))), (1, false, (.rows 33 (.pair (.int .i64) (.pair (.int .i64) (.sl .byte))))), (2, false, (.map (.int .i64) (.int .i64)))]⟩, ⟨(.cons (.p (.int .i64)) .nil), [(0, false, (.vars (.cons (.p (.int .i64)) (.cons (.p (.int .i64)) (.cons (.slf 3 3) (.cons (.mp 2) .nil)))))), (2, false, (.map (.int .i64) (.int .i64))), (3, false, (.rows 33 (.pair (.int .i64) (.pair (.int .i64) (.sl .byte)))))]⟩], [0]⟩
def net_Net_Send__com_ft (fu : Nat) : FnT := ⟨7, ⟨(.cons (.own 0 0 0 0) (.cons (.p (.int .i64)) (.cons (.p (.int .i64)) (.cons (.p (.sl .byte)) .nil)))), [(0, false, (.vars (.cons (.p (.int .i64)) (.cons (.p (.int .i64)) (.cons (.slf 3 1) (.cons (.mp 2) .nil)))))), (1, false, (.rows 33 (.pair (.int .i64) (.pair (.int .i64) (.sl .byte))))), (2, false, (.map (.int .i64) (.int .i64)))]⟩, [⟨(.cons (.p (.int .i64)) .nil), [(0, false, (.vars (.cons (.p (.int .i64)) (.cons (.p (.int .i64)) (.cons (.slf 3 1) (.cons (.mp 2) .nil)))))), (1, false, (.rows 33 (.pair (.int .i64) (.pair (.int .i64) (.sl .byte))))), (2, false, (.map (.int .i64) (.int .i64)))]⟩, ⟨(.cons (.p (.int .i64)) .nil), [(0, false, (.vars (.cons (.p (.int .i64)) (.cons (.p (.int .i64)) (.cons (.slf 3 3) (.cons (.mp 2) .nil)))))), (2, false, (.map (.int .i64) (.int .i64))), (3, false, (.rows 33 (.pair (.int .i64) (.pair (.int .i64) (.sl .byte)))))]⟩], fun t => net_Net_Send__com fu t.1 t.2.1 t.2.2.1 t.2.2.2.1 t.2.2.2.2.1 t.2.2.2.2.2.1 t.2.2.2.2.2.2⟩
theorem net_Net_Send__com_eq (fu : Nat) : ∀ t, evF Go.Proofs.Try.prog [net_Net_made__com_ft fu, net_Net_lay__com_ft fu] fu Go.Proofs.Try.f7 net_Net_Send__com_fa t = (net_Net_Send__com_ft fu).spec t := fun t => by kernel_rfl
theorem net_Net_Send__com_told (fu : Nat) : Told Go.Proofs.Try.prog (net_Net_Send__com_ft fu) := told_of (allT_cons (net_Net_made__com_told fu) (allT_cons (net_Net_lay__com_told fu) allT_nil)) mixed Go.Proofs.Try.func7 (by kernel_rfl) (by kernel_rfl) (net_Net_Send__com_eq fu)

def net_Net_Look__com (fu : Nat) (i : Int) (h : Int) (h1 : Int) (h2 : List ((Int × (Int × List (UInt8))))) (h3 : (List (((Int × Int) × Nat)) × Nat)) : Option ((Int × (Int × (List (UInt8) × (Bool × (Int × (Int × (List ((Int × (Int × List (UInt8)))) × (List (((Int × Int) × Nat)) × Nat))))))))) :=
  (net_Net_there__com fu i h h1 h2 h3).bind fun r =>
  bif (!r.1) then
    some (0, (0, ([], (false, (r.2.1, (r.2.2.1, (r.2.2.2.1, r.2.2.2.2)))))))
  else
    (idx? i r.2.2.2.1.length).bind fun q =>
    (r.2.2.2.1)[q]?.bind fun r1 =>
    (slices_Clone__byte_byte fu r1.2.2).bind fun r2 =>
    some (r1.1, (r1.2.1, (r2, (true, (r.2.1, (r.2.2.1, (r.2.2.2.1, r.2.2.2.2)))))))
def net_Net_Look__com_fa : FnA := ⟨.two (.reg [(0, { ids := [100] })]) (.two (.two (.reg [(2, { sh := [0, 1, 2] })]) (.two (.leaf) (.leaf))) (.two (.reg [(7, { ids := [101] })]) (.two (.reg [(6, { ids := [102], fn := 1 })]) (.leaf)))), ⟨(.cons (.own 0 0 0 0) (.cons (.p (.int .i64)) .nil)), [(0, false, (.vars (.cons (.p (.int .i64)) (.cons (.p (.int .i64)) (.cons (.slf 3 1) (.cons (.mp 2) .nil)))))), (1, false, (.rows 33 (.pair (.int .i64) (.pair (.int .i64) (.sl .byte))))), (2, false, (.map (.int .i64) (.int .i64)))]⟩, [⟨(.cons (.agg (.cons (.p (.int .i64)) (.cons (.p (.int .i64)) (.cons (.p (.sl .byte)) .nil)))) (.cons (.p .bool) .nil)), [(0, false, (.vars (.cons (.p (.int .i64)) (.cons (.p (.int .i64)) (.cons (.slf 3 1) (.cons (.mp 2) .nil)))))), (1, false, (.rows 33 (.pair (.int .i64) (.pair (.int .i64) (.sl .byte))))), (2, false, (.map (.int .i64) (.int .i64)))]⟩], [1, 0]⟩
def net_Net_Look__com_ft (fu : Nat) : FnT := ⟨6, ⟨(.cons (.own 0 0 0 0) (.cons (.p (.int .i64)) .nil)), [(0, false, (.vars (.cons (.p (.int .i64)) (.cons (.p (.int .i64)) (.cons (.slf 3 1) (.cons (.mp 2) .nil)))))), (1, false, (.rows 33 (.pair (.int .i64) (.pair (.int .i64) (.sl .byte))))), (2, false, (.map (.int .i64) (.int .i64)))]⟩, [⟨(.cons (.agg (.cons (.p (.int .i64)) (.cons (.p (.int .i64)) (.cons (.p (.sl .byte)) .nil)))) (.cons (.p .bool) .nil)), [(0, false, (.vars (.cons (.p (.int .i64)) (.cons (.p (.int .i64)) (.cons (.slf 3 1) (.cons (.mp 2) .nil)))))), (1, false, (.rows 33 (.pair (.int .i64) (.pair (.int .i64) (.sl .byte))))), (2, false, (.map (.int .i64) (.int .i64)))]⟩], fun t => net_Net_Look__com fu t.1 t.2.1 t.2.2.1 t.2.2.2.1 t.2.2.2.2⟩
theorem net_Net_Look__com_eq (fu : Nat) : ∀ t, evF Go.Proofs.Try.prog [net_Net_there__com_ft fu, slices_Clone__byte_byte_ft fu] fu Go.Proofs.Try.f6 net_Net_Look__com_fa t = (net_Net_Look__com_ft fu).spec t := fun t => by kernel_rfl
theorem net_Net_Look__com_told (fu : Nat) : Told Go.Proofs.Try.prog (net_Net_Look__com_ft fu) := told_of (allT_cons (net_Net_there__com_told fu) (allT_cons (slices_Clone__byte_byte_told fu) allT_nil)) mixed Go.Proofs.Try.func6 (by kernel_rfl) (by kernel_rfl) (net_Net_Look__com_eq fu)

def law07_is__com (fu : Nat) (i : Int) (from_ : Int) (to_ : Int) (b : List UInt8) (h : Int) (h1 : Int) (h2 : List ((Int × (Int × List (UInt8))))) (h3 : (List (((Int × Int) × Nat)) × Nat)) : Option ((Bool × (Int × (Int × (List ((Int × (Int × List (UInt8)))) × (List (((Int × Int) × Nat)) × Nat)))))) :=
  (net_Net_Look__com fu i h h1 h2 h3).bind fun r =>
  bif r.2.2.2.1 then
    need (Nat.ble b.length room) <|
    (law07_like fu (r.1, (r.2.1, r.2.2.1)) (from_, (to_, b))).bind fun r1 =>
    some (r1, (r.2.2.2.2.1, (r.2.2.2.2.2.1, (r.2.2.2.2.2.2.1, r.2.2.2.2.2.2.2))))
  else
    some (false, (r.2.2.2.2.1, (r.2.2.2.2.2.1, (r.2.2.2.2.2.2.1, r.2.2.2.2.2.2.2))))
def law07_is__com_fa : FnA := ⟨.two (.leaf) (.two (.reg [(2, { sh := [0, 1, 2] }), (6, { ids := [100] })]) (.two (.reg [(6, { ids := [101] }), (8, { md := [0, 2], fn := 1 })]) (.leaf))), ⟨(.cons (.own 0 0 0 0) (.cons (.p (.int .i64)) (.cons (.p (.int .i64)) (.cons (.p (.int .i64)) (.cons (.p .str) .nil))))), [(0, false, (.vars (.cons (.p (.int .i64)) (.cons (.p (.int .i64)) (.cons (.slf 3 1) (.cons (.mp 2) .nil)))))), (1, false, (.rows 33 (.pair (.int .i64) (.pair (.int .i64) (.sl .byte))))), (2, false, (.map (.int .i64) (.int .i64)))]⟩, [⟨(.cons (.p .bool) .nil), [(0, false, (.vars (.cons (.p (.int .i64)) (.cons (.p (.int .i64)) (.cons (.slf 3 1) (.cons (.mp 2) .nil)))))), (1, false, (.rows 33 (.pair (.int .i64) (.pair (.int .i64) (.sl .byte))))), (2, false, (.map (.int .i64) (.int .i64)))]⟩], [0]⟩
def law07_is__com_ft (fu : Nat) : FnT := ⟨26, ⟨(.cons (.own 0 0 0 0) (.cons (.p (.int .i64)) (.cons (.p (.int .i64)) (.cons (.p (.int .i64)) (.cons (.p .str) .nil))))), [(0, false, (.vars (.cons (.p (.int .i64)) (.cons (.p (.int .i64)) (.cons (.slf 3 1) (.cons (.mp 2) .nil)))))), (1, false, (.rows 33 (.pair (.int .i64) (.pair (.int .i64) (.sl .byte))))), (2, false, (.map (.int .i64) (.int .i64)))]⟩, [⟨(.cons (.p .bool) .nil), [(0, false, (.vars (.cons (.p (.int .i64)) (.cons (.p (.int .i64)) (.cons (.slf 3 1) (.cons (.mp 2) .nil)))))), (1, false, (.rows 33 (.pair (.int .i64) (.pair (.int .i64) (.sl .byte))))), (2, false, (.map (.int .i64) (.int .i64)))]⟩], fun t => law07_is__com fu t.1 t.2.1 t.2.2.1 t.2.2.2.1 t.2.2.2.2.1 t.2.2.2.2.2.1 t.2.2.2.2.2.2.1 t.2.2.2.2.2.2.2⟩
theorem law07_is__com_eq (fu : Nat) : ∀ t, evF Go.Proofs.Try.prog [net_Net_Look__com_ft fu, law07_like_ft fu] fu Go.Proofs.Try.f26 law07_is__com_fa t = (law07_is__com_ft fu).spec t := fun t => by kernel_rfl
theorem law07_is__com_told (fu : Nat) : Told Go.Proofs.Try.prog (law07_is__com_ft fu) := told_of (allT_cons (net_Net_Look__com_told fu) (allT_cons (law07_like_told fu) allT_nil)) mixed Go.Proofs.Try.func26 (by kernel_rfl) (by kernel_rfl) (law07_is__com_eq fu)

def net_Net_Waiting__com (fu : Nat) (to_ : Int) (h : Int) (h1 : Int) (h2 : List ((Int × (Int × List (UInt8))))) (h3 : (List (((Int × Int) × Nat)) × Nat)) : Option ((Int × (Int × (Int × (List ((Int × (Int × List (UInt8)))) × (List (((Int × Int) × Nat)) × Nat)))))) :=
  (net_Net_made__com fu h h1 h2 h3).bind fun r =>
  bif (!r.1) then
    some (0, (r.2.1, (r.2.2.1, (r.2.2.2.1, r.2.2.2.2))))
  else
    some ((Option.getD (mget (k := (.int .i64)) (v := (.int .i64)) r.2.2.2.2 to_) 0), (r.2.1, (r.2.2.1, (r.2.2.2.1, r.2.2.2.2))))
def net_Net_Waiting__com_fa : FnA := ⟨.two (.leaf) (.two (.two (.reg [(1, { sh := [0, 1, 2] })]) (.two (.leaf) (.leaf))) (.leaf)), ⟨(.cons (.own 0 0 0 0) (.cons (.p (.int .i64)) .nil)), [(0, false, (.vars (.cons (.p (.int .i64)) (.cons (.p (.int .i64)) (.cons (.slf 3 1) (.cons (.mp 2) .nil)))))), (1, false, (.rows 33 (.pair (.int .i64) (.pair (.int .i64) (.sl .byte))))), (2, false, (.map (.int .i64) (.int .i64)))]⟩, [⟨(.cons (.p (.int .i64)) .nil), [(0, false, (.vars (.cons (.p (.int .i64)) (.cons (.p (.int .i64)) (.cons (.slf 3 1) (.cons (.mp 2) .nil)))))), (1, false, (.rows 33 (.pair (.int .i64) (.pair (.int .i64) (.sl .byte))))), (2, false, (.map (.int .i64) (.int .i64)))]⟩], [0]⟩
def net_Net_Waiting__com_ft (fu : Nat) : FnT := ⟨23, ⟨(.cons (.own 0 0 0 0) (.cons (.p (.int .i64)) .nil)), [(0, false, (.vars (.cons (.p (.int .i64)) (.cons (.p (.int .i64)) (.cons (.slf 3 1) (.cons (.mp 2) .nil)))))), (1, false, (.rows 33 (.pair (.int .i64) (.pair (.int .i64) (.sl .byte))))), (2, false, (.map (.int .i64) (.int .i64)))]⟩, [⟨(.cons (.p (.int .i64)) .nil), [(0, false, (.vars (.cons (.p (.int .i64)) (.cons (.p (.int .i64)) (.cons (.slf 3 1) (.cons (.mp 2) .nil)))))), (1, false, (.rows 33 (.pair (.int .i64) (.pair (.int .i64) (.sl .byte))))), (2, false, (.map (.int .i64) (.int .i64)))]⟩], fun t => net_Net_Waiting__com fu t.1 t.2.1 t.2.2.1 t.2.2.2.1 t.2.2.2.2⟩
theorem net_Net_Waiting__com_eq (fu : Nat) : ∀ t, evF Go.Proofs.Try.prog [net_Net_made__com_ft fu] fu Go.Proofs.Try.f23 net_Net_Waiting__com_fa t = (net_Net_Waiting__com_ft fu).spec t := fun t => by kernel_rfl
theorem net_Net_Waiting__com_told (fu : Nat) : Told Go.Proofs.Try.prog (net_Net_Waiting__com_ft fu) := told_of (allT_cons (net_Net_made__com_told fu) allT_nil) mixed Go.Proofs.Try.func23 (by kernel_rfl) (by kernel_rfl) (net_Net_Waiting__com_eq fu)

def slices_Grow__api_Datum_api_Datum_n0 (fu : Nat) (n : Int) : Option (List ((Int × (Int × List (UInt8))))) :=
  bif (decide (n < 0)) then
    none
  else
    bif (decide ((IntKind.wrap .i64 (n - 0)) > 0)) then
      (upto? (IntKind.wrap .i64 (n - 0)) room).bind fun q =>
      need ((Nat.ble (q * 40) room) && (Nat.ble q room)) <|
      (upto? 0 (List.replicate (α := (Int × (Int × List (UInt8)))) q (0, (0, []))).length).bind fun q1 =>
      need (Nat.ble q1 (List.replicate (α := (Int × (Int × List (UInt8)))) q (0, (0, []))).length) <|
      some (List.take q1 (List.replicate (α := (Int × (Int × List (UInt8)))) q (0, (0, []))))
    else
      some []
def slices_Grow__api_Datum_api_Datum_n0_fa : FnA := ⟨.two (.leaf) (.two (.two (.leaf) (.leaf)) (.two (.two (.leaf) (.two (.leaf) (.two (.reg [(5, { ids := [100] })]) (.leaf)))) (.leaf))), ⟨(.cons (.nilp (.slice none 0 0)) (.cons (.p (.int .i64)) .nil)), []⟩, [⟨(.cons (.slf 3 0) .nil), [(0, false, (.rows 33 (.pair (.int .i64) (.pair (.int .i64) (.sl .byte)))))]⟩], [43]⟩
def slices_Grow__api_Datum_api_Datum_n0_ft (fu : Nat) : FnT := ⟨28, ⟨(.cons (.nilp (.slice none 0 0)) (.cons (.p (.int .i64)) .nil)), []⟩, [⟨(.cons (.slf 3 0) .nil), [(0, false, (.rows 33 (.pair (.int .i64) (.pair (.int .i64) (.sl .byte)))))]⟩], fun t => slices_Grow__api_Datum_api_Datum_n0 fu t⟩
theorem slices_Grow__api_Datum_api_Datum_n0_eq (fu : Nat) : ∀ t, evF Go.Proofs.Try.prog [] fu Go.Proofs.Try.f28 slices_Grow__api_Datum_api_Datum_n0_fa t = (slices_Grow__api_Datum_api_Datum_n0_ft fu).spec t := fun t => by kernel_rfl
theorem slices_Grow__api_Datum_api_Datum_n0_told (fu : Nat) : Told Go.Proofs.Try.prog (slices_Grow__api_Datum_api_Datum_n0_ft fu) := told_of allT_nil mixed Go.Proofs.Try.func28 (by kernel_rfl) (by kernel_rfl) (slices_Grow__api_Datum_api_Datum_n0_eq fu)

def slices_Concat__api_Datum_api_Datum_l0 (fu : Nat) (slices : List (List ((Int × (Int × List (UInt8)))))) (size : Int) (x : Int) : Option ((Int × Int) ⊕ (Int)) :=
  bif (decide (x < ((slices.length : Nat) : Int))) then
    (idx? x slices.length).bind fun q =>
    (slices)[q]?.bind fun r =>
    bif (decide ((IntKind.wrap .i64 (size + ((r.length : Nat) : Int))) < 0)) then
      none
    else
      some (.inl ((IntKind.wrap .i64 (size + ((r.length : Nat) : Int))), (IntKind.wrap .i64 (x + 1))))
  else
    some (.inr size)
def slices_Concat__api_Datum_api_Datum_l0_it (fu : Nat) (slices : List (List ((Int × (Int × List (UInt8)))))) (tt : (Int × Int)) : Option (Int) :=
  iter fu (fun tt => slices_Concat__api_Datum_api_Datum_l0 fu slices tt.1 tt.2) tt
def slices_Concat__api_Datum_api_Datum_l1 (fu : Nat) (slices : List (List ((Int × (Int × List (UInt8)))))) (x1 : Int) (h : List ((Int × (Int × List (UInt8))))) : Option ((Int × List ((Int × (Int × List (UInt8))))) ⊕ (List ((Int × (Int × List (UInt8)))))) :=
  bif (decide (x1 < ((slices.length : Nat) : Int))) then
    (idx? x1 slices.length).bind fun q1 =>
    (slices)[q1]?.bind fun r2 =>
    need ((Nat.ble ((h.length + r2.length) * 40) room) && (Nat.ble (h.length + r2.length) room)) <|
    some (.inl ((IntKind.wrap .i64 (x1 + 1)), (h ++ r2)))
  else
    some (.inr h)
def slices_Concat__api_Datum_api_Datum_l1_it (fu : Nat) (slices : List (List ((Int × (Int × List (UInt8)))))) (tt : (Int × List ((Int × (Int × List (UInt8)))))) : Option (List ((Int × (Int × List (UInt8))))) :=
  iter fu (fun tt => slices_Concat__api_Datum_api_Datum_l1 fu slices tt.1 tt.2) tt
def slices_Concat__api_Datum_api_Datum (fu : Nat) (slices : List (List ((Int × (Int × List (UInt8)))))) : Option (List ((Int × (Int × List (UInt8))))) :=
  (slices_Concat__api_Datum_api_Datum_l0_it fu slices (0, 0)).bind fun o =>
  (slices_Grow__api_Datum_api_Datum_n0 fu o).bind fun r1 =>
  (slices_Concat__api_Datum_api_Datum_l1_it fu slices (0, r1)).bind fun o1 =>
  some o1
def slices_Concat__api_Datum_api_Datum_fa : FnA := ⟨.two (.leaf) (.two (.leaf) (.two (.two (.leaf) (.one (.loop ⟨[3, 11], ⟨(.cons (.p (.int .i64)) (.cons (.p (.int .i64)) .nil)), []⟩⟩ false [(0, ⟨[3], ⟨(.cons (.p (.int .i64)) .nil), []⟩⟩)] (.two (.leaf) (.two (.leaf) (.two (.one (.two (.leaf) (.two (.leaf) (.two (.leaf) (.leaf))))) (.leaf))))))) (.two (.reg [(1, { ids := [100] })]) (.two (.two (.leaf) (.one (.loop ⟨[6, 27], ⟨(.cons (.slf 3 100) (.cons (.p (.int .i64)) .nil)), [(100, false, (.rows 33 (.pair (.int .i64) (.pair (.int .i64) (.sl .byte)))))]⟩⟩ false [(2, ⟨[6], ⟨(.cons (.slf 3 100) .nil), [(100, false, (.rows 33 (.pair (.int .i64) (.pair (.int .i64) (.sl .byte)))))]⟩⟩)] (.two (.leaf) (.two (.leaf) (.two (.one (.two (.leaf) (.reg [(2, { ids := [101] })]))) (.leaf))))))) (.leaf))))), ⟨(.cons (.p (.sl (.sl (.pair (.int .i64) (.pair (.int .i64) (.sl .byte)))))) .nil), []⟩, [⟨(.cons (.slf 3 0) .nil), [(0, false, (.rows 33 (.pair (.int .i64) (.pair (.int .i64) (.sl .byte)))))]⟩], [0]⟩
def slices_Concat__api_Datum_api_Datum_ft (fu : Nat) : FnT := ⟨22, ⟨(.cons (.p (.sl (.sl (.pair (.int .i64) (.pair (.int .i64) (.sl .byte)))))) .nil), []⟩, [⟨(.cons (.slf 3 0) .nil), [(0, false, (.rows 33 (.pair (.int .i64) (.pair (.int .i64) (.sl .byte)))))]⟩], fun t => slices_Concat__api_Datum_api_Datum fu t⟩
theorem slices_Concat__api_Datum_api_Datum_eq (fu : Nat) : ∀ t, evF Go.Proofs.Try.prog [slices_Grow__api_Datum_api_Datum_n0_ft fu] fu Go.Proofs.Try.f22 slices_Concat__api_Datum_api_Datum_fa t = (slices_Concat__api_Datum_api_Datum_ft fu).spec t := fun t => by kernel_rfl
theorem slices_Concat__api_Datum_api_Datum_told (fu : Nat) : Told Go.Proofs.Try.prog (slices_Concat__api_Datum_api_Datum_ft fu) := told_of (allT_cons (slices_Grow__api_Datum_api_Datum_n0_told fu) allT_nil) mixed Go.Proofs.Try.func22 (by kernel_rfl) (by kernel_rfl) (slices_Concat__api_Datum_api_Datum_eq fu)

def net_Net_Drop__com (fu : Nat) (i : Int) (h : Int) (h1 : Int) (h2 : List ((Int × (Int × List (UInt8))))) (h3 : (List (((Int × Int) × Nat)) × Nat)) : Option ((Bool × (Int × (Int × (List ((Int × (Int × List (UInt8)))) × (List (((Int × Int) × Nat)) × Nat))))) ⊕ (Bool × (Int × (Int × ((List (((Int × Int) × Nat)) × Nat) × (List ((Int × (Int × List (UInt8)))) × List ((Int × (Int × List (UInt8)))))))))) :=
  (net_Net_there__com fu i h h1 h2 h3).bind fun r =>
  bif (!r.1) then
    some (.inl (false, (r.2.1, (r.2.2.1, (r.2.2.2.1, r.2.2.2.2)))))
  else
    (idx? i r.2.2.2.1.length).bind fun q =>
    (r.2.2.2.1)[q]?.bind fun r1 =>
    (upto? i r.2.2.2.1.length).bind fun q1 =>
    (upto? (IntKind.wrap .i64 (i + 1)) r.2.2.2.1.length).bind fun q2 =>
    need (Nat.ble (0 + q1) r.2.2.2.1.length) <|
    need (Nat.ble (q2 + (r.2.2.2.1.length - q2)) r.2.2.2.1.length) <|
    (slices_Concat__api_Datum_api_Datum fu [(List.take q1 (List.drop 0 r.2.2.2.1)), (List.take (r.2.2.2.1.length - q2) (List.drop q2 r.2.2.2.1))]).bind fun r2 =>
    some (.inr (true, (r.2.1, (r.2.2.1, ((mput (k := (.int .i64)) (v := (.int .i64)) r.2.2.2.2 r1.2.1 (IntKind.wrap .i64 ((Option.getD (mget (k := (.int .i64)) (v := (.int .i64)) r.2.2.2.2 r1.2.1) 0) - 1))), (r.2.2.2.1, r2))))))
def net_Net_Drop__com_fa : FnA := ⟨.two (.leaf) (.two (.two (.reg [(2, { sh := [0, 1, 2] })]) (.two (.leaf) (.leaf))) (.two (.leaf) (.two (.reg [(14, { ids := [100] }), (15, { ids := [101], md := [1], fn := 1 })]) (.leaf)))), ⟨(.cons (.own 0 0 0 0) (.cons (.p (.int .i64)) .nil)), [(0, false, (.vars (.cons (.p (.int .i64)) (.cons (.p (.int .i64)) (.cons (.slf 3 1) (.cons (.mp 2) .nil)))))), (1, false, (.rows 33 (.pair (.int .i64) (.pair (.int .i64) (.sl .byte))))), (2, false, (.map (.int .i64) (.int .i64)))]⟩, [⟨(.cons (.p .bool) .nil), [(0, false, (.vars (.cons (.p (.int .i64)) (.cons (.p (.int .i64)) (.cons (.slf 3 1) (.cons (.mp 2) .nil)))))), (1, false, (.rows 33 (.pair (.int .i64) (.pair (.int .i64) (.sl .byte))))), (2, false, (.map (.int .i64) (.int .i64)))]⟩, ⟨(.cons (.p .bool) .nil), [(0, false, (.vars (.cons (.p (.int .i64)) (.cons (.p (.int .i64)) (.cons (.slf 3 3) (.cons (.mp 2) .nil)))))), (2, false, (.map (.int .i64) (.int .i64))), (1, true, (.rows 33 (.pair (.int .i64) (.pair (.int .i64) (.sl .byte))))), (3, false, (.rows 33 (.pair (.int .i64) (.pair (.int .i64) (.sl .byte)))))]⟩], [0]⟩
def net_Net_Drop__com_ft (fu : Nat) : FnT := ⟨12, ⟨(.cons (.own 0 0 0 0) (.cons (.p (.int .i64)) .nil)), [(0, false, (.vars (.cons (.p (.int .i64)) (.cons (.p (.int .i64)) (.cons (.slf 3 1) (.cons (.mp 2) .nil)))))), (1, false, (.rows 33 (.pair (.int .i64) (.pair (.int .i64) (.sl .byte))))), (2, false, (.map (.int .i64) (.int .i64)))]⟩, [⟨(.cons (.p .bool) .nil), [(0, false, (.vars (.cons (.p (.int .i64)) (.cons (.p (.int .i64)) (.cons (.slf 3 1) (.cons (.mp 2) .nil)))))), (1, false, (.rows 33 (.pair (.int .i64) (.pair (.int .i64) (.sl .byte))))), (2, false, (.map (.int .i64) (.int .i64)))]⟩, ⟨(.cons (.p .bool) .nil), [(0, false, (.vars (.cons (.p (.int .i64)) (.cons (.p (.int .i64)) (.cons (.slf 3 3) (.cons (.mp 2) .nil)))))), (2, false, (.map (.int .i64) (.int .i64))), (1, true, (.rows 33 (.pair (.int .i64) (.pair (.int .i64) (.sl .byte))))), (3, false, (.rows 33 (.pair (.int .i64) (.pair (.int .i64) (.sl .byte)))))]⟩], fun t => net_Net_Drop__com fu t.1 t.2.1 t.2.2.1 t.2.2.2.1 t.2.2.2.2⟩
theorem net_Net_Drop__com_eq (fu : Nat) : ∀ t, evF Go.Proofs.Try.prog [net_Net_there__com_ft fu, slices_Concat__api_Datum_api_Datum_ft fu] fu Go.Proofs.Try.f12 net_Net_Drop__com_fa t = (net_Net_Drop__com_ft fu).spec t := fun t => by kernel_rfl
theorem net_Net_Drop__com_told (fu : Nat) : Told Go.Proofs.Try.prog (net_Net_Drop__com_ft fu) := told_of (allT_cons (net_Net_there__com_told fu) (allT_cons (slices_Concat__api_Datum_api_Datum_told fu) allT_nil)) mixed Go.Proofs.Try.func12 (by kernel_rfl) (by kernel_rfl) (net_Net_Drop__com_eq fu)

def net_Net_Take__com (fu : Nat) (i : Int) (h : Int) (h1 : Int) (h2 : List ((Int × (Int × List (UInt8))))) (h3 : (List (((Int × Int) × Nat)) × Nat)) : Option ((Int × (Int × (List (UInt8) × (Bool × (Int × (Int × (List ((Int × (Int × List (UInt8)))) × (List (((Int × Int) × Nat)) × Nat)))))))) ⊕ (Int × (Int × (List (UInt8) × (Bool × (Int × (Int × ((List (((Int × Int) × Nat)) × Nat) × (List ((Int × (Int × List (UInt8)))) × List ((Int × (Int × List (UInt8))))))))))))) :=
  (net_Net_Look__com fu i h h1 h2 h3).bind fun r =>
  bif r.2.2.2.1 then
    (net_Net_Drop__com fu i r.2.2.2.2.1 r.2.2.2.2.2.1 r.2.2.2.2.2.2.1 r.2.2.2.2.2.2.2).bind fun r1 =>
    match r1 with
    | .inl r2 =>
      some (.inl (r.1, (r.2.1, (r.2.2.1, (r2.1, (r2.2.1, (r2.2.2.1, (r2.2.2.2.1, r2.2.2.2.2))))))))
    | .inr r3 =>
      some (.inr (r.1, (r.2.1, (r.2.2.1, (r3.1, (r3.2.1, (r3.2.2.1, (r3.2.2.2.1, (r3.2.2.2.2.1, r3.2.2.2.2.2)))))))))
  else
    some (.inl (r.1, (r.2.1, (r.2.2.1, (false, (r.2.2.2.2.1, (r.2.2.2.2.2.1, (r.2.2.2.2.2.2.1, r.2.2.2.2.2.2.2))))))))
def net_Net_Take__com_fa : FnA := ⟨.two (.reg [(0, { ids := [100] })]) (.two (.reg [(2, { sh := [0, 1, 2] }), (6, { ids := [101] })]) (.two (.reg [(5, { ids := [102], sh := [0, 1, 2], fn := 1 })]) (.leaf))), ⟨(.cons (.own 0 0 0 0) (.cons (.p (.int .i64)) .nil)), [(0, false, (.vars (.cons (.p (.int .i64)) (.cons (.p (.int .i64)) (.cons (.slf 3 1) (.cons (.mp 2) .nil)))))), (1, false, (.rows 33 (.pair (.int .i64) (.pair (.int .i64) (.sl .byte))))), (2, false, (.map (.int .i64) (.int .i64)))]⟩, [⟨(.cons (.agg (.cons (.p (.int .i64)) (.cons (.p (.int .i64)) (.cons (.p (.sl .byte)) .nil)))) (.cons (.p .bool) .nil)), [(0, false, (.vars (.cons (.p (.int .i64)) (.cons (.p (.int .i64)) (.cons (.slf 3 1) (.cons (.mp 2) .nil)))))), (1, false, (.rows 33 (.pair (.int .i64) (.pair (.int .i64) (.sl .byte))))), (2, false, (.map (.int .i64) (.int .i64)))]⟩, ⟨(.cons (.agg (.cons (.p (.int .i64)) (.cons (.p (.int .i64)) (.cons (.p (.sl .byte)) .nil)))) (.cons (.p .bool) .nil)), [(0, false, (.vars (.cons (.p (.int .i64)) (.cons (.p (.int .i64)) (.cons (.slf 3 3) (.cons (.mp 2) .nil)))))), (2, false, (.map (.int .i64) (.int .i64))), (1, true, (.rows 33 (.pair (.int .i64) (.pair (.int .i64) (.sl .byte))))), (3, false, (.rows 33 (.pair (.int .i64) (.pair (.int .i64) (.sl .byte)))))]⟩], [0, 0]⟩
def net_Net_Take__com_ft (fu : Nat) : FnT := ⟨10, ⟨(.cons (.own 0 0 0 0) (.cons (.p (.int .i64)) .nil)), [(0, false, (.vars (.cons (.p (.int .i64)) (.cons (.p (.int .i64)) (.cons (.slf 3 1) (.cons (.mp 2) .nil)))))), (1, false, (.rows 33 (.pair (.int .i64) (.pair (.int .i64) (.sl .byte))))), (2, false, (.map (.int .i64) (.int .i64)))]⟩, [⟨(.cons (.agg (.cons (.p (.int .i64)) (.cons (.p (.int .i64)) (.cons (.p (.sl .byte)) .nil)))) (.cons (.p .bool) .nil)), [(0, false, (.vars (.cons (.p (.int .i64)) (.cons (.p (.int .i64)) (.cons (.slf 3 1) (.cons (.mp 2) .nil)))))), (1, false, (.rows 33 (.pair (.int .i64) (.pair (.int .i64) (.sl .byte))))), (2, false, (.map (.int .i64) (.int .i64)))]⟩, ⟨(.cons (.agg (.cons (.p (.int .i64)) (.cons (.p (.int .i64)) (.cons (.p (.sl .byte)) .nil)))) (.cons (.p .bool) .nil)), [(0, false, (.vars (.cons (.p (.int .i64)) (.cons (.p (.int .i64)) (.cons (.slf 3 3) (.cons (.mp 2) .nil)))))), (2, false, (.map (.int .i64) (.int .i64))), (1, true, (.rows 33 (.pair (.int .i64) (.pair (.int .i64) (.sl .byte))))), (3, false, (.rows 33 (.pair (.int .i64) (.pair (.int .i64) (.sl .byte)))))]⟩], fun t => net_Net_Take__com fu t.1 t.2.1 t.2.2.1 t.2.2.2.1 t.2.2.2.2⟩
theorem net_Net_Take__com_eq (fu : Nat) : ∀ t, evF Go.Proofs.Try.prog [net_Net_Look__com_ft fu, net_Net_Drop__com_ft fu] fu Go.Proofs.Try.f10 net_Net_Take__com_fa t = (net_Net_Take__com_ft fu).spec t := fun t => by kernel_rfl
theorem net_Net_Take__com_told (fu : Nat) : Told Go.Proofs.Try.prog (net_Net_Take__com_ft fu) := told_of (allT_cons (net_Net_Look__com_told fu) (allT_cons (net_Net_Drop__com_told fu) allT_nil)) mixed Go.Proofs.Try.func10 (by kernel_rfl) (by kernel_rfl) (net_Net_Take__com_eq fu)

def net_Net_Forget_1 (fu : Nat) (d : (Int × (Int × List (UInt8)))) (h : Int) : Option ((Bool × Int)) :=
  some ((d.2.1 == h), h)
def net_Net_Forget_1_fa : FnA := ⟨.two (.reg [(0, { ids := [100] })]) (.leaf), ⟨(.cons (.p (.pair (.int .i64) (.pair (.int .i64) (.sl .byte)))) (.cons (.own 0 0 0 0) .nil)), [(0, false, (.vars (.cons (.p (.int .i64)) .nil)))]⟩, [⟨(.cons (.p .bool) .nil), [(0, false, (.vars (.cons (.p (.int .i64)) .nil)))]⟩], [0]⟩
def net_Net_Forget_1_ft (fu : Nat) : FnT := ⟨25, ⟨(.cons (.p (.pair (.int .i64) (.pair (.int .i64) (.sl .byte)))) (.cons (.own 0 0 0 0) .nil)), [(0, false, (.vars (.cons (.p (.int .i64)) .nil)))]⟩, [⟨(.cons (.p .bool) .nil), [(0, false, (.vars (.cons (.p (.int .i64)) .nil)))]⟩], fun t => net_Net_Forget_1 fu t.1 t.2⟩
theorem net_Net_Forget_1_eq (fu : Nat) : ∀ t, evF Go.Proofs.Try.prog [] fu Go.Proofs.Try.f25 net_Net_Forget_1_fa t = (net_Net_Forget_1_ft fu).spec t := fun t => by kernel_rfl
theorem net_Net_Forget_1_told (fu : Nat) : Told Go.Proofs.Try.prog (net_Net_Forget_1_ft fu) := told_of allT_nil mixed Go.Proofs.Try.func25 (by kernel_rfl) (by kernel_rfl) (net_Net_Forget_1_eq fu)

def slices_IndexFunc__api_Datum_api_Datum_o0f11_l0 (fu : Nat) (h : List ((Int × (Int × List (UInt8))))) (x : Int) (h2 : List ((Int × (Int × List (UInt8))))) (h3 : Int) : Option ((Int × (List ((Int × (Int × List (UInt8)))) × Int)) ⊕ ((List ((Int × (Int × List (UInt8)))) × Int) ⊕ (Int × (List ((Int × (Int × List (UInt8)))) × Int)))) :=
  bif (decide (x < ((h.length : Nat) : Int))) then
    (idx? x h2.length).bind fun q =>
    (h2)[q]?.bind fun r =>
    (net_Net_Forget_1 fu r h3).bind fun r1 =>
    bif r1.1 then
      some (.inr (.inr (x, (h2, r1.2))))
    else
      some (.inl ((IntKind.wrap .i64 (x + 1)), (h2, r1.2)))
  else
    some (.inr (.inl (h2, h3)))
def slices_IndexFunc__api_Datum_api_Datum_o0f11_l0_it (fu : Nat) (h : List ((Int × (Int × List (UInt8))))) (tt : (Int × (List ((Int × (Int × List (UInt8)))) × Int))) : Option ((List ((Int × (Int × List (UInt8)))) × Int) ⊕ (Int × (List ((Int × (Int × List (UInt8)))) × Int))) :=
  iter fu (fun tt => slices_IndexFunc__api_Datum_api_Datum_o0f11_l0 fu h tt.1 tt.2.1 tt.2.2) tt
def slices_IndexFunc__api_Datum_api_Datum_o0f11 (fu : Nat) (h : List ((Int × (Int × List (UInt8))))) (h1 : Int) : Option ((Int × (List ((Int × (Int × List (UInt8)))) × Int))) :=
  (slices_IndexFunc__api_Datum_api_Datum_o0f11_l0_it fu h (0, (h, h1))).bind fun o =>
  match o with
  | .inl s =>
    some ((-1), (s.1, s.2))
  | .inr o1 =>
    some o1
def slices_IndexFunc__api_Datum_api_Datum_o0f11_fa : FnA := ⟨.two (.leaf) (.two (.two (.leaf) (.one (.loop ⟨[0, 1, 8], ⟨(.cons (.slf 3 0) (.cons (.fn 25 .nil (.cons (.own 0 1 0 0) .nil)) (.cons (.p (.int .i64)) .nil))), [(0, false, (.rows 33 (.pair (.int .i64) (.pair (.int .i64) (.sl .byte))))), (1, false, (.vars (.cons (.p (.int .i64)) .nil)))]⟩⟩ true [(0, ⟨[0, 1], ⟨(.cons (.slf 3 0) (.cons (.fn 25 .nil (.cons (.own 0 1 0 0) .nil)) .nil)), [(0, false, (.rows 33 (.pair (.int .i64) (.pair (.int .i64) (.sl .byte))))), (1, false, (.vars (.cons (.p (.int .i64)) .nil)))]⟩⟩)] (.two (.leaf) (.two (.leaf) (.two (.one (.two (.leaf) (.two (.reg [(5, { sh := [1] })]) (.two (.leaf) (.leaf))))) (.leaf))))))) (.leaf)), ⟨(.cons (.slf 3 0) (.cons (.fn 25 .nil (.cons (.own 0 1 0 0) .nil)) .nil)), [(0, false, (.rows 33 (.pair (.int .i64) (.pair (.int .i64) (.sl .byte))))), (1, false, (.vars (.cons (.p (.int .i64)) .nil)))]⟩, [⟨(.cons (.p (.int .i64)) .nil), [(0, false, (.rows 33 (.pair (.int .i64) (.pair (.int .i64) (.sl .byte))))), (1, false, (.vars (.cons (.p (.int .i64)) .nil)))]⟩], [0]⟩
def slices_IndexFunc__api_Datum_api_Datum_o0f11_ft (fu : Nat) : FnT := ⟨29, ⟨(.cons (.slf 3 0) (.cons (.fn 25 .nil (.cons (.own 0 1 0 0) .nil)) .nil)), [(0, false, (.rows 33 (.pair (.int .i64) (.pair (.int .i64) (.sl .byte))))), (1, false, (.vars (.cons (.p (.int .i64)) .nil)))]⟩, [⟨(.cons (.p (.int .i64)) .nil), [(0, false, (.rows 33 (.pair (.int .i64) (.pair (.int .i64) (.sl .byte))))), (1, false, (.vars (.cons (.p (.int .i64)) .nil)))]⟩], fun t => slices_IndexFunc__api_Datum_api_Datum_o0f11 fu t.1 t.2⟩
theorem slices_IndexFunc__api_Datum_api_Datum_o0f11_eq (fu : Nat) : ∀ t, evF Go.Proofs.Try.prog [net_Net_Forget_1_ft fu] fu Go.Proofs.Try.f29 slices_IndexFunc__api_Datum_api_Datum_o0f11_fa t = (slices_IndexFunc__api_Datum_api_Datum_o0f11_ft fu).spec t := fun t => by kernel_rfl
theorem slices_IndexFunc__api_Datum_api_Datum_o0f11_told (fu : Nat) : Told Go.Proofs.Try.prog (slices_IndexFunc__api_Datum_api_Datum_o0f11_ft fu) := told_of (allT_cons (net_Net_Forget_1_told fu) allT_nil) mixed Go.Proofs.Try.func29 (by kernel_rfl) (by kernel_rfl) (slices_IndexFunc__api_Datum_api_Datum_o0f11_eq fu)

def slices_DeleteFunc__api_Datum_api_Datum_o0f11_l0 (fu : Nat) (i : Int) (j : Int) (h2 : List ((Int × (Int × List (UInt8))))) (h3 : Int) : Option ((Int × (Int × (List ((Int × (Int × List (UInt8)))) × Int))) ⊕ ((Int × (List ((Int × (Int × List (UInt8)))) × Int)))) :=
  bif (decide (j < ((h2.length : Nat) : Int))) then
    (idx? j h2.length).bind fun q =>
    (h2)[q]?.bind fun r1 =>
    (net_Net_Forget_1 fu (r1.1, (r1.2.1, r1.2.2)) h3).bind fun r2 =>
    Option.bind (α := ((Int × (List ((Int × (Int × List (UInt8)))) × Int)))) (
      bif (!r2.1) then
        (idx? i h2.length).bind fun q1 =>
        (h2)[q1]?.bind fun r3 =>
        some ((IntKind.wrap .i64 (i + 1)), ((List.set h2 q1 (r1.1, (r1.2.1, r1.2.2))), r2.2))
      else
        some (i, (h2, r2.2))) fun o =>
    some (.inl (o.1, ((IntKind.wrap .i64 (j + 1)), (o.2.1, o.2.2))))
  else
    some (.inr (i, (h2, h3)))
def slices_DeleteFunc__api_Datum_api_Datum_o0f11_l0_it (fu : Nat)  (tt : (Int × (Int × (List ((Int × (Int × List (UInt8)))) × Int)))) : Option ((Int × (List ((Int × (Int × List (UInt8)))) × Int))) :=
  iter fu (fun tt => slices_DeleteFunc__api_Datum_api_Datum_o0f11_l0 fu tt.1 tt.2.1 tt.2.2.1 tt.2.2.2) tt
def slices_DeleteFunc__api_Datum_api_Datum_o0f11 (fu : Nat) (h : List ((Int × (Int × List (UInt8))))) (h1 : Int) : Option ((List ((Int × (Int × List (UInt8)))) × Int) ⊕ (Int × List ((Int × (Int × List (UInt8)))))) :=
  (slices_IndexFunc__api_Datum_api_Datum_o0f11 fu h h1).bind fun r =>
  bif (r.1 == (-1)) then
    some (.inl (r.2.1, r.2.2))
  else
    (slices_DeleteFunc__api_Datum_api_Datum_o0f11_l0_it fu  (r.1, ((IntKind.wrap .i64 (r.1 + 1)), (r.2.1, r.2.2)))).bind fun o1 =>
    (upto? o1.1 o1.2.1.length).bind fun q2 =>
    need (Nat.ble (q2 + (o1.2.1.length - q2)) o1.2.1.length) <|
    (upto? o1.1 (splice o1.2.1 q2 (List.replicate (α := (Int × (Int × List (UInt8)))) (o1.2.1.length - q2) (0, (0, [])))).length).bind fun q3 =>
    need (Nat.ble q3 (splice o1.2.1 q2 (List.replicate (α := (Int × (Int × List (UInt8)))) (o1.2.1.length - q2) (0, (0, [])))).length) <|
    some (.inr (o1.2.2, (List.take q3 (splice o1.2.1 q2 (List.replicate (α := (Int × (Int × List (UInt8)))) (o1.2.1.length - q2) (0, (0, [])))))))
def slices_DeleteFunc__api_Datum_api_Datum_o0f11_fa : FnA := ⟨.two (.leaf) (.two (.reg [(2, { sh := [0, 1] })]) (.two (.two (.leaf) (.two (.leaf) (.leaf))) (.two (.two (.leaf) (.one (.loop ⟨[0, 1, 5, 6], ⟨(.cons (.slf 3 0) (.cons (.fn 25 .nil (.cons (.own 0 1 0 0) .nil)) (.cons (.p (.int .i64)) (.cons (.p (.int .i64)) .nil)))), [(0, false, (.rows 33 (.pair (.int .i64) (.pair (.int .i64) (.sl .byte))))), (1, false, (.vars (.cons (.p (.int .i64)) .nil)))]⟩⟩ false [(0, ⟨[0, 1, 5], ⟨(.cons (.slf 3 0) (.cons (.fn 25 .nil (.cons (.own 0 1 0 0) .nil)) (.cons (.p (.int .i64)) .nil))), [(0, false, (.rows 33 (.pair (.int .i64) (.pair (.int .i64) (.sl .byte))))), (1, false, (.vars (.cons (.p (.int .i64)) .nil)))]⟩⟩)] (.two (.two (.leaf) (.leaf)) (.two (.one (.two (.reg [(4, { ids := [100] })]) (.two (.reg [(2, { sh := [1], fn := 1 })]) (.join ⟨[0, 1, 5], ⟨(.cons (.slf 3 0) (.cons (.fn 25 .nil (.cons (.own 0 1 0 0) .nil)) (.cons (.p (.int .i64)) .nil))), [(0, false, (.rows 33 (.pair (.int .i64) (.pair (.int .i64) (.sl .byte))))), (1, false, (.vars (.cons (.p (.int .i64)) .nil)))]⟩⟩ false [] (.two (.leaf) (.leaf)))))) (.leaf)))))) (.two (.leaf) (.leaf))))), ⟨(.cons (.slf 3 0) (.cons (.fn 25 .nil (.cons (.own 0 1 0 0) .nil)) .nil)), [(0, false, (.rows 33 (.pair (.int .i64) (.pair (.int .i64) (.sl .byte))))), (1, false, (.vars (.cons (.p (.int .i64)) .nil)))]⟩, [⟨(.cons (.slf 3 0) .nil), [(0, false, (.rows 33 (.pair (.int .i64) (.pair (.int .i64) (.sl .byte))))), (1, false, (.vars (.cons (.p (.int .i64)) .nil)))]⟩, ⟨(.cons (.slf 3 2) .nil), [(1, false, (.vars (.cons (.p (.int .i64)) .nil))), (2, false, (.rows 33 (.pair (.int .i64) (.pair (.int .i64) (.sl .byte)))))]⟩], [43]⟩
def slices_DeleteFunc__api_Datum_api_Datum_o0f11_ft (fu : Nat) : FnT := ⟨24, ⟨(.cons (.slf 3 0) (.cons (.fn 25 .nil (.cons (.own 0 1 0 0) .nil)) .nil)), [(0, false, (.rows 33 (.pair (.int .i64) (.pair (.int .i64) (.sl .byte))))), (1, false, (.vars (.cons (.p (.int .i64)) .nil)))]⟩, [⟨(.cons (.slf 3 0) .nil), [(0, false, (.rows 33 (.pair (.int .i64) (.pair (.int .i64) (.sl .byte))))), (1, false, (.vars (.cons (.p (.int .i64)) .nil)))]⟩, ⟨(.cons (.slf 3 2) .nil), [(1, false, (.vars (.cons (.p (.int .i64)) .nil))), (2, false, (.rows 33 (.pair (.int .i64) (.pair (.int .i64) (.sl .byte)))))]⟩], fun t => slices_DeleteFunc__api_Datum_api_Datum_o0f11 fu t.1 t.2⟩
theorem slices_DeleteFunc__api_Datum_api_Datum_o0f11_eq (fu : Nat) : ∀ t, evF Go.Proofs.Try.prog [slices_IndexFunc__api_Datum_api_Datum_o0f11_ft fu, net_Net_Forget_1_ft fu] fu Go.Proofs.Try.f24 slices_DeleteFunc__api_Datum_api_Datum_o0f11_fa t = (slices_DeleteFunc__api_Datum_api_Datum_o0f11_ft fu).spec t := fun t => by kernel_rfl
theorem slices_DeleteFunc__api_Datum_api_Datum_o0f11_told (fu : Nat) : Told Go.Proofs.Try.prog (slices_DeleteFunc__api_Datum_api_Datum_o0f11_ft fu) := told_of (allT_cons (slices_IndexFunc__api_Datum_api_Datum_o0f11_told fu) (allT_cons (net_Net_Forget_1_told fu) allT_nil)) mixed Go.Proofs.Try.func24 (by kernel_rfl) (by kernel_rfl) (slices_DeleteFunc__api_Datum_api_Datum_o0f11_eq fu)

def net_Net_Forget__com (fu : Nat) (to_ : Int) (h : Int) (h1 : Int) (h2 : List ((Int × (Int × List (UInt8))))) (h3 : (List (((Int × Int) × Nat)) × Nat)) : Option ((Int × (Int × (Int × ((List (((Int × Int) × Nat)) × Nat) × List ((Int × (Int × List (UInt8))))))))) :=
  (net_Net_Waiting__com fu to_ h h1 h2 h3).bind fun r =>
  bif (decide (r.1 > 0)) then
    Option.bind (α := ((Int × (Int × (List ((Int × (Int × List (UInt8)))) × ((List (((Int × Int) × Nat)) × Nat) × Int)))))) (
      (slices_DeleteFunc__api_Datum_api_Datum_o0f11 fu r.2.2.2.1 to_).bind fun r1 =>
      match r1 with
      | .inl r2 =>
        some (r.2.1, (r.2.2.1, (r2.1, (r.2.2.2.2, r2.2))))
      | .inr r3 =>
        some (r.2.1, (r.2.2.1, (r3.2, (r.2.2.2.2, r3.1))))) fun o =>
    some (r.1, (o.1, (o.2.1, ((mdel (k := (.int .i64)) (v := (.int .i64)) o.2.2.2.1 o.2.2.2.2), o.2.2.1))))
  else
    some (r.1, (r.2.1, (r.2.2.1, (r.2.2.2.2, r.2.2.2.1))))
def net_Net_Forget__com_fa : FnA := ⟨.two (.reg [(0, { ids := [100] })]) (.two (.reg [(2, { sh := [0, 1, 2] })]) (.two (.two (.leaf) (.pre (.renum 1 101) (.two (.two (.join ⟨[0, 3], ⟨(.cons (.own 0 0 0 0) (.cons (.own 0 100 0 0) .nil)), [(0, false, (.vars (.cons (.p (.int .i64)) (.cons (.p (.int .i64)) (.cons (.slf 3 101) (.cons (.mp 2) .nil)))))), (101, false, (.rows 33 (.pair (.int .i64) (.pair (.int .i64) (.sl .byte))))), (2, false, (.map (.int .i64) (.int .i64))), (100, false, (.vars (.cons (.p (.int .i64)) .nil)))]⟩⟩ false [] (.reg [(6, { ids := [102], sh := [101, 100], fn := 1 })])) (.leaf)) (.leaf)))) (.leaf))), ⟨(.cons (.own 0 0 0 0) (.cons (.p (.int .i64)) .nil)), [(0, false, (.vars (.cons (.p (.int .i64)) (.cons (.p (.int .i64)) (.cons (.slf 3 1) (.cons (.mp 2) .nil)))))), (1, false, (.rows 33 (.pair (.int .i64) (.pair (.int .i64) (.sl .byte))))), (2, false, (.map (.int .i64) (.int .i64)))]⟩, [⟨(.cons (.p (.int .i64)) .nil), [(0, false, (.vars (.cons (.p (.int .i64)) (.cons (.p (.int .i64)) (.cons (.slf 3 3) (.cons (.mp 2) .nil)))))), (2, false, (.map (.int .i64) (.int .i64))), (3, false, (.rows 33 (.pair (.int .i64) (.pair (.int .i64) (.sl .byte)))))]⟩], [0]⟩
def net_Net_Forget__com_ft (fu : Nat) : FnT := ⟨14, ⟨(.cons (.own 0 0 0 0) (.cons (.p (.int .i64)) .nil)), [(0, false, (.vars (.cons (.p (.int .i64)) (.cons (.p (.int .i64)) (.cons (.slf 3 1) (.cons (.mp 2) .nil)))))), (1, false, (.rows 33 (.pair (.int .i64) (.pair (.int .i64) (.sl .byte))))), (2, false, (.map (.int .i64) (.int .i64)))]⟩, [⟨(.cons (.p (.int .i64)) .nil), [(0, false, (.vars (.cons (.p (.int .i64)) (.cons (.p (.int .i64)) (.cons (.slf 3 3) (.cons (.mp 2) .nil)))))), (2, false, (.map (.int .i64) (.int .i64))), (3, false, (.rows 33 (.pair (.int .i64) (.pair (.int .i64) (.sl .byte)))))]⟩], fun t => net_Net_Forget__com fu t.1 t.2.1 t.2.2.1 t.2.2.2.1 t.2.2.2.2⟩
theorem net_Net_Forget__com_eq (fu : Nat) : ∀ t, evF Go.Proofs.Try.prog [net_Net_Waiting__com_ft fu, slices_DeleteFunc__api_Datum_api_Datum_o0f11_ft fu] fu Go.Proofs.Try.f14 net_Net_Forget__com_fa t = (net_Net_Forget__com_ft fu).spec t := fun t => by kernel_rfl
theorem net_Net_Forget__com_told (fu : Nat) : Told Go.Proofs.Try.prog (net_Net_Forget__com_ft fu) := told_of (allT_cons (net_Net_Waiting__com_told fu) (allT_cons (slices_DeleteFunc__api_Datum_api_Datum_o0f11_told fu) allT_nil)) mixed Go.Proofs.Try.func14 (by kernel_rfl) (by kernel_rfl) (net_Net_Forget__com_eq fu)

def law07_awake (fu : Nat)  : Option (Bool) :=
  (net_New fu 2 2).bind fun r =>
  match r with
  | .inl r1 =>
    Option.bind (α := (Bool)) (
      bif (!(r1 == 0)) then
        some true
      else
        (net_Net_Send_n0 fu 0 1 [(UInt8.ofNat 97)]).bind fun r3 =>
        bif (!(r3 == 0)) then
          some true
        else
          (net_Net_Send_n0 fu 1 0 [(UInt8.ofNat 98)]).bind fun r4 =>
          bif (!(r4 == 0)) then
            some true
          else
            (net_Net_Flying_n0 fu).bind fun r5 =>
            bif (!(r5 == 2)) then
              some true
            else
              (net_Net_Copy_n0 fu 0).bind fun r6 =>
              some (!(r6 == 0))) fun o =>
    bif o then
      some false
    else
      Option.bind (α := (Bool)) (
        (net_Net_Flying_n0 fu).bind fun r7 =>
        bif (r7 == 3) then
          (law07_is_n0 fu 0 0 1 [97]).bind fun r8 =>
          bif r8 then
            (law07_is_n0 fu 1 1 0 [98]).bind fun r9 =>
            bif r9 then
              (law07_is_n0 fu 2 0 1 [97]).bind fun r10 =>
              bif r10 then
                (net_Net_Waiting_n0 fu 1).bind fun r11 =>
                some (r11 == 2)
              else
                some false
            else
              some false
          else
            some false
        else
          some false) fun o1 =>
      (net_Net_Send_n0 fu 0 1 [(UInt8.ofNat 99)]).bind fun r12 =>
      (net_Net_Take_n0 fu 1).bind fun r13 =>
      Option.bind (α := (Bool)) (
        bif (!o1) then
          some true
        else
          bif (!(r12 == 5)) then
            some true
          else
            bif (!r13.2.2) then
              some true
            else
              (law07_like fu (r13.1, (r13.2.1, [])) (1, (0, [(UInt8.ofNat 98)]))).bind fun r14 =>
              bif (!r14) then
                some true
              else
                (net_Net_Drop_n0 fu 0).bind fun r15 =>
                bif (!r15) then
                  some true
                else
                  (net_Net_Forget_n0 fu 1).bind fun r16 =>
                  some (!(r16 == 1))) fun o2 =>
      bif o2 then
        some false
      else
        (net_Net_Look_n0 fu 0).bind fun r17 =>
        bif (!r17.2.2) then
          (net_Net_Flying_n0 fu).bind fun r18 =>
          some (r18 == 0)
        else
          some false
  | .inr r2 =>
    Option.bind (α := ((Bool × (Int × (Int × (List ((Int × (Int × List (UInt8)))) × (List (((Int × Int) × Nat)) × Nat))))))) (
      bif (!(r2.1 == 0)) then
        some (true, (r2.2.1, (r2.2.2.1, ([], r2.2.2.2))))
      else
        (net_Net_Send__com fu 0 1 [(UInt8.ofNat 97)] r2.2.1 r2.2.2.1 [] r2.2.2.2).bind fun r19 =>
        match r19 with
        | .inl r20 =>
          bif (!(r20.1 == 0)) then
            some (true, (r20.2.1, (r20.2.2.1, (r20.2.2.2.1, r20.2.2.2.2))))
          else
            (net_Net_Send__com fu 1 0 [(UInt8.ofNat 98)] r20.2.1 r20.2.2.1 r20.2.2.2.1 r20.2.2.2.2).bind fun r22 =>
            match r22 with
            | .inl r23 =>
              bif (!(r23.1 == 0)) then
                some (true, (r23.2.1, (r23.2.2.1, (r23.2.2.2.1, r23.2.2.2.2))))
              else
                (net_Net_Flying__com fu r23.2.1 r23.2.2.1 r23.2.2.2.1 r23.2.2.2.2).bind fun r25 =>
                bif (!(r25.1 == 2)) then
                  some (true, (r25.2.1, (r25.2.2.1, (r25.2.2.2.1, r25.2.2.2.2))))
                else
                  (net_Net_Copy__com fu 0 r25.2.1 r25.2.2.1 r25.2.2.2.1 r25.2.2.2.2).bind fun r26 =>
                  match r26 with
                  | .inl r27 =>
                    some ((!(r27.1 == 0)), (r27.2.1, (r27.2.2.1, (r27.2.2.2.1, r27.2.2.2.2))))
                  | .inr r28 =>
                    some ((!(r28.1 == 0)), (r28.2.1, (r28.2.2.1, (r28.2.2.2.2, r28.2.2.2.1))))
            | .inr r24 =>
              bif (!(r24.1 == 0)) then
                some (true, (r24.2.1, (r24.2.2.1, (r24.2.2.2.2, r24.2.2.2.1))))
              else
                (net_Net_Flying__com fu r24.2.1 r24.2.2.1 r24.2.2.2.2 r24.2.2.2.1).bind fun r29 =>
                bif (!(r29.1 == 2)) then
                  some (true, (r29.2.1, (r29.2.2.1, (r29.2.2.2.1, r29.2.2.2.2))))
                else
                  (net_Net_Copy__com fu 0 r29.2.1 r29.2.2.1 r29.2.2.2.1 r29.2.2.2.2).bind fun r30 =>
                  match r30 with
                  | .inl r31 =>
                    some ((!(r31.1 == 0)), (r31.2.1, (r31.2.2.1, (r31.2.2.2.1, r31.2.2.2.2))))
                  | .inr r32 =>
                    some ((!(r32.1 == 0)), (r32.2.1, (r32.2.2.1, (r32.2.2.2.2, r32.2.2.2.1))))
        | .inr r21 =>
          bif (!(r21.1 == 0)) then
            some (true, (r21.2.1, (r21.2.2.1, (r21.2.2.2.2, r21.2.2.2.1))))
          else
            (net_Net_Send__com fu 1 0 [(UInt8.ofNat 98)] r21.2.1 r21.2.2.1 r21.2.2.2.2 r21.2.2.2.1).bind fun r33 =>
            match r33 with
            | .inl r34 =>
              bif (!(r34.1 == 0)) then
                some (true, (r34.2.1, (r34.2.2.1, (r34.2.2.2.1, r34.2.2.2.2))))
              else
                (net_Net_Flying__com fu r34.2.1 r34.2.2.1 r34.2.2.2.1 r34.2.2.2.2).bind fun r36 =>
                bif (!(r36.1 == 2)) then
                  some (true, (r36.2.1, (r36.2.2.1, (r36.2.2.2.1, r36.2.2.2.2))))
                else
                  (net_Net_Copy__com fu 0 r36.2.1 r36.2.2.1 r36.2.2.2.1 r36.2.2.2.2).bind fun r37 =>
                  match r37 with
                  | .inl r38 =>
                    some ((!(r38.1 == 0)), (r38.2.1, (r38.2.2.1, (r38.2.2.2.1, r38.2.2.2.2))))
                  | .inr r39 =>
                    some ((!(r39.1 == 0)), (r39.2.1, (r39.2.2.1, (r39.2.2.2.2, r39.2.2.2.1))))
            | .inr r35 =>
              bif (!(r35.1 == 0)) then
                some (true, (r35.2.1, (r35.2.2.1, (r35.2.2.2.2, r35.2.2.2.1))))
              else
                (net_Net_Flying__com fu r35.2.1 r35.2.2.1 r35.2.2.2.2 r35.2.2.2.1).bind fun r40 =>
                bif (!(r40.1 == 2)) then
                  some (true, (r40.2.1, (r40.2.2.1, (r40.2.2.2.1, r40.2.2.2.2))))
                else
                  (net_Net_Copy__com fu 0 r40.2.1 r40.2.2.1 r40.2.2.2.1 r40.2.2.2.2).bind fun r41 =>
                  match r41 with
                  | .inl r42 =>
                    some ((!(r42.1 == 0)), (r42.2.1, (r42.2.2.1, (r42.2.2.2.1, r42.2.2.2.2))))
                  | .inr r43 =>
                    some ((!(r43.1 == 0)), (r43.2.1, (r43.2.2.1, (r43.2.2.2.2, r43.2.2.2.1))))) fun o3 =>
    bif o3.1 then
      some false
    else
      Option.bind (α := ((Bool × (Int × (Int × (List ((Int × (Int × List (UInt8)))) × (List (((Int × Int) × Nat)) × Nat))))))) (
        (net_Net_Flying__com fu o3.2.1 o3.2.2.1 o3.2.2.2.1 o3.2.2.2.2).bind fun r44 =>
        bif (r44.1 == 3) then
          (law07_is__com fu 0 0 1 [97] r44.2.1 r44.2.2.1 r44.2.2.2.1 r44.2.2.2.2).bind fun r45 =>
          bif r45.1 then
            (law07_is__com fu 1 1 0 [98] r45.2.1 r45.2.2.1 r45.2.2.2.1 r45.2.2.2.2).bind fun r46 =>
            bif r46.1 then
              (law07_is__com fu 2 0 1 [97] r46.2.1 r46.2.2.1 r46.2.2.2.1 r46.2.2.2.2).bind fun r47 =>
              bif r47.1 then
                (net_Net_Waiting__com fu 1 r47.2.1 r47.2.2.1 r47.2.2.2.1 r47.2.2.2.2).bind fun r48 =>
                some ((r48.1 == 2), (r48.2.1, (r48.2.2.1, (r48.2.2.2.1, r48.2.2.2.2))))
              else
                some (false, (r47.2.1, (r47.2.2.1, (r47.2.2.2.1, r47.2.2.2.2))))
            else
              some (false, (r46.2.1, (r46.2.2.1, (r46.2.2.2.1, r46.2.2.2.2))))
          else
            some (false, (r45.2.1, (r45.2.2.1, (r45.2.2.2.1, r45.2.2.2.2))))
        else
          some (false, (r44.2.1, (r44.2.2.1, (r44.2.2.2.1, r44.2.2.2.2))))) fun o4 =>
      Option.bind (α := ((Int × (Int × (Int × (List ((Int × (Int × List (UInt8)))) × (List (((Int × Int) × Nat)) × Nat))))))) (
        (net_Net_Send__com fu 0 1 [(UInt8.ofNat 99)] o4.2.1 o4.2.2.1 o4.2.2.2.1 o4.2.2.2.2).bind fun r49 =>
        match r49 with
        | .inl r50 =>
          some (r50.1, (r50.2.1, (r50.2.2.1, (r50.2.2.2.1, r50.2.2.2.2))))
        | .inr r51 =>
          some (r51.1, (r51.2.1, (r51.2.2.1, (r51.2.2.2.2, r51.2.2.2.1))))) fun o5 =>
      Option.bind (α := ((Bool × (Int × (Int × (List ((Int × (Int × List (UInt8)))) × ((List (((Int × Int) × Nat)) × Nat) × (Int × (Int × List (UInt8)))))))))) (
        (net_Net_Take__com fu 1 o5.2.1 o5.2.2.1 o5.2.2.2.1 o5.2.2.2.2).bind fun r52 =>
        match r52 with
        | .inl r53 =>
          some (r53.2.2.2.1, (r53.2.2.2.2.1, (r53.2.2.2.2.2.1, (r53.2.2.2.2.2.2.1, (r53.2.2.2.2.2.2.2, (r53.1, (r53.2.1, r53.2.2.1)))))))
        | .inr r54 =>
          some (r54.2.2.2.1, (r54.2.2.2.2.1, (r54.2.2.2.2.2.1, (r54.2.2.2.2.2.2.2.2, (r54.2.2.2.2.2.2.1, (r54.1, (r54.2.1, r54.2.2.1)))))))) fun o6 =>
      Option.bind (α := ((Bool × (Int × (Int × (List ((Int × (Int × List (UInt8)))) × (List (((Int × Int) × Nat)) × Nat))))))) (
        bif (!o4.1) then
          some (true, (o6.2.1, (o6.2.2.1, (o6.2.2.2.1, o6.2.2.2.2.1))))
        else
          bif (!(o5.1 == 5)) then
            some (true, (o6.2.1, (o6.2.2.1, (o6.2.2.2.1, o6.2.2.2.2.1))))
          else
            bif (!o6.1) then
              some (true, (o6.2.1, (o6.2.2.1, (o6.2.2.2.1, o6.2.2.2.2.1))))
            else
              (law07_like fu (o6.2.2.2.2.2.1, (o6.2.2.2.2.2.2.1, o6.2.2.2.2.2.2.2)) (1, (0, [(UInt8.ofNat 98)]))).bind fun r55 =>
              bif (!r55) then
                some (true, (o6.2.1, (o6.2.2.1, (o6.2.2.2.1, o6.2.2.2.2.1))))
              else
                (net_Net_Drop__com fu 0 o6.2.1 o6.2.2.1 o6.2.2.2.1 o6.2.2.2.2.1).bind fun r56 =>
                match r56 with
                | .inl r57 =>
                  bif (!r57.1) then
                    some (true, (r57.2.1, (r57.2.2.1, (r57.2.2.2.1, r57.2.2.2.2))))
                  else
                    (net_Net_Forget__com fu 1 r57.2.1 r57.2.2.1 r57.2.2.2.1 r57.2.2.2.2).bind fun r59 =>
                    some ((!(r59.1 == 1)), (r59.2.1, (r59.2.2.1, (r59.2.2.2.2, r59.2.2.2.1))))
                | .inr r58 =>
                  bif (!r58.1) then
                    some (true, (r58.2.1, (r58.2.2.1, (r58.2.2.2.2.2, r58.2.2.2.1))))
                  else
                    (net_Net_Forget__com fu 1 r58.2.1 r58.2.2.1 r58.2.2.2.2.2 r58.2.2.2.1).bind fun r60 =>
                    some ((!(r60.1 == 1)), (r60.2.1, (r60.2.2.1, (r60.2.2.2.2, r60.2.2.2.1))))) fun o7 =>
      bif o7.1 then
        some false
      else
        (net_Net_Look__com fu 0 o7.2.1 o7.2.2.1 o7.2.2.2.1 o7.2.2.2.2).bind fun r61 =>
        bif (!r61.2.2.2.1) then
          (net_Net_Flying__com fu r61.2.2.2.2.1 r61.2.2.2.2.2.1 r61.2.2.2.2.2.2.1 r61.2.2.2.2.2.2.2).bind fun r62 =>
          some (r62.1 == 0)
        else
          some false
def law07_awake_fa : FnA := ⟨.two (.leaf) (.two (.reg [(0, { ids := [100, 101] })]) (.sel (.slot 1 (.nilp (.pointer none))) (.two (.two (.join ⟨[36], ⟨(.cons (.p .bool) .nil), []⟩⟩ false [] (.reg [(4, { ids := [103] }), (6, { md := [0, 0, 0, 2], fn := 1 }), (11, { ids := [104] }), (13, { md := [0, 0, 0, 2], fn := 1 }), (18, { fn := 2 }), (23, { fn := 3 })])) (.two (.leaf) (.leaf))) (.two (.join ⟨[3], ⟨(.cons (.p .bool) .nil), []⟩⟩ false [] (.reg [(1, { fn := 2 }), (5, { fn := 4 }), (9, { fn := 4 }), (13, { fn := 4 }), (17, { fn := 5 })])) (.two (.reg [(1, { ids := [105] }), (3, { md := [0, 0, 0, 2], fn := 1 })]) (.two (.reg [(1, { fn := 6 }), (5, { ids := [106] })]) (.two (.two (.join ⟨[93], ⟨(.cons (.p .bool) .nil), []⟩⟩ false [] (.reg [(12, { ids := [107] }), (15, { md := [0, 2], fn := 7 }), (20, { fn := 8 }), (25, { fn := 9 })])) (.two (.leaf) (.leaf))) (.two (.reg [(1, { fn := 10 })]) (.two (.reg [(4, { fn := 2 })]) (.leaf)))))))) (.pre (.ownCell 100 2 33 103) (.two (.two (.join ⟨[1, 36], ⟨(.cons (.own 0 100 0 0) (.cons (.p .bool) .nil)), [(100, false, (.vars (.cons (.p (.int .i64)) (.cons (.p (.int .i64)) (.cons (.slf 3 103) (.cons (.mp 101) .nil)))))), (103, false, (.rows 33 (.pair (.int .i64) (.pair (.int .i64) (.sl .byte))))), (101, false, (.map (.int .i64) (.int .i64)))]⟩⟩ false [] (.reg [(4, { ids := [104] }), (6, { ids := [105], sh := [100, 103, 101], md := [0, 0, 0, 1], fn := 11 }), (11, { ids := [106] }), (13, { ids := [107], sh := [100, 103, 101], md := [0, 0, 0, 1], fn := 11, more := [{ ids := [107], sh := [100, 105, 101], md := [0, 0, 0, 1], fn := 11 }] }), (18, { sh := [100, 103, 101], fn := 12, more := [{ sh := [100, 107, 101], fn := 12 }, { sh := [100, 105, 101], fn := 12 }] }), (23, { ids := [108], sh := [100, 103, 101], fn := 13, more := [{ ids := [108], sh := [100, 107, 101], fn := 13 }, { ids := [108], sh := [100, 105, 101], fn := 13 }] })])) (.two (.leaf) (.leaf))) (.two (.join ⟨[1, 3], ⟨(.cons (.own 0 100 0 0) (.cons (.p .bool) .nil)), [(100, false, (.vars (.cons (.p (.int .i64)) (.cons (.p (.int .i64)) (.cons (.slf 3 103) (.cons (.mp 101) .nil)))))), (103, false, (.rows 33 (.pair (.int .i64) (.pair (.int .i64) (.sl .byte))))), (101, false, (.map (.int .i64) (.int .i64)))]⟩⟩ false [] (.reg [(1, { sh := [100, 103, 101], fn := 12 }), (5, { sh := [100, 103, 101], fn := 14 }), (9, { sh := [100, 103, 101], fn := 14 }), (13, { sh := [100, 103, 101], fn := 14 }), (17, { sh := [100, 103, 101], fn := 15 })])) (.two (.join ⟨[1, 4], ⟨(.cons (.own 0 100 0 0) (.cons (.p (.int .i64)) .nil)), [(100, false, (.vars (.cons (.p (.int .i64)) (.cons (.p (.int .i64)) (.cons (.slf 3 103) (.cons (.mp 101) .nil)))))), (103, false, (.rows 33 (.pair (.int .i64) (.pair (.int .i64) (.sl .byte))))), (101, false, (.map (.int .i64) (.int .i64)))]⟩⟩ false [] (.reg [(1, { ids := [109] }), (3, { ids := [110], sh := [100, 103, 101], md := [0, 0, 0, 1], fn := 11 })])) (.two (.join ⟨[1, 5, 6], ⟨(.cons (.own 0 100 0 0) (.cons (.own 0 112 0 0) (.cons (.p .bool) .nil))), [(100, false, (.vars (.cons (.p (.int .i64)) (.cons (.p (.int .i64)) (.cons (.slf 3 103) (.cons (.mp 101) .nil)))))), (103, false, (.rows 33 (.pair (.int .i64) (.pair (.int .i64) (.sl .byte))))), (101, false, (.map (.int .i64) (.int .i64))), (112, false, (.vars (.cons (.p (.int .i64)) (.cons (.p (.int .i64)) (.cons (.p (.sl .byte)) .nil)))))]⟩⟩ false [] (.reg [(1, { ids := [111], sh := [100, 103, 101], fn := 16 }), (5, { ids := [112] })])) (.two (.two (.join ⟨[1, 93], ⟨(.cons (.own 0 100 0 0) (.cons (.p .bool) .nil)), [(100, false, (.vars (.cons (.p (.int .i64)) (.cons (.p (.int .i64)) (.cons (.slf 3 103) (.cons (.mp 101) .nil)))))), (103, false, (.rows 33 (.pair (.int .i64) (.pair (.int .i64) (.sl .byte))))), (101, false, (.map (.int .i64) (.int .i64)))]⟩⟩ false [] (.reg [(12, { ids := [113] }), (15, { md := [0, 2], fn := 7 }), (20, { ids := [114], sh := [100, 103, 101], fn := 17 }), (25, { ids := [115], sh := [100, 103, 101], fn := 18, more := [{ ids := [115], sh := [100, 114, 101], fn := 18 }] })])) (.two (.leaf) (.leaf))) (.two (.reg [(1, { sh := [100, 103, 101], fn := 19 })]) (.two (.reg [(4, { sh := [100, 103, 101], fn := 12 })]) (.leaf))))))))))), ⟨.nil, []⟩, [⟨(.cons (.p .bool) .nil), []⟩], [0]⟩
def law07_awake_ft (fu : Nat) : FnT := ⟨16, ⟨.nil, []⟩, [⟨(.cons (.p .bool) .nil), []⟩], fun t => law07_awake fu ⟩
theorem law07_awake_eq (fu : Nat) : ∀ t, evF Go.Proofs.Try.prog [net_New_ft fu, net_Net_Send_n0_ft fu, net_Net_Flying_n0_ft fu, net_Net_Copy_n0_ft fu, law07_is_n0_ft fu, net_Net_Waiting_n0_ft fu, net_Net_Take_n0_ft fu, law07_like_ft fu, net_Net_Drop_n0_ft fu, net_Net_Forget_n0_ft fu, net_Net_Look_n0_ft fu, net_Net_Send__com_ft fu, net_Net_Flying__com_ft fu, net_Net_Copy__com_ft fu, law07_is__com_ft fu, net_Net_Waiting__com_ft fu, net_Net_Take__com_ft fu, net_Net_Drop__com_ft fu, net_Net_Forget__com_ft fu, net_Net_Look__com_ft fu] fu Go.Proofs.Try.f16 law07_awake_fa t = (law07_awake_ft fu).spec t := fun t => by kernel_rfl
theorem law07_awake_told (fu : Nat) : Told Go.Proofs.Try.prog (law07_awake_ft fu) := told_of (allT_cons (net_New_told fu) (allT_cons (net_Net_Send_n0_told fu) (allT_cons (net_Net_Flying_n0_told fu) (allT_cons (net_Net_Copy_n0_told fu) (allT_cons (law07_is_n0_told fu) (allT_cons (net_Net_Waiting_n0_told fu) (allT_cons (net_Net_Take_n0_told fu) (allT_cons (law07_like_told fu) (allT_cons (net_Net_Drop_n0_told fu) (allT_cons (net_Net_Forget_n0_told fu) (allT_cons (net_Net_Look_n0_told fu) (allT_cons (net_Net_Send__com_told fu) (allT_cons (net_Net_Flying__com_told fu) (allT_cons (net_Net_Copy__com_told fu) (allT_cons (law07_is__com_told fu) (allT_cons (net_Net_Waiting__com_told fu) (allT_cons (net_Net_Take__com_told fu) (allT_cons (net_Net_Drop__com_told fu) (allT_cons (net_Net_Forget__com_told fu) (allT_cons (net_Net_Look__com_told fu) allT_nil)))))))))))))))))))) mixed Go.Proofs.Try.func16 (by kernel_rfl) (by kernel_rfl) (law07_awake_eq fu)

def law07_balanced_m1_com_l0 (fu : Nat) (k : Int) (h5 : Int) (h6 : Int) (h7 : List ((Int × (Int × List (UInt8))))) (h8 : (List (((Int × Int) × Nat)) × Nat)) (h9 : (List (((List UInt8 × Int) × Nat)) × Nat)) (h10 : (List (((List UInt8 × Int) × Nat)) × Nat)) : Option ((Int × (Int × (Int × (List ((Int × (Int × List (UInt8)))) × ((List (((Int × Int) × Nat)) × Nat) × ((List (((List UInt8 × Int) × Nat)) × Nat) × (List (((List UInt8 × Int) × Nat)) × Nat))))))) ⊕ ((Int × (Int × (List ((Int × (Int × List (UInt8)))) × ((List (((Int × Int) × Nat)) × Nat) × ((List (((List UInt8 × Int) × Nat)) × Nat) × (List (((List UInt8 × Int) × Nat)) × Nat)))))) ⊕ (Bool × (Int × (Int × (List ((Int × (Int × List (UInt8)))) × ((List (((Int × Int) × Nat)) × Nat) × (List (((List UInt8 × Int) × Nat)) × Nat)))))))) :=
  (net_Net_Flying__com fu h5 h6 h7 h8).bind fun r =>
  bif (decide (k < r.1)) then
    (net_Net_Look__com fu k r.2.1 r.2.2.1 r.2.2.2.1 r.2.2.2.2).bind fun r1 =>
    bif (!r1.2.2.2.1) then
      some (.inr (.inr (false, (r1.2.2.2.2.1, (r1.2.2.2.2.2.1, (r1.2.2.2.2.2.2.1, (r1.2.2.2.2.2.2.2, h9)))))))
    else
      (law07_tag fu (r1.1, (r1.2.1, r1.2.2.1))).bind fun r2 =>
      some (.inl ((IntKind.wrap .i64 (k + 1)), (r1.2.2.2.2.1, (r1.2.2.2.2.2.1, (r1.2.2.2.2.2.2.1, (r1.2.2.2.2.2.2.2, (h9, (mput (k := .str) (v := (.int .i64)) h10 r2 (IntKind.wrap .i64 ((Option.getD (mget (k := .str) (v := (.int .i64)) h10 r2) 0) + 1))))))))))
  else
    some (.inr (.inl (r.2.1, (r.2.2.1, (r.2.2.2.1, (r.2.2.2.2, (h9, h10)))))))
def law07_balanced_m1_com_l0_it (fu : Nat)  (tt : (Int × (Int × (Int × (List ((Int × (Int × List (UInt8)))) × ((List (((Int × Int) × Nat)) × Nat) × ((List (((List UInt8 × Int) × Nat)) × Nat) × (List (((List UInt8 × Int) × Nat)) × Nat)))))))) : Option ((Int × (Int × (List ((Int × (Int × List (UInt8)))) × ((List (((Int × Int) × Nat)) × Nat) × ((List (((List UInt8 × Int) × Nat)) × Nat) × (List (((List UInt8 × Int) × Nat)) × Nat)))))) ⊕ (Bool × (Int × (Int × (List ((Int × (Int × List (UInt8)))) × ((List (((Int × Int) × Nat)) × Nat) × (List (((List UInt8 × Int) × Nat)) × Nat))))))) :=
  iter fu (fun tt => law07_balanced_m1_com_l0 fu tt.1 tt.2.1 tt.2.2.1 tt.2.2.2.1 tt.2.2.2.2.1 tt.2.2.2.2.2.1 tt.2.2.2.2.2.2) tt
def law07_balanced_m1_com_l1 (fu : Nat) (h11 : Int) (h12 : Int) (h13 : List ((Int × (Int × List (UInt8))))) (h14 : (List (((Int × Int) × Nat)) × Nat)) (h15 : (List (((List UInt8 × Int) × Nat)) × Nat)) (h16 : (List (((List UInt8 × Int) × Nat)) × Nat)) (en1 : ((List UInt8 × Int) × Nat)) : Option ((Int × (Int × (List ((Int × (Int × List (UInt8)))) × ((List (((Int × Int) × Nat)) × Nat) × ((List (((List UInt8 × Int) × Nat)) × Nat) × (List (((List UInt8 × Int) × Nat)) × Nat)))))) ⊕ ((Bool × (Int × (Int × (List ((Int × (Int × List (UInt8)))) × ((List (((Int × Int) × Nat)) × Nat) × (List (((List UInt8 × Int) × Nat)) × Nat)))))))) :=
  bif (!((Option.getD (mget (k := .str) (v := (.int .i64)) h16 en1.1.1) 0) == en1.1.2)) then
    some (.inr (false, (h11, (h12, (h13, (h14, h15))))))
  else
    some (.inl (h11, (h12, (h13, (h14, (h15, h16))))))
def law07_balanced_m1_com_l1_hd (s : (Int × (Int × (List ((Int × (Int × List (UInt8)))) × ((List (((Int × Int) × Nat)) × Nat) × ((List (((List UInt8 × Int) × Nat)) × Nat) × (List (((List UInt8 × Int) × Nat)) × Nat))))))) (h11 : Int) (h12 : Int) (h13 : List ((Int × (Int × List (UInt8))))) (h14 : (List (((Int × Int) × Nat)) × Nat)) (h15 : (List (((List UInt8 × Int) × Nat)) × Nat)) (h16 : (List (((List UInt8 × Int) × Nat)) × Nat)) : Option (List (((List UInt8 × Int) × Nat))) :=
  (need (Nat.beq h15.2 s.2.2.2.2.1.2) (some h15.1))
def law07_balanced_m1_com_l2 (fu : Nat) (h17 : Int) (h18 : Int) (h19 : List ((Int × (Int × List (UInt8))))) (h20 : (List (((Int × Int) × Nat)) × Nat)) (h21 : (List (((List UInt8 × Int) × Nat)) × Nat)) (h22 : (List (((List UInt8 × Int) × Nat)) × Nat)) (en2 : ((List UInt8 × Int) × Nat)) : Option ((Int × (Int × (List ((Int × (Int × List (UInt8)))) × ((List (((Int × Int) × Nat)) × Nat) × ((List (((List UInt8 × Int) × Nat)) × Nat) × (List (((List UInt8 × Int) × Nat)) × Nat)))))) ⊕ ((Bool × (Int × (Int × (List ((Int × (Int × List (UInt8)))) × ((List (((Int × Int) × Nat)) × Nat) × (List (((List UInt8 × Int) × Nat)) × Nat)))))))) :=
  bif ((Option.getD (mget (k := .str) (v := (.int .i64)) h21 en2.1.1) 0) == 0) then
    some (.inr (false, (h17, (h18, (h19, (h20, h21))))))
  else
    some (.inl (h17, (h18, (h19, (h20, (h21, h22))))))
def law07_balanced_m1_com_l2_hd (s1 : (Int × (Int × (List ((Int × (Int × List (UInt8)))) × ((List (((Int × Int) × Nat)) × Nat) × ((List (((List UInt8 × Int) × Nat)) × Nat) × (List (((List UInt8 × Int) × Nat)) × Nat))))))) (h17 : Int) (h18 : Int) (h19 : List ((Int × (Int × List (UInt8))))) (h20 : (List (((Int × Int) × Nat)) × Nat)) (h21 : (List (((List UInt8 × Int) × Nat)) × Nat)) (h22 : (List (((List UInt8 × Int) × Nat)) × Nat)) : Option (List (((List UInt8 × Int) × Nat))) :=
  (need (Nat.beq h22.2 s1.2.2.2.2.2.2) (some h22.1))
def law07_balanced_m1_com (fu : Nat) (h : Int) (h1 : Int) (h2 : List ((Int × (Int × List (UInt8))))) (h3 : (List (((Int × Int) × Nat)) × Nat)) (h4 : (List (((List UInt8 × Int) × Nat)) × Nat)) : Option ((Bool × (Int × (Int × (List ((Int × (Int × List (UInt8)))) × ((List (((Int × Int) × Nat)) × Nat) × (List (((List UInt8 × Int) × Nat)) × Nat))))))) :=
  (law07_balanced_m1_com_l0_it fu  (0, (h, (h1, (h2, (h3, (h4, ([], 0)))))))).bind fun o =>
  match o with
  | .inl s =>
    mAll (fun (tt : (Int × (Int × (List ((Int × (Int × List (UInt8)))) × ((List (((Int × Int) × Nat)) × Nat) × ((List (((List UInt8 × Int) × Nat)) × Nat) × (List (((List UInt8 × Int) × Nat)) × Nat))))))) => law07_balanced_m1_com_l1_hd s tt.1 tt.2.1 tt.2.2.1 tt.2.2.2.1 tt.2.2.2.2.1 tt.2.2.2.2.2) (fun (tt : (Int × (Int × (List ((Int × (Int × List (UInt8)))) × ((List (((Int × Int) × Nat)) × Nat) × ((List (((List UInt8 × Int) × Nat)) × Nat) × (List (((List UInt8 × Int) × Nat)) × Nat))))))) (ee : ((List UInt8 × Int) × Nat)) => law07_balanced_m1_com_l1 fu tt.1 tt.2.1 tt.2.2.1 tt.2.2.2.1 tt.2.2.2.2.1 tt.2.2.2.2.2 ee) (s.1, (s.2.1, (s.2.2.1, (s.2.2.2.1, (s.2.2.2.2.1, s.2.2.2.2.2))))) fun o2 =>
    match o2 with
    | .inl s1 =>
      mAll (fun (tt : (Int × (Int × (List ((Int × (Int × List (UInt8)))) × ((List (((Int × Int) × Nat)) × Nat) × ((List (((List UInt8 × Int) × Nat)) × Nat) × (List (((List UInt8 × Int) × Nat)) × Nat))))))) => law07_balanced_m1_com_l2_hd s1 tt.1 tt.2.1 tt.2.2.1 tt.2.2.2.1 tt.2.2.2.2.1 tt.2.2.2.2.2) (fun (tt : (Int × (Int × (List ((Int × (Int × List (UInt8)))) × ((List (((Int × Int) × Nat)) × Nat) × ((List (((List UInt8 × Int) × Nat)) × Nat) × (List (((List UInt8 × Int) × Nat)) × Nat))))))) (ee : ((List UInt8 × Int) × Nat)) => law07_balanced_m1_com_l2 fu tt.1 tt.2.1 tt.2.2.1 tt.2.2.2.1 tt.2.2.2.2.1 tt.2.2.2.2.2 ee) (s1.1, (s1.2.1, (s1.2.2.1, (s1.2.2.2.1, (s1.2.2.2.2.1, s1.2.2.2.2.2))))) fun o4 =>
      match o4 with
      | .inl s2 =>
        some (true, (s2.1, (s2.2.1, (s2.2.2.1, (s2.2.2.2.1, s2.2.2.2.2.1)))))
      | .inr o5 =>
        some o5
    | .inr o3 =>
      some o3
  | .inr o1 =>
    some o1
def law07_balanced_m1_com_fa : FnA := ⟨.two (.leaf) (.two (.reg [(0, { ids := [100] })]) (.two (.two (.leaf) (.one (.loop ⟨[0, 1, 5, 6], ⟨(.cons (.own 0 0 0 0) (.cons (.mp 3) (.cons (.mp 100) (.cons (.p (.int .i64)) .nil)))), [(0, false, (.vars (.cons (.p (.int .i64)) (.cons (.p (.int .i64)) (.cons (.slf 3 1) (.cons (.mp 2) .nil)))))), (1, false, (.rows 33 (.pair (.int .i64) (.pair (.int .i64) (.sl .byte))))), (2, false, (.map (.int .i64) (.int .i64))), (3, false, (.map .str (.int .i64))), (100, false, (.map .str (.int .i64)))]⟩⟩ true [(0, ⟨[0, 1, 5], ⟨(.cons (.own 0 0 0 0) (.cons (.mp 3) (.cons (.mp 100) .nil))), [(0, false, (.vars (.cons (.p (.int .i64)) (.cons (.p (.int .i64)) (.cons (.slf 3 1) (.cons (.mp 2) .nil)))))), (1, false, (.rows 33 (.pair (.int .i64) (.pair (.int .i64) (.sl .byte))))), (2, false, (.map (.int .i64) (.int .i64))), (3, false, (.map .str (.int .i64))), (100, false, (.map .str (.int .i64)))]⟩⟩)] (.two (.two (.reg [(2, { sh := [0, 1, 2] })]) (.leaf)) (.two (.one (.two (.reg [(2, { sh := [0, 1, 2], fn := 1 }), (6, { ids := [101] })]) (.two (.two (.leaf) (.two (.leaf) (.leaf))) (.reg [(2, { fn := 2 })])))) (.leaf)))))) (.two (.mr [] [] .str (.int .i64) 3 ⟨[0, 1, 5, 32], ⟨(.cons (.own 0 0 0 0) (.cons (.mp 3) (.cons (.mp 100) (.cons (.mp 3) .nil)))), [(0, false, (.vars (.cons (.p (.int .i64)) (.cons (.p (.int .i64)) (.cons (.slf 3 1) (.cons (.mp 2) .nil)))))), (1, false, (.rows 33 (.pair (.int .i64) (.pair (.int .i64) (.sl .byte))))), (2, false, (.map (.int .i64) (.int .i64))), (3, false, (.map .str (.int .i64))), (100, false, (.map .str (.int .i64)))]⟩⟩ true [] (.two (.leaf) (.two (.leaf) (.leaf)))) (.two (.mr [] [] .str (.int .i64) 100 ⟨[0, 1, 44], ⟨(.cons (.own 0 0 0 0) (.cons (.mp 3) (.cons (.mp 100) .nil))), [(0, false, (.vars (.cons (.p (.int .i64)) (.cons (.p (.int .i64)) (.cons (.slf 3 1) (.cons (.mp 2) .nil)))))), (1, false, (.rows 33 (.pair (.int .i64) (.pair (.int .i64) (.sl .byte))))), (2, false, (.map (.int .i64) (.int .i64))), (3, false, (.map .str (.int .i64))), (100, false, (.map .str (.int .i64)))]⟩⟩ true [] (.two (.leaf) (.two (.leaf) (.leaf)))) (.leaf))))), ⟨(.cons (.own 0 0 0 0) (.cons (.mp 3) .nil)), [(0, false, (.vars (.cons (.p (.int .i64)) (.cons (.p (.int .i64)) (.cons (.slf 3 1) (.cons (.mp 2) .nil)))))), (1, false, (.rows 33 (.pair (.int .i64) (.pair (.int .i64) (.sl .byte))))), (2, false, (.map (.int .i64) (.int .i64))), (3, false, (.map .str (.int .i64)))]⟩, [⟨(.cons (.p .bool) .nil), [(0, false, (.vars (.cons (.p (.int .i64)) (.cons (.p (.int .i64)) (.cons (.slf 3 1) (.cons (.mp 2) .nil)))))), (1, false, (.rows 33 (.pair (.int .i64) (.pair (.int .i64) (.sl .byte))))), (2, false, (.map (.int .i64) (.int .i64))), (3, false, (.map .str (.int .i64)))]⟩], [0]⟩
def law07_balanced_m1_com_ft (fu : Nat) : FnT := ⟨15, ⟨(.cons (.own 0 0 0 0) (.cons (.mp 3) .nil)), [(0, false, (.vars (.cons (.p (.int .i64)) (.cons (.p (.int .i64)) (.cons (.slf 3 1) (.cons (.mp 2) .nil)))))), (1, false, (.rows 33 (.pair (.int .i64) (.pair (.int .i64) (.sl .byte))))), (2, false, (.map (.int .i64) (.int .i64))), (3, false, (.map .str (.int .i64)))]⟩, [⟨(.cons (.p .bool) .nil), [(0, false, (.vars (.cons (.p (.int .i64)) (.cons (.p (.int .i64)) (.cons (.slf 3 1) (.cons (.mp 2) .nil)))))), (1, false, (.rows 33 (.pair (.int .i64) (.pair (.int .i64) (.sl .byte))))), (2, false, (.map (.int .i64) (.int .i64))), (3, false, (.map .str (.int .i64)))]⟩], fun t => law07_balanced_m1_com fu t.1 t.2.1 t.2.2.1 t.2.2.2.1 t.2.2.2.2⟩
theorem law07_balanced_m1_com_eq (fu : Nat) : ∀ t, evF Go.Proofs.Try.prog [net_Net_Flying__com_ft fu, net_Net_Look__com_ft fu, law07_tag_ft fu] fu Go.Proofs.Try.f15 law07_balanced_m1_com_fa t = (law07_balanced_m1_com_ft fu).spec t := fun t => by kernel_rfl
theorem law07_balanced_m1_com_told (fu : Nat) : Told Go.Proofs.Try.prog (law07_balanced_m1_com_ft fu) := told_of (allT_cons (net_Net_Flying__com_told fu) (allT_cons (net_Net_Look__com_told fu) (allT_cons (law07_tag_told fu) allT_nil))) mixed Go.Proofs.Try.func15 (by kernel_rfl) (by kernel_rfl) (law07_balanced_m1_com_eq fu)

def law07_NetLedger_l0 (fu : Nat) (r5 : Int) (k : Int) (h1 : (List (((List UInt8 × Int) × Nat)) × Nat)) : Option ((Int × (List (((List UInt8 × Int) × Nat)) × Nat)) ⊕ ((List (((List UInt8 × Int) × Nat)) × Nat))) :=
  (net_Net_Flying_n0 fu).bind fun r16 =>
  bif (decide (k < r16)) then
    (net_Net_Look_n0 fu k).bind fun r17 =>
    Option.bind (α := ((List (((List UInt8 × Int) × Nat)) × Nat))) (
      bif (r17.2.1 == r5) then
        (law07_tag fu (r17.1, (r17.2.1, []))).bind fun r18 =>
        some (mput (k := .str) (v := (.int .i64)) h1 r18 (IntKind.wrap .i64 ((Option.getD (mget (k := .str) (v := (.int .i64)) h1 r18) 0) - 1)))
      else
        some h1) fun o9 =>
    some (.inl ((IntKind.wrap .i64 (k + 1)), o9))
  else
    some (.inr h1)
def law07_NetLedger_l0_it (fu : Nat) (r5 : Int) (tt : (Int × (List (((List UInt8 × Int) × Nat)) × Nat))) : Option ((List (((List UInt8 × Int) × Nat)) × Nat)) :=
  iter fu (fun tt => law07_NetLedger_l0 fu r5 tt.1 tt.2) tt
def law07_NetLedger_l1 (fu : Nat) (l : List ((UInt8 × (Int × (Int × (Int × List (UInt8))))))) (i : Int) (h : (List (((List UInt8 × Int) × Nat)) × Nat)) : Option ((Int × (List (((List UInt8 × Int) × Nat)) × Nat)) ⊕ (Unit ⊕ Bool)) :=
  Option.bind (α := ((Bool × (List (((List UInt8 × Int) × Nat)) × Nat)))) (
    bif (decide (i < ((l.length : Nat) : Int))) then
      some ((decide (i < 80)), h)
    else
      some (false, h)) fun o =>
  bif o.1 then
    Option.bind (α := ((List (((List UInt8 × Int) × Nat)) × Nat) ⊕ ((Int × (List (((List UInt8 × Int) × Nat)) × Nat)) ⊕ (Unit ⊕ Bool)))) (
      (idx? i l.length).bind fun q =>
      (l)[q]?.bind fun r3 =>
      bif (decide (((r3.2.2.2.2.length : Nat) : Int) > 100)) then
        some (.inl o.2)
      else
        (low_Pick fu r3.2.1 5).bind fun r4 =>
        (low_Pick fu r3.2.2.1 5).bind fun r5 =>
        (net_Net_Look_n0 fu r3.2.2.2.1).bind fun r6 =>
        Option.bind (α := ((Bool × ((List (((List UInt8 × Int) × Nat)) × Nat) × (Int × (Int × (Int × (Int × (List (UInt8) × (Int × Int)))))))))) (
          bif (((r3.1.toNat : Nat) : Int) == 0) then
            some ((((r3.1.toNat : Nat) : Int) == 0), (o.2, (((r3.1.toNat : Nat) : Int), (r3.2.1, (r3.2.2.1, (r3.2.2.2.1, (r3.2.2.2.2, (r6.1, r6.2.1))))))))
          else
            Option.bind (α := ((Bool × ((List (((List UInt8 × Int) × Nat)) × Nat) × (Int × (Int × (Int × (Int × (List (UInt8) × (Int × Int)))))))))) (
              bif (((r3.1.toNat : Nat) : Int) == 1) then
                some ((((r3.1.toNat : Nat) : Int) == 1), (o.2, (((r3.1.toNat : Nat) : Int), (r3.2.1, (r3.2.2.1, (r3.2.2.2.1, (r3.2.2.2.2, (r6.1, r6.2.1))))))))
              else
                Option.bind (α := ((Bool × ((List (((List UInt8 × Int) × Nat)) × Nat) × (Int × (Int × (Int × (Int × (List (UInt8) × (Int × Int)))))))))) (
                  bif (((r3.1.toNat : Nat) : Int) == 2) then
                    some ((((r3.1.toNat : Nat) : Int) == 2), (o.2, (((r3.1.toNat : Nat) : Int), (r3.2.1, (r3.2.2.1, (r3.2.2.2.1, (r3.2.2.2.2, (r6.1, r6.2.1))))))))
                  else
                    some ((((r3.1.toNat : Nat) : Int) == 3), (o.2, (((r3.1.toNat : Nat) : Int), (r3.2.1, (r3.2.2.1, (r3.2.2.2.1, (r3.2.2.2.2, (r6.1, r6.2.1))))))))) fun o1 =>
                some (o1.1, (o1.2.1, (o1.2.2.1, (o1.2.2.2.1, (o1.2.2.2.2.1, (o1.2.2.2.2.2.1, (o1.2.2.2.2.2.2.1, (o1.2.2.2.2.2.2.2.1, o1.2.2.2.2.2.2.2.2))))))))) fun o2 =>
            some (o2.1, (o2.2.1, (o2.2.2.1, (o2.2.2.2.1, (o2.2.2.2.2.1, (o2.2.2.2.2.2.1, (o2.2.2.2.2.2.2.1, (o2.2.2.2.2.2.2.2.1, o2.2.2.2.2.2.2.2.2))))))))) fun o3 =>
        Option.bind (α := ((List (((List UInt8 × Int) × Nat)) × Nat) ⊕ ((List (((List UInt8 × Int) × Nat)) × Nat) ⊕ ((Int × (List (((List UInt8 × Int) × Nat)) × Nat)) ⊕ (Unit ⊕ Bool))))) (
          bif o3.1 then
            (net_Net_Send_n0 fu r4 r5 o3.2.2.2.2.2.2.1).bind fun r7 =>
            Option.bind (α := ((List (((List UInt8 × Int) × Nat)) × Nat))) (
              bif (r7 == 0) then
                (law07_tag fu (r4, (r5, o3.2.2.2.2.2.2.1))).bind fun r8 =>
                some (mput (k := .str) (v := (.int .i64)) o3.2.1 r8 (IntKind.wrap .i64 ((Option.getD (mget (k := .str) (v := (.int .i64)) o3.2.1 r8) 0) + 1)))
              else
                some o3.2.1) fun o4 =>
            some (.inl o4)
          else
            Option.bind (α := ((List (((List UInt8 × Int) × Nat)) × Nat) ⊕ ((List (((List UInt8 × Int) × Nat)) × Nat) ⊕ ((List (((List UInt8 × Int) × Nat)) × Nat) ⊕ ((Int × (List (((List UInt8 × Int) × Nat)) × Nat)) ⊕ (Unit ⊕ Bool)))))) (
              bif (((r3.1.toNat : Nat) : Int) == 4) then
                (net_Net_Copy_n0 fu o3.2.2.2.2.2.1).bind fun r9 =>
                Option.bind (α := ((List (((List UInt8 × Int) × Nat)) × Nat))) (
                  bif (r9 == 0) then
                    (law07_tag fu (o3.2.2.2.2.2.2.2.1, (o3.2.2.2.2.2.2.2.2, []))).bind fun r10 =>
                    some (mput (k := .str) (v := (.int .i64)) o3.2.1 r10 (IntKind.wrap .i64 ((Option.getD (mget (k := .str) (v := (.int .i64)) o3.2.1 r10) 0) + 1)))
                  else
                    some o3.2.1) fun o5 =>
                some (.inl o5)
              else
                Option.bind (α := ((List (((List UInt8 × Int) × Nat)) × Nat) ⊕ ((List (((List UInt8 × Int) × Nat)) × Nat) ⊕ ((List (((List UInt8 × Int) × Nat)) × Nat) ⊕ ((List (((List UInt8 × Int) × Nat)) × Nat) ⊕ ((Int × (List (((List UInt8 × Int) × Nat)) × Nat)) ⊕ (Unit ⊕ Bool))))))) (
                  bif (((r3.1.toNat : Nat) : Int) == 5) then
                    (net_Net_Take_n0 fu o3.2.2.2.2.2.1).bind fun r11 =>
                    Option.bind (α := ((Bool × ((List (((List UInt8 × Int) × Nat)) × Nat) × (Int × Int))))) (
                      bif (!(r11.2.2 == r6.2.2)) then
                        some (true, (o3.2.1, (o3.2.2.2.2.2.2.2.1, o3.2.2.2.2.2.2.2.2)))
                      else
                        (law07_like fu (r11.1, (r11.2.1, [])) (o3.2.2.2.2.2.2.2.1, (o3.2.2.2.2.2.2.2.2, []))).bind fun r12 =>
                        some ((!r12), (o3.2.1, (o3.2.2.2.2.2.2.2.1, o3.2.2.2.2.2.2.2.2)))) fun o6 =>
                    bif o6.1 then
                      some (.inr (.inr (.inr (.inr (.inr (.inr false))))))
                    else
                      Option.bind (α := ((List (((List UInt8 × Int) × Nat)) × Nat))) (
                        bif r11.2.2 then
                          (law07_tag fu (o6.2.2.1, (o6.2.2.2, []))).bind fun r13 =>
                          some (mput (k := .str) (v := (.int .i64)) o6.2.1 r13 (IntKind.wrap .i64 ((Option.getD (mget (k := .str) (v := (.int .i64)) o6.2.1 r13) 0) - 1)))
                        else
                          some o6.2.1) fun o7 =>
                      some (.inl o7)
                  else
                    Option.bind (α := ((List (((List UInt8 × Int) × Nat)) × Nat))) (
                      bif (((r3.1.toNat : Nat) : Int) == 6) then
                        (net_Net_Drop_n0 fu o3.2.2.2.2.2.1).bind fun r14 =>
                        Option.bind (α := ((List (((List UInt8 × Int) × Nat)) × Nat))) (
                          bif r14 then
                            (law07_tag fu (o3.2.2.2.2.2.2.2.1, (o3.2.2.2.2.2.2.2.2, []))).bind fun r15 =>
                            some (mput (k := .str) (v := (.int .i64)) o3.2.1 r15 (IntKind.wrap .i64 ((Option.getD (mget (k := .str) (v := (.int .i64)) o3.2.1 r15) 0) - 1)))
                          else
                            some o3.2.1) fun o8 =>
                        some o8
                      else
                        Option.bind (α := ((List (((List UInt8 × Int) × Nat)) × Nat))) (
                          bif (((r3.1.toNat : Nat) : Int) == 7) then
                            (law07_NetLedger_l0_it fu r5 (0, o3.2.1)).bind fun o10 =>
                            (net_Net_Forget_n0 fu r5).bind fun r19 =>
                            some o10
                          else
                            some o3.2.1) fun o11 =>
                        some o11) fun o12 =>
                    some (.inl o12)) fun o13 =>
                match o13 with
                | .inl s =>
                  some (.inl s)
                | .inr o14 =>
                  some o14) fun o15 =>
            match o15 with
            | .inl s1 =>
              some (.inl s1)
            | .inr o16 =>
              some o16) fun o17 =>
        match o17 with
        | .inl s2 =>
          (law07_balanced_n0m1 fu s2).bind fun r20 =>
          bif (!r20.1) then
            some (.inr (.inr (.inr false)))
          else
            some (.inl r20.2)
        | .inr o18 =>
          some o18) fun o19 =>
    match o19 with
    | .inl s3 =>
      some (.inl ((IntKind.wrap .i64 (i + 1)), s3))
    | .inr o20 =>
      some o20
  else
    some (.inr (.inl ()))
def law07_NetLedger_l1_it (fu : Nat) (l : List ((UInt8 × (Int × (Int × (Int × List (UInt8))))))) (tt : (Int × (List (((List UInt8 × Int) × Nat)) × Nat))) : Option (Unit ⊕ Bool) :=
  iter fu (fun tt => law07_NetLedger_l1 fu l tt.1 tt.2) tt
def law07_NetLedger_l2 (fu : Nat) (r24 : Int) (k1 : Int) (h7 : Int) (h8 : Int) (h9 : List ((Int × (Int × List (UInt8))))) (h10 : (List (((Int × Int) × Nat)) × Nat)) (h11 : (List (((List UInt8 × Int) × Nat)) × Nat)) : Option ((Int × (Int × (Int × (List ((Int × (Int × List (UInt8)))) × ((List (((Int × Int) × Nat)) × Nat) × (List (((List UInt8 × Int) × Nat)) × Nat)))))) ⊕ ((Int × (Int × (List ((Int × (Int × List (UInt8)))) × ((List (((Int × Int) × Nat)) × Nat) × (List (((List UInt8 × Int) × Nat)) × Nat))))))) :=
  (net_Net_Flying__com fu h7 h8 h9 h10).bind fun r43 =>
  bif (decide (k1 < r43.1)) then
    (net_Net_Look__com fu k1 r43.2.1 r43.2.2.1 r43.2.2.2.1 r43.2.2.2.2).bind fun r44 =>
    Option.bind (α := ((Int × (Int × (List ((Int × (Int × List (UInt8)))) × ((List (((Int × Int) × Nat)) × Nat) × (List (((List UInt8 × Int) × Nat)) × Nat))))))) (
      bif (r44.2.1 == r24) then
        (law07_tag fu (r44.1, (r44.2.1, r44.2.2.1))).bind fun r45 =>
        some (r44.2.2.2.2.1, (r44.2.2.2.2.2.1, (r44.2.2.2.2.2.2.1, (r44.2.2.2.2.2.2.2, (mput (k := .str) (v := (.int .i64)) h11 r45 (IntKind.wrap .i64 ((Option.getD (mget (k := .str) (v := (.int .i64)) h11 r45) 0) - 1)))))))
      else
        some (r44.2.2.2.2.1, (r44.2.2.2.2.2.1, (r44.2.2.2.2.2.2.1, (r44.2.2.2.2.2.2.2, h11))))) fun o36 =>
    some (.inl ((IntKind.wrap .i64 (k1 + 1)), (o36.1, (o36.2.1, (o36.2.2.1, (o36.2.2.2.1, o36.2.2.2.2))))))
  else
    some (.inr (r43.2.1, (r43.2.2.1, (r43.2.2.2.1, (r43.2.2.2.2, h11)))))
def law07_NetLedger_l2_it (fu : Nat) (r24 : Int) (tt : (Int × (Int × (Int × (List ((Int × (Int × List (UInt8)))) × ((List (((Int × Int) × Nat)) × Nat) × (List (((List UInt8 × Int) × Nat)) × Nat))))))) : Option ((Int × (Int × (List ((Int × (Int × List (UInt8)))) × ((List (((Int × Int) × Nat)) × Nat) × (List (((List UInt8 × Int) × Nat)) × Nat)))))) :=
  iter fu (fun tt => law07_NetLedger_l2 fu r24 tt.1 tt.2.1 tt.2.2.1 tt.2.2.2.1 tt.2.2.2.2.1 tt.2.2.2.2.2) tt
def law07_NetLedger_l3 (fu : Nat) (l : List ((UInt8 × (Int × (Int × (Int × List (UInt8))))))) (i1 : Int) (h2 : Int) (h3 : Int) (h4 : List ((Int × (Int × List (UInt8))))) (h5 : (List (((Int × Int) × Nat)) × Nat)) (h6 : (List (((List UInt8 × Int) × Nat)) × Nat)) : Option ((Int × (Int × (Int × (List ((Int × (Int × List (UInt8)))) × ((List (((Int × Int) × Nat)) × Nat) × (List (((List UInt8 × Int) × Nat)) × Nat)))))) ⊕ (Unit ⊕ Bool)) :=
  Option.bind (α := ((Bool × (Int × (Int × (List ((Int × (Int × List (UInt8)))) × ((List (((Int × Int) × Nat)) × Nat) × (List (((List UInt8 × Int) × Nat)) × Nat)))))))) (
    bif (decide (i1 < ((l.length : Nat) : Int))) then
      some ((decide (i1 < 80)), (h2, (h3, (h4, (h5, h6)))))
    else
      some (false, (h2, (h3, (h4, (h5, h6)))))) fun o23 =>
  bif o23.1 then
    Option.bind (α := ((Int × (Int × (List ((Int × (Int × List (UInt8)))) × ((List (((Int × Int) × Nat)) × Nat) × (List (((List UInt8 × Int) × Nat)) × Nat))))) ⊕ ((Int × (Int × (Int × (List ((Int × (Int × List (UInt8)))) × ((List (((Int × Int) × Nat)) × Nat) × (List (((List UInt8 × Int) × Nat)) × Nat)))))) ⊕ (Unit ⊕ Bool)))) (
      (idx? i1 l.length).bind fun q1 =>
      (l)[q1]?.bind fun r22 =>
      bif (decide (((r22.2.2.2.2.length : Nat) : Int) > 100)) then
        some (.inl (o23.2.1, (o23.2.2.1, (o23.2.2.2.1, (o23.2.2.2.2.1, o23.2.2.2.2.2)))))
      else
        (low_Pick fu r22.2.1 5).bind fun r23 =>
        (low_Pick fu r22.2.2.1 5).bind fun r24 =>
        (net_Net_Look__com fu r22.2.2.2.1 o23.2.1 o23.2.2.1 o23.2.2.2.1 o23.2.2.2.2.1).bind fun r25 =>
        Option.bind (α := ((Bool × (Int × (Int × (List ((Int × (Int × List (UInt8)))) × ((List (((Int × Int) × Nat)) × Nat) × ((List (((List UInt8 × Int) × Nat)) × Nat) × (Int × (Int × (Int × (Int × (List (UInt8) × (Int × (Int × List (UInt8)))))))))))))))) (
          bif (((r22.1.toNat : Nat) : Int) == 0) then
            some ((((r22.1.toNat : Nat) : Int) == 0), (r25.2.2.2.2.1, (r25.2.2.2.2.2.1, (r25.2.2.2.2.2.2.1, (r25.2.2.2.2.2.2.2, (o23.2.2.2.2.2, (((r22.1.toNat : Nat) : Int), (r22.2.1, (r22.2.2.1, (r22.2.2.2.1, (r22.2.2.2.2, (r25.1, (r25.2.1, r25.2.2.1)))))))))))))
          else
            Option.bind (α := ((Bool × (Int × (Int × (List ((Int × (Int × List (UInt8)))) × ((List (((Int × Int) × Nat)) × Nat) × ((List (((List UInt8 × Int) × Nat)) × Nat) × (Int × (Int × (Int × (Int × (List (UInt8) × (Int × (Int × List (UInt8)))))))))))))))) (
              bif (((r22.1.toNat : Nat) : Int) == 1) then
                some ((((r22.1.toNat : Nat) : Int) == 1), (r25.2.2.2.2.1, (r25.2.2.2.2.2.1, (r25.2.2.2.2.2.2.1, (r25.2.2.2.2.2.2.2, (o23.2.2.2.2.2, (((r22.1.toNat : Nat) : Int), (r22.2.1, (r22.2.2.1, (r22.2.2.2.1, (r22.2.2.2.2, (r25.1, (r25.2.1, r25.2.2.1)))))))))))))
              else
                Option.bind (α := ((Bool × (Int × (Int × (List ((Int × (Int × List (UInt8)))) × ((List (((Int × Int) × Nat)) × Nat) × ((List (((List UInt8 × Int) × Nat)) × Nat) × (Int × (Int × (Int × (Int × (List (UInt8) × (Int × (Int × List (UInt8)))))))))))))))) (
                  bif (((r22.1.toNat : Nat) : Int) == 2) then
                    some ((((r22.1.toNat : Nat) : Int) == 2), (r25.2.2.2.2.1, (r25.2.2.2.2.2.1, (r25.2.2.2.2.2.2.1, (r25.2.2.2.2.2.2.2, (o23.2.2.2.2.2, (((r22.1.toNat : Nat) : Int), (r22.2.1, (r22.2.2.1, (r22.2.2.2.1, (r22.2.2.2.2, (r25.1, (r25.2.1, r25.2.2.1)))))))))))))
                  else
                    some ((((r22.1.toNat : Nat) : Int) == 3), (r25.2.2.2.2.1, (r25.2.2.2.2.2.1, (r25.2.2.2.2.2.2.1, (r25.2.2.2.2.2.2.2, (o23.2.2.2.2.2, (((r22.1.toNat : Nat) : Int), (r22.2.1, (r22.2.2.1, (r22.2.2.2.1, (r22.2.2.2.2, (r25.1, (r25.2.1, r25.2.2.1)))))))))))))) fun o24 =>
                some (o24.1, (o24.2.1, (o24.2.2.1, (o24.2.2.2.1, (o24.2.2.2.2.1, (o24.2.2.2.2.2.1, (o24.2.2.2.2.2.2.1, (o24.2.2.2.2.2.2.2.1, (o24.2.2.2.2.2.2.2.2.1, (o24.2.2.2.2.2.2.2.2.2.1, (o24.2.2.2.2.2.2.2.2.2.2.1, (o24.2.2.2.2.2.2.2.2.2.2.2.1, (o24.2.2.2.2.2.2.2.2.2.2.2.2.1, o24.2.2.2.2.2.2.2.2.2.2.2.2.2)))))))))))))) fun o25 =>
            some (o25.1, (o25.2.1, (o25.2.2.1, (o25.2.2.2.1, (o25.2.2.2.2.1, (o25.2.2.2.2.2.1, (o25.2.2.2.2.2.2.1, (o25.2.2.2.2.2.2.2.1, (o25.2.2.2.2.2.2.2.2.1, (o25.2.2.2.2.2.2.2.2.2.1, (o25.2.2.2.2.2.2.2.2.2.2.1, (o25.2.2.2.2.2.2.2.2.2.2.2.1, (o25.2.2.2.2.2.2.2.2.2.2.2.2.1, o25.2.2.2.2.2.2.2.2.2.2.2.2.2)))))))))))))) fun o26 =>
        Option.bind (α := ((Int × (Int × (List ((Int × (Int × List (UInt8)))) × ((List (((Int × Int) × Nat)) × Nat) × (List (((List UInt8 × Int) × Nat)) × Nat))))) ⊕ ((Int × (Int × (List ((Int × (Int × List (UInt8)))) × ((List (((Int × Int) × Nat)) × Nat) × (List (((List UInt8 × Int) × Nat)) × Nat))))) ⊕ ((Int × (Int × (Int × (List ((Int × (Int × List (UInt8)))) × ((List (((Int × Int) × Nat)) × Nat) × (List (((List UInt8 × Int) × Nat)) × Nat)))))) ⊕ (Unit ⊕ Bool))))) (
          bif o26.1 then
            Option.bind (α := ((Bool × (Int × (Int × (List ((Int × (Int × List (UInt8)))) × ((List (((Int × Int) × Nat)) × Nat) × ((List (((List UInt8 × Int) × Nat)) × Nat) × (Int × (Int × (Int × (Int × List (UInt8))))))))))))) (
              (net_Net_Send__com fu r23 r24 o26.2.2.2.2.2.2.2.2.2.2.1 o26.2.1 o26.2.2.1 o26.2.2.2.1 o26.2.2.2.2.1).bind fun r26 =>
              match r26 with
              | .inl r27 =>
                some ((r27.1 == 0), (r27.2.1, (r27.2.2.1, (r27.2.2.2.1, (r27.2.2.2.2, (o26.2.2.2.2.2.1, (o26.2.2.2.2.2.2.1, (o26.2.2.2.2.2.2.2.1, (o26.2.2.2.2.2.2.2.2.1, (o26.2.2.2.2.2.2.2.2.2.1, o26.2.2.2.2.2.2.2.2.2.2.1))))))))))
              | .inr r28 =>
                some ((r28.1 == 0), (r28.2.1, (r28.2.2.1, (r28.2.2.2.2, (r28.2.2.2.1, (o26.2.2.2.2.2.1, (o26.2.2.2.2.2.2.1, (o26.2.2.2.2.2.2.2.1, (o26.2.2.2.2.2.2.2.2.1, (o26.2.2.2.2.2.2.2.2.2.1, o26.2.2.2.2.2.2.2.2.2.2.1))))))))))) fun o27 =>
            Option.bind (α := ((Int × (Int × (List ((Int × (Int × List (UInt8)))) × ((List (((Int × Int) × Nat)) × Nat) × (List (((List UInt8 × Int) × Nat)) × Nat))))))) (
              bif o27.1 then
                (law07_tag fu (r23, (r24, o27.2.2.2.2.2.2.2.2.2.2))).bind fun r29 =>
                some (o27.2.1, (o27.2.2.1, (o27.2.2.2.1, (o27.2.2.2.2.1, (mput (k := .str) (v := (.int .i64)) o27.2.2.2.2.2.1 r29 (IntKind.wrap .i64 ((Option.getD (mget (k := .str) (v := (.int .i64)) o27.2.2.2.2.2.1 r29) 0) + 1)))))))
              else
                some (o27.2.1, (o27.2.2.1, (o27.2.2.2.1, (o27.2.2.2.2.1, o27.2.2.2.2.2.1))))) fun o28 =>
            some (.inl (o28.1, (o28.2.1, (o28.2.2.1, (o28.2.2.2.1, o28.2.2.2.2)))))
          else
            Option.bind (α := ((Int × (Int × (List ((Int × (Int × List (UInt8)))) × ((List (((Int × Int) × Nat)) × Nat) × (List (((List UInt8 × Int) × Nat)) × Nat))))) ⊕ ((Int × (Int × (List ((Int × (Int × List (UInt8)))) × ((List (((Int × Int) × Nat)) × Nat) × (List (((List UInt8 × Int) × Nat)) × Nat))))) ⊕ ((Int × (Int × (List ((Int × (Int × List (UInt8)))) × ((List (((Int × Int) × Nat)) × Nat) × (List (((List UInt8 × Int) × Nat)) × Nat))))) ⊕ ((Int × (Int × (Int × (List ((Int × (Int × List (UInt8)))) × ((List (((Int × Int) × Nat)) × Nat) × (List (((List UInt8 × Int) × Nat)) × Nat)))))) ⊕ (Unit ⊕ Bool)))))) (
              bif (((r22.1.toNat : Nat) : Int) == 4) then
                Option.bind (α := ((Bool × (Int × (Int × (List ((Int × (Int × List (UInt8)))) × ((List (((Int × Int) × Nat)) × Nat) × ((List (((List UInt8 × Int) × Nat)) × Nat) × (Int × (Int × List (UInt8))))))))))) (
                  (net_Net_Copy__com fu o26.2.2.2.2.2.2.2.2.2.1 o26.2.1 o26.2.2.1 o26.2.2.2.1 o26.2.2.2.2.1).bind fun r30 =>
                  match r30 with
                  | .inl r31 =>
                    some ((r31.1 == 0), (r31.2.1, (r31.2.2.1, (r31.2.2.2.1, (r31.2.2.2.2, (o26.2.2.2.2.2.1, (o26.2.2.2.2.2.2.2.2.2.2.2.1, (o26.2.2.2.2.2.2.2.2.2.2.2.2.1, o26.2.2.2.2.2.2.2.2.2.2.2.2.2))))))))
                  | .inr r32 =>
                    some ((r32.1 == 0), (r32.2.1, (r32.2.2.1, (r32.2.2.2.2, (r32.2.2.2.1, (o26.2.2.2.2.2.1, (o26.2.2.2.2.2.2.2.2.2.2.2.1, (o26.2.2.2.2.2.2.2.2.2.2.2.2.1, o26.2.2.2.2.2.2.2.2.2.2.2.2.2))))))))) fun o29 =>
                Option.bind (α := ((Int × (Int × (List ((Int × (Int × List (UInt8)))) × ((List (((Int × Int) × Nat)) × Nat) × (List (((List UInt8 × Int) × Nat)) × Nat))))))) (
                  bif o29.1 then
                    (law07_tag fu (o29.2.2.2.2.2.2.1, (o29.2.2.2.2.2.2.2.1, o29.2.2.2.2.2.2.2.2))).bind fun r33 =>
                    some (o29.2.1, (o29.2.2.1, (o29.2.2.2.1, (o29.2.2.2.2.1, (mput (k := .str) (v := (.int .i64)) o29.2.2.2.2.2.1 r33 (IntKind.wrap .i64 ((Option.getD (mget (k := .str) (v := (.int .i64)) o29.2.2.2.2.2.1 r33) 0) + 1)))))))
                  else
                    some (o29.2.1, (o29.2.2.1, (o29.2.2.2.1, (o29.2.2.2.2.1, o29.2.2.2.2.2.1))))) fun o30 =>
                some (.inl (o30.1, (o30.2.1, (o30.2.2.1, (o30.2.2.2.1, o30.2.2.2.2)))))
              else
                Option.bind (α := ((Int × (Int × (List ((Int × (Int × List (UInt8)))) × ((List (((Int × Int) × Nat)) × Nat) × (List (((List UInt8 × Int) × Nat)) × Nat))))) ⊕ ((Int × (Int × (List ((Int × (Int × List (UInt8)))) × ((List (((Int × Int) × Nat)) × Nat) × (List (((List UInt8 × Int) × Nat)) × Nat))))) ⊕ ((Int × (Int × (List ((Int × (Int × List (UInt8)))) × ((List (((Int × Int) × Nat)) × Nat) × (List (((List UInt8 × Int) × Nat)) × Nat))))) ⊕ ((Int × (Int × (List ((Int × (Int × List (UInt8)))) × ((List (((Int × Int) × Nat)) × Nat) × (List (((List UInt8 × Int) × Nat)) × Nat))))) ⊕ ((Int × (Int × (Int × (List ((Int × (Int × List (UInt8)))) × ((List (((Int × Int) × Nat)) × Nat) × (List (((List UInt8 × Int) × Nat)) × Nat)))))) ⊕ (Unit ⊕ Bool))))))) (
                  bif (((r22.1.toNat : Nat) : Int) == 5) then
                    Option.bind (α := ((Bool × (Int × (Int × (List ((Int × (Int × List (UInt8)))) × ((List (((Int × Int) × Nat)) × Nat) × ((List (((List UInt8 × Int) × Nat)) × Nat) × (Int × (Int × (List (UInt8) × (Int × (Int × List (UInt8)))))))))))))) (
                      (net_Net_Take__com fu o26.2.2.2.2.2.2.2.2.2.1 o26.2.1 o26.2.2.1 o26.2.2.2.1 o26.2.2.2.2.1).bind fun r34 =>
                      match r34 with
                      | .inl r35 =>
                        some (r35.2.2.2.1, (r35.2.2.2.2.1, (r35.2.2.2.2.2.1, (r35.2.2.2.2.2.2.1, (r35.2.2.2.2.2.2.2, (o26.2.2.2.2.2.1, (o26.2.2.2.2.2.2.2.2.2.2.2.1, (o26.2.2.2.2.2.2.2.2.2.2.2.2.1, (o26.2.2.2.2.2.2.2.2.2.2.2.2.2, (r35.1, (r35.2.1, r35.2.2.1)))))))))))
                      | .inr r36 =>
                        some (r36.2.2.2.1, (r36.2.2.2.2.1, (r36.2.2.2.2.2.1, (r36.2.2.2.2.2.2.2.2, (r36.2.2.2.2.2.2.1, (o26.2.2.2.2.2.1, (o26.2.2.2.2.2.2.2.2.2.2.2.1, (o26.2.2.2.2.2.2.2.2.2.2.2.2.1, (o26.2.2.2.2.2.2.2.2.2.2.2.2.2, (r36.1, (r36.2.1, r36.2.2.1)))))))))))) fun o31 =>
                    Option.bind (α := ((Bool × (Int × (Int × (List ((Int × (Int × List (UInt8)))) × ((List (((Int × Int) × Nat)) × Nat) × ((List (((List UInt8 × Int) × Nat)) × Nat) × (Int × (Int × List (UInt8))))))))))) (
                      bif (!(o31.1 == r25.2.2.2.1)) then
                        some (true, (o31.2.1, (o31.2.2.1, (o31.2.2.2.1, (o31.2.2.2.2.1, (o31.2.2.2.2.2.1, (o31.2.2.2.2.2.2.1, (o31.2.2.2.2.2.2.2.1, o31.2.2.2.2.2.2.2.2.1))))))))
                      else
                        (law07_like fu (o31.2.2.2.2.2.2.2.2.2.1, (o31.2.2.2.2.2.2.2.2.2.2.1, o31.2.2.2.2.2.2.2.2.2.2.2)) (o31.2.2.2.2.2.2.1, (o31.2.2.2.2.2.2.2.1, o31.2.2.2.2.2.2.2.2.1))).bind fun r37 =>
                        some ((!r37), (o31.2.1, (o31.2.2.1, (o31.2.2.2.1, (o31.2.2.2.2.1, (o31.2.2.2.2.2.1, (o31.2.2.2.2.2.2.1, (o31.2.2.2.2.2.2.2.1, o31.2.2.2.2.2.2.2.2.1))))))))) fun o32 =>
                    bif o32.1 then
                      some (.inr (.inr (.inr (.inr (.inr (.inr false))))))
                    else
                      Option.bind (α := ((Int × (Int × (List ((Int × (Int × List (UInt8)))) × ((List (((Int × Int) × Nat)) × Nat) × (List (((List UInt8 × Int) × Nat)) × Nat))))))) (
                        bif o31.1 then
                          (law07_tag fu (o32.2.2.2.2.2.2.1, (o32.2.2.2.2.2.2.2.1, o32.2.2.2.2.2.2.2.2))).bind fun r38 =>
                          some (o32.2.1, (o32.2.2.1, (o32.2.2.2.1, (o32.2.2.2.2.1, (mput (k := .str) (v := (.int .i64)) o32.2.2.2.2.2.1 r38 (IntKind.wrap .i64 ((Option.getD (mget (k := .str) (v := (.int .i64)) o32.2.2.2.2.2.1 r38) 0) - 1)))))))
                        else
                          some (o32.2.1, (o32.2.2.1, (o32.2.2.2.1, (o32.2.2.2.2.1, o32.2.2.2.2.2.1))))) fun o33 =>
                      some (.inl (o33.1, (o33.2.1, (o33.2.2.1, (o33.2.2.2.1, o33.2.2.2.2)))))
                  else
                    Option.bind (α := ((Int × (Int × (List ((Int × (Int × List (UInt8)))) × ((List (((Int × Int) × Nat)) × Nat) × (List (((List UInt8 × Int) × Nat)) × Nat))))))) (
                      bif (((r22.1.toNat : Nat) : Int) == 6) then
                        Option.bind (α := ((Bool × (Int × (Int × (List ((Int × (Int × List (UInt8)))) × ((List (((Int × Int) × Nat)) × Nat) × ((List (((List UInt8 × Int) × Nat)) × Nat) × (Int × (Int × List (UInt8))))))))))) (
                          (net_Net_Drop__com fu o26.2.2.2.2.2.2.2.2.2.1 o26.2.1 o26.2.2.1 o26.2.2.2.1 o26.2.2.2.2.1).bind fun r39 =>
                          match r39 with
                          | .inl r40 =>
                            some (r40.1, (r40.2.1, (r40.2.2.1, (r40.2.2.2.1, (r40.2.2.2.2, (o26.2.2.2.2.2.1, (o26.2.2.2.2.2.2.2.2.2.2.2.1, (o26.2.2.2.2.2.2.2.2.2.2.2.2.1, o26.2.2.2.2.2.2.2.2.2.2.2.2.2))))))))
                          | .inr r41 =>
                            some (r41.1, (r41.2.1, (r41.2.2.1, (r41.2.2.2.2.2, (r41.2.2.2.1, (o26.2.2.2.2.2.1, (o26.2.2.2.2.2.2.2.2.2.2.2.1, (o26.2.2.2.2.2.2.2.2.2.2.2.2.1, o26.2.2.2.2.2.2.2.2.2.2.2.2.2))))))))) fun o34 =>
                        Option.bind (α := ((Int × (Int × (List ((Int × (Int × List (UInt8)))) × ((List (((Int × Int) × Nat)) × Nat) × (List (((List UInt8 × Int) × Nat)) × Nat))))))) (
                          bif o34.1 then
                            (law07_tag fu (o34.2.2.2.2.2.2.1, (o34.2.2.2.2.2.2.2.1, o34.2.2.2.2.2.2.2.2))).bind fun r42 =>
                            some (o34.2.1, (o34.2.2.1, (o34.2.2.2.1, (o34.2.2.2.2.1, (mput (k := .str) (v := (.int .i64)) o34.2.2.2.2.2.1 r42 (IntKind.wrap .i64 ((Option.getD (mget (k := .str) (v := (.int .i64)) o34.2.2.2.2.2.1 r42) 0) - 1)))))))
                          else
                            some (o34.2.1, (o34.2.2.1, (o34.2.2.2.1, (o34.2.2.2.2.1, o34.2.2.2.2.2.1))))) fun o35 =>
                        some (o35.1, (o35.2.1, (o35.2.2.1, (o35.2.2.2.1, o35.2.2.2.2))))
                      else
                        Option.bind (α := ((Int × (Int × (List ((Int × (Int × List (UInt8)))) × ((List (((Int × Int) × Nat)) × Nat) × (List (((List UInt8 × Int) × Nat)) × Nat))))))) (
                          bif (((r22.1.toNat : Nat) : Int) == 7) then
                            (law07_NetLedger_l2_it fu r24 (0, (o26.2.1, (o26.2.2.1, (o26.2.2.2.1, (o26.2.2.2.2.1, o26.2.2.2.2.2.1)))))).bind fun o37 =>
                            (net_Net_Forget__com fu r24 o37.1 o37.2.1 o37.2.2.1 o37.2.2.2.1).bind fun r46 =>
                            some (r46.2.1, (r46.2.2.1, (r46.2.2.2.2, (r46.2.2.2.1, o37.2.2.2.2))))
                          else
                            some (o26.2.1, (o26.2.2.1, (o26.2.2.2.1, (o26.2.2.2.2.1, o26.2.2.2.2.2.1))))) fun o38 =>
                        some (o38.1, (o38.2.1, (o38.2.2.1, (o38.2.2.2.1, o38.2.2.2.2))))) fun o39 =>
                    some (.inl (o39.1, (o39.2.1, (o39.2.2.1, (o39.2.2.2.1, o39.2.2.2.2)))))) fun o40 =>
                match o40 with
                | .inl s5 =>
                  some (.inl (s5.1, (s5.2.1, (s5.2.2.1, (s5.2.2.2.1, s5.2.2.2.2)))))
                | .inr o41 =>
                  some o41) fun o42 =>
            match o42 with
            | .inl s6 =>
              some (.inl (s6.1, (s6.2.1, (s6.2.2.1, (s6.2.2.2.1, s6.2.2.2.2)))))
            | .inr o43 =>
              some o43) fun o44 =>
        match o44 with
        | .inl s7 =>
          (law07_balanced_m1_com fu s7.1 s7.2.1 s7.2.2.1 s7.2.2.2.1 s7.2.2.2.2).bind fun r47 =>
          bif (!r47.1) then
            some (.inr (.inr (.inr false)))
          else
            some (.inl (r47.2.1, (r47.2.2.1, (r47.2.2.2.1, (r47.2.2.2.2.1, r47.2.2.2.2.2)))))
        | .inr o45 =>
          some o45) fun o46 =>
    match o46 with
    | .inl s8 =>
      some (.inl ((IntKind.wrap .i64 (i1 + 1)), (s8.1, (s8.2.1, (s8.2.2.1, (s8.2.2.2.1, s8.2.2.2.2))))))
    | .inr o47 =>
      some o47
  else
    some (.inr (.inl ()))
def law07_NetLedger_l3_it (fu : Nat) (l : List ((UInt8 × (Int × (Int × (Int × List (UInt8))))))) (tt : (Int × (Int × (Int × (List ((Int × (Int × List (UInt8)))) × ((List (((Int × Int) × Nat)) × Nat) × (List (((List UInt8 × Int) × Nat)) × Nat))))))) : Option (Unit ⊕ Bool) :=
  iter fu (fun tt => law07_NetLedger_l3 fu l tt.1 tt.2.1 tt.2.2.1 tt.2.2.2.1 tt.2.2.2.2.1 tt.2.2.2.2.2) tt
def law07_NetLedger (fu : Nat) (l : List ((UInt8 × (Int × (Int × (Int × List (UInt8))))))) : Option (Bool) :=
  (net_New fu 5 12).bind fun r =>
  match r with
  | .inl r1 =>
    bif (!(r1 == 0)) then
      some false
    else
      (law07_NetLedger_l1_it fu l (0, ([], 0))).bind fun o21 =>
      match o21 with
      | .inl s4 =>
        (law07_awake fu).bind fun r21 =>
        some r21
      | .inr o22 =>
        some o22
  | .inr r2 =>
    bif (!(r2.1 == 0)) then
      some false
    else
      (law07_NetLedger_l3_it fu l (0, (r2.2.1, (r2.2.2.1, ([], (r2.2.2.2, ([], 0))))))).bind fun o48 =>
      match o48 with
      | .inl s9 =>
        (law07_awake fu).bind fun r48 =>
        some r48
      | .inr o49 =>
        some o49
def law07_NetLedger_fa : FnA := ⟨.two (.leaf) (.two (.reg [(0, { ids := [100, 101] })]) (.sel (.slot 3 (.nilp (.pointer none))) (.two (.two (.leaf) (.two (.leaf) (.leaf))) (.two (.reg [(0, { ids := [103] })]) (.two (.two (.leaf) (.one (.loop ⟨[5, 6], ⟨(.cons (.mp 103) (.cons (.p (.int .i64)) .nil)), [(103, false, (.map .str (.int .i64)))]⟩⟩ true [(0, ⟨[], ⟨.nil, []⟩⟩)] (.two (.two (.join ⟨[5, 31], ⟨(.cons (.mp 103) (.cons (.p .bool) .nil)), [(103, false, (.map .str (.int .i64)))]⟩⟩ false [] (.leaf)) (.leaf)) (.two (.join ⟨[5], ⟨(.cons (.mp 103) .nil), [(103, false, (.map .str (.int .i64)))]⟩⟩ true [] (.one (.two (.reg [(4, { ids := [104] })]) (.two (.two (.leaf) (.leaf)) (.two (.reg [(2, { fn := 1 }), (5, { fn := 1 })]) (.two (.reg [(3, { fn := 2 }), (7, { ids := [105] })]) (.two (.two (.leaf) (.one (.two (.two (.leaf) (.join ⟨[5, 7, 10, 57], ⟨(.cons (.mp 103) (.cons (.own 0 104 0 0) (.cons (.own 0 105 0 0) (.cons (.p .bool) .nil)))), [(103, false, (.map .str (.int .i64))), (104, false, (.vars (.cons (.p (.int .u8)) (.cons (.p (.int .i64)) (.cons (.p (.int .i64)) (.cons (.p (.int .i64)) (.cons (.p (.sl .byte)) .nil))))))), (105, false, (.vars (.cons (.p (.int .i64)) (.cons (.p (.int .i64)) (.cons (.nilp (.slice none 0 0)) .nil)))))]⟩⟩ false [] (.two (.leaf) (.two (.leaf) (.join ⟨[5, 7, 10, 57], ⟨(.cons (.mp 103) (.cons (.own 0 104 0 0) (.cons (.own 0 105 0 0) (.cons (.p .bool) .nil)))), [(103, false, (.map .str (.int .i64))), (104, false, (.vars (.cons (.p (.int .u8)) (.cons (.p (.int .i64)) (.cons (.p (.int .i64)) (.cons (.p (.int .i64)) (.cons (.p (.sl .byte)) .nil))))))), (105, false, (.vars (.cons (.p (.int .i64)) (.cons (.p (.int .i64)) (.cons (.nilp (.slice none 0 0)) .nil)))))]⟩⟩ false [] (.two (.leaf) (.two (.leaf) (.join ⟨[5, 7, 10, 57], ⟨(.cons (.mp 103) (.cons (.own 0 104 0 0) (.cons (.own 0 105 0 0) (.cons (.p .bool) .nil)))), [(103, false, (.map .str (.int .i64))), (104, false, (.vars (.cons (.p (.int .u8)) (.cons (.p (.int .i64)) (.cons (.p (.int .i64)) (.cons (.p (.int .i64)) (.cons (.p (.sl .byte)) .nil))))))), (105, false, (.vars (.cons (.p (.int .i64)) (.cons (.p (.int .i64)) (.cons (.nilp (.slice none 0 0)) .nil)))))]⟩⟩ false [] (.leaf))))))))) (.join ⟨[5], ⟨(.cons (.mp 103) .nil), [(103, false, (.map .str (.int .i64)))]⟩⟩ true [] (.two (.two (.reg [(5, { fn := 3 })]) (.join ⟨[5], ⟨(.cons (.mp 103) .nil), [(103, false, (.map .str (.int .i64)))]⟩⟩ false [] (.two (.reg [(6, { fn := 4 })]) (.leaf)))) (.two (.leaf) (.join ⟨[5], ⟨(.cons (.mp 103) .nil), [(103, false, (.map .str (.int .i64)))]⟩⟩ true [] (.two (.two (.reg [(3, { fn := 5 })]) (.join ⟨[5], ⟨(.cons (.mp 103) .nil), [(103, false, (.map .str (.int .i64)))]⟩⟩ false [] (.two (.reg [(2, { fn := 4 })]) (.leaf)))) (.two (.leaf) (.join ⟨[5], ⟨(.cons (.mp 103) .nil), [(103, false, (.map .str (.int .i64)))]⟩⟩ true [] (.two (.two (.reg [(3, { fn := 6 }), (7, { ids := [106] })]) (.two (.two (.join ⟨[5, 10, 107], ⟨(.cons (.mp 103) (.cons (.own 0 105 0 0) (.cons (.p .bool) .nil))), [(103, false, (.map .str (.int .i64))), (105, false, (.vars (.cons (.p (.int .i64)) (.cons (.p (.int .i64)) (.cons (.nilp (.slice none 0 0)) .nil)))))]⟩⟩ false [] (.reg [(6, { fn := 7 })])) (.two (.leaf) (.leaf))) (.two (.leaf) (.join ⟨[5], ⟨(.cons (.mp 103) .nil), [(103, false, (.map .str (.int .i64)))]⟩⟩ false [] (.two (.reg [(2, { fn := 4 })]) (.leaf)))))) (.two (.leaf) (.join ⟨[5], ⟨(.cons (.mp 103) .nil), [(103, false, (.map .str (.int .i64)))]⟩⟩ false [] (.two (.two (.reg [(3, { fn := 8 })]) (.join ⟨[5], ⟨(.cons (.mp 103) .nil), [(103, false, (.map .str (.int .i64)))]⟩⟩ false [] (.two (.reg [(2, { fn := 4 })]) (.leaf)))) (.two (.leaf) (.join ⟨[5], ⟨(.cons (.mp 103) .nil), [(103, false, (.map .str (.int .i64)))]⟩⟩ false [] (.two (.two (.two (.leaf) (.one (.loop ⟨[5, 14], ⟨(.cons (.mp 103) (.cons (.p (.int .i64)) .nil)), [(103, false, (.map .str (.int .i64)))]⟩⟩ false [(3, ⟨[5], ⟨(.cons (.mp 103) .nil), [(103, false, (.map .str (.int .i64)))]⟩⟩)] (.two (.two (.reg [(2, { fn := 9 })]) (.leaf)) (.two (.one (.two (.reg [(2, { fn := 2 }), (6, { ids := [107] })]) (.two (.leaf) (.join ⟨[5], ⟨(.cons (.mp 103) .nil), [(103, false, (.map .str (.int .i64)))]⟩⟩ false [] (.two (.reg [(2, { fn := 4 })]) (.leaf)))))) (.leaf)))))) (.reg [(2, { fn := 10 })])) (.leaf)))))))))))))))))) (.two (.reg [(2, { sh := [103], fn := 11 })]) (.two (.leaf) (.leaf)))))))))) (.leaf)))))) (.two (.reg [(0, { fn := 12 })]) (.leaf))))) (.two (.two (.leaf) (.two (.leaf) (.leaf))) (.two (.reg [(0, { ids := [103] })]) (.two (.two (.leaf) (.one (.pre (.ownCell 100 2 33 104) (.loop ⟨[3, 5, 6], ⟨(.cons (.own 0 100 0 0) (.cons (.mp 103) (.cons (.p (.int .i64)) .nil))), [(100, false, (.vars (.cons (.p (.int .i64)) (.cons (.p (.int .i64)) (.cons (.slf 3 104) (.cons (.mp 101) .nil)))))), (104, false, (.rows 33 (.pair (.int .i64) (.pair (.int .i64) (.sl .byte))))), (101, false, (.map (.int .i64) (.int .i64))), (103, false, (.map .str (.int .i64)))]⟩⟩ true [(0, ⟨[], ⟨.nil, []⟩⟩)] (.two (.two (.join ⟨[3, 5, 31], ⟨(.cons (.own 0 100 0 0) (.cons (.mp 103) (.cons (.p .bool) .nil))), [(100, false, (.vars (.cons (.p (.int .i64)) (.cons (.p (.int .i64)) (.cons (.slf 3 104) (.cons (.mp 101) .nil)))))), (104, false, (.rows 33 (.pair (.int .i64) (.pair (.int .i64) (.sl .byte))))), (101, false, (.map (.int .i64) (.int .i64))), (103, false, (.map .str (.int .i64)))]⟩⟩ false [] (.leaf)) (.leaf)) (.two (.join ⟨[3, 5], ⟨(.cons (.own 0 100 0 0) (.cons (.mp 103) .nil)), [(100, false, (.vars (.cons (.p (.int .i64)) (.cons (.p (.int .i64)) (.cons (.slf 3 104) (.cons (.mp 101) .nil)))))), (104, false, (.rows 33 (.pair (.int .i64) (.pair (.int .i64) (.sl .byte))))), (101, false, (.map (.int .i64) (.int .i64))), (103, false, (.map .str (.int .i64)))]⟩⟩ true [] (.one (.two (.reg [(4, { ids := [105] })]) (.two (.two (.leaf) (.leaf)) (.two (.reg [(2, { fn := 1 }), (5, { fn := 1 })]) (.two (.reg [(3, { sh := [100, 104, 101], fn := 13 }), (7, { ids := [106] })]) (.two (.two (.leaf) (.one (.two (.two (.leaf) (.join ⟨[3, 5, 7, 10, 57], ⟨(.cons (.own 0 100 0 0) (.cons (.mp 103) (.cons (.own 0 105 0 0) (.cons (.own 0 106 0 0) (.cons (.p .bool) .nil))))), [(100, false, (.vars (.cons (.p (.int .i64)) (.cons (.p (.int .i64)) (.cons (.slf 3 104) (.cons (.mp 101) .nil)))))), (104, false, (.rows 33 (.pair (.int .i64) (.pair (.int .i64) (.sl .byte))))), (101, false, (.map (.int .i64) (.int .i64))), (103, false, (.map .str (.int .i64))), (105, false, (.vars (.cons (.p (.int .u8)) (.cons (.p (.int .i64)) (.cons (.p (.int .i64)) (.cons (.p (.int .i64)) (.cons (.p (.sl .byte)) .nil))))))), (106, false, (.vars (.cons (.p (.int .i64)) (.cons (.p (.int .i64)) (.cons (.p (.sl .byte)) .nil)))))]⟩⟩ false [] (.two (.leaf) (.two (.leaf) (.join ⟨[3, 5, 7, 10, 57], ⟨(.cons (.own 0 100 0 0) (.cons (.mp 103) (.cons (.own 0 105 0 0) (.cons (.own 0 106 0 0) (.cons (.p .bool) .nil))))), [(100, false, (.vars (.cons (.p (.int .i64)) (.cons (.p (.int .i64)) (.cons (.slf 3 104) (.cons (.mp 101) .nil)))))), (104, false, (.rows 33 (.pair (.int .i64) (.pair (.int .i64) (.sl .byte))))), (101, false, (.map (.int .i64) (.int .i64))), (103, false, (.map .str (.int .i64))), (105, false, (.vars (.cons (.p (.int .u8)) (.cons (.p (.int .i64)) (.cons (.p (.int .i64)) (.cons (.p (.int .i64)) (.cons (.p (.sl .byte)) .nil))))))), (106, false, (.vars (.cons (.p (.int .i64)) (.cons (.p (.int .i64)) (.cons (.p (.sl .byte)) .nil)))))]⟩⟩ false [] (.two (.leaf) (.two (.leaf) (.join ⟨[3, 5, 7, 10, 57], ⟨(.cons (.own 0 100 0 0) (.cons (.mp 103) (.cons (.own 0 105 0 0) (.cons (.own 0 106 0 0) (.cons (.p .bool) .nil))))), [(100, false, (.vars (.cons (.p (.int .i64)) (.cons (.p (.int .i64)) (.cons (.slf 3 104) (.cons (.mp 101) .nil)))))), (104, false, (.rows 33 (.pair (.int .i64) (.pair (.int .i64) (.sl .byte))))), (101, false, (.map (.int .i64) (.int .i64))), (103, false, (.map .str (.int .i64))), (105, false, (.vars (.cons (.p (.int .u8)) (.cons (.p (.int .i64)) (.cons (.p (.int .i64)) (.cons (.p (.int .i64)) (.cons (.p (.sl .byte)) .nil))))))), (106, false, (.vars (.cons (.p (.int .i64)) (.cons (.p (.int .i64)) (.cons (.p (.sl .byte)) .nil)))))]⟩⟩ false [] (.leaf))))))))) (.join ⟨[3, 5], ⟨(.cons (.own 0 100 0 0) (.cons (.mp 103) .nil)), [(100, false, (.vars (.cons (.p (.int .i64)) (.cons (.p (.int .i64)) (.cons (.slf 3 104) (.cons (.mp 101) .nil)))))), (104, false, (.rows 33 (.pair (.int .i64) (.pair (.int .i64) (.sl .byte))))), (101, false, (.map (.int .i64) (.int .i64))), (103, false, (.map .str (.int .i64)))]⟩⟩ true [] (.two (.two (.join ⟨[3, 5, 7, 68], ⟨(.cons (.own 0 100 0 0) (.cons (.mp 103) (.cons (.own 0 105 0 0) (.cons (.p .bool) .nil)))), [(100, false, (.vars (.cons (.p (.int .i64)) (.cons (.p (.int .i64)) (.cons (.slf 3 104) (.cons (.mp 101) .nil)))))), (104, false, (.rows 33 (.pair (.int .i64) (.pair (.int .i64) (.sl .byte))))), (101, false, (.map (.int .i64) (.int .i64))), (103, false, (.map .str (.int .i64))), (105, false, (.vars (.cons (.p (.int .u8)) (.cons (.p (.int .i64)) (.cons (.p (.int .i64)) (.cons (.p (.int .i64)) (.cons (.p (.sl .byte)) .nil)))))))]⟩⟩ false [] (.reg [(5, { ids := [107], sh := [100, 104, 101], fn := 14 })])) (.join ⟨[3, 5], ⟨(.cons (.own 0 100 0 0) (.cons (.mp 103) .nil)), [(100, false, (.vars (.cons (.p (.int .i64)) (.cons (.p (.int .i64)) (.cons (.slf 3 104) (.cons (.mp 101) .nil)))))), (104, false, (.rows 33 (.pair (.int .i64) (.pair (.int .i64) (.sl .byte))))), (101, false, (.map (.int .i64) (.int .i64))), (103, false, (.map .str (.int .i64)))]⟩⟩ false [] (.two (.reg [(6, { fn := 4 })]) (.leaf)))) (.two (.leaf) (.join ⟨[3, 5], ⟨(.cons (.own 0 100 0 0) (.cons (.mp 103) .nil)), [(100, false, (.vars (.cons (.p (.int .i64)) (.cons (.p (.int .i64)) (.cons (.slf 3 104) (.cons (.mp 101) .nil)))))), (104, false, (.rows 33 (.pair (.int .i64) (.pair (.int .i64) (.sl .byte))))), (101, false, (.map (.int .i64) (.int .i64))), (103, false, (.map .str (.int .i64)))]⟩⟩ true [] (.two (.two (.join ⟨[3, 5, 10, 84], ⟨(.cons (.own 0 100 0 0) (.cons (.mp 103) (.cons (.own 0 106 0 0) (.cons (.p .bool) .nil)))), [(100, false, (.vars (.cons (.p (.int .i64)) (.cons (.p (.int .i64)) (.cons (.slf 3 104) (.cons (.mp 101) .nil)))))), (104, false, (.rows 33 (.pair (.int .i64) (.pair (.int .i64) (.sl .byte))))), (101, false, (.map (.int .i64) (.int .i64))), (103, false, (.map .str (.int .i64))), (106, false, (.vars (.cons (.p (.int .i64)) (.cons (.p (.int .i64)) (.cons (.p (.sl .byte)) .nil)))))]⟩⟩ false [] (.reg [(3, { ids := [108], sh := [100, 104, 101], fn := 15 })])) (.join ⟨[3, 5], ⟨(.cons (.own 0 100 0 0) (.cons (.mp 103) .nil)), [(100, false, (.vars (.cons (.p (.int .i64)) (.cons (.p (.int .i64)) (.cons (.slf 3 104) (.cons (.mp 101) .nil)))))), (104, false, (.rows 33 (.pair (.int .i64) (.pair (.int .i64) (.sl .byte))))), (101, false, (.map (.int .i64) (.int .i64))), (103, false, (.map .str (.int .i64)))]⟩⟩ false [] (.two (.reg [(2, { fn := 4 })]) (.leaf)))) (.two (.leaf) (.join ⟨[3, 5], ⟨(.cons (.own 0 100 0 0) (.cons (.mp 103) .nil)), [(100, false, (.vars (.cons (.p (.int .i64)) (.cons (.p (.int .i64)) (.cons (.slf 3 104) (.cons (.mp 101) .nil)))))), (104, false, (.rows 33 (.pair (.int .i64) (.pair (.int .i64) (.sl .byte))))), (101, false, (.map (.int .i64) (.int .i64))), (103, false, (.map .str (.int .i64)))]⟩⟩ true [] (.two (.two (.join ⟨[3, 5, 10, 12, 13], ⟨(.cons (.own 0 100 0 0) (.cons (.mp 103) (.cons (.own 0 106 0 0) (.cons (.own 0 110 0 0) (.cons (.p .bool) .nil))))), [(100, false, (.vars (.cons (.p (.int .i64)) (.cons (.p (.int .i64)) (.cons (.slf 3 104) (.cons (.mp 101) .nil)))))), (104, false, (.rows 33 (.pair (.int .i64) (.pair (.int .i64) (.sl .byte))))), (101, false, (.map (.int .i64) (.int .i64))), (103, false, (.map .str (.int .i64))), (106, false, (.vars (.cons (.p (.int .i64)) (.cons (.p (.int .i64)) (.cons (.p (.sl .byte)) .nil))))), (110, false, (.vars (.cons (.p (.int .i64)) (.cons (.p (.int .i64)) (.cons (.p (.sl .byte)) .nil)))))]⟩⟩ false [] (.reg [(3, { ids := [109], sh := [100, 104, 101], fn := 16 }), (7, { ids := [110] })])) (.two (.two (.join ⟨[3, 5, 10, 107], ⟨(.cons (.own 0 100 0 0) (.cons (.mp 103) (.cons (.own 0 106 0 0) (.cons (.p .bool) .nil)))), [(100, false, (.vars (.cons (.p (.int .i64)) (.cons (.p (.int .i64)) (.cons (.slf 3 104) (.cons (.mp 101) .nil)))))), (104, false, (.rows 33 (.pair (.int .i64) (.pair (.int .i64) (.sl .byte))))), (101, false, (.map (.int .i64) (.int .i64))), (103, false, (.map .str (.int .i64))), (106, false, (.vars (.cons (.p (.int .i64)) (.cons (.p (.int .i64)) (.cons (.p (.sl .byte)) .nil)))))]⟩⟩ false [] (.reg [(6, { fn := 7 })])) (.two (.leaf) (.leaf))) (.two (.leaf) (.join ⟨[3, 5], ⟨(.cons (.own 0 100 0 0) (.cons (.mp 103) .nil)), [(100, false, (.vars (.cons (.p (.int .i64)) (.cons (.p (.int .i64)) (.cons (.slf 3 104) (.cons (.mp 101) .nil)))))), (104, false, (.rows 33 (.pair (.int .i64) (.pair (.int .i64) (.sl .byte))))), (101, false, (.map (.int .i64) (.int .i64))), (103, false, (.map .str (.int .i64)))]⟩⟩ false [] (.two (.reg [(2, { fn := 4 })]) (.leaf)))))) (.two (.leaf) (.join ⟨[3, 5], ⟨(.cons (.own 0 100 0 0) (.cons (.mp 103) .nil)), [(100, false, (.vars (.cons (.p (.int .i64)) (.cons (.p (.int .i64)) (.cons (.slf 3 104) (.cons (.mp 101) .nil)))))), (104, false, (.rows 33 (.pair (.int .i64) (.pair (.int .i64) (.sl .byte))))), (101, false, (.map (.int .i64) (.int .i64))), (103, false, (.map .str (.int .i64)))]⟩⟩ false [] (.two (.two (.join ⟨[3, 5, 10, 119], ⟨(.cons (.own 0 100 0 0) (.cons (.mp 103) (.cons (.own 0 106 0 0) (.cons (.p .bool) .nil)))), [(100, false, (.vars (.cons (.p (.int .i64)) (.cons (.p (.int .i64)) (.cons (.slf 3 104) (.cons (.mp 101) .nil)))))), (104, false, (.rows 33 (.pair (.int .i64) (.pair (.int .i64) (.sl .byte))))), (101, false, (.map (.int .i64) (.int .i64))), (103, false, (.map .str (.int .i64))), (106, false, (.vars (.cons (.p (.int .i64)) (.cons (.p (.int .i64)) (.cons (.p (.sl .byte)) .nil)))))]⟩⟩ false [] (.reg [(3, { ids := [111], sh := [100, 104, 101], fn := 17 })])) (.join ⟨[3, 5], ⟨(.cons (.own 0 100 0 0) (.cons (.mp 103) .nil)), [(100, false, (.vars (.cons (.p (.int .i64)) (.cons (.p (.int .i64)) (.cons (.slf 3 104) (.cons (.mp 101) .nil)))))), (104, false, (.rows 33 (.pair (.int .i64) (.pair (.int .i64) (.sl .byte))))), (101, false, (.map (.int .i64) (.int .i64))), (103, false, (.map .str (.int .i64)))]⟩⟩ false [] (.two (.reg [(2, { fn := 4 })]) (.leaf)))) (.two (.leaf) (.join ⟨[3, 5], ⟨(.cons (.own 0 100 0 0) (.cons (.mp 103) .nil)), [(100, false, (.vars (.cons (.p (.int .i64)) (.cons (.p (.int .i64)) (.cons (.slf 3 113) (.cons (.mp 101) .nil)))))), (113, false, (.rows 33 (.pair (.int .i64) (.pair (.int .i64) (.sl .byte))))), (101, false, (.map (.int .i64) (.int .i64))), (103, false, (.map .str (.int .i64)))]⟩⟩ false [] (.two (.two (.two (.leaf) (.one (.loop ⟨[3, 5, 14], ⟨(.cons (.own 0 100 0 0) (.cons (.mp 103) (.cons (.p (.int .i64)) .nil))), [(100, false, (.vars (.cons (.p (.int .i64)) (.cons (.p (.int .i64)) (.cons (.slf 3 104) (.cons (.mp 101) .nil)))))), (104, false, (.rows 33 (.pair (.int .i64) (.pair (.int .i64) (.sl .byte))))), (101, false, (.map (.int .i64) (.int .i64))), (103, false, (.map .str (.int .i64)))]⟩⟩ false [(3, ⟨[3, 5], ⟨(.cons (.own 0 100 0 0) (.cons (.mp 103) .nil)), [(100, false, (.vars (.cons (.p (.int .i64)) (.cons (.p (.int .i64)) (.cons (.slf 3 104) (.cons (.mp 101) .nil)))))), (104, false, (.rows 33 (.pair (.int .i64) (.pair (.int .i64) (.sl .byte))))), (101, false, (.map (.int .i64) (.int .i64))), (103, false, (.map .str (.int .i64)))]⟩⟩)] (.two (.two (.reg [(2, { sh := [100, 104, 101], fn := 18 })]) (.leaf)) (.two (.one (.two (.reg [(2, { sh := [100, 104, 101], fn := 13 }), (6, { ids := [112] })]) (.two (.leaf) (.join ⟨[3, 5], ⟨(.cons (.own 0 100 0 0) (.cons (.mp 103) .nil)), [(100, false, (.vars (.cons (.p (.int .i64)) (.cons (.p (.int .i64)) (.cons (.slf 3 104) (.cons (.mp 101) .nil)))))), (104, false, (.rows 33 (.pair (.int .i64) (.pair (.int .i64) (.sl .byte))))), (101, false, (.map (.int .i64) (.int .i64))), (103, false, (.map .str (.int .i64)))]⟩⟩ false [] (.two (.reg [(2, { fn := 4 })]) (.leaf)))))) (.leaf)))))) (.reg [(2, { ids := [113], sh := [100, 104, 101], fn := 19 })])) (.leaf)))))))))))))))))) (.two (.reg [(2, { sh := [100, 104, 101, 103], fn := 20 })]) (.two (.leaf) (.leaf)))))))))) (.leaf))))))) (.two (.reg [(0, { fn := 12 })]) (.leaf))))))), ⟨(.cons (.p (.sl (.pair .byte (.pair (.int .i64) (.pair (.int .i64) (.pair (.int .i64) (.sl .byte))))))) .nil), []⟩, [⟨(.cons (.p .bool) .nil), []⟩], [0]⟩
def law07_NetLedger_ft (fu : Nat) : FnT := ⟨3, ⟨(.cons (.p (.sl (.pair .byte (.pair (.int .i64) (.pair (.int .i64) (.pair (.int .i64) (.sl .byte))))))) .nil), []⟩, [⟨(.cons (.p .bool) .nil), []⟩], fun t => law07_NetLedger fu t⟩
theorem law07_NetLedger_eq (fu : Nat) : ∀ t, evF Go.Proofs.Try.prog [net_New_ft fu, low_Pick_ft fu, net_Net_Look_n0_ft fu, net_Net_Send_n0_ft fu, law07_tag_ft fu, net_Net_Copy_n0_ft fu, net_Net_Take_n0_ft fu, law07_like_ft fu, net_Net_Drop_n0_ft fu, net_Net_Flying_n0_ft fu, net_Net_Forget_n0_ft fu, law07_balanced_n0m1_ft fu, law07_awake_ft fu, net_Net_Look__com_ft fu, net_Net_Send__com_ft fu, net_Net_Copy__com_ft fu, net_Net_Take__com_ft fu, net_Net_Drop__com_ft fu, net_Net_Flying__com_ft fu, net_Net_Forget__com_ft fu, law07_balanced_m1_com_ft fu] fu Go.Proofs.Try.f3 law07_NetLedger_fa t = (law07_NetLedger_ft fu).spec t := fun t => by kernel_rfl
theorem law07_NetLedger_told (fu : Nat) : Told Go.Proofs.Try.prog (law07_NetLedger_ft fu) := told_of (allT_cons (net_New_told fu) (allT_cons (low_Pick_told fu) (allT_cons (net_Net_Look_n0_told fu) (allT_cons (net_Net_Send_n0_told fu) (allT_cons (law07_tag_told fu) (allT_cons (net_Net_Copy_n0_told fu) (allT_cons (net_Net_Take_n0_told fu) (allT_cons (law07_like_told fu) (allT_cons (net_Net_Drop_n0_told fu) (allT_cons (net_Net_Flying_n0_told fu) (allT_cons (net_Net_Forget_n0_told fu) (allT_cons (law07_balanced_n0m1_told fu) (allT_cons (law07_awake_told fu) (allT_cons (net_Net_Look__com_told fu) (allT_cons (net_Net_Send__com_told fu) (allT_cons (net_Net_Copy__com_told fu) (allT_cons (net_Net_Take__com_told fu) (allT_cons (net_Net_Drop__com_told fu) (allT_cons (net_Net_Flying__com_told fu) (allT_cons (net_Net_Forget__com_told fu) (allT_cons (law07_balanced_m1_com_told fu) allT_nil))))))))))))))))))))) mixed Go.Proofs.Try.func3 (by kernel_rfl) (by kernel_rfl) (law07_NetLedger_eq fu)
end
end Go.Ab.D
