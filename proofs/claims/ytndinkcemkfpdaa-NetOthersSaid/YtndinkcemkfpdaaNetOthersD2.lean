/- Functions of the program as plain Lean functions: each equation is checked by the kernel; what is told of a function follows from it. -/
import Derived.Test.YtndinkcemkfpdaaNetOthersD1
set_option linter.all false
set_option maxRecDepth 100000
set_option maxHeartbeats 4000000
namespace Go.Ab.D
open Go Go.Ab
noncomputable section
def law07_deed__com (fu : Nat) (do_ : Int) (from_ : Int) (to_ : Int) (at_ : Int) (b : List (UInt8)) (h : Int) (h1 : Int) (h2 : List ((Int × (Int × List (UInt8))))) (h3 : (List (((Int × Int) × Nat)) × Nat)) : Option ((List UInt8 × (Int × (Int × (List ((Int × (Int × List (UInt8)))) × (List (((Int × Int) × Nat)) × Nat))))) ⊕ (List UInt8 × (Int × (Int × ((List (((Int × Int) × Nat)) × Nat) × List ((Int × (Int × List (UInt8))))))))) :=
  Option.bind (α := ((Bool × (Int × (Int × (List ((Int × (Int × List (UInt8)))) × (List (((Int × Int) × Nat)) × Nat))))))) (
    bif (do_ == 0) then
      some ((do_ == 0), (h, (h1, (h2, h3))))
    else
      Option.bind (α := ((Bool × (Int × (Int × (List ((Int × (Int × List (UInt8)))) × (List (((Int × Int) × Nat)) × Nat))))))) (
        bif (do_ == 1) then
          some ((do_ == 1), (h, (h1, (h2, h3))))
        else
          Option.bind (α := ((Bool × (Int × (Int × (List ((Int × (Int × List (UInt8)))) × (List (((Int × Int) × Nat)) × Nat))))))) (
            bif (do_ == 2) then
              some ((do_ == 2), (h, (h1, (h2, h3))))
            else
              some ((do_ == 3), (h, (h1, (h2, h3))))) fun o =>
          some (o.1, (o.2.1, (o.2.2.1, (o.2.2.2.1, o.2.2.2.2))))) fun o1 =>
      some (o1.1, (o1.2.1, (o1.2.2.1, (o1.2.2.2.1, o1.2.2.2.2))))) fun o2 =>
  bif o2.1 then
    (net_Net_Send__com fu from_ to_ b o2.2.1 o2.2.2.1 o2.2.2.2.1 o2.2.2.2.2).bind fun r =>
    match r with
    | .inl r1 =>
      (byte? (IntKind.wrap .u8 r1.1)).bind fun c =>
      some (.inl ([c], (r1.2.1, (r1.2.2.1, (r1.2.2.2.1, r1.2.2.2.2)))))
    | .inr r2 =>
      (byte? (IntKind.wrap .u8 r2.1)).bind fun c1 =>
      some (.inr ([c1], (r2.2.1, (r2.2.2.1, (r2.2.2.2.1, r2.2.2.2.2)))))
  else
    bif (do_ == 4) then
      (net_Net_Copy__com fu at_ o2.2.1 o2.2.2.1 o2.2.2.2.1 o2.2.2.2.2).bind fun r3 =>
      match r3 with
      | .inl r4 =>
        (byte? (IntKind.wrap .u8 r4.1)).bind fun c2 =>
        some (.inl ([c2], (r4.2.1, (r4.2.2.1, (r4.2.2.2.1, r4.2.2.2.2)))))
      | .inr r5 =>
        (byte? (IntKind.wrap .u8 r5.1)).bind fun c3 =>
        some (.inr ([c3], (r5.2.1, (r5.2.2.1, (r5.2.2.2.1, r5.2.2.2.2)))))
    else
      bif (do_ == 5) then
        Option.bind (α := ((Int × (Int × (List ((Int × (Int × List (UInt8)))) × ((List (((Int × Int) × Nat)) × Nat) × (Int × (Int × List (UInt8))))))))) (
          (net_Net_Take__com fu at_ o2.2.1 o2.2.2.1 o2.2.2.2.1 o2.2.2.2.2).bind fun r6 =>
          match r6 with
          | .inl r7 =>
            some (r7.2.2.2.2.1, (r7.2.2.2.2.2.1, (r7.2.2.2.2.2.2.1, (r7.2.2.2.2.2.2.2, (r7.1, (r7.2.1, r7.2.2.1))))))
          | .inr r8 =>
            some (r8.2.2.2.2.1, (r8.2.2.2.2.2.1, (r8.2.2.2.2.2.2.2.2, (r8.2.2.2.2.2.2.1, (r8.1, (r8.2.1, r8.2.2.1))))))) fun o3 =>
        (law07_tag fu (o3.2.2.2.2.1, (o3.2.2.2.2.2.1, o3.2.2.2.2.2.2))).bind fun r9 =>
        some (.inr (r9, (o3.1, (o3.2.1, (o3.2.2.2.1, o3.2.2.1)))))
      else
        bif (do_ == 6) then
          (net_Net_Drop__com fu at_ o2.2.1 o2.2.2.1 o2.2.2.2.1 o2.2.2.2.2).bind fun r10 =>
          match r10 with
          | .inl r11 =>
            some (.inr ([], (r11.2.1, (r11.2.2.1, (r11.2.2.2.2, r11.2.2.2.1)))))
          | .inr r12 =>
            some (.inr ([], (r12.2.1, (r12.2.2.1, (r12.2.2.2.1, r12.2.2.2.2.2)))))
        else
          bif (do_ == 7) then
            (net_Net_Forget__com fu to_ o2.2.1 o2.2.2.1 o2.2.2.2.1 o2.2.2.2.2).bind fun r13 =>
            (byte? (IntKind.wrap .u8 r13.1)).bind fun c4 =>
            some (.inr ([c4], (r13.2.1, (r13.2.2.1, (r13.2.2.2.1, r13.2.2.2.2)))))
          else
            some (.inr ([], (o2.2.1, (o2.2.2.1, (o2.2.2.2.2, o2.2.2.2.1)))))
def law07_deed__com_fa : FnA := ⟨.two (.leaf) (.two (.two (.leaf) (.one (.two (.two (.leaf) (.join ⟨[0, 16], ⟨(.cons (.own 0 0 0 0) (.cons (.p .bool) .nil)), [(0, false, (.vars (.cons (.p (.int .i64)) (.cons (.p (.int .i64)) (.cons (.slf 3 1) (.cons (.mp 2) .nil)))))), (1, false, (.rows 34 (.pair (.int .i64) (.pair (.int .i64) (.sl .byte))))), (2, false, (.map (.int .i64) (.int .i64)))]⟩⟩ false [] (.two (.leaf) (.two (.leaf) (.join ⟨[0, 16], ⟨(.cons (.own 0 0 0 0) (.cons (.p .bool) .nil)), [(0, false, (.vars (.cons (.p (.int .i64)) (.cons (.p (.int .i64)) (.cons (.slf 3 1) (.cons (.mp 2) .nil)))))), (1, false, (.rows 34 (.pair (.int .i64) (.pair (.int .i64) (.sl .byte))))), (2, false, (.map (.int .i64) (.int .i64)))]⟩⟩ false [] (.two (.leaf) (.two (.leaf) (.join ⟨[0, 16], ⟨(.cons (.own 0 0 0 0) (.cons (.p .bool) .nil)), [(0, false, (.vars (.cons (.p (.int .i64)) (.cons (.p (.int .i64)) (.cons (.slf 3 1) (.cons (.mp 2) .nil)))))), (1, false, (.rows 34 (.pair (.int .i64) (.pair (.int .i64) (.sl .byte))))), (2, false, (.map (.int .i64) (.int .i64)))]⟩⟩ false [] (.leaf))))))))) (.two (.two (.reg [(4, { ids := [100], sh := [0, 1, 2] }), (6, { ids := [101] })]) (.leaf)) (.two (.leaf) (.two (.two (.reg [(2, { ids := [102], sh := [0, 1, 2], fn := 1 }), (4, { ids := [103] })]) (.leaf)) (.two (.leaf) (.pre (.renum 1 104) (.two (.two (.join ⟨[0, 13], ⟨(.cons (.own 0 0 0 0) (.cons (.own 0 106 0 0) .nil)), [(0, false, (.vars (.cons (.p (.int .i64)) (.cons (.p (.int .i64)) (.cons (.slf 3 104) (.cons (.mp 2) .nil)))))), (104, false, (.rows 34 (.pair (.int .i64) (.pair (.int .i64) (.sl .byte))))), (2, false, (.map (.int .i64) (.int .i64))), (106, false, (.vars (.cons (.p (.int .i64)) (.cons (.p (.int .i64)) (.cons (.p (.sl .byte)) .nil)))))]⟩⟩ false [] (.reg [(2, { ids := [105], sh := [0, 104, 2], fn := 2 }), (6, { ids := [106] })])) (.two (.reg [(1, { fn := 3 })]) (.leaf))) (.two (.leaf) (.two (.reg [(2, { ids := [107], sh := [0, 104, 2], fn := 4 })]) (.two (.leaf) (.two (.two (.reg [(2, { ids := [108], sh := [0, 104, 2], fn := 5 }), (4, { ids := [109] })]) (.leaf)) (.leaf)))))))))))))) (.leaf)), ⟨(.cons (.own 0 0 0 0) (.cons (.p (.int .u8)) (.cons (.p (.int .i64)) (.cons (.p (.int .i64)) (.cons (.p (.int .i64)) (.cons (.p (.sl .byte)) .nil)))))), [(0, false, (.vars (.cons (.p (.int .i64)) (.cons (.p (.int .i64)) (.cons (.slf 3 1) (.cons (.mp 2) .nil)))))), (1, false, (.rows 34 (.pair (.int .i64) (.pair (.int .i64) (.sl .byte))))), (2, false, (.map (.int .i64) (.int .i64)))]⟩, [⟨(.cons (.p .str) .nil), [(0, false, (.vars (.cons (.p (.int .i64)) (.cons (.p (.int .i64)) (.cons (.slf 3 1) (.cons (.mp 2) .nil)))))), (1, false, (.rows 34 (.pair (.int .i64) (.pair (.int .i64) (.sl .byte))))), (2, false, (.map (.int .i64) (.int .i64)))]⟩, ⟨(.cons (.p .str) .nil), [(0, false, (.vars (.cons (.p (.int .i64)) (.cons (.p (.int .i64)) (.cons (.slf 3 3) (.cons (.mp 2) .nil)))))), (2, false, (.map (.int .i64) (.int .i64))), (3, false, (.rows 34 (.pair (.int .i64) (.pair (.int .i64) (.sl .byte)))))]⟩], [0]⟩
def law07_deed__com_ft (fu : Nat) : FnT := ⟨34, ⟨(.cons (.own 0 0 0 0) (.cons (.p (.int .u8)) (.cons (.p (.int .i64)) (.cons (.p (.int .i64)) (.cons (.p (.int .i64)) (.cons (.p (.sl .byte)) .nil)))))), [(0, false, (.vars (.cons (.p (.int .i64)) (.cons (.p (.int .i64)) (.cons (.slf 3 1) (.cons (.mp 2) .nil)))))), (1, false, (.rows 34 (.pair (.int .i64) (.pair (.int .i64) (.sl .byte))))), (2, false, (.map (.int .i64) (.int .i64)))]⟩, [⟨(.cons (.p .str) .nil), [(0, false, (.vars (.cons (.p (.int .i64)) (.cons (.p (.int .i64)) (.cons (.slf 3 1) (.cons (.mp 2) .nil)))))), (1, false, (.rows 34 (.pair (.int .i64) (.pair (.int .i64) (.sl .byte))))), (2, false, (.map (.int .i64) (.int .i64)))]⟩, ⟨(.cons (.p .str) .nil), [(0, false, (.vars (.cons (.p (.int .i64)) (.cons (.p (.int .i64)) (.cons (.slf 3 3) (.cons (.mp 2) .nil)))))), (2, false, (.map (.int .i64) (.int .i64))), (3, false, (.rows 34 (.pair (.int .i64) (.pair (.int .i64) (.sl .byte)))))]⟩], fun t => law07_deed__com fu t.1 t.2.1 t.2.2.1 t.2.2.2.1 t.2.2.2.2.1 t.2.2.2.2.2.1 t.2.2.2.2.2.2.1 t.2.2.2.2.2.2.2.1 t.2.2.2.2.2.2.2.2⟩
theorem law07_deed__com_eq (fu : Nat) : ∀ t, evF Go.Proofs.Try.prog [net_Net_Send__com_ft fu, net_Net_Copy__com_ft fu, net_Net_Take__com_ft fu, law07_tag_ft fu, net_Net_Drop__com_ft fu, net_Net_Forget__com_ft fu] fu Go.Proofs.Try.f34 law07_deed__com_fa t = (law07_deed__com_ft fu).spec t := fun t => by kernel_rfl
theorem law07_deed__com_told (fu : Nat) : Told Go.Proofs.Try.prog (law07_deed__com_ft fu) := told_of (allT_cons (net_Net_Send__com_told fu) (allT_cons (net_Net_Copy__com_told fu) (allT_cons (net_Net_Take__com_told fu) (allT_cons (law07_tag_told fu) (allT_cons (net_Net_Drop__com_told fu) (allT_cons (net_Net_Forget__com_told fu) allT_nil)))))) mixed Go.Proofs.Try.func34 (by kernel_rfl) (by kernel_rfl) (law07_deed__com_eq fu)

def law07_alike_n0_com_l0 (fu : Nat) (to_ : Int) (i : Int) (h4 : Int) (h5 : Int) (h6 : List ((Int × (Int × List (UInt8))))) (h7 : (List (((Int × Int) × Nat)) × Nat)) (h8 : List ((Int × (Int × List (UInt8))))) : Option ((Int × (Int × (Int × (List ((Int × (Int × List (UInt8)))) × ((List (((Int × Int) × Nat)) × Nat) × List ((Int × (Int × List (UInt8))))))))) ⊕ ((Int × (Int × (List ((Int × (Int × List (UInt8)))) × ((List (((Int × Int) × Nat)) × Nat) × List ((Int × (Int × List (UInt8)))))))))) :=
  (net_Net_Flying_n0 fu).bind fun r =>
  bif (decide (i < r)) then
    (net_Net_Look_n0 fu i).bind fun r1 =>
    Option.bind (α := ((Int × (Int × (List ((Int × (Int × List (UInt8)))) × ((List (((Int × Int) × Nat)) × Nat) × List ((Int × (Int × List (UInt8)))))))))) (
      bif (r1.2.1 == to_) then
        need ((Nat.ble ((h8.length + 1) * 40) room) && (Nat.ble (h8.length + 1) room)) <|
        some (h4, (h5, (h6, (h7, (h8 ++ [(r1.1, (r1.2.1, []))])))))
      else
        some (h4, (h5, (h6, (h7, h8))))) fun o =>
    some (.inl ((IntKind.wrap .i64 (i + 1)), (o.1, (o.2.1, (o.2.2.1, (o.2.2.2.1, o.2.2.2.2))))))
  else
    some (.inr (h4, (h5, (h6, (h7, h8)))))
def law07_alike_n0_com_l0_it (fu : Nat) (to_ : Int) (tt : (Int × (Int × (Int × (List ((Int × (Int × List (UInt8)))) × ((List (((Int × Int) × Nat)) × Nat) × List ((Int × (Int × List (UInt8)))))))))) : Option ((Int × (Int × (List ((Int × (Int × List (UInt8)))) × ((List (((Int × Int) × Nat)) × Nat) × List ((Int × (Int × List (UInt8))))))))) :=
  iter fu (fun tt => law07_alike_n0_com_l0 fu to_ tt.1 tt.2.1 tt.2.2.1 tt.2.2.2.1 tt.2.2.2.2.1 tt.2.2.2.2.2) tt
def law07_alike_n0_com_l1 (fu : Nat) (o2 : (Bool × (Int × (Int × (List ((Int × (Int × List (UInt8)))) × ((List (((Int × Int) × Nat)) × Nat) × List ((Int × (Int × List (UInt8)))))))))) (x : Int) (h9 : Int) (h10 : Int) (h11 : List ((Int × (Int × List (UInt8))))) (h12 : (List (((Int × Int) × Nat)) × Nat)) (h13 : List ((Int × (Int × List (UInt8))))) : Option ((Int × (Int × (Int × (List ((Int × (Int × List (UInt8)))) × ((List (((Int × Int) × Nat)) × Nat) × List ((Int × (Int × List (UInt8))))))))) ⊕ ((Int × (Int × (List ((Int × (Int × List (UInt8)))) × (List (((Int × Int) × Nat)) × Nat)))) ⊕ (Bool × (Int × (Int × (List ((Int × (Int × List (UInt8)))) × (List (((Int × Int) × Nat)) × Nat))))))) :=
  bif (decide (x < ((o2.2.2.2.2.2.length : Nat) : Int))) then
    (net_Net_Look__com fu x h9 h10 h11 h12).bind fun r5 =>
    (idx? x h13.length).bind fun q =>
    (h13)[q]?.bind fun r6 =>
    (law07_like fu (r5.1, (r5.2.1, r5.2.2.1)) r6).bind fun r7 =>
    bif (!r7) then
      some (.inr (.inr (false, (r5.2.2.2.2.1, (r5.2.2.2.2.2.1, (r5.2.2.2.2.2.2.1, r5.2.2.2.2.2.2.2))))))
    else
      some (.inl ((IntKind.wrap .i64 (x + 1)), (r5.2.2.2.2.1, (r5.2.2.2.2.2.1, (r5.2.2.2.2.2.2.1, (r5.2.2.2.2.2.2.2, h13))))))
  else
    some (.inr (.inl (h9, (h10, (h11, h12)))))
def law07_alike_n0_com_l1_it (fu : Nat) (o2 : (Bool × (Int × (Int × (List ((Int × (Int × List (UInt8)))) × ((List (((Int × Int) × Nat)) × Nat) × List ((Int × (Int × List (UInt8)))))))))) (tt : (Int × (Int × (Int × (List ((Int × (Int × List (UInt8)))) × ((List (((Int × Int) × Nat)) × Nat) × List ((Int × (Int × List (UInt8)))))))))) : Option ((Int × (Int × (List ((Int × (Int × List (UInt8)))) × (List (((Int × Int) × Nat)) × Nat)))) ⊕ (Bool × (Int × (Int × (List ((Int × (Int × List (UInt8)))) × (List (((Int × Int) × Nat)) × Nat)))))) :=
  iter fu (fun tt => law07_alike_n0_com_l1 fu o2 tt.1 tt.2.1 tt.2.2.1 tt.2.2.2.1 tt.2.2.2.2.1 tt.2.2.2.2.2) tt
def law07_alike_n0_com (fu : Nat) (to_ : Int) (h : Int) (h1 : Int) (h2 : List ((Int × (Int × List (UInt8))))) (h3 : (List (((Int × Int) × Nat)) × Nat)) : Option ((Bool × (Int × (Int × (List ((Int × (Int × List (UInt8)))) × (List (((Int × Int) × Nat)) × Nat)))))) :=
  (law07_alike_n0_com_l0_it fu to_ (0, (h, (h1, (h2, (h3, [])))))).bind fun o1 =>
  Option.bind (α := ((Bool × (Int × (Int × (List ((Int × (Int × List (UInt8)))) × ((List (((Int × Int) × Nat)) × Nat) × List ((Int × (Int × List (UInt8))))))))))) (
    (net_Net_Flying__com fu o1.1 o1.2.1 o1.2.2.1 o1.2.2.2.1).bind fun r2 =>
    bif (!(r2.1 == ((o1.2.2.2.2.length : Nat) : Int))) then
      some (true, (r2.2.1, (r2.2.2.1, (r2.2.2.2.1, (r2.2.2.2.2, o1.2.2.2.2)))))
    else
      (net_Net_Waiting_n0 fu to_).bind fun r3 =>
      bif (!(r3 == ((o1.2.2.2.2.length : Nat) : Int))) then
        some (true, (r2.2.1, (r2.2.2.1, (r2.2.2.2.1, (r2.2.2.2.2, o1.2.2.2.2)))))
      else
        (net_Net_Waiting__com fu to_ r2.2.1 r2.2.2.1 r2.2.2.2.1 r2.2.2.2.2).bind fun r4 =>
        some ((!(r4.1 == ((o1.2.2.2.2.length : Nat) : Int))), (r4.2.1, (r4.2.2.1, (r4.2.2.2.1, (r4.2.2.2.2, o1.2.2.2.2)))))) fun o2 =>
  bif o2.1 then
    some (false, (o2.2.1, (o2.2.2.1, (o2.2.2.2.1, o2.2.2.2.2.1))))
  else
    (law07_alike_n0_com_l1_it fu o2 (0, (o2.2.1, (o2.2.2.1, (o2.2.2.2.1, (o2.2.2.2.2.1, o2.2.2.2.2.2)))))).bind fun o3 =>
    match o3 with
    | .inl s =>
      some (true, (s.1, (s.2.1, (s.2.2.1, s.2.2.2))))
    | .inr o4 =>
      some o4
def law07_alike_n0_com_fa : FnA := ⟨.two (.leaf) (.two (.leaf) (.two (.two (.leaf) (.one (.pre (.ownNil 7 34 100) (.loop ⟨[1, 7, 8], ⟨(.cons (.own 0 0 0 0) (.cons (.slf 3 100) (.cons (.p (.int .i64)) .nil))), [(0, false, (.vars (.cons (.p (.int .i64)) (.cons (.p (.int .i64)) (.cons (.slf 3 1) (.cons (.mp 2) .nil)))))), (1, false, (.rows 34 (.pair (.int .i64) (.pair (.int .i64) (.sl .byte))))), (2, false, (.map (.int .i64) (.int .i64))), (100, false, (.rows 34 (.pair (.int .i64) (.pair (.int .i64) (.sl .byte)))))]⟩⟩ false [(0, ⟨[1, 7], ⟨(.cons (.own 0 0 0 0) (.cons (.slf 3 100) .nil)), [(0, false, (.vars (.cons (.p (.int .i64)) (.cons (.p (.int .i64)) (.cons (.slf 3 1) (.cons (.mp 2) .nil)))))), (1, false, (.rows 34 (.pair (.int .i64) (.pair (.int .i64) (.sl .byte))))), (2, false, (.map (.int .i64) (.int .i64))), (100, false, (.rows 34 (.pair (.int .i64) (.pair (.int .i64) (.sl .byte)))))]⟩⟩)] (.two (.two (.reg [(2, {  })]) (.leaf)) (.two (.one (.two (.reg [(2, { fn := 1 }), (6, { ids := [101] })]) (.two (.leaf) (.join ⟨[1, 7], ⟨(.cons (.own 0 0 0 0) (.cons (.slf 3 103) .nil)), [(0, false, (.vars (.cons (.p (.int .i64)) (.cons (.p (.int .i64)) (.cons (.slf 3 1) (.cons (.mp 2) .nil)))))), (1, false, (.rows 34 (.pair (.int .i64) (.pair (.int .i64) (.sl .byte))))), (2, false, (.map (.int .i64) (.int .i64))), (103, false, (.rows 34 (.pair (.int .i64) (.pair (.int .i64) (.sl .byte)))))]⟩⟩ false [] (.two (.reg [(2, { ids := [102] }), (3, { ids := [103] })]) (.leaf)))))) (.leaf))))))) (.two (.two (.join ⟨[1, 7, 54], ⟨(.cons (.own 0 0 0 0) (.cons (.slf 3 100) (.cons (.p .bool) .nil))), [(0, false, (.vars (.cons (.p (.int .i64)) (.cons (.p (.int .i64)) (.cons (.slf 3 1) (.cons (.mp 2) .nil)))))), (1, false, (.rows 34 (.pair (.int .i64) (.pair (.int .i64) (.sl .byte))))), (2, false, (.map (.int .i64) (.int .i64))), (100, false, (.rows 34 (.pair (.int .i64) (.pair (.int .i64) (.sl .byte)))))]⟩⟩ false [] (.reg [(1, { sh := [0, 1, 2], fn := 2 }), (8, { fn := 3 }), (16, { sh := [0, 1, 2], fn := 4 })])) (.two (.leaf) (.leaf))) (.two (.two (.leaf) (.one (.loop ⟨[1, 7, 57], ⟨(.cons (.own 0 0 0 0) (.cons (.slf 3 100) (.cons (.p (.int .i64)) .nil))), [(0, false, (.vars (.cons (.p (.int .i64)) (.cons (.p (.int .i64)) (.cons (.slf 3 1) (.cons (.mp 2) .nil)))))), (1, false, (.rows 34 (.pair (.int .i64) (.pair (.int .i64) (.sl .byte))))), (2, false, (.map (.int .i64) (.int .i64))), (100, false, (.rows 34 (.pair (.int .i64) (.pair (.int .i64) (.sl .byte)))))]⟩⟩ true [(2, ⟨[1], ⟨(.cons (.own 0 0 0 0) .nil), [(0, false, (.vars (.cons (.p (.int .i64)) (.cons (.p (.int .i64)) (.cons (.slf 3 1) (.cons (.mp 2) .nil)))))), (1, false, (.rows 34 (.pair (.int .i64) (.pair (.int .i64) (.sl .byte))))), (2, false, (.map (.int .i64) (.int .i64)))]⟩⟩)] (.two (.leaf) (.two (.leaf) (.two (.one (.two (.leaf) (.two (.reg [(2, { sh := [0, 1, 2], fn := 5 }), (6, { ids := [104] })]) (.two (.reg [(5, { fn := 6 })]) (.two (.leaf) (.leaf)))))) (.leaf))))))) (.leaf))))), ⟨(.cons (.nilp (.pointer none)) (.cons (.own 0 0 0 0) (.cons (.p (.int .i64)) .nil))), [(0, false, (.vars (.cons (.p (.int .i64)) (.cons (.p (.int .i64)) (.cons (.slf 3 1) (.cons (.mp 2) .nil)))))), (1, false, (.rows 34 (.pair (.int .i64) (.pair (.int .i64) (.sl .byte))))), (2, false, (.map (.int .i64) (.int .i64)))]⟩, [⟨(.cons (.p .bool) .nil), [(0, false, (.vars (.cons (.p (.int .i64)) (.cons (.p (.int .i64)) (.cons (.slf 3 1) (.cons (.mp 2) .nil)))))), (1, false, (.rows 34 (.pair (.int .i64) (.pair (.int .i64) (.sl .byte))))), (2, false, (.map (.int .i64) (.int .i64)))]⟩], [0]⟩
def law07_alike_n0_com_ft (fu : Nat) : FnT := ⟨35, ⟨(.cons (.nilp (.pointer none)) (.cons (.own 0 0 0 0) (.cons (.p (.int .i64)) .nil))), [(0, false, (.vars (.cons (.p (.int .i64)) (.cons (.p (.int .i64)) (.cons (.slf 3 1) (.cons (.mp 2) .nil)))))), (1, false, (.rows 34 (.pair (.int .i64) (.pair (.int .i64) (.sl .byte))))), (2, false, (.map (.int .i64) (.int .i64)))]⟩, [⟨(.cons (.p .bool) .nil), [(0, false, (.vars (.cons (.p (.int .i64)) (.cons (.p (.int .i64)) (.cons (.slf 3 1) (.cons (.mp 2) .nil)))))), (1, false, (.rows 34 (.pair (.int .i64) (.pair (.int .i64) (.sl .byte))))), (2, false, (.map (.int .i64) (.int .i64)))]⟩], fun t => law07_alike_n0_com fu t.1 t.2.1 t.2.2.1 t.2.2.2.1 t.2.2.2.2⟩
theorem law07_alike_n0_com_eq (fu : Nat) : ∀ t, evF Go.Proofs.Try.prog [net_Net_Flying_n0_ft fu, net_Net_Look_n0_ft fu, net_Net_Flying__com_ft fu, net_Net_Waiting_n0_ft fu, net_Net_Waiting__com_ft fu, net_Net_Look__com_ft fu, law07_like_ft fu] fu Go.Proofs.Try.f35 law07_alike_n0_com_fa t = (law07_alike_n0_com_ft fu).spec t := fun t => by kernel_rfl
theorem law07_alike_n0_com_told (fu : Nat) : Told Go.Proofs.Try.prog (law07_alike_n0_com_ft fu) := told_of (allT_cons (net_Net_Flying_n0_told fu) (allT_cons (net_Net_Look_n0_told fu) (allT_cons (net_Net_Flying__com_told fu) (allT_cons (net_Net_Waiting_n0_told fu) (allT_cons (net_Net_Waiting__com_told fu) (allT_cons (net_Net_Look__com_told fu) (allT_cons (law07_like_told fu) allT_nil))))))) mixed Go.Proofs.Try.func35 (by kernel_rfl) (by kernel_rfl) (law07_alike_n0_com_eq fu)

def law07_alike_n1_com_l0 (fu : Nat) (to_ : Int) (i : Int) (h4 : Int) (h5 : Int) (h6 : List ((Int × (Int × List (UInt8))))) (h7 : (List (((Int × Int) × Nat)) × Nat)) (h8 : List ((Int × (Int × List (UInt8))))) : Option ((Int × (Int × (Int × (List ((Int × (Int × List (UInt8)))) × ((List (((Int × Int) × Nat)) × Nat) × List ((Int × (Int × List (UInt8))))))))) ⊕ ((Int × (Int × (List ((Int × (Int × List (UInt8)))) × ((List (((Int × Int) × Nat)) × Nat) × List ((Int × (Int × List (UInt8)))))))))) :=
  (net_Net_Flying__com fu h4 h5 h6 h7).bind fun r =>
  bif (decide (i < r.1)) then
    (net_Net_Look__com fu i r.2.1 r.2.2.1 r.2.2.2.1 r.2.2.2.2).bind fun r1 =>
    Option.bind (α := ((Int × (Int × (List ((Int × (Int × List (UInt8)))) × ((List (((Int × Int) × Nat)) × Nat) × List ((Int × (Int × List (UInt8)))))))))) (
      bif (r1.2.1 == to_) then
        need ((Nat.ble ((h8.length + 1) * 40) room) && (Nat.ble (h8.length + 1) room)) <|
        some (r1.2.2.2.2.1, (r1.2.2.2.2.2.1, (r1.2.2.2.2.2.2.1, (r1.2.2.2.2.2.2.2, (h8 ++ [(r1.1, (r1.2.1, r1.2.2.1))])))))
      else
        some (r1.2.2.2.2.1, (r1.2.2.2.2.2.1, (r1.2.2.2.2.2.2.1, (r1.2.2.2.2.2.2.2, h8))))) fun o =>
    some (.inl ((IntKind.wrap .i64 (i + 1)), (o.1, (o.2.1, (o.2.2.1, (o.2.2.2.1, o.2.2.2.2))))))
  else
    some (.inr (r.2.1, (r.2.2.1, (r.2.2.2.1, (r.2.2.2.2, h8)))))
def law07_alike_n1_com_l0_it (fu : Nat) (to_ : Int) (tt : (Int × (Int × (Int × (List ((Int × (Int × List (UInt8)))) × ((List (((Int × Int) × Nat)) × Nat) × List ((Int × (Int × List (UInt8)))))))))) : Option ((Int × (Int × (List ((Int × (Int × List (UInt8)))) × ((List (((Int × Int) × Nat)) × Nat) × List ((Int × (Int × List (UInt8))))))))) :=
  iter fu (fun tt => law07_alike_n1_com_l0 fu to_ tt.1 tt.2.1 tt.2.2.1 tt.2.2.2.1 tt.2.2.2.2.1 tt.2.2.2.2.2) tt
def law07_alike_n1_com_l1 (fu : Nat) (o2 : (Bool × (Int × (Int × (List ((Int × (Int × List (UInt8)))) × ((List (((Int × Int) × Nat)) × Nat) × List ((Int × (Int × List (UInt8)))))))))) (x : Int) (h9 : Int) (h10 : Int) (h11 : List ((Int × (Int × List (UInt8))))) (h12 : (List (((Int × Int) × Nat)) × Nat)) (h13 : List ((Int × (Int × List (UInt8))))) : Option ((Int × (Int × (Int × (List ((Int × (Int × List (UInt8)))) × ((List (((Int × Int) × Nat)) × Nat) × List ((Int × (Int × List (UInt8))))))))) ⊕ ((Int × (Int × (List ((Int × (Int × List (UInt8)))) × (List (((Int × Int) × Nat)) × Nat)))) ⊕ (Bool × (Int × (Int × (List ((Int × (Int × List (UInt8)))) × (List (((Int × Int) × Nat)) × Nat))))))) :=
  bif (decide (x < ((o2.2.2.2.2.2.length : Nat) : Int))) then
    (net_Net_Look_n0 fu x).bind fun r5 =>
    (idx? x h13.length).bind fun q =>
    (h13)[q]?.bind fun r6 =>
    (law07_like fu (r5.1, (r5.2.1, [])) r6).bind fun r7 =>
    bif (!r7) then
      some (.inr (.inr (false, (h9, (h10, (h11, h12))))))
    else
      some (.inl ((IntKind.wrap .i64 (x + 1)), (h9, (h10, (h11, (h12, h13))))))
  else
    some (.inr (.inl (h9, (h10, (h11, h12)))))
def law07_alike_n1_com_l1_it (fu : Nat) (o2 : (Bool × (Int × (Int × (List ((Int × (Int × List (UInt8)))) × ((List (((Int × Int) × Nat)) × Nat) × List ((Int × (Int × List (UInt8)))))))))) (tt : (Int × (Int × (Int × (List ((Int × (Int × List (UInt8)))) × ((List (((Int × Int) × Nat)) × Nat) × List ((Int × (Int × List (UInt8)))))))))) : Option ((Int × (Int × (List ((Int × (Int × List (UInt8)))) × (List (((Int × Int) × Nat)) × Nat)))) ⊕ (Bool × (Int × (Int × (List ((Int × (Int × List (UInt8)))) × (List (((Int × Int) × Nat)) × Nat)))))) :=
  iter fu (fun tt => law07_alike_n1_com_l1 fu o2 tt.1 tt.2.1 tt.2.2.1 tt.2.2.2.1 tt.2.2.2.2.1 tt.2.2.2.2.2) tt
def law07_alike_n1_com (fu : Nat) (to_ : Int) (h : Int) (h1 : Int) (h2 : List ((Int × (Int × List (UInt8))))) (h3 : (List (((Int × Int) × Nat)) × Nat)) : Option ((Bool × (Int × (Int × (List ((Int × (Int × List (UInt8)))) × (List (((Int × Int) × Nat)) × Nat)))))) :=
  (law07_alike_n1_com_l0_it fu to_ (0, (h, (h1, (h2, (h3, [])))))).bind fun o1 =>
  Option.bind (α := ((Bool × (Int × (Int × (List ((Int × (Int × List (UInt8)))) × ((List (((Int × Int) × Nat)) × Nat) × List ((Int × (Int × List (UInt8))))))))))) (
    (net_Net_Flying_n0 fu).bind fun r2 =>
    bif (!(r2 == ((o1.2.2.2.2.length : Nat) : Int))) then
      some (true, (o1.1, (o1.2.1, (o1.2.2.1, (o1.2.2.2.1, o1.2.2.2.2)))))
    else
      (net_Net_Waiting__com fu to_ o1.1 o1.2.1 o1.2.2.1 o1.2.2.2.1).bind fun r3 =>
      bif (!(r3.1 == ((o1.2.2.2.2.length : Nat) : Int))) then
        some (true, (r3.2.1, (r3.2.2.1, (r3.2.2.2.1, (r3.2.2.2.2, o1.2.2.2.2)))))
      else
        (net_Net_Waiting_n0 fu to_).bind fun r4 =>
        some ((!(r4 == ((o1.2.2.2.2.length : Nat) : Int))), (r3.2.1, (r3.2.2.1, (r3.2.2.2.1, (r3.2.2.2.2, o1.2.2.2.2)))))) fun o2 =>
  bif o2.1 then
    some (false, (o2.2.1, (o2.2.2.1, (o2.2.2.2.1, o2.2.2.2.2.1))))
  else
    (law07_alike_n1_com_l1_it fu o2 (0, (o2.2.1, (o2.2.2.1, (o2.2.2.2.1, (o2.2.2.2.2.1, o2.2.2.2.2.2)))))).bind fun o3 =>
    match o3 with
    | .inl s =>
      some (true, (s.1, (s.2.1, (s.2.2.1, s.2.2.2))))
    | .inr o4 =>
      some o4
def law07_alike_n1_com_fa : FnA := ⟨.two (.leaf) (.two (.leaf) (.two (.two (.leaf) (.one (.pre (.ownNil 7 34 100) (.loop ⟨[0, 7, 8], ⟨(.cons (.own 0 0 0 0) (.cons (.slf 3 100) (.cons (.p (.int .i64)) .nil))), [(0, false, (.vars (.cons (.p (.int .i64)) (.cons (.p (.int .i64)) (.cons (.slf 3 1) (.cons (.mp 2) .nil)))))), (1, false, (.rows 34 (.pair (.int .i64) (.pair (.int .i64) (.sl .byte))))), (2, false, (.map (.int .i64) (.int .i64))), (100, false, (.rows 34 (.pair (.int .i64) (.pair (.int .i64) (.sl .byte)))))]⟩⟩ false [(0, ⟨[0, 7], ⟨(.cons (.own 0 0 0 0) (.cons (.slf 3 100) .nil)), [(0, false, (.vars (.cons (.p (.int .i64)) (.cons (.p (.int .i64)) (.cons (.slf 3 1) (.cons (.mp 2) .nil)))))), (1, false, (.rows 34 (.pair (.int .i64) (.pair (.int .i64) (.sl .byte))))), (2, false, (.map (.int .i64) (.int .i64))), (100, false, (.rows 34 (.pair (.int .i64) (.pair (.int .i64) (.sl .byte)))))]⟩⟩)] (.two (.two (.reg [(2, { sh := [0, 1, 2] })]) (.leaf)) (.two (.one (.two (.reg [(2, { sh := [0, 1, 2], fn := 1 }), (6, { ids := [101] })]) (.two (.leaf) (.join ⟨[0, 7], ⟨(.cons (.own 0 0 0 0) (.cons (.slf 3 103) .nil)), [(0, false, (.vars (.cons (.p (.int .i64)) (.cons (.p (.int .i64)) (.cons (.slf 3 1) (.cons (.mp 2) .nil)))))), (1, false, (.rows 34 (.pair (.int .i64) (.pair (.int .i64) (.sl .byte))))), (2, false, (.map (.int .i64) (.int .i64))), (103, false, (.rows 34 (.pair (.int .i64) (.pair (.int .i64) (.sl .byte)))))]⟩⟩ false [] (.two (.reg [(2, { ids := [102] }), (3, { ids := [103] })]) (.leaf)))))) (.leaf))))))) (.two (.two (.join ⟨[0, 7, 54], ⟨(.cons (.own 0 0 0 0) (.cons (.slf 3 100) (.cons (.p .bool) .nil))), [(0, false, (.vars (.cons (.p (.int .i64)) (.cons (.p (.int .i64)) (.cons (.slf 3 1) (.cons (.mp 2) .nil)))))), (1, false, (.rows 34 (.pair (.int .i64) (.pair (.int .i64) (.sl .byte))))), (2, false, (.map (.int .i64) (.int .i64))), (100, false, (.rows 34 (.pair (.int .i64) (.pair (.int .i64) (.sl .byte)))))]⟩⟩ false [] (.reg [(1, { fn := 2 }), (8, { sh := [0, 1, 2], fn := 3 }), (16, { fn := 4 })])) (.two (.leaf) (.leaf))) (.two (.two (.leaf) (.one (.loop ⟨[0, 7, 57], ⟨(.cons (.own 0 0 0 0) (.cons (.slf 3 100) (.cons (.p (.int .i64)) .nil))), [(0, false, (.vars (.cons (.p (.int .i64)) (.cons (.p (.int .i64)) (.cons (.slf 3 1) (.cons (.mp 2) .nil)))))), (1, false, (.rows 34 (.pair (.int .i64) (.pair (.int .i64) (.sl .byte))))), (2, false, (.map (.int .i64) (.int .i64))), (100, false, (.rows 34 (.pair (.int .i64) (.pair (.int .i64) (.sl .byte)))))]⟩⟩ true [(2, ⟨[0], ⟨(.cons (.own 0 0 0 0) .nil), [(0, false, (.vars (.cons (.p (.int .i64)) (.cons (.p (.int .i64)) (.cons (.slf 3 1) (.cons (.mp 2) .nil)))))), (1, false, (.rows 34 (.pair (.int .i64) (.pair (.int .i64) (.sl .byte))))), (2, false, (.map (.int .i64) (.int .i64)))]⟩⟩)] (.two (.leaf) (.two (.leaf) (.two (.one (.two (.leaf) (.two (.reg [(2, { fn := 5 }), (6, { ids := [104] })]) (.two (.reg [(5, { fn := 6 })]) (.two (.leaf) (.leaf)))))) (.leaf))))))) (.leaf))))), ⟨(.cons (.own 0 0 0 0) (.cons (.nilp (.pointer none)) (.cons (.p (.int .i64)) .nil))), [(0, false, (.vars (.cons (.p (.int .i64)) (.cons (.p (.int .i64)) (.cons (.slf 3 1) (.cons (.mp 2) .nil)))))), (1, false, (.rows 34 (.pair (.int .i64) (.pair (.int .i64) (.sl .byte))))), (2, false, (.map (.int .i64) (.int .i64)))]⟩, [⟨(.cons (.p .bool) .nil), [(0, false, (.vars (.cons (.p (.int .i64)) (.cons (.p (.int .i64)) (.cons (.slf 3 1) (.cons (.mp 2) .nil)))))), (1, false, (.rows 34 (.pair (.int .i64) (.pair (.int .i64) (.sl .byte))))), (2, false, (.map (.int .i64) (.int .i64)))]⟩], [0]⟩
def law07_alike_n1_com_ft (fu : Nat) : FnT := ⟨35, ⟨(.cons (.own 0 0 0 0) (.cons (.nilp (.pointer none)) (.cons (.p (.int .i64)) .nil))), [(0, false, (.vars (.cons (.p (.int .i64)) (.cons (.p (.int .i64)) (.cons (.slf 3 1) (.cons (.mp 2) .nil)))))), (1, false, (.rows 34 (.pair (.int .i64) (.pair (.int .i64) (.sl .byte))))), (2, false, (.map (.int .i64) (.int .i64)))]⟩, [⟨(.cons (.p .bool) .nil), [(0, false, (.vars (.cons (.p (.int .i64)) (.cons (.p (.int .i64)) (.cons (.slf 3 1) (.cons (.mp 2) .nil)))))), (1, false, (.rows 34 (.pair (.int .i64) (.pair (.int .i64) (.sl .byte))))), (2, false, (.map (.int .i64) (.int .i64)))]⟩], fun t => law07_alike_n1_com fu t.1 t.2.1 t.2.2.1 t.2.2.2.1 t.2.2.2.2⟩
theorem law07_alike_n1_com_eq (fu : Nat) : ∀ t, evF Go.Proofs.Try.prog [net_Net_Flying__com_ft fu, net_Net_Look__com_ft fu, net_Net_Flying_n0_ft fu, net_Net_Waiting__com_ft fu, net_Net_Waiting_n0_ft fu, net_Net_Look_n0_ft fu, law07_like_ft fu] fu Go.Proofs.Try.f35 law07_alike_n1_com_fa t = (law07_alike_n1_com_ft fu).spec t := fun t => by kernel_rfl
theorem law07_alike_n1_com_told (fu : Nat) : Told Go.Proofs.Try.prog (law07_alike_n1_com_ft fu) := told_of (allT_cons (net_Net_Flying__com_told fu) (allT_cons (net_Net_Look__com_told fu) (allT_cons (net_Net_Flying_n0_told fu) (allT_cons (net_Net_Waiting__com_told fu) (allT_cons (net_Net_Waiting_n0_told fu) (allT_cons (net_Net_Look_n0_told fu) (allT_cons (law07_like_told fu) allT_nil))))))) mixed Go.Proofs.Try.func35 (by kernel_rfl) (by kernel_rfl) (law07_alike_n1_com_eq fu)

def law07_alike__comcom_l0 (fu : Nat) (to_ : Int) (i : Int) (h8 : Int) (h9 : Int) (h10 : List ((Int × (Int × List (UInt8))))) (h11 : (List (((Int × Int) × Nat)) × Nat)) (h12 : Int) (h13 : Int) (h14 : List ((Int × (Int × List (UInt8))))) (h15 : (List (((Int × Int) × Nat)) × Nat)) (h16 : List ((Int × (Int × List (UInt8))))) : Option ((Int × (Int × (Int × (List ((Int × (Int × List (UInt8)))) × ((List (((Int × Int) × Nat)) × Nat) × (Int × (Int × (List ((Int × (Int × List (UInt8)))) × ((List (((Int × Int) × Nat)) × Nat) × List ((Int × (Int × List (UInt8))))))))))))) ⊕ ((Int × (Int × (List ((Int × (Int × List (UInt8)))) × ((List (((Int × Int) × Nat)) × Nat) × (Int × (Int × (List ((Int × (Int × List (UInt8)))) × ((List (((Int × Int) × Nat)) × Nat) × List ((Int × (Int × List (UInt8)))))))))))))) :=
  (net_Net_Flying__com fu h8 h9 h10 h11).bind fun r =>
  bif (decide (i < r.1)) then
    (net_Net_Look__com fu i r.2.1 r.2.2.1 r.2.2.2.1 r.2.2.2.2).bind fun r1 =>
    Option.bind (α := ((Int × (Int × (List ((Int × (Int × List (UInt8)))) × ((List (((Int × Int) × Nat)) × Nat) × (Int × (Int × (List ((Int × (Int × List (UInt8)))) × ((List (((Int × Int) × Nat)) × Nat) × List ((Int × (Int × List (UInt8)))))))))))))) (
      bif (r1.2.1 == to_) then
        need ((Nat.ble ((h16.length + 1) * 40) room) && (Nat.ble (h16.length + 1) room)) <|
        some (r1.2.2.2.2.1, (r1.2.2.2.2.2.1, (r1.2.2.2.2.2.2.1, (r1.2.2.2.2.2.2.2, (h12, (h13, (h14, (h15, (h16 ++ [(r1.1, (r1.2.1, r1.2.2.1))])))))))))
      else
        some (r1.2.2.2.2.1, (r1.2.2.2.2.2.1, (r1.2.2.2.2.2.2.1, (r1.2.2.2.2.2.2.2, (h12, (h13, (h14, (h15, h16))))))))) fun o =>
    some (.inl ((IntKind.wrap .i64 (i + 1)), (o.1, (o.2.1, (o.2.2.1, (o.2.2.2.1, (o.2.2.2.2.1, (o.2.2.2.2.2.1, (o.2.2.2.2.2.2.1, (o.2.2.2.2.2.2.2.1, o.2.2.2.2.2.2.2.2))))))))))
  else
    some (.inr (r.2.1, (r.2.2.1, (r.2.2.2.1, (r.2.2.2.2, (h12, (h13, (h14, (h15, h16)))))))))
def law07_alike__comcom_l0_it (fu : Nat) (to_ : Int) (tt : (Int × (Int × (Int × (List ((Int × (Int × List (UInt8)))) × ((List (((Int × Int) × Nat)) × Nat) × (Int × (Int × (List ((Int × (Int × List (UInt8)))) × ((List (((Int × Int) × Nat)) × Nat) × List ((Int × (Int × List (UInt8)))))))))))))) : Option ((Int × (Int × (List ((Int × (Int × List (UInt8)))) × ((List (((Int × Int) × Nat)) × Nat) × (Int × (Int × (List ((Int × (Int × List (UInt8)))) × ((List (((Int × Int) × Nat)) × Nat) × List ((Int × (Int × List (UInt8))))))))))))) :=
  iter fu (fun tt => law07_alike__comcom_l0 fu to_ tt.1 tt.2.1 tt.2.2.1 tt.2.2.2.1 tt.2.2.2.2.1 tt.2.2.2.2.2.1 tt.2.2.2.2.2.2.1 tt.2.2.2.2.2.2.2.1 tt.2.2.2.2.2.2.2.2.1 tt.2.2.2.2.2.2.2.2.2) tt
def law07_alike__comcom_l1 (fu : Nat) (o2 : (Bool × (Int × (Int × (List ((Int × (Int × List (UInt8)))) × ((List (((Int × Int) × Nat)) × Nat) × (Int × (Int × (List ((Int × (Int × List (UInt8)))) × ((List (((Int × Int) × Nat)) × Nat) × List ((Int × (Int × List (UInt8)))))))))))))) (x : Int) (h17 : Int) (h18 : Int) (h19 : List ((Int × (Int × List (UInt8))))) (h20 : (List (((Int × Int) × Nat)) × Nat)) (h21 : Int) (h22 : Int) (h23 : List ((Int × (Int × List (UInt8))))) (h24 : (List (((Int × Int) × Nat)) × Nat)) (h25 : List ((Int × (Int × List (UInt8))))) : Option ((Int × (Int × (Int × (List ((Int × (Int × List (UInt8)))) × ((List (((Int × Int) × Nat)) × Nat) × (Int × (Int × (List ((Int × (Int × List (UInt8)))) × ((List (((Int × Int) × Nat)) × Nat) × List ((Int × (Int × List (UInt8))))))))))))) ⊕ ((Int × (Int × (List ((Int × (Int × List (UInt8)))) × ((List (((Int × Int) × Nat)) × Nat) × (Int × (Int × (List ((Int × (Int × List (UInt8)))) × (List (((Int × Int) × Nat)) × Nat)))))))) ⊕ (Bool × (Int × (Int × (List ((Int × (Int × List (UInt8)))) × ((List (((Int × Int) × Nat)) × Nat) × (Int × (Int × (List ((Int × (Int × List (UInt8)))) × (List (((Int × Int) × Nat)) × Nat))))))))))) :=
  bif (decide (x < ((o2.2.2.2.2.2.2.2.2.2.length : Nat) : Int))) then
    (net_Net_Look__com fu x h21 h22 h23 h24).bind fun r5 =>
    (idx? x h25.length).bind fun q =>
    (h25)[q]?.bind fun r6 =>
    (law07_like fu (r5.1, (r5.2.1, r5.2.2.1)) r6).bind fun r7 =>
    bif (!r7) then
      some (.inr (.inr (false, (h17, (h18, (h19, (h20, (r5.2.2.2.2.1, (r5.2.2.2.2.2.1, (r5.2.2.2.2.2.2.1, r5.2.2.2.2.2.2.2))))))))))
    else
      some (.inl ((IntKind.wrap .i64 (x + 1)), (h17, (h18, (h19, (h20, (r5.2.2.2.2.1, (r5.2.2.2.2.2.1, (r5.2.2.2.2.2.2.1, (r5.2.2.2.2.2.2.2, h25))))))))))
  else
    some (.inr (.inl (h17, (h18, (h19, (h20, (h21, (h22, (h23, h24)))))))))
def law07_alike__comcom_l1_it (fu : Nat) (o2 : (Bool × (Int × (Int × (List ((Int × (Int × List (UInt8)))) × ((List (((Int × Int) × Nat)) × Nat) × (Int × (Int × (List ((Int × (Int × List (UInt8)))) × ((List (((Int × Int) × Nat)) × Nat) × List ((Int × (Int × List (UInt8)))))))))))))) (tt : (Int × (Int × (Int × (List ((Int × (Int × List (UInt8)))) × ((List (((Int × Int) × Nat)) × Nat) × (Int × (Int × (List ((Int × (Int × List (UInt8)))) × ((List (((Int × Int) × Nat)) × Nat) × List ((Int × (Int × List (UInt8)))))))))))))) : Option ((Int × (Int × (List ((Int × (Int × List (UInt8)))) × ((List (((Int × Int) × Nat)) × Nat) × (Int × (Int × (List ((Int × (Int × List (UInt8)))) × (List (((Int × Int) × Nat)) × Nat)))))))) ⊕ (Bool × (Int × (Int × (List ((Int × (Int × List (UInt8)))) × ((List (((Int × Int) × Nat)) × Nat) × (Int × (Int × (List ((Int × (Int × List (UInt8)))) × (List (((Int × Int) × Nat)) × Nat)))))))))) :=
  iter fu (fun tt => law07_alike__comcom_l1 fu o2 tt.1 tt.2.1 tt.2.2.1 tt.2.2.2.1 tt.2.2.2.2.1 tt.2.2.2.2.2.1 tt.2.2.2.2.2.2.1 tt.2.2.2.2.2.2.2.1 tt.2.2.2.2.2.2.2.2.1 tt.2.2.2.2.2.2.2.2.2) tt
def law07_alike__comcom (fu : Nat) (to_ : Int) (h : Int) (h1 : Int) (h2 : List ((Int × (Int × List (UInt8))))) (h3 : (List (((Int × Int) × Nat)) × Nat)) (h4 : Int) (h5 : Int) (h6 : List ((Int × (Int × List (UInt8))))) (h7 : (List (((Int × Int) × Nat)) × Nat)) : Option ((Bool × (Int × (Int × (List ((Int × (Int × List (UInt8)))) × ((List (((Int × Int) × Nat)) × Nat) × (Int × (Int × (List ((Int × (Int × List (UInt8)))) × (List (((Int × Int) × Nat)) × Nat)))))))))) :=
  (law07_alike__comcom_l0_it fu to_ (0, (h, (h1, (h2, (h3, (h4, (h5, (h6, (h7, [])))))))))).bind fun o1 =>
  Option.bind (α := ((Bool × (Int × (Int × (List ((Int × (Int × List (UInt8)))) × ((List (((Int × Int) × Nat)) × Nat) × (Int × (Int × (List ((Int × (Int × List (UInt8)))) × ((List (((Int × Int) × Nat)) × Nat) × List ((Int × (Int × List (UInt8))))))))))))))) (
    (net_Net_Flying__com fu o1.2.2.2.2.1 o1.2.2.2.2.2.1 o1.2.2.2.2.2.2.1 o1.2.2.2.2.2.2.2.1).bind fun r2 =>
    bif (!(r2.1 == ((o1.2.2.2.2.2.2.2.2.length : Nat) : Int))) then
      some (true, (o1.1, (o1.2.1, (o1.2.2.1, (o1.2.2.2.1, (r2.2.1, (r2.2.2.1, (r2.2.2.2.1, (r2.2.2.2.2, o1.2.2.2.2.2.2.2.2)))))))))
    else
      (net_Net_Waiting__com fu to_ o1.1 o1.2.1 o1.2.2.1 o1.2.2.2.1).bind fun r3 =>
      bif (!(r3.1 == ((o1.2.2.2.2.2.2.2.2.length : Nat) : Int))) then
        some (true, (r3.2.1, (r3.2.2.1, (r3.2.2.2.1, (r3.2.2.2.2, (r2.2.1, (r2.2.2.1, (r2.2.2.2.1, (r2.2.2.2.2, o1.2.2.2.2.2.2.2.2)))))))))
      else
        (net_Net_Waiting__com fu to_ r2.2.1 r2.2.2.1 r2.2.2.2.1 r2.2.2.2.2).bind fun r4 =>
        some ((!(r4.1 == ((o1.2.2.2.2.2.2.2.2.length : Nat) : Int))), (r3.2.1, (r3.2.2.1, (r3.2.2.2.1, (r3.2.2.2.2, (r4.2.1, (r4.2.2.1, (r4.2.2.2.1, (r4.2.2.2.2, o1.2.2.2.2.2.2.2.2)))))))))) fun o2 =>
  bif o2.1 then
    some (false, (o2.2.1, (o2.2.2.1, (o2.2.2.2.1, (o2.2.2.2.2.1, (o2.2.2.2.2.2.1, (o2.2.2.2.2.2.2.1, (o2.2.2.2.2.2.2.2.1, o2.2.2.2.2.2.2.2.2.1))))))))
  else
    (law07_alike__comcom_l1_it fu o2 (0, (o2.2.1, (o2.2.2.1, (o2.2.2.2.1, (o2.2.2.2.2.1, (o2.2.2.2.2.2.1, (o2.2.2.2.2.2.2.1, (o2.2.2.2.2.2.2.2.1, (o2.2.2.2.2.2.2.2.2.1, o2.2.2.2.2.2.2.2.2.2)))))))))).bind fun o3 =>
    match o3 with
    | .inl s =>
      some (true, (s.1, (s.2.1, (s.2.2.1, (s.2.2.2.1, (s.2.2.2.2.1, (s.2.2.2.2.2.1, (s.2.2.2.2.2.2.1, s.2.2.2.2.2.2.2))))))))
    | .inr o4 =>
      some o4
def law07_alike__comcom_fa : FnA := ⟨.two (.leaf) (.two (.leaf) (.two (.two (.leaf) (.one (.pre (.ownNil 7 34 100) (.loop ⟨[0, 1, 7, 8], ⟨(.cons (.own 0 0 0 0) (.cons (.own 0 3 0 0) (.cons (.slf 3 100) (.cons (.p (.int .i64)) .nil)))), [(0, false, (.vars (.cons (.p (.int .i64)) (.cons (.p (.int .i64)) (.cons (.slf 3 1) (.cons (.mp 2) .nil)))))), (1, false, (.rows 34 (.pair (.int .i64) (.pair (.int .i64) (.sl .byte))))), (2, false, (.map (.int .i64) (.int .i64))), (3, false, (.vars (.cons (.p (.int .i64)) (.cons (.p (.int .i64)) (.cons (.slf 3 4) (.cons (.mp 5) .nil)))))), (4, false, (.rows 34 (.pair (.int .i64) (.pair (.int .i64) (.sl .byte))))), (5, false, (.map (.int .i64) (.int .i64))), (100, false, (.rows 34 (.pair (.int .i64) (.pair (.int .i64) (.sl .byte)))))]⟩⟩ false [(0, ⟨[0, 1, 7], ⟨(.cons (.own 0 0 0 0) (.cons (.own 0 3 0 0) (.cons (.slf 3 100) .nil))), [(0, false, (.vars (.cons (.p (.int .i64)) (.cons (.p (.int .i64)) (.cons (.slf 3 1) (.cons (.mp 2) .nil)))))), (1, false, (.rows 34 (.pair (.int .i64) (.pair (.int .i64) (.sl .byte))))), (2, false, (.map (.int .i64) (.int .i64))), (3, false, (.vars (.cons (.p (.int .i64)) (.cons (.p (.int .i64)) (.cons (.slf 3 4) (.cons (.mp 5) .nil)))))), (4, false, (.rows 34 (.pair (.int .i64) (.pair (.int .i64) (.sl .byte))))), (5, false, (.map (.int .i64) (.int .i64))), (100, false, (.rows 34 (.pair (.int .i64) (.pair (.int .i64) (.sl .byte)))))]⟩⟩)] (.two (.two (.reg [(2, { sh := [0, 1, 2] })]) (.leaf)) (.two (.one (.two (.reg [(2, { sh := [0, 1, 2], fn := 1 }), (6, { ids := [101] })]) (.two (.leaf) (.join ⟨[0, 1, 7], ⟨(.cons (.own 0 0 0 0) (.cons (.own 0 3 0 0) (.cons (.slf 3 103) .nil))), [(0, false, (.vars (.cons (.p (.int .i64)) (.cons (.p (.int .i64)) (.cons (.slf 3 1) (.cons (.mp 2) .nil)))))), (1, false, (.rows 34 (.pair (.int .i64) (.pair (.int .i64) (.sl .byte))))), (2, false, (.map (.int .i64) (.int .i64))), (3, false, (.vars (.cons (.p (.int .i64)) (.cons (.p (.int .i64)) (.cons (.slf 3 4) (.cons (.mp 5) .nil)))))), (4, false, (.rows 34 (.pair (.int .i64) (.pair (.int .i64) (.sl .byte))))), (5, false, (.map (.int .i64) (.int .i64))), (103, false, (.rows 34 (.pair (.int .i64) (.pair (.int .i64) (.sl .byte)))))]⟩⟩ false [] (.two (.reg [(2, { ids := [102] }), (3, { ids := [103] })]) (.leaf)))))) (.leaf))))))) (.two (.two (.join ⟨[0, 1, 7, 54], ⟨(.cons (.own 0 0 0 0) (.cons (.own 0 3 0 0) (.cons (.slf 3 100) (.cons (.p .bool) .nil)))), [(0, false, (.vars (.cons (.p (.int .i64)) (.cons (.p (.int .i64)) (.cons (.slf 3 1) (.cons (.mp 2) .nil)))))), (1, false, (.rows 34 (.pair (.int .i64) (.pair (.int .i64) (.sl .byte))))), (2, false, (.map (.int .i64) (.int .i64))), (3, false, (.vars (.cons (.p (.int .i64)) (.cons (.p (.int .i64)) (.cons (.slf 3 4) (.cons (.mp 5) .nil)))))), (4, false, (.rows 34 (.pair (.int .i64) (.pair (.int .i64) (.sl .byte))))), (5, false, (.map (.int .i64) (.int .i64))), (100, false, (.rows 34 (.pair (.int .i64) (.pair (.int .i64) (.sl .byte)))))]⟩⟩ false [] (.reg [(1, { sh := [3, 4, 5] }), (8, { sh := [0, 1, 2], fn := 2 }), (16, { sh := [3, 4, 5], fn := 2 })])) (.two (.leaf) (.leaf))) (.two (.two (.leaf) (.one (.loop ⟨[0, 1, 7, 57], ⟨(.cons (.own 0 0 0 0) (.cons (.own 0 3 0 0) (.cons (.slf 3 100) (.cons (.p (.int .i64)) .nil)))), [(0, false, (.vars (.cons (.p (.int .i64)) (.cons (.p (.int .i64)) (.cons (.slf 3 1) (.cons (.mp 2) .nil)))))), (1, false, (.rows 34 (.pair (.int .i64) (.pair (.int .i64) (.sl .byte))))), (2, false, (.map (.int .i64) (.int .i64))), (3, false, (.vars (.cons (.p (.int .i64)) (.cons (.p (.int .i64)) (.cons (.slf 3 4) (.cons (.mp 5) .nil)))))), (4, false, (.rows 34 (.pair (.int .i64) (.pair (.int .i64) (.sl .byte))))), (5, false, (.map (.int .i64) (.int .i64))), (100, false, (.rows 34 (.pair (.int .i64) (.pair (.int .i64) (.sl .byte)))))]⟩⟩ true [(2, ⟨[0, 1], ⟨(.cons (.own 0 0 0 0) (.cons (.own 0 3 0 0) .nil)), [(0, false, (.vars (.cons (.p (.int .i64)) (.cons (.p (.int .i64)) (.cons (.slf 3 1) (.cons (.mp 2) .nil)))))), (1, false, (.rows 34 (.pair (.int .i64) (.pair (.int .i64) (.sl .byte))))), (2, false, (.map (.int .i64) (.int .i64))), (3, false, (.vars (.cons (.p (.int .i64)) (.cons (.p (.int .i64)) (.cons (.slf 3 4) (.cons (.mp 5) .nil)))))), (4, false, (.rows 34 (.pair (.int .i64) (.pair (.int .i64) (.sl .byte))))), (5, false, (.map (.int .i64) (.int .i64)))]⟩⟩)] (.two (.leaf) (.two (.leaf) (.two (.one (.two (.leaf) (.two (.reg [(2, { sh := [3, 4, 5], fn := 1 }), (6, { ids := [104] })]) (.two (.reg [(5, { fn := 3 })]) (.two (.leaf) (.leaf)))))) (.leaf))))))) (.leaf))))), ⟨(.cons (.own 0 0 0 0) (.cons (.own 0 3 0 0) (.cons (.p (.int .i64)) .nil))), [(0, false, (.vars (.cons (.p (.int .i64)) (.cons (.p (.int .i64)) (.cons (.slf 3 1) (.cons (.mp 2) .nil)))))), (1, false, (.rows 34 (.pair (.int .i64) (.pair (.int .i64) (.sl .byte))))), (2, false, (.map (.int .i64) (.int .i64))), (3, false, (.vars (.cons (.p (.int .i64)) (.cons (.p (.int .i64)) (.cons (.slf 3 4) (.cons (.mp 5) .nil)))))), (4, false, (.rows 34 (.pair (.int .i64) (.pair (.int .i64) (.sl .byte))))), (5, false, (.map (.int .i64) (.int .i64)))]⟩, [⟨(.cons (.p .bool) .nil), [(0, false, (.vars (.cons (.p (.int .i64)) (.cons (.p (.int .i64)) (.cons (.slf 3 1) (.cons (.mp 2) .nil)))))), (1, false, (.rows 34 (.pair (.int .i64) (.pair (.int .i64) (.sl .byte))))), (2, false, (.map (.int .i64) (.int .i64))), (3, false, (.vars (.cons (.p (.int .i64)) (.cons (.p (.int .i64)) (.cons (.slf 3 4) (.cons (.mp 5) .nil)))))), (4, false, (.rows 34 (.pair (.int .i64) (.pair (.int .i64) (.sl .byte))))), (5, false, (.map (.int .i64) (.int .i64)))]⟩], [0]⟩
def law07_alike__comcom_ft (fu : Nat) : FnT := ⟨35, ⟨(.cons (.own 0 0 0 0) (.cons (.own 0 3 0 0) (.cons (.p (.int .i64)) .nil))), [(0, false, (.vars (.cons (.p (.int .i64)) (.cons (.p (.int .i64)) (.cons (.slf 3 1) (.cons (.mp 2) .nil)))))), (1, false, (.rows 34 (.pair (.int .i64) (.pair (.int .i64) (.sl .byte))))), (2, false, (.map (.int .i64) (.int .i64))), (3, false, (.vars (.cons (.p (.int .i64)) (.cons (.p (.int .i64)) (.cons (.slf 3 4) (.cons (.mp 5) .nil)))))), (4, false, (.rows 34 (.pair (.int .i64) (.pair (.int .i64) (.sl .byte))))), (5, false, (.map (.int .i64) (.int .i64)))]⟩, [⟨(.cons (.p .bool) .nil), [(0, false, (.vars (.cons (.p (.int .i64)) (.cons (.p (.int .i64)) (.cons (.slf 3 1) (.cons (.mp 2) .nil)))))), (1, false, (.rows 34 (.pair (.int .i64) (.pair (.int .i64) (.sl .byte))))), (2, false, (.map (.int .i64) (.int .i64))), (3, false, (.vars (.cons (.p (.int .i64)) (.cons (.p (.int .i64)) (.cons (.slf 3 4) (.cons (.mp 5) .nil)))))), (4, false, (.rows 34 (.pair (.int .i64) (.pair (.int .i64) (.sl .byte))))), (5, false, (.map (.int .i64) (.int .i64)))]⟩], fun t => law07_alike__comcom fu t.1 t.2.1 t.2.2.1 t.2.2.2.1 t.2.2.2.2.1 t.2.2.2.2.2.1 t.2.2.2.2.2.2.1 t.2.2.2.2.2.2.2.1 t.2.2.2.2.2.2.2.2⟩
theorem law07_alike__comcom_eq (fu : Nat) : ∀ t, evF Go.Proofs.Try.prog [net_Net_Flying__com_ft fu, net_Net_Look__com_ft fu, net_Net_Waiting__com_ft fu, law07_like_ft fu] fu Go.Proofs.Try.f35 law07_alike__comcom_fa t = (law07_alike__comcom_ft fu).spec t := fun t => by kernel_rfl
theorem law07_alike__comcom_told (fu : Nat) : Told Go.Proofs.Try.prog (law07_alike__comcom_ft fu) := told_of (allT_cons (net_Net_Flying__com_told fu) (allT_cons (net_Net_Look__com_told fu) (allT_cons (net_Net_Waiting__com_told fu) (allT_cons (law07_like_told fu) allT_nil)))) mixed Go.Proofs.Try.func35 (by kernel_rfl) (by kernel_rfl) (law07_alike__comcom_eq fu)

def law07_NetOthers_l0 (fu : Nat) (r6 : Int) (k : Int) (j : Int) (h : Int) (h1 : Int) (h2 : Int) (h3 : Int) (h4 : List (UInt8)) : Option ((Int × (Int × (Int × (Int × (Int × (Int × List (UInt8))))))) ⊕ ((Int × (Int × (Int × (Int × (Int × List (UInt8)))))))) :=
  bif (decide (j < h3)) then
    (net_Net_Look_n0 fu j).bind fun r11 =>
    Option.bind (α := ((Int × (Int × (Int × (Int × (Int × List (UInt8)))))))) (
      bif (r11.2.1 == r6) then
        some ((IntKind.wrap .i64 (k + 1)), (h, (h1, (h2, (h3, h4)))))
      else
        some (k, (h, (h1, (h2, (h3, h4)))))) fun o3 =>
    some (.inl (o3.1, ((IntKind.wrap .i64 (j + 1)), (o3.2.1, (o3.2.2.1, (o3.2.2.2.1, (o3.2.2.2.2.1, o3.2.2.2.2.2)))))))
  else
    some (.inr (k, (h, (h1, (h2, (h3, h4))))))
def law07_NetOthers_l0_it (fu : Nat) (r6 : Int) (tt : (Int × (Int × (Int × (Int × (Int × (Int × List (UInt8)))))))) : Option ((Int × (Int × (Int × (Int × (Int × List (UInt8))))))) :=
  iter fu (fun tt => law07_NetOthers_l0 fu r6 tt.1 tt.2.1 tt.2.2.1 tt.2.2.2.1 tt.2.2.2.2.1 tt.2.2.2.2.2.1 tt.2.2.2.2.2.2) tt
def law07_NetOthers_l1 (fu : Nat) (l : List ((UInt8 × (Int × (Int × (Int × List (UInt8))))))) (r6 : Int) (i : Int) : Option (Int ⊕ (Unit ⊕ Bool)) :=
  Option.bind (α := (Bool)) (
    bif (decide (i < ((l.length : Nat) : Int))) then
      some (decide (i < 60))
    else
      some false) fun o1 =>
  bif o1 then
    Option.bind (α := (Unit ⊕ (Int ⊕ (Unit ⊕ Bool)))) (
      (idx? i l.length).bind fun q =>
      (l)[q]?.bind fun r7 =>
      (upto? (if 60 < ((r7.2.2.2.2.length : Nat) : Int) then 60 else ((r7.2.2.2.2.length : Nat) : Int)) r7.2.2.2.2.length).bind fun q1 =>
      (low_Pick fu r7.2.1 5).bind fun r8 =>
      (low_Pick fu r7.2.2.1 5).bind fun r9 =>
      Option.bind (α := ((Bool × (Int × (Int × (Int × (Int × List (UInt8)))))))) (
        bif (decide (((r7.1.toNat : Nat) : Int) ≥ 4)) then
          some ((decide (((r7.1.toNat : Nat) : Int) ≤ 6)), (((r7.1.toNat : Nat) : Int), (r7.2.1, (r7.2.2.1, (r7.2.2.2.1, (List.take q1 r7.2.2.2.2))))))
        else
          some (false, (((r7.1.toNat : Nat) : Int), (r7.2.1, (r7.2.2.1, (r7.2.2.2.1, (List.take q1 r7.2.2.2.2))))))) fun o2 =>
      Option.bind (α := ((Int × (Int × (Int × (Int × (Int × (Int × List (UInt8))))))) ⊕ Unit)) (
        bif o2.1 then
          (net_Net_Look_n0 fu o2.2.2.2.2.1).bind fun r10 =>
          bif (!r10.2.2) then
            some (.inr ())
          else
            (law07_NetOthers_l0_it fu r6 (0, (0, (o2.2.1, (o2.2.2.1, (o2.2.2.2.1, (o2.2.2.2.2.1, o2.2.2.2.2.2))))))).bind fun o4 =>
            some (.inl (o4.1, (r10.2.1, (o4.2.1, (o4.2.2.1, (o4.2.2.2.1, (o4.2.2.2.2.1, o4.2.2.2.2.2)))))))
        else
          some (.inl (0, (r9, (o2.2.1, (o2.2.2.1, (o2.2.2.2.1, (o2.2.2.2.2.1, o2.2.2.2.2.2)))))))) fun o5 =>
      match o5 with
      | .inl s =>
        (law07_deed_n0 fu s.2.2.1 r8 r9 s.2.2.2.2.2.1 s.2.2.2.2.2.2).bind fun r12 =>
        Option.bind (α := (Unit ⊕ (Unit ⊕ (Int ⊕ (Unit ⊕ Bool))))) (
          bif (s.2.1 == r6) then
            (law07_deed_n0 fu s.2.2.1 r8 r9 s.1 s.2.2.2.2.2.2).bind fun r13 =>
            bif (!(r12 == r13)) then
              some (.inr (.inr (.inr (.inr false))))
            else
              some (.inl ())
          else
            some (.inl ())) fun o7 =>
        match o7 with
        | .inl s1 =>
          (law07_alike_n0n1 fu r6).bind fun r14 =>
          bif (!r14) then
            some (.inr (.inr (.inr false)))
          else
            some (.inl ())
        | .inr o8 =>
          some o8
      | .inr o6 =>
        some (.inl ())) fun o9 =>
    match o9 with
    | .inl s2 =>
      some (.inl (IntKind.wrap .i64 (i + 1)))
    | .inr o10 =>
      some o10
  else
    some (.inr (.inl ()))
def law07_NetOthers_l1_it (fu : Nat) (l : List ((UInt8 × (Int × (Int × (Int × List (UInt8))))))) (r6 : Int) (tt : Int) : Option (Unit ⊕ Bool) :=
  iter fu (fun tt => law07_NetOthers_l1 fu l r6 tt) tt
def law07_NetOthers_l2 (fu : Nat) (r16 : Int) (k1 : Int) (j1 : Int) (h9 : Int) (h10 : Int) (h11 : List ((Int × (Int × List (UInt8))))) (h12 : (List (((Int × Int) × Nat)) × Nat)) (h13 : Int) (h14 : Int) (h15 : Int) (h16 : Int) (h17 : List (UInt8)) : Option ((Int × (Int × (Int × (Int × (List ((Int × (Int × List (UInt8)))) × ((List (((Int × Int) × Nat)) × Nat) × (Int × (Int × (Int × (Int × List (UInt8))))))))))) ⊕ ((Int × (Int × (Int × (List ((Int × (Int × List (UInt8)))) × ((List (((Int × Int) × Nat)) × Nat) × (Int × (Int × (Int × (Int × List (UInt8)))))))))))) :=
  bif (decide (j1 < h16)) then
    (net_Net_Look_n0 fu j1).bind fun r21 =>
    Option.bind (α := ((Int × (Int × (Int × (List ((Int × (Int × List (UInt8)))) × ((List (((Int × Int) × Nat)) × Nat) × (Int × (Int × (Int × (Int × List (UInt8)))))))))))) (
      bif (r21.2.1 == r16) then
        some ((IntKind.wrap .i64 (k1 + 1)), (h9, (h10, (h11, (h12, (h13, (h14, (h15, (h16, h17)))))))))
      else
        some (k1, (h9, (h10, (h11, (h12, (h13, (h14, (h15, (h16, h17)))))))))) fun o16 =>
    some (.inl (o16.1, ((IntKind.wrap .i64 (j1 + 1)), (o16.2.1, (o16.2.2.1, (o16.2.2.2.1, (o16.2.2.2.2.1, (o16.2.2.2.2.2.1, (o16.2.2.2.2.2.2.1, (o16.2.2.2.2.2.2.2.1, (o16.2.2.2.2.2.2.2.2.1, o16.2.2.2.2.2.2.2.2.2)))))))))))
  else
    some (.inr (k1, (h9, (h10, (h11, (h12, (h13, (h14, (h15, (h16, h17))))))))))
def law07_NetOthers_l2_it (fu : Nat) (r16 : Int) (tt : (Int × (Int × (Int × (Int × (List ((Int × (Int × List (UInt8)))) × ((List (((Int × Int) × Nat)) × Nat) × (Int × (Int × (Int × (Int × List (UInt8)))))))))))) : Option ((Int × (Int × (Int × (List ((Int × (Int × List (UInt8)))) × ((List (((Int × Int) × Nat)) × Nat) × (Int × (Int × (Int × (Int × List (UInt8))))))))))) :=
  iter fu (fun tt => law07_NetOthers_l2 fu r16 tt.1 tt.2.1 tt.2.2.1 tt.2.2.2.1 tt.2.2.2.2.1 tt.2.2.2.2.2.1 tt.2.2.2.2.2.2.1 tt.2.2.2.2.2.2.2.1 tt.2.2.2.2.2.2.2.2.1 tt.2.2.2.2.2.2.2.2.2.1 tt.2.2.2.2.2.2.2.2.2.2) tt
def law07_NetOthers_l3 (fu : Nat) (l : List ((UInt8 × (Int × (Int × (Int × List (UInt8))))))) (r16 : Int) (i1 : Int) (h5 : Int) (h6 : Int) (h7 : List ((Int × (Int × List (UInt8))))) (h8 : (List (((Int × Int) × Nat)) × Nat)) : Option ((Int × (Int × (Int × (List ((Int × (Int × List (UInt8)))) × (List (((Int × Int) × Nat)) × Nat))))) ⊕ (Unit ⊕ Bool)) :=
  Option.bind (α := ((Bool × (Int × (Int × (List ((Int × (Int × List (UInt8)))) × (List (((Int × Int) × Nat)) × Nat))))))) (
    bif (decide (i1 < ((l.length : Nat) : Int))) then
      some ((decide (i1 < 60)), (h5, (h6, (h7, h8))))
    else
      some (false, (h5, (h6, (h7, h8))))) fun o14 =>
  bif o14.1 then
    Option.bind (α := ((Int × (Int × (List ((Int × (Int × List (UInt8)))) × (List (((Int × Int) × Nat)) × Nat)))) ⊕ ((Int × (Int × (Int × (List ((Int × (Int × List (UInt8)))) × (List (((Int × Int) × Nat)) × Nat))))) ⊕ (Unit ⊕ Bool)))) (
      (idx? i1 l.length).bind fun q2 =>
      (l)[q2]?.bind fun r17 =>
      (upto? (if 60 < ((r17.2.2.2.2.length : Nat) : Int) then 60 else ((r17.2.2.2.2.length : Nat) : Int)) r17.2.2.2.2.length).bind fun q3 =>
      (low_Pick fu r17.2.1 5).bind fun r18 =>
      (low_Pick fu r17.2.2.1 5).bind fun r19 =>
      Option.bind (α := ((Bool × (Int × (Int × (List ((Int × (Int × List (UInt8)))) × ((List (((Int × Int) × Nat)) × Nat) × (Int × (Int × (Int × (Int × List (UInt8)))))))))))) (
        bif (decide (((r17.1.toNat : Nat) : Int) ≥ 4)) then
          some ((decide (((r17.1.toNat : Nat) : Int) ≤ 6)), (o14.2.1, (o14.2.2.1, (o14.2.2.2.1, (o14.2.2.2.2, (((r17.1.toNat : Nat) : Int), (r17.2.1, (r17.2.2.1, (r17.2.2.2.1, (List.take q3 r17.2.2.2.2))))))))))
        else
          some (false, (o14.2.1, (o14.2.2.1, (o14.2.2.2.1, (o14.2.2.2.2, (((r17.1.toNat : Nat) : Int), (r17.2.1, (r17.2.2.1, (r17.2.2.2.1, (List.take q3 r17.2.2.2.2))))))))))) fun o15 =>
      Option.bind (α := ((Int × (Int × (Int × (Int × (List ((Int × (Int × List (UInt8)))) × ((List (((Int × Int) × Nat)) × Nat) × (Int × (Int × (Int × (Int × List (UInt8))))))))))) ⊕ (Int × (Int × (List ((Int × (Int × List (UInt8)))) × (List (((Int × Int) × Nat)) × Nat)))))) (
        bif o15.1 then
          (net_Net_Look_n0 fu o15.2.2.2.2.2.2.2.2.1).bind fun r20 =>
          bif (!r20.2.2) then
            some (.inr (o15.2.1, (o15.2.2.1, (o15.2.2.2.1, o15.2.2.2.2.1))))
          else
            (law07_NetOthers_l2_it fu r16 (0, (0, (o15.2.1, (o15.2.2.1, (o15.2.2.2.1, (o15.2.2.2.2.1, (o15.2.2.2.2.2.1, (o15.2.2.2.2.2.2.1, (o15.2.2.2.2.2.2.2.1, (o15.2.2.2.2.2.2.2.2.1, o15.2.2.2.2.2.2.2.2.2))))))))))).bind fun o17 =>
            some (.inl (o17.1, (r20.2.1, (o17.2.1, (o17.2.2.1, (o17.2.2.2.1, (o17.2.2.2.2.1, (o17.2.2.2.2.2.1, (o17.2.2.2.2.2.2.1, (o17.2.2.2.2.2.2.2.1, (o17.2.2.2.2.2.2.2.2.1, o17.2.2.2.2.2.2.2.2.2)))))))))))
        else
          some (.inl (0, (r19, (o15.2.1, (o15.2.2.1, (o15.2.2.2.1, (o15.2.2.2.2.1, (o15.2.2.2.2.2.1, (o15.2.2.2.2.2.2.1, (o15.2.2.2.2.2.2.2.1, (o15.2.2.2.2.2.2.2.2.1, o15.2.2.2.2.2.2.2.2.2)))))))))))) fun o18 =>
      match o18 with
      | .inl s4 =>
        (law07_deed_n0 fu s4.2.2.2.2.2.2.1 r18 r19 s4.2.2.2.2.2.2.2.2.2.1 s4.2.2.2.2.2.2.2.2.2.2).bind fun r22 =>
        Option.bind (α := ((Int × (Int × (List ((Int × (Int × List (UInt8)))) × (List (((Int × Int) × Nat)) × Nat)))) ⊕ ((Int × (Int × (List ((Int × (Int × List (UInt8)))) × (List (((Int × Int) × Nat)) × Nat)))) ⊕ ((Int × (Int × (Int × (List ((Int × (Int × List (UInt8)))) × (List (((Int × Int) × Nat)) × Nat))))) ⊕ (Unit ⊕ Bool))))) (
          bif (s4.2.1 == r16) then
            Option.bind (α := ((List UInt8 × (Int × (Int × (List ((Int × (Int × List (UInt8)))) × (List (((Int × Int) × Nat)) × Nat))))))) (
              (law07_deed__com fu s4.2.2.2.2.2.2.1 r18 r19 s4.1 s4.2.2.2.2.2.2.2.2.2.2 s4.2.2.1 s4.2.2.2.1 s4.2.2.2.2.1 s4.2.2.2.2.2.1).bind fun r23 =>
              match r23 with
              | .inl r24 =>
                some (r24.1, (r24.2.1, (r24.2.2.1, (r24.2.2.2.1, r24.2.2.2.2))))
              | .inr r25 =>
                some (r25.1, (r25.2.1, (r25.2.2.1, (r25.2.2.2.2, r25.2.2.2.1))))) fun o20 =>
            bif (!(r22 == o20.1)) then
              some (.inr (.inr (.inr (.inr false))))
            else
              some (.inl (o20.2.1, (o20.2.2.1, (o20.2.2.2.1, o20.2.2.2.2))))
          else
            some (.inl (s4.2.2.1, (s4.2.2.2.1, (s4.2.2.2.2.1, s4.2.2.2.2.2.1))))) fun o21 =>
        match o21 with
        | .inl s5 =>
          (law07_alike_n0_com fu r16 s5.1 s5.2.1 s5.2.2.1 s5.2.2.2).bind fun r26 =>
          bif (!r26.1) then
            some (.inr (.inr (.inr false)))
          else
            some (.inl (r26.2.1, (r26.2.2.1, (r26.2.2.2.1, r26.2.2.2.2))))
        | .inr o22 =>
          some o22
      | .inr o19 =>
        some (.inl (o19.1, (o19.2.1, (o19.2.2.1, o19.2.2.2))))) fun o23 =>
    match o23 with
    | .inl s6 =>
      some (.inl ((IntKind.wrap .i64 (i1 + 1)), (s6.1, (s6.2.1, (s6.2.2.1, s6.2.2.2)))))
    | .inr o24 =>
      some o24
  else
    some (.inr (.inl ()))
def law07_NetOthers_l3_it (fu : Nat) (l : List ((UInt8 × (Int × (Int × (Int × List (UInt8))))))) (r16 : Int) (tt : (Int × (Int × (Int × (List ((Int × (Int × List (UInt8)))) × (List (((Int × Int) × Nat)) × Nat)))))) : Option (Unit ⊕ Bool) :=
  iter fu (fun tt => law07_NetOthers_l3 fu l r16 tt.1 tt.2.1 tt.2.2.1 tt.2.2.2.1 tt.2.2.2.2) tt
def law07_NetOthers_l4 (fu : Nat) (r31 : Int) (k2 : Int) (j2 : Int) (h22 : Int) (h23 : Int) (h24 : List ((Int × (Int × List (UInt8))))) (h25 : (List (((Int × Int) × Nat)) × Nat)) (h26 : Int) (h27 : Int) (h28 : Int) (h29 : Int) (h30 : List (UInt8)) : Option ((Int × (Int × (Int × (Int × (List ((Int × (Int × List (UInt8)))) × ((List (((Int × Int) × Nat)) × Nat) × (Int × (Int × (Int × (Int × List (UInt8))))))))))) ⊕ ((Int × (Int × (Int × (List ((Int × (Int × List (UInt8)))) × ((List (((Int × Int) × Nat)) × Nat) × (Int × (Int × (Int × (Int × List (UInt8)))))))))))) :=
  bif (decide (j2 < h29)) then
    (net_Net_Look__com fu j2 h22 h23 h24 h25).bind fun r36 =>
    Option.bind (α := ((Int × (Int × (Int × (List ((Int × (Int × List (UInt8)))) × ((List (((Int × Int) × Nat)) × Nat) × (Int × (Int × (Int × (Int × List (UInt8)))))))))))) (
      bif (r36.2.1 == r31) then
        some ((IntKind.wrap .i64 (k2 + 1)), (r36.2.2.2.2.1, (r36.2.2.2.2.2.1, (r36.2.2.2.2.2.2.1, (r36.2.2.2.2.2.2.2, (h26, (h27, (h28, (h29, h30)))))))))
      else
        some (k2, (r36.2.2.2.2.1, (r36.2.2.2.2.2.1, (r36.2.2.2.2.2.2.1, (r36.2.2.2.2.2.2.2, (h26, (h27, (h28, (h29, h30)))))))))) fun o30 =>
    some (.inl (o30.1, ((IntKind.wrap .i64 (j2 + 1)), (o30.2.1, (o30.2.2.1, (o30.2.2.2.1, (o30.2.2.2.2.1, (o30.2.2.2.2.2.1, (o30.2.2.2.2.2.2.1, (o30.2.2.2.2.2.2.2.1, (o30.2.2.2.2.2.2.2.2.1, o30.2.2.2.2.2.2.2.2.2)))))))))))
  else
    some (.inr (k2, (h22, (h23, (h24, (h25, (h26, (h27, (h28, (h29, h30))))))))))
def law07_NetOthers_l4_it (fu : Nat) (r31 : Int) (tt : (Int × (Int × (Int × (Int × (List ((Int × (Int × List (UInt8)))) × ((List (((Int × Int) × Nat)) × Nat) × (Int × (Int × (Int × (Int × List (UInt8)))))))))))) : Option ((Int × (Int × (Int × (List ((Int × (Int × List (UInt8)))) × ((List (((Int × Int) × Nat)) × Nat) × (Int × (Int × (Int × (Int × List (UInt8))))))))))) :=
  iter fu (fun tt => law07_NetOthers_l4 fu r31 tt.1 tt.2.1 tt.2.2.1 tt.2.2.2.1 tt.2.2.2.2.1 tt.2.2.2.2.2.1 tt.2.2.2.2.2.2.1 tt.2.2.2.2.2.2.2.1 tt.2.2.2.2.2.2.2.2.1 tt.2.2.2.2.2.2.2.2.2.1 tt.2.2.2.2.2.2.2.2.2.2) tt
def law07_NetOthers_l5 (fu : Nat) (l : List ((UInt8 × (Int × (Int × (Int × List (UInt8))))))) (r31 : Int) (i2 : Int) (h18 : Int) (h19 : Int) (h20 : List ((Int × (Int × List (UInt8))))) (h21 : (List (((Int × Int) × Nat)) × Nat)) : Option ((Int × (Int × (Int × (List ((Int × (Int × List (UInt8)))) × (List (((Int × Int) × Nat)) × Nat))))) ⊕ (Unit ⊕ Bool)) :=
  Option.bind (α := ((Bool × (Int × (Int × (List ((Int × (Int × List (UInt8)))) × (List (((Int × Int) × Nat)) × Nat))))))) (
    bif (decide (i2 < ((l.length : Nat) : Int))) then
      some ((decide (i2 < 60)), (h18, (h19, (h20, h21))))
    else
      some (false, (h18, (h19, (h20, h21))))) fun o28 =>
  bif o28.1 then
    Option.bind (α := ((Int × (Int × (List ((Int × (Int × List (UInt8)))) × (List (((Int × Int) × Nat)) × Nat)))) ⊕ ((Int × (Int × (Int × (List ((Int × (Int × List (UInt8)))) × (List (((Int × Int) × Nat)) × Nat))))) ⊕ (Unit ⊕ Bool)))) (
      (idx? i2 l.length).bind fun q4 =>
      (l)[q4]?.bind fun r32 =>
      (upto? (if 60 < ((r32.2.2.2.2.length : Nat) : Int) then 60 else ((r32.2.2.2.2.length : Nat) : Int)) r32.2.2.2.2.length).bind fun q5 =>
      (low_Pick fu r32.2.1 5).bind fun r33 =>
      (low_Pick fu r32.2.2.1 5).bind fun r34 =>
      Option.bind (α := ((Bool × (Int × (Int × (List ((Int × (Int × List (UInt8)))) × ((List (((Int × Int) × Nat)) × Nat) × (Int × (Int × (Int × (Int × List (UInt8)))))))))))) (
        bif (decide (((r32.1.toNat : Nat) : Int) ≥ 4)) then
          some ((decide (((r32.1.toNat : Nat) : Int) ≤ 6)), (o28.2.1, (o28.2.2.1, (o28.2.2.2.1, (o28.2.2.2.2, (((r32.1.toNat : Nat) : Int), (r32.2.1, (r32.2.2.1, (r32.2.2.2.1, (List.take q5 r32.2.2.2.2))))))))))
        else
          some (false, (o28.2.1, (o28.2.2.1, (o28.2.2.2.1, (o28.2.2.2.2, (((r32.1.toNat : Nat) : Int), (r32.2.1, (r32.2.2.1, (r32.2.2.2.1, (List.take q5 r32.2.2.2.2))))))))))) fun o29 =>
      Option.bind (α := ((Int × (Int × (Int × (Int × (List ((Int × (Int × List (UInt8)))) × ((List (((Int × Int) × Nat)) × Nat) × (Int × (Int × (Int × (Int × List (UInt8))))))))))) ⊕ (Int × (Int × (List ((Int × (Int × List (UInt8)))) × (List (((Int × Int) × Nat)) × Nat)))))) (
        bif o29.1 then
          (net_Net_Look__com fu o29.2.2.2.2.2.2.2.2.1 o29.2.1 o29.2.2.1 o29.2.2.2.1 o29.2.2.2.2.1).bind fun r35 =>
          bif (!r35.2.2.2.1) then
            some (.inr (r35.2.2.2.2.1, (r35.2.2.2.2.2.1, (r35.2.2.2.2.2.2.1, r35.2.2.2.2.2.2.2))))
          else
            (law07_NetOthers_l4_it fu r31 (0, (0, (r35.2.2.2.2.1, (r35.2.2.2.2.2.1, (r35.2.2.2.2.2.2.1, (r35.2.2.2.2.2.2.2, (o29.2.2.2.2.2.1, (o29.2.2.2.2.2.2.1, (o29.2.2.2.2.2.2.2.1, (o29.2.2.2.2.2.2.2.2.1, o29.2.2.2.2.2.2.2.2.2))))))))))).bind fun o31 =>
            some (.inl (o31.1, (r35.2.1, (o31.2.1, (o31.2.2.1, (o31.2.2.2.1, (o31.2.2.2.2.1, (o31.2.2.2.2.2.1, (o31.2.2.2.2.2.2.1, (o31.2.2.2.2.2.2.2.1, (o31.2.2.2.2.2.2.2.2.1, o31.2.2.2.2.2.2.2.2.2)))))))))))
        else
          some (.inl (0, (r34, (o29.2.1, (o29.2.2.1, (o29.2.2.2.1, (o29.2.2.2.2.1, (o29.2.2.2.2.2.1, (o29.2.2.2.2.2.2.1, (o29.2.2.2.2.2.2.2.1, (o29.2.2.2.2.2.2.2.2.1, o29.2.2.2.2.2.2.2.2.2)))))))))))) fun o32 =>
      match o32 with
      | .inl s8 =>
        Option.bind (α := ((List UInt8 × (Int × (Int × (List ((Int × (Int × List (UInt8)))) × ((List (((Int × Int) × Nat)) × Nat) × (Int × (Int × (Int × (Int × List (UInt8)))))))))))) (
          (law07_deed__com fu s8.2.2.2.2.2.2.1 r33 r34 s8.2.2.2.2.2.2.2.2.2.1 s8.2.2.2.2.2.2.2.2.2.2 s8.2.2.1 s8.2.2.2.1 s8.2.2.2.2.1 s8.2.2.2.2.2.1).bind fun r37 =>
          match r37 with
          | .inl r38 =>
            some (r38.1, (r38.2.1, (r38.2.2.1, (r38.2.2.2.1, (r38.2.2.2.2, (s8.2.2.2.2.2.2.1, (s8.2.2.2.2.2.2.2.1, (s8.2.2.2.2.2.2.2.2.1, (s8.2.2.2.2.2.2.2.2.2.1, s8.2.2.2.2.2.2.2.2.2.2)))))))))
          | .inr r39 =>
            some (r39.1, (r39.2.1, (r39.2.2.1, (r39.2.2.2.2, (r39.2.2.2.1, (s8.2.2.2.2.2.2.1, (s8.2.2.2.2.2.2.2.1, (s8.2.2.2.2.2.2.2.2.1, (s8.2.2.2.2.2.2.2.2.2.1, s8.2.2.2.2.2.2.2.2.2.2)))))))))) fun o34 =>
        Option.bind (α := ((Int × (Int × (List ((Int × (Int × List (UInt8)))) × (List (((Int × Int) × Nat)) × Nat)))) ⊕ ((Int × (Int × (List ((Int × (Int × List (UInt8)))) × (List (((Int × Int) × Nat)) × Nat)))) ⊕ ((Int × (Int × (Int × (List ((Int × (Int × List (UInt8)))) × (List (((Int × Int) × Nat)) × Nat))))) ⊕ (Unit ⊕ Bool))))) (
          bif (s8.2.1 == r31) then
            (law07_deed_n0 fu o34.2.2.2.2.2.1 r33 r34 s8.1 o34.2.2.2.2.2.2.2.2.2).bind fun r40 =>
            bif (!(o34.1 == r40)) then
              some (.inr (.inr (.inr (.inr false))))
            else
              some (.inl (o34.2.1, (o34.2.2.1, (o34.2.2.2.1, o34.2.2.2.2.1))))
          else
            some (.inl (o34.2.1, (o34.2.2.1, (o34.2.2.2.1, o34.2.2.2.2.1))))) fun o35 =>
        match o35 with
        | .inl s9 =>
          (law07_alike_n1_com fu r31 s9.1 s9.2.1 s9.2.2.1 s9.2.2.2).bind fun r41 =>
          bif (!r41.1) then
            some (.inr (.inr (.inr false)))
          else
            some (.inl (r41.2.1, (r41.2.2.1, (r41.2.2.2.1, r41.2.2.2.2))))
        | .inr o36 =>
          some o36
      | .inr o33 =>
        some (.inl (o33.1, (o33.2.1, (o33.2.2.1, o33.2.2.2))))) fun o37 =>
    match o37 with
    | .inl s10 =>
      some (.inl ((IntKind.wrap .i64 (i2 + 1)), (s10.1, (s10.2.1, (s10.2.2.1, s10.2.2.2)))))
    | .inr o38 =>
      some o38
  else
    some (.inr (.inl ()))
def law07_NetOthers_l5_it (fu : Nat) (l : List ((UInt8 × (Int × (Int × (Int × List (UInt8))))))) (r31 : Int) (tt : (Int × (Int × (Int × (List ((Int × (Int × List (UInt8)))) × (List (((Int × Int) × Nat)) × Nat)))))) : Option (Unit ⊕ Bool) :=
  iter fu (fun tt => law07_NetOthers_l5 fu l r31 tt.1 tt.2.1 tt.2.2.1 tt.2.2.2.1 tt.2.2.2.2) tt
def law07_NetOthers_l6 (fu : Nat) (r43 : Int) (k3 : Int) (j3 : Int) (h39 : Int) (h40 : Int) (h41 : List ((Int × (Int × List (UInt8))))) (h42 : (List (((Int × Int) × Nat)) × Nat)) (h43 : Int) (h44 : Int) (h45 : List ((Int × (Int × List (UInt8))))) (h46 : (List (((Int × Int) × Nat)) × Nat)) (h47 : Int) (h48 : Int) (h49 : Int) (h50 : Int) (h51 : List (UInt8)) : Option ((Int × (Int × (Int × (Int × (List ((Int × (Int × List (UInt8)))) × ((List (((Int × Int) × Nat)) × Nat) × (Int × (Int × (List ((Int × (Int × List (UInt8)))) × ((List (((Int × Int) × Nat)) × Nat) × (Int × (Int × (Int × (Int × List (UInt8))))))))))))))) ⊕ ((Int × (Int × (Int × (List ((Int × (Int × List (UInt8)))) × ((List (((Int × Int) × Nat)) × Nat) × (Int × (Int × (List ((Int × (Int × List (UInt8)))) × ((List (((Int × Int) × Nat)) × Nat) × (Int × (Int × (Int × (Int × List (UInt8)))))))))))))))) :=
  bif (decide (j3 < h50)) then
    (net_Net_Look__com fu j3 h39 h40 h41 h42).bind fun r48 =>
    Option.bind (α := ((Int × (Int × (Int × (List ((Int × (Int × List (UInt8)))) × ((List (((Int × Int) × Nat)) × Nat) × (Int × (Int × (List ((Int × (Int × List (UInt8)))) × ((List (((Int × Int) × Nat)) × Nat) × (Int × (Int × (Int × (Int × List (UInt8)))))))))))))))) (
      bif (r48.2.1 == r43) then
        some ((IntKind.wrap .i64 (k3 + 1)), (r48.2.2.2.2.1, (r48.2.2.2.2.2.1, (r48.2.2.2.2.2.2.1, (r48.2.2.2.2.2.2.2, (h43, (h44, (h45, (h46, (h47, (h48, (h49, (h50, h51)))))))))))))
      else
        some (k3, (r48.2.2.2.2.1, (r48.2.2.2.2.2.1, (r48.2.2.2.2.2.2.1, (r48.2.2.2.2.2.2.2, (h43, (h44, (h45, (h46, (h47, (h48, (h49, (h50, h51)))))))))))))) fun o44 =>
    some (.inl (o44.1, ((IntKind.wrap .i64 (j3 + 1)), (o44.2.1, (o44.2.2.1, (o44.2.2.2.1, (o44.2.2.2.2.1, (o44.2.2.2.2.2.1, (o44.2.2.2.2.2.2.1, (o44.2.2.2.2.2.2.2.1, (o44.2.2.2.2.2.2.2.2.1, (o44.2.2.2.2.2.2.2.2.2.1, (o44.2.2.2.2.2.2.2.2.2.2.1, (o44.2.2.2.2.2.2.2.2.2.2.2.1, (o44.2.2.2.2.2.2.2.2.2.2.2.2.1, o44.2.2.2.2.2.2.2.2.2.2.2.2.2)))))))))))))))
  else
    some (.inr (k3, (h39, (h40, (h41, (h42, (h43, (h44, (h45, (h46, (h47, (h48, (h49, (h50, h51))))))))))))))
def law07_NetOthers_l6_it (fu : Nat) (r43 : Int) (tt : (Int × (Int × (Int × (Int × (List ((Int × (Int × List (UInt8)))) × ((List (((Int × Int) × Nat)) × Nat) × (Int × (Int × (List ((Int × (Int × List (UInt8)))) × ((List (((Int × Int) × Nat)) × Nat) × (Int × (Int × (Int × (Int × List (UInt8)))))))))))))))) : Option ((Int × (Int × (Int × (List ((Int × (Int × List (UInt8)))) × ((List (((Int × Int) × Nat)) × Nat) × (Int × (Int × (List ((Int × (Int × List (UInt8)))) × ((List (((Int × Int) × Nat)) × Nat) × (Int × (Int × (Int × (Int × List (UInt8))))))))))))))) :=
  iter fu (fun tt => law07_NetOthers_l6 fu r43 tt.1 tt.2.1 tt.2.2.1 tt.2.2.2.1 tt.2.2.2.2.1 tt.2.2.2.2.2.1 tt.2.2.2.2.2.2.1 tt.2.2.2.2.2.2.2.1 tt.2.2.2.2.2.2.2.2.1 tt.2.2.2.2.2.2.2.2.2.1 tt.2.2.2.2.2.2.2.2.2.2.1 tt.2.2.2.2.2.2.2.2.2.2.2.1 tt.2.2.2.2.2.2.2.2.2.2.2.2.1 tt.2.2.2.2.2.2.2.2.2.2.2.2.2.1 tt.2.2.2.2.2.2.2.2.2.2.2.2.2.2) tt
def law07_NetOthers_l7 (fu : Nat) (l : List ((UInt8 × (Int × (Int × (Int × List (UInt8))))))) (r43 : Int) (i3 : Int) (h31 : Int) (h32 : Int) (h33 : List ((Int × (Int × List (UInt8))))) (h34 : (List (((Int × Int) × Nat)) × Nat)) (h35 : Int) (h36 : Int) (h37 : List ((Int × (Int × List (UInt8))))) (h38 : (List (((Int × Int) × Nat)) × Nat)) : Option ((Int × (Int × (Int × (List ((Int × (Int × List (UInt8)))) × ((List (((Int × Int) × Nat)) × Nat) × (Int × (Int × (List ((Int × (Int × List (UInt8)))) × (List (((Int × Int) × Nat)) × Nat))))))))) ⊕ (Unit ⊕ Bool)) :=
  Option.bind (α := ((Bool × (Int × (Int × (List ((Int × (Int × List (UInt8)))) × ((List (((Int × Int) × Nat)) × Nat) × (Int × (Int × (List ((Int × (Int × List (UInt8)))) × (List (((Int × Int) × Nat)) × Nat))))))))))) (
    bif (decide (i3 < ((l.length : Nat) : Int))) then
      some ((decide (i3 < 60)), (h31, (h32, (h33, (h34, (h35, (h36, (h37, h38))))))))
    else
      some (false, (h31, (h32, (h33, (h34, (h35, (h36, (h37, h38))))))))) fun o42 =>
  bif o42.1 then
    Option.bind (α := ((Int × (Int × (List ((Int × (Int × List (UInt8)))) × ((List (((Int × Int) × Nat)) × Nat) × (Int × (Int × (List ((Int × (Int × List (UInt8)))) × (List (((Int × Int) × Nat)) × Nat)))))))) ⊕ ((Int × (Int × (Int × (List ((Int × (Int × List (UInt8)))) × ((List (((Int × Int) × Nat)) × Nat) × (Int × (Int × (List ((Int × (Int × List (UInt8)))) × (List (((Int × Int) × Nat)) × Nat))))))))) ⊕ (Unit ⊕ Bool)))) (
      (idx? i3 l.length).bind fun q6 =>
      (l)[q6]?.bind fun r44 =>
      (upto? (if 60 < ((r44.2.2.2.2.length : Nat) : Int) then 60 else ((r44.2.2.2.2.length : Nat) : Int)) r44.2.2.2.2.length).bind fun q7 =>
      (low_Pick fu r44.2.1 5).bind fun r45 =>
      (low_Pick fu r44.2.2.1 5).bind fun r46 =>
      Option.bind (α := ((Bool × (Int × (Int × (List ((Int × (Int × List (UInt8)))) × ((List (((Int × Int) × Nat)) × Nat) × (Int × (Int × (List ((Int × (Int × List (UInt8)))) × ((List (((Int × Int) × Nat)) × Nat) × (Int × (Int × (Int × (Int × List (UInt8)))))))))))))))) (
        bif (decide (((r44.1.toNat : Nat) : Int) ≥ 4)) then
          some ((decide (((r44.1.toNat : Nat) : Int) ≤ 6)), (o42.2.1, (o42.2.2.1, (o42.2.2.2.1, (o42.2.2.2.2.1, (o42.2.2.2.2.2.1, (o42.2.2.2.2.2.2.1, (o42.2.2.2.2.2.2.2.1, (o42.2.2.2.2.2.2.2.2, (((r44.1.toNat : Nat) : Int), (r44.2.1, (r44.2.2.1, (r44.2.2.2.1, (List.take q7 r44.2.2.2.2))))))))))))))
        else
          some (false, (o42.2.1, (o42.2.2.1, (o42.2.2.2.1, (o42.2.2.2.2.1, (o42.2.2.2.2.2.1, (o42.2.2.2.2.2.2.1, (o42.2.2.2.2.2.2.2.1, (o42.2.2.2.2.2.2.2.2, (((r44.1.toNat : Nat) : Int), (r44.2.1, (r44.2.2.1, (r44.2.2.2.1, (List.take q7 r44.2.2.2.2))))))))))))))) fun o43 =>
      Option.bind (α := ((Int × (Int × (Int × (Int × (List ((Int × (Int × List (UInt8)))) × ((List (((Int × Int) × Nat)) × Nat) × (Int × (Int × (List ((Int × (Int × List (UInt8)))) × ((List (((Int × Int) × Nat)) × Nat) × (Int × (Int × (Int × (Int × List (UInt8))))))))))))))) ⊕ (Int × (Int × (List ((Int × (Int × List (UInt8)))) × ((List (((Int × Int) × Nat)) × Nat) × (Int × (Int × (List ((Int × (Int × List (UInt8)))) × (List (((Int × Int) × Nat)) × Nat)))))))))) (
        bif o43.1 then
          (net_Net_Look__com fu o43.2.2.2.2.2.2.2.2.2.2.2.2.1 o43.2.1 o43.2.2.1 o43.2.2.2.1 o43.2.2.2.2.1).bind fun r47 =>
          bif (!r47.2.2.2.1) then
            some (.inr (r47.2.2.2.2.1, (r47.2.2.2.2.2.1, (r47.2.2.2.2.2.2.1, (r47.2.2.2.2.2.2.2, (o43.2.2.2.2.2.1, (o43.2.2.2.2.2.2.1, (o43.2.2.2.2.2.2.2.1, o43.2.2.2.2.2.2.2.2.1))))))))
          else
            (law07_NetOthers_l6_it fu r43 (0, (0, (r47.2.2.2.2.1, (r47.2.2.2.2.2.1, (r47.2.2.2.2.2.2.1, (r47.2.2.2.2.2.2.2, (o43.2.2.2.2.2.1, (o43.2.2.2.2.2.2.1, (o43.2.2.2.2.2.2.2.1, (o43.2.2.2.2.2.2.2.2.1, (o43.2.2.2.2.2.2.2.2.2.1, (o43.2.2.2.2.2.2.2.2.2.2.1, (o43.2.2.2.2.2.2.2.2.2.2.2.1, (o43.2.2.2.2.2.2.2.2.2.2.2.2.1, o43.2.2.2.2.2.2.2.2.2.2.2.2.2))))))))))))))).bind fun o45 =>
            some (.inl (o45.1, (r47.2.1, (o45.2.1, (o45.2.2.1, (o45.2.2.2.1, (o45.2.2.2.2.1, (o45.2.2.2.2.2.1, (o45.2.2.2.2.2.2.1, (o45.2.2.2.2.2.2.2.1, (o45.2.2.2.2.2.2.2.2.1, (o45.2.2.2.2.2.2.2.2.2.1, (o45.2.2.2.2.2.2.2.2.2.2.1, (o45.2.2.2.2.2.2.2.2.2.2.2.1, (o45.2.2.2.2.2.2.2.2.2.2.2.2.1, o45.2.2.2.2.2.2.2.2.2.2.2.2.2)))))))))))))))
        else
          some (.inl (0, (r46, (o43.2.1, (o43.2.2.1, (o43.2.2.2.1, (o43.2.2.2.2.1, (o43.2.2.2.2.2.1, (o43.2.2.2.2.2.2.1, (o43.2.2.2.2.2.2.2.1, (o43.2.2.2.2.2.2.2.2.1, (o43.2.2.2.2.2.2.2.2.2.1, (o43.2.2.2.2.2.2.2.2.2.2.1, (o43.2.2.2.2.2.2.2.2.2.2.2.1, (o43.2.2.2.2.2.2.2.2.2.2.2.2.1, o43.2.2.2.2.2.2.2.2.2.2.2.2.2)))))))))))))))) fun o46 =>
      match o46 with
      | .inl s12 =>
        Option.bind (α := ((List UInt8 × (Int × (Int × (List ((Int × (Int × List (UInt8)))) × ((List (((Int × Int) × Nat)) × Nat) × (Int × (Int × (List ((Int × (Int × List (UInt8)))) × ((List (((Int × Int) × Nat)) × Nat) × (Int × (Int × (Int × (Int × List (UInt8)))))))))))))))) (
          (law07_deed__com fu s12.2.2.2.2.2.2.2.2.2.2.1 r45 r46 s12.2.2.2.2.2.2.2.2.2.2.2.2.2.1 s12.2.2.2.2.2.2.2.2.2.2.2.2.2.2 s12.2.2.1 s12.2.2.2.1 s12.2.2.2.2.1 s12.2.2.2.2.2.1).bind fun r49 =>
          match r49 with
          | .inl r50 =>
            some (r50.1, (r50.2.1, (r50.2.2.1, (r50.2.2.2.1, (r50.2.2.2.2, (s12.2.2.2.2.2.2.1, (s12.2.2.2.2.2.2.2.1, (s12.2.2.2.2.2.2.2.2.1, (s12.2.2.2.2.2.2.2.2.2.1, (s12.2.2.2.2.2.2.2.2.2.2.1, (s12.2.2.2.2.2.2.2.2.2.2.2.1, (s12.2.2.2.2.2.2.2.2.2.2.2.2.1, (s12.2.2.2.2.2.2.2.2.2.2.2.2.2.1, s12.2.2.2.2.2.2.2.2.2.2.2.2.2.2)))))))))))))
          | .inr r51 =>
            some (r51.1, (r51.2.1, (r51.2.2.1, (r51.2.2.2.2, (r51.2.2.2.1, (s12.2.2.2.2.2.2.1, (s12.2.2.2.2.2.2.2.1, (s12.2.2.2.2.2.2.2.2.1, (s12.2.2.2.2.2.2.2.2.2.1, (s12.2.2.2.2.2.2.2.2.2.2.1, (s12.2.2.2.2.2.2.2.2.2.2.2.1, (s12.2.2.2.2.2.2.2.2.2.2.2.2.1, (s12.2.2.2.2.2.2.2.2.2.2.2.2.2.1, s12.2.2.2.2.2.2.2.2.2.2.2.2.2.2)))))))))))))) fun o48 =>
        Option.bind (α := ((Int × (Int × (List ((Int × (Int × List (UInt8)))) × ((List (((Int × Int) × Nat)) × Nat) × (Int × (Int × (List ((Int × (Int × List (UInt8)))) × (List (((Int × Int) × Nat)) × Nat)))))))) ⊕ ((Int × (Int × (List ((Int × (Int × List (UInt8)))) × ((List (((Int × Int) × Nat)) × Nat) × (Int × (Int × (List ((Int × (Int × List (UInt8)))) × (List (((Int × Int) × Nat)) × Nat)))))))) ⊕ ((Int × (Int × (Int × (List ((Int × (Int × List (UInt8)))) × ((List (((Int × Int) × Nat)) × Nat) × (Int × (Int × (List ((Int × (Int × List (UInt8)))) × (List (((Int × Int) × Nat)) × Nat))))))))) ⊕ (Unit ⊕ Bool))))) (
          bif (s12.2.1 == r43) then
            Option.bind (α := ((List UInt8 × (Int × (Int × (List ((Int × (Int × List (UInt8)))) × ((List (((Int × Int) × Nat)) × Nat) × (Int × (Int × (List ((Int × (Int × List (UInt8)))) × (List (((Int × Int) × Nat)) × Nat))))))))))) (
              (law07_deed__com fu o48.2.2.2.2.2.2.2.2.2.1 r45 r46 s12.1 o48.2.2.2.2.2.2.2.2.2.2.2.2.2 o48.2.2.2.2.2.1 o48.2.2.2.2.2.2.1 o48.2.2.2.2.2.2.2.1 o48.2.2.2.2.2.2.2.2.1).bind fun r52 =>
              match r52 with
              | .inl r53 =>
                some (r53.1, (o48.2.1, (o48.2.2.1, (o48.2.2.2.1, (o48.2.2.2.2.1, (r53.2.1, (r53.2.2.1, (r53.2.2.2.1, r53.2.2.2.2))))))))
              | .inr r54 =>
                some (r54.1, (o48.2.1, (o48.2.2.1, (o48.2.2.2.1, (o48.2.2.2.2.1, (r54.2.1, (r54.2.2.1, (r54.2.2.2.2, r54.2.2.2.1))))))))) fun o49 =>
            bif (!(o48.1 == o49.1)) then
              some (.inr (.inr (.inr (.inr false))))
            else
              some (.inl (o49.2.1, (o49.2.2.1, (o49.2.2.2.1, (o49.2.2.2.2.1, (o49.2.2.2.2.2.1, (o49.2.2.2.2.2.2.1, (o49.2.2.2.2.2.2.2.1, o49.2.2.2.2.2.2.2.2))))))))
          else
            some (.inl (o48.2.1, (o48.2.2.1, (o48.2.2.2.1, (o48.2.2.2.2.1, (o48.2.2.2.2.2.1, (o48.2.2.2.2.2.2.1, (o48.2.2.2.2.2.2.2.1, o48.2.2.2.2.2.2.2.2.1))))))))) fun o50 =>
        match o50 with
        | .inl s13 =>
          (law07_alike__comcom fu r43 s13.1 s13.2.1 s13.2.2.1 s13.2.2.2.1 s13.2.2.2.2.1 s13.2.2.2.2.2.1 s13.2.2.2.2.2.2.1 s13.2.2.2.2.2.2.2).bind fun r55 =>
          bif (!r55.1) then
            some (.inr (.inr (.inr false)))
          else
            some (.inl (r55.2.1, (r55.2.2.1, (r55.2.2.2.1, (r55.2.2.2.2.1, (r55.2.2.2.2.2.1, (r55.2.2.2.2.2.2.1, (r55.2.2.2.2.2.2.2.1, r55.2.2.2.2.2.2.2.2))))))))
        | .inr o51 =>
          some o51
      | .inr o47 =>
        some (.inl (o47.1, (o47.2.1, (o47.2.2.1, (o47.2.2.2.1, (o47.2.2.2.2.1, (o47.2.2.2.2.2.1, (o47.2.2.2.2.2.2.1, o47.2.2.2.2.2.2.2))))))))) fun o52 =>
    match o52 with
    | .inl s14 =>
      some (.inl ((IntKind.wrap .i64 (i3 + 1)), (s14.1, (s14.2.1, (s14.2.2.1, (s14.2.2.2.1, (s14.2.2.2.2.1, (s14.2.2.2.2.2.1, (s14.2.2.2.2.2.2.1, s14.2.2.2.2.2.2.2)))))))))
    | .inr o53 =>
      some o53
  else
    some (.inr (.inl ()))
def law07_NetOthers_l7_it (fu : Nat) (l : List ((UInt8 × (Int × (Int × (Int × List (UInt8))))))) (r43 : Int) (tt : (Int × (Int × (Int × (List ((Int × (Int × List (UInt8)))) × ((List (((Int × Int) × Nat)) × Nat) × (Int × (Int × (List ((Int × (Int × List (UInt8)))) × (List (((Int × Int) × Nat)) × Nat)))))))))) : Option (Unit ⊕ Bool) :=
  iter fu (fun tt => law07_NetOthers_l7 fu l r43 tt.1 tt.2.1 tt.2.2.1 tt.2.2.2.1 tt.2.2.2.2.1 tt.2.2.2.2.2.1 tt.2.2.2.2.2.2.1 tt.2.2.2.2.2.2.2.1 tt.2.2.2.2.2.2.2.2) tt
def law07_NetOthers (fu : Nat) (to_ : Int) (l : List ((UInt8 × (Int × (Int × (Int × List (UInt8))))))) : Option (Bool) :=
  (net_New fu 5 6).bind fun r =>
  match r with
  | .inl r1 =>
    (net_New fu 5 6).bind fun r3 =>
    match r3 with
    | .inl r4 =>
      Option.bind (α := (Bool)) (
        bif (!(r1 == 0)) then
          some true
        else
          some (!(r4 == 0))) fun o =>
      bif o then
        some false
      else
        (low_Pick fu to_ 5).bind fun r6 =>
        (law07_NetOthers_l1_it fu l r6 0).bind fun o11 =>
        match o11 with
        | .inl s3 =>
          (law07_awake fu).bind fun r15 =>
          some r15
        | .inr o12 =>
          some o12
    | .inr r5 =>
      Option.bind (α := ((Bool × (Int × (Int × (List (((Int × Int) × Nat)) × Nat)))))) (
        bif (!(r1 == 0)) then
          some (true, (r5.2.1, (r5.2.2.1, r5.2.2.2)))
        else
          some ((!(r5.1 == 0)), (r5.2.1, (r5.2.2.1, r5.2.2.2)))) fun o13 =>
      bif o13.1 then
        some false
      else
        (low_Pick fu to_ 5).bind fun r16 =>
        (law07_NetOthers_l3_it fu l r16 (0, (o13.2.1, (o13.2.2.1, ([], o13.2.2.2))))).bind fun o25 =>
        match o25 with
        | .inl s7 =>
          (law07_awake fu).bind fun r27 =>
          some r27
        | .inr o26 =>
          some o26
  | .inr r2 =>
    (net_New fu 5 6).bind fun r28 =>
    match r28 with
    | .inl r29 =>
      Option.bind (α := ((Bool × (Int × (Int × (List (((Int × Int) × Nat)) × Nat)))))) (
        bif (!(r2.1 == 0)) then
          some (true, (r2.2.1, (r2.2.2.1, r2.2.2.2)))
        else
          some ((!(r29 == 0)), (r2.2.1, (r2.2.2.1, r2.2.2.2)))) fun o27 =>
      bif o27.1 then
        some false
      else
        (low_Pick fu to_ 5).bind fun r31 =>
        (law07_NetOthers_l5_it fu l r31 (0, (o27.2.1, (o27.2.2.1, ([], o27.2.2.2))))).bind fun o39 =>
        match o39 with
        | .inl s11 =>
          (law07_awake fu).bind fun r42 =>
          some r42
        | .inr o40 =>
          some o40
    | .inr r30 =>
      Option.bind (α := ((Bool × (Int × (Int × ((List (((Int × Int) × Nat)) × Nat) × (Int × (Int × (List (((Int × Int) × Nat)) × Nat))))))))) (
        bif (!(r2.1 == 0)) then
          some (true, (r2.2.1, (r2.2.2.1, (r2.2.2.2, (r30.2.1, (r30.2.2.1, r30.2.2.2))))))
        else
          some ((!(r30.1 == 0)), (r2.2.1, (r2.2.2.1, (r2.2.2.2, (r30.2.1, (r30.2.2.1, r30.2.2.2))))))) fun o41 =>
      bif o41.1 then
        some false
      else
        (low_Pick fu to_ 5).bind fun r43 =>
        (law07_NetOthers_l7_it fu l r43 (0, (o41.2.1, (o41.2.2.1, ([], (o41.2.2.2.1, (o41.2.2.2.2.1, (o41.2.2.2.2.2.1, ([], o41.2.2.2.2.2.2))))))))).bind fun o54 =>
        match o54 with
        | .inl s15 =>
          (law07_awake fu).bind fun r56 =>
          some r56
        | .inr o55 =>
          some o55
def law07_NetOthers_fa : FnA := ⟨.two (.leaf) (.two (.reg [(0, { ids := [100, 101] })]) (.sel (.slot 5 (.nilp (.pointer none))) (.two (.reg [(0, { ids := [103, 104] })]) (.sel (.slot 7 (.nilp (.pointer none))) (.two (.two (.join ⟨[36], ⟨(.cons (.p .bool) .nil), []⟩⟩ false [] (.leaf)) (.two (.leaf) (.leaf))) (.two (.reg [(1, { fn := 1 })]) (.two (.two (.leaf) (.one (.loop ⟨[10], ⟨(.cons (.p (.int .i64)) .nil), []⟩⟩ true [(0, ⟨[], ⟨.nil, []⟩⟩)] (.two (.two (.join ⟨[46], ⟨(.cons (.p .bool) .nil), []⟩⟩ false [] (.leaf)) (.leaf)) (.two (.join ⟨[], ⟨.nil, []⟩⟩ true [] (.one (.two (.reg [(4, { ids := [106] })]) (.two (.leaf) (.two (.reg [(2, { fn := 1 }), (5, { fn := 1 })]) (.two (.leaf) (.two (.two (.join ⟨[11, 75], ⟨(.cons (.own 0 106 0 0) (.cons (.p .bool) .nil)), [(106, false, (.vars (.cons (.p (.int .u8)) (.cons (.p (.int .i64)) (.cons (.p (.int .i64)) (.cons (.p (.int .i64)) (.cons (.p (.sl .byte)) .nil)))))))]⟩⟩ false [] (.leaf)) (.join ⟨[11, 14, 15], ⟨(.cons (.own 0 106 0 0) (.cons (.p (.int .i64)) (.cons (.p (.int .i64)) .nil))), [(106, false, (.vars (.cons (.p (.int .u8)) (.cons (.p (.int .i64)) (.cons (.p (.int .i64)) (.cons (.p (.int .i64)) (.cons (.p (.sl .byte)) .nil)))))))]⟩⟩ false [(2, ⟨[], ⟨.nil, []⟩⟩)] (.two (.two (.reg [(3, { fn := 2 }), (7, { ids := [107] })]) (.two (.two (.leaf) (.leaf)) (.two (.leaf) (.two (.leaf) (.one (.loop ⟨[11, 14, 18], ⟨(.cons (.own 0 106 0 0) (.cons (.p (.int .i64)) (.cons (.p (.int .i64)) .nil))), [(106, false, (.vars (.cons (.p (.int .u8)) (.cons (.p (.int .i64)) (.cons (.p (.int .i64)) (.cons (.p (.int .i64)) (.cons (.p (.sl .byte)) .nil)))))))]⟩⟩ false [(2, ⟨[11, 14], ⟨(.cons (.own 0 106 0 0) (.cons (.p (.int .i64)) .nil)), [(106, false, (.vars (.cons (.p (.int .u8)) (.cons (.p (.int .i64)) (.cons (.p (.int .i64)) (.cons (.p (.int .i64)) (.cons (.p (.sl .byte)) .nil)))))))]⟩⟩)] (.two (.two (.leaf) (.leaf)) (.two (.one (.two (.reg [(2, { fn := 2 }), (6, { ids := [108] })]) (.two (.leaf) (.join ⟨[11, 14], ⟨(.cons (.own 0 106 0 0) (.cons (.p (.int .i64)) .nil)), [(106, false, (.vars (.cons (.p (.int .u8)) (.cons (.p (.int .i64)) (.cons (.p (.int .i64)) (.cons (.p (.int .i64)) (.cons (.p (.sl .byte)) .nil)))))))]⟩⟩ false [] (.leaf))))) (.leaf))))))))) (.leaf)))) (.two (.reg [(9, { fn := 3 })]) (.two (.two (.leaf) (.join ⟨[], ⟨.nil, []⟩⟩ true [] (.two (.two (.reg [(8, { fn := 3 })]) (.two (.leaf) (.two (.leaf) (.leaf)))) (.leaf)))) (.two (.reg [(3, { fn := 4 })]) (.two (.leaf) (.leaf)))))))))))) (.leaf)))))) (.two (.reg [(0, { fn := 5 })]) (.leaf))))) (.two (.two (.join ⟨[7, 36], ⟨(.cons (.own 0 103 0 0) (.cons (.p .bool) .nil)), [(103, false, (.vars (.cons (.p (.int .i64)) (.cons (.p (.int .i64)) (.cons (.nilp (.slice none 0 0)) (.cons (.mp 104) .nil)))))), (104, false, (.map (.int .i64) (.int .i64)))]⟩⟩ false [] (.leaf)) (.two (.leaf) (.leaf))) (.two (.reg [(1, { fn := 1 })]) (.two (.two (.leaf) (.one (.pre (.ownCell 103 2 34 106) (.loop ⟨[7, 10], ⟨(.cons (.own 0 103 0 0) (.cons (.p (.int .i64)) .nil)), [(103, false, (.vars (.cons (.p (.int .i64)) (.cons (.p (.int .i64)) (.cons (.slf 3 106) (.cons (.mp 104) .nil)))))), (106, false, (.rows 34 (.pair (.int .i64) (.pair (.int .i64) (.sl .byte))))), (104, false, (.map (.int .i64) (.int .i64)))]⟩⟩ true [(0, ⟨[], ⟨.nil, []⟩⟩)] (.two (.two (.join ⟨[7, 46], ⟨(.cons (.own 0 103 0 0) (.cons (.p .bool) .nil)), [(103, false, (.vars (.cons (.p (.int .i64)) (.cons (.p (.int .i64)) (.cons (.slf 3 106) (.cons (.mp 104) .nil)))))), (106, false, (.rows 34 (.pair (.int .i64) (.pair (.int .i64) (.sl .byte))))), (104, false, (.map (.int .i64) (.int .i64)))]⟩⟩ false [] (.leaf)) (.leaf)) (.two (.join ⟨[7], ⟨(.cons (.own 0 103 0 0) .nil), [(103, false, (.vars (.cons (.p (.int .i64)) (.cons (.p (.int .i64)) (.cons (.slf 3 106) (.cons (.mp 104) .nil)))))), (106, false, (.rows 34 (.pair (.int .i64) (.pair (.int .i64) (.sl .byte))))), (104, false, (.map (.int .i64) (.int .i64)))]⟩⟩ true [] (.one (.two (.reg [(4, { ids := [107] })]) (.two (.leaf) (.two (.reg [(2, { fn := 1 }), (5, { fn := 1 })]) (.two (.leaf) (.two (.two (.join ⟨[7, 11, 75], ⟨(.cons (.own 0 103 0 0) (.cons (.own 0 107 0 0) (.cons (.p .bool) .nil))), [(103, false, (.vars (.cons (.p (.int .i64)) (.cons (.p (.int .i64)) (.cons (.slf 3 106) (.cons (.mp 104) .nil)))))), (106, false, (.rows 34 (.pair (.int .i64) (.pair (.int .i64) (.sl .byte))))), (104, false, (.map (.int .i64) (.int .i64))), (107, false, (.vars (.cons (.p (.int .u8)) (.cons (.p (.int .i64)) (.cons (.p (.int .i64)) (.cons (.p (.int .i64)) (.cons (.p (.sl .byte)) .nil)))))))]⟩⟩ false [] (.leaf)) (.join ⟨[7, 11, 14, 15], ⟨(.cons (.own 0 103 0 0) (.cons (.own 0 107 0 0) (.cons (.p (.int .i64)) (.cons (.p (.int .i64)) .nil)))), [(103, false, (.vars (.cons (.p (.int .i64)) (.cons (.p (.int .i64)) (.cons (.slf 3 106) (.cons (.mp 104) .nil)))))), (106, false, (.rows 34 (.pair (.int .i64) (.pair (.int .i64) (.sl .byte))))), (104, false, (.map (.int .i64) (.int .i64))), (107, false, (.vars (.cons (.p (.int .u8)) (.cons (.p (.int .i64)) (.cons (.p (.int .i64)) (.cons (.p (.int .i64)) (.cons (.p (.sl .byte)) .nil)))))))]⟩⟩ false [(2, ⟨[7], ⟨(.cons (.own 0 103 0 0) .nil), [(103, false, (.vars (.cons (.p (.int .i64)) (.cons (.p (.int .i64)) (.cons (.slf 3 106) (.cons (.mp 104) .nil)))))), (106, false, (.rows 34 (.pair (.int .i64) (.pair (.int .i64) (.sl .byte))))), (104, false, (.map (.int .i64) (.int .i64)))]⟩⟩)] (.two (.two (.reg [(3, { fn := 2 }), (7, { ids := [108] })]) (.two (.two (.leaf) (.leaf)) (.two (.leaf) (.two (.leaf) (.one (.loop ⟨[7, 11, 14, 18], ⟨(.cons (.own 0 103 0 0) (.cons (.own 0 107 0 0) (.cons (.p (.int .i64)) (.cons (.p (.int .i64)) .nil)))), [(103, false, (.vars (.cons (.p (.int .i64)) (.cons (.p (.int .i64)) (.cons (.slf 3 106) (.cons (.mp 104) .nil)))))), (106, false, (.rows 34 (.pair (.int .i64) (.pair (.int .i64) (.sl .byte))))), (104, false, (.map (.int .i64) (.int .i64))), (107, false, (.vars (.cons (.p (.int .u8)) (.cons (.p (.int .i64)) (.cons (.p (.int .i64)) (.cons (.p (.int .i64)) (.cons (.p (.sl .byte)) .nil)))))))]⟩⟩ false [(2, ⟨[7, 11, 14], ⟨(.cons (.own 0 103 0 0) (.cons (.own 0 107 0 0) (.cons (.p (.int .i64)) .nil))), [(103, false, (.vars (.cons (.p (.int .i64)) (.cons (.p (.int .i64)) (.cons (.slf 3 106) (.cons (.mp 104) .nil)))))), (106, false, (.rows 34 (.pair (.int .i64) (.pair (.int .i64) (.sl .byte))))), (104, false, (.map (.int .i64) (.int .i64))), (107, false, (.vars (.cons (.p (.int .u8)) (.cons (.p (.int .i64)) (.cons (.p (.int .i64)) (.cons (.p (.int .i64)) (.cons (.p (.sl .byte)) .nil)))))))]⟩⟩)] (.two (.two (.leaf) (.leaf)) (.two (.one (.two (.reg [(2, { fn := 2 }), (6, { ids := [109] })]) (.two (.leaf) (.join ⟨[7, 11, 14], ⟨(.cons (.own 0 103 0 0) (.cons (.own 0 107 0 0) (.cons (.p (.int .i64)) .nil))), [(103, false, (.vars (.cons (.p (.int .i64)) (.cons (.p (.int .i64)) (.cons (.slf 3 106) (.cons (.mp 104) .nil)))))), (106, false, (.rows 34 (.pair (.int .i64) (.pair (.int .i64) (.sl .byte))))), (104, false, (.map (.int .i64) (.int .i64))), (107, false, (.vars (.cons (.p (.int .u8)) (.cons (.p (.int .i64)) (.cons (.p (.int .i64)) (.cons (.p (.int .i64)) (.cons (.p (.sl .byte)) .nil)))))))]⟩⟩ false [] (.leaf))))) (.leaf))))))))) (.leaf)))) (.two (.reg [(9, { fn := 3 })]) (.two (.two (.leaf) (.join ⟨[7], ⟨(.cons (.own 0 103 0 0) .nil), [(103, false, (.vars (.cons (.p (.int .i64)) (.cons (.p (.int .i64)) (.cons (.slf 3 106) (.cons (.mp 104) .nil)))))), (106, false, (.rows 34 (.pair (.int .i64) (.pair (.int .i64) (.sl .byte))))), (104, false, (.map (.int .i64) (.int .i64)))]⟩⟩ true [] (.two (.two (.join ⟨[7, 22], ⟨(.cons (.own 0 103 0 0) (.cons (.p .str) .nil)), [(103, false, (.vars (.cons (.p (.int .i64)) (.cons (.p (.int .i64)) (.cons (.slf 3 106) (.cons (.mp 104) .nil)))))), (106, false, (.rows 34 (.pair (.int .i64) (.pair (.int .i64) (.sl .byte))))), (104, false, (.map (.int .i64) (.int .i64)))]⟩⟩ false [] (.reg [(8, { ids := [110], sh := [103, 106, 104], fn := 6 })])) (.two (.leaf) (.two (.leaf) (.leaf)))) (.leaf)))) (.two (.reg [(3, { sh := [103, 106, 104], fn := 7 })]) (.two (.leaf) (.leaf)))))))))))) (.leaf))))))) (.two (.reg [(0, { fn := 5 })]) (.leaf))))))) (.two (.reg [(0, { ids := [103, 104] })]) (.sel (.slot 7 (.nilp (.pointer none))) (.two (.two (.join ⟨[5, 36], ⟨(.cons (.own 0 100 0 0) (.cons (.p .bool) .nil)), [(100, false, (.vars (.cons (.p (.int .i64)) (.cons (.p (.int .i64)) (.cons (.nilp (.slice none 0 0)) (.cons (.mp 101) .nil)))))), (101, false, (.map (.int .i64) (.int .i64)))]⟩⟩ false [] (.leaf)) (.two (.leaf) (.leaf))) (.two (.reg [(1, { fn := 1 })]) (.two (.two (.leaf) (.one (.pre (.ownCell 100 2 34 106) (.loop ⟨[5, 10], ⟨(.cons (.own 0 100 0 0) (.cons (.p (.int .i64)) .nil)), [(100, false, (.vars (.cons (.p (.int .i64)) (.cons (.p (.int .i64)) (.cons (.slf 3 106) (.cons (.mp 101) .nil)))))), (106, false, (.rows 34 (.pair (.int .i64) (.pair (.int .i64) (.sl .byte))))), (101, false, (.map (.int .i64) (.int .i64)))]⟩⟩ true [(0, ⟨[], ⟨.nil, []⟩⟩)] (.two (.two (.join ⟨[5, 46], ⟨(.cons (.own 0 100 0 0) (.cons (.p .bool) .nil)), [(100, false, (.vars (.cons (.p (.int .i64)) (.cons (.p (.int .i64)) (.cons (.slf 3 106) (.cons (.mp 101) .nil)))))), (106, false, (.rows 34 (.pair (.int .i64) (.pair (.int .i64) (.sl .byte))))), (101, false, (.map (.int .i64) (.int .i64)))]⟩⟩ false [] (.leaf)) (.leaf)) (.two (.join ⟨[5], ⟨(.cons (.own 0 100 0 0) .nil), [(100, false, (.vars (.cons (.p (.int .i64)) (.cons (.p (.int .i64)) (.cons (.slf 3 106) (.cons (.mp 101) .nil)))))), (106, false, (.rows 34 (.pair (.int .i64) (.pair (.int .i64) (.sl .byte))))), (101, false, (.map (.int .i64) (.int .i64)))]⟩⟩ true [] (.one (.two (.reg [(4, { ids := [107] })]) (.two (.leaf) (.two (.reg [(2, { fn := 1 }), (5, { fn := 1 })]) (.two (.leaf) (.two (.two (.join ⟨[5, 11, 75], ⟨(.cons (.own 0 100 0 0) (.cons (.own 0 107 0 0) (.cons (.p .bool) .nil))), [(100, false, (.vars (.cons (.p (.int .i64)) (.cons (.p (.int .i64)) (.cons (.slf 3 106) (.cons (.mp 101) .nil)))))), (106, false, (.rows 34 (.pair (.int .i64) (.pair (.int .i64) (.sl .byte))))), (101, false, (.map (.int .i64) (.int .i64))), (107, false, (.vars (.cons (.p (.int .u8)) (.cons (.p (.int .i64)) (.cons (.p (.int .i64)) (.cons (.p (.int .i64)) (.cons (.p (.sl .byte)) .nil)))))))]⟩⟩ false [] (.leaf)) (.join ⟨[5, 11, 14, 15], ⟨(.cons (.own 0 100 0 0) (.cons (.own 0 107 0 0) (.cons (.p (.int .i64)) (.cons (.p (.int .i64)) .nil)))), [(100, false, (.vars (.cons (.p (.int .i64)) (.cons (.p (.int .i64)) (.cons (.slf 3 106) (.cons (.mp 101) .nil)))))), (106, false, (.rows 34 (.pair (.int .i64) (.pair (.int .i64) (.sl .byte))))), (101, false, (.map (.int .i64) (.int .i64))), (107, false, (.vars (.cons (.p (.int .u8)) (.cons (.p (.int .i64)) (.cons (.p (.int .i64)) (.cons (.p (.int .i64)) (.cons (.p (.sl .byte)) .nil)))))))]⟩⟩ false [(2, ⟨[5], ⟨(.cons (.own 0 100 0 0) .nil), [(100, false, (.vars (.cons (.p (.int .i64)) (.cons (.p (.int .i64)) (.cons (.slf 3 106) (.cons (.mp 101) .nil)))))), (106, false, (.rows 34 (.pair (.int .i64) (.pair (.int .i64) (.sl .byte))))), (101, false, (.map (.int .i64) (.int .i64)))]⟩⟩)] (.two (.two (.reg [(3, { sh := [100, 106, 101], fn := 8 }), (7, { ids := [108] })]) (.two (.two (.leaf) (.leaf)) (.two (.leaf) (.two (.leaf) (.one (.loop ⟨[5, 11, 14, 18], ⟨(.cons (.own 0 100 0 0) (.cons (.own 0 107 0 0) (.cons (.p (.int .i64)) (.cons (.p (.int .i64)) .nil)))), [(100, false, (.vars (.cons (.p (.int .i64)) (.cons (.p (.int .i64)) (.cons (.slf 3 106) (.cons (.mp 101) .nil)))))), (106, false, (.rows 34 (.pair (.int .i64) (.pair (.int .i64) (.sl .byte))))), (101, false, (.map (.int .i64) (.int .i64))), (107, false, (.vars (.cons (.p (.int .u8)) (.cons (.p (.int .i64)) (.cons (.p (.int .i64)) (.cons (.p (.int .i64)) (.cons (.p (.sl .byte)) .nil)))))))]⟩⟩ false [(2, ⟨[5, 11, 14], ⟨(.cons (.own 0 100 0 0) (.cons (.own 0 107 0 0) (.cons (.p (.int .i64)) .nil))), [(100, false, (.vars (.cons (.p (.int .i64)) (.cons (.p (.int .i64)) (.cons (.slf 3 106) (.cons (.mp 101) .nil)))))), (106, false, (.rows 34 (.pair (.int .i64) (.pair (.int .i64) (.sl .byte))))), (101, false, (.map (.int .i64) (.int .i64))), (107, false, (.vars (.cons (.p (.int .u8)) (.cons (.p (.int .i64)) (.cons (.p (.int .i64)) (.cons (.p (.int .i64)) (.cons (.p (.sl .byte)) .nil)))))))]⟩⟩)] (.two (.two (.leaf) (.leaf)) (.two (.one (.two (.reg [(2, { sh := [100, 106, 101], fn := 8 }), (6, { ids := [109] })]) (.two (.leaf) (.join ⟨[5, 11, 14], ⟨(.cons (.own 0 100 0 0) (.cons (.own 0 107 0 0) (.cons (.p (.int .i64)) .nil))), [(100, false, (.vars (.cons (.p (.int .i64)) (.cons (.p (.int .i64)) (.cons (.slf 3 106) (.cons (.mp 101) .nil)))))), (106, false, (.rows 34 (.pair (.int .i64) (.pair (.int .i64) (.sl .byte))))), (101, false, (.map (.int .i64) (.int .i64))), (107, false, (.vars (.cons (.p (.int .u8)) (.cons (.p (.int .i64)) (.cons (.p (.int .i64)) (.cons (.p (.int .i64)) (.cons (.p (.sl .byte)) .nil)))))))]⟩⟩ false [] (.leaf))))) (.leaf))))))))) (.leaf)))) (.two (.join ⟨[5, 11, 21], ⟨(.cons (.own 0 100 0 0) (.cons (.own 0 107 0 0) (.cons (.p .str) .nil))), [(100, false, (.vars (.cons (.p (.int .i64)) (.cons (.p (.int .i64)) (.cons (.slf 3 106) (.cons (.mp 101) .nil)))))), (106, false, (.rows 34 (.pair (.int .i64) (.pair (.int .i64) (.sl .byte))))), (101, false, (.map (.int .i64) (.int .i64))), (107, false, (.vars (.cons (.p (.int .u8)) (.cons (.p (.int .i64)) (.cons (.p (.int .i64)) (.cons (.p (.int .i64)) (.cons (.p (.sl .byte)) .nil)))))))]⟩⟩ false [] (.reg [(9, { ids := [110], sh := [100, 106, 101], fn := 6 })])) (.two (.two (.leaf) (.join ⟨[5], ⟨(.cons (.own 0 100 0 0) .nil), [(100, false, (.vars (.cons (.p (.int .i64)) (.cons (.p (.int .i64)) (.cons (.slf 3 106) (.cons (.mp 101) .nil)))))), (106, false, (.rows 34 (.pair (.int .i64) (.pair (.int .i64) (.sl .byte))))), (101, false, (.map (.int .i64) (.int .i64)))]⟩⟩ true [] (.two (.two (.reg [(8, { fn := 3 })]) (.two (.leaf) (.two (.leaf) (.leaf)))) (.leaf)))) (.two (.reg [(3, { sh := [100, 106, 101], fn := 9 })]) (.two (.leaf) (.leaf)))))))))))) (.leaf))))))) (.two (.reg [(0, { fn := 5 })]) (.leaf))))) (.two (.two (.join ⟨[5, 7, 36], ⟨(.cons (.own 0 100 0 0) (.cons (.own 0 103 0 0) (.cons (.p .bool) .nil))), [(100, false, (.vars (.cons (.p (.int .i64)) (.cons (.p (.int .i64)) (.cons (.nilp (.slice none 0 0)) (.cons (.mp 101) .nil)))))), (101, false, (.map (.int .i64) (.int .i64))), (103, false, (.vars (.cons (.p (.int .i64)) (.cons (.p (.int .i64)) (.cons (.nilp (.slice none 0 0)) (.cons (.mp 104) .nil)))))), (104, false, (.map (.int .i64) (.int .i64)))]⟩⟩ false [] (.leaf)) (.two (.leaf) (.leaf))) (.two (.reg [(1, { fn := 1 })]) (.two (.two (.leaf) (.one (.pre (.ownCell 100 2 34 106) (.pre (.ownCell 103 2 34 107) (.loop ⟨[5, 7, 10], ⟨(.cons (.own 0 100 0 0) (.cons (.own 0 103 0 0) (.cons (.p (.int .i64)) .nil))), [(100, false, (.vars (.cons (.p (.int .i64)) (.cons (.p (.int .i64)) (.cons (.slf 3 106) (.cons (.mp 101) .nil)))))), (106, false, (.rows 34 (.pair (.int .i64) (.pair (.int .i64) (.sl .byte))))), (101, false, (.map (.int .i64) (.int .i64))), (103, false, (.vars (.cons (.p (.int .i64)) (.cons (.p (.int .i64)) (.cons (.slf 3 107) (.cons (.mp 104) .nil)))))), (107, false, (.rows 34 (.pair (.int .i64) (.pair (.int .i64) (.sl .byte))))), (104, false, (.map (.int .i64) (.int .i64)))]⟩⟩ true [(0, ⟨[], ⟨.nil, []⟩⟩)] (.two (.two (.join ⟨[5, 7, 46], ⟨(.cons (.own 0 100 0 0) (.cons (.own 0 103 0 0) (.cons (.p .bool) .nil))), [(100, false, (.vars (.cons (.p (.int .i64)) (.cons (.p (.int .i64)) (.cons (.slf 3 106) (.cons (.mp 101) .nil)))))), (106, false, (.rows 34 (.pair (.int .i64) (.pair (.int .i64) (.sl .byte))))), (101, false, (.map (.int .i64) (.int .i64))), (103, false, (.vars (.cons (.p (.int .i64)) (.cons (.p (.int .i64)) (.cons (.slf 3 107) (.cons (.mp 104) .nil)))))), (107, false, (.rows 34 (.pair (.int .i64) (.pair (.int .i64) (.sl .byte))))), (104, false, (.map (.int .i64) (.int .i64)))]⟩⟩ false [] (.leaf)) (.leaf)) (.two (.join ⟨[5, 7], ⟨(.cons (.own 0 100 0 0) (.cons (.own 0 103 0 0) .nil)), [(100, false, (.vars (.cons (.p (.int .i64)) (.cons (.p (.int .i64)) (.cons (.slf 3 106) (.cons (.mp 101) .nil)))))), (106, false, (.rows 34 (.pair (.int .i64) (.pair (.int .i64) (.sl .byte))))), (101, false, (.map (.int .i64) (.int .i64))), (103, false, (.vars (.cons (.p (.int .i64)) (.cons (.p (.int .i64)) (.cons (.slf 3 107) (.cons (.mp 104) .nil)))))), (107, false, (.rows 34 (.pair (.int .i64) (.pair (.int .i64) (.sl .byte))))), (104, false, (.map (.int .i64) (.int .i64)))]⟩⟩ true [] (.one (.two (.reg [(4, { ids := [108] })]) (.two (.leaf) (.two (.reg [(2, { fn := 1 }), (5, { fn := 1 })]) (.two (.leaf) (.two (.two (.join ⟨[5, 7, 11, 75], ⟨(.cons (.own 0 100 0 0) (.cons (.own 0 103 0 0) (.cons (.own 0 108 0 0) (.cons (.p .bool) .nil)))), [(100, false, (.vars (.cons (.p (.int .i64)) (.cons (.p (.int .i64)) (.cons (.slf 3 106) (.cons (.mp 101) .nil)))))), (106, false, (.rows 34 (.pair (.int .i64) (.pair (.int .i64) (.sl .byte))))), (101, false, (.map (.int .i64) (.int .i64))), (103, false, (.vars (.cons (.p (.int .i64)) (.cons (.p (.int .i64)) (.cons (.slf 3 107) (.cons (.mp 104) .nil)))))), (107, false, (.rows 34 (.pair (.int .i64) (.pair (.int .i64) (.sl .byte))))), (104, false, (.map (.int .i64) (.int .i64))), (108, false, (.vars (.cons (.p (.int .u8)) (.cons (.p (.int .i64)) (.cons (.p (.int .i64)) (.cons (.p (.int .i64)) (.cons (.p (.sl .byte)) .nil)))))))]⟩⟩ false [] (.leaf)) (.join ⟨[5, 7, 11, 14, 15], ⟨(.cons (.own 0 100 0 0) (.cons (.own 0 103 0 0) (.cons (.own 0 108 0 0) (.cons (.p (.int .i64)) (.cons (.p (.int .i64)) .nil))))), [(100, false, (.vars (.cons (.p (.int .i64)) (.cons (.p (.int .i64)) (.cons (.slf 3 106) (.cons (.mp 101) .nil)))))), (106, false, (.rows 34 (.pair (.int .i64) (.pair (.int .i64) (.sl .byte))))), (101, false, (.map (.int .i64) (.int .i64))), (103, false, (.vars (.cons (.p (.int .i64)) (.cons (.p (.int .i64)) (.cons (.slf 3 107) (.cons (.mp 104) .nil)))))), (107, false, (.rows 34 (.pair (.int .i64) (.pair (.int .i64) (.sl .byte))))), (104, false, (.map (.int .i64) (.int .i64))), (108, false, (.vars (.cons (.p (.int .u8)) (.cons (.p (.int .i64)) (.cons (.p (.int .i64)) (.cons (.p (.int .i64)) (.cons (.p (.sl .byte)) .nil)))))))]⟩⟩ false [(2, ⟨[5, 7], ⟨(.cons (.own 0 100 0 0) (.cons (.own 0 103 0 0) .nil)), [(100, false, (.vars (.cons (.p (.int .i64)) (.cons (.p (.int .i64)) (.cons (.slf 3 106) (.cons (.mp 101) .nil)))))), (106, false, (.rows 34 (.pair (.int .i64) (.pair (.int .i64) (.sl .byte))))), (101, false, (.map (.int .i64) (.int .i64))), (103, false, (.vars (.cons (.p (.int .i64)) (.cons (.p (.int .i64)) (.cons (.slf 3 107) (.cons (.mp 104) .nil)))))), (107, false, (.rows 34 (.pair (.int .i64) (.pair (.int .i64) (.sl .byte))))), (104, false, (.map (.int .i64) (.int .i64)))]⟩⟩)] (.two (.two (.reg [(3, { sh := [100, 106, 101], fn := 8 }), (7, { ids := [109] })]) (.two (.two (.leaf) (.leaf)) (.two (.leaf) (.two (.leaf) (.one (.loop ⟨[5, 7, 11, 14, 18], ⟨(.cons (.own 0 100 0 0) (.cons (.own 0 103 0 0) (.cons (.own 0 108 0 0) (.cons (.p (.int .i64)) (.cons (.p (.int .i64)) .nil))))), [(100, false, (.vars (.cons (.p (.int .i64)) (.cons (.p (.int .i64)) (.cons (.slf 3 106) (.cons (.mp 101) .nil)))))), (106, false, (.rows 34 (.pair (.int .i64) (.pair (.int .i64) (.sl .byte))))), (101, false, (.map (.int .i64) (.int .i64))), (103, false, (.vars (.cons (.p (.int .i64)) (.cons (.p (.int .i64)) (.cons (.slf 3 107) (.cons (.mp 104) .nil)))))), (107, false, (.rows 34 (.pair (.int .i64) (.pair (.int .i64) (.sl .byte))))), (104, false, (.map (.int .i64) (.int .i64))), (108, false, (.vars (.cons (.p (.int .u8)) (.cons (.p (.int .i64)) (.cons (.p (.int .i64)) (.cons (.p (.int .i64)) (.cons (.p (.sl .byte)) .nil)))))))]⟩⟩ false [(2, ⟨[5, 7, 11, 14], ⟨(.cons (.own 0 100 0 0) (.cons (.own 0 103 0 0) (.cons (.own 0 108 0 0) (.cons (.p (.int .i64)) .nil)))), [(100, false, (.vars (.cons (.p (.int .i64)) (.cons (.p (.int .i64)) (.cons (.slf 3 106) (.cons (.mp 101) .nil)))))), (106, false, (.rows 34 (.pair (.int .i64) (.pair (.int .i64) (.sl .byte))))), (101, false, (.map (.int .i64) (.int .i64))), (103, false, (.vars (.cons (.p (.int .i64)) (.cons (.p (.int .i64)) (.cons (.slf 3 107) (.cons (.mp 104) .nil)))))), (107, false, (.rows 34 (.pair (.int .i64) (.pair (.int .i64) (.sl .byte))))), (104, false, (.map (.int .i64) (.int .i64))), (108, false, (.vars (.cons (.p (.int .u8)) (.cons (.p (.int .i64)) (.cons (.p (.int .i64)) (.cons (.p (.int .i64)) (.cons (.p (.sl .byte)) .nil)))))))]⟩⟩)] (.two (.two (.leaf) (.leaf)) (.two (.one (.two (.reg [(2, { sh := [100, 106, 101], fn := 8 }), (6, { ids := [110] })]) (.two (.leaf) (.join ⟨[5, 7, 11, 14], ⟨(.cons (.own 0 100 0 0) (.cons (.own 0 103 0 0) (.cons (.own 0 108 0 0) (.cons (.p (.int .i64)) .nil)))), [(100, false, (.vars (.cons (.p (.int .i64)) (.cons (.p (.int .i64)) (.cons (.slf 3 106) (.cons (.mp 101) .nil)))))), (106, false, (.rows 34 (.pair (.int .i64) (.pair (.int .i64) (.sl .byte))))), (101, false, (.map (.int .i64) (.int .i64))), (103, false, (.vars (.cons (.p (.int .i64)) (.cons (.p (.int .i64)) (.cons (.slf 3 107) (.cons (.mp 104) .nil)))))), (107, false, (.rows 34 (.pair (.int .i64) (.pair (.int .i64) (.sl .byte))))), (104, false, (.map (.int .i64) (.int .i64))), (108, false, (.vars (.cons (.p (.int .u8)) (.cons (.p (.int .i64)) (.cons (.p (.int .i64)) (.cons (.p (.int .i64)) (.cons (.p (.sl .byte)) .nil)))))))]⟩⟩ false [] (.leaf))))) (.leaf))))))))) (.leaf)))) (.two (.join ⟨[5, 7, 11, 21], ⟨(.cons (.own 0 100 0 0) (.cons (.own 0 103 0 0) (.cons (.own 0 108 0 0) (.cons (.p .str) .nil)))), [(100, false, (.vars (.cons (.p (.int .i64)) (.cons (.p (.int .i64)) (.cons (.slf 3 106) (.cons (.mp 101) .nil)))))), (106, false, (.rows 34 (.pair (.int .i64) (.pair (.int .i64) (.sl .byte))))), (101, false, (.map (.int .i64) (.int .i64))), (103, false, (.vars (.cons (.p (.int .i64)) (.cons (.p (.int .i64)) (.cons (.slf 3 107) (.cons (.mp 104) .nil)))))), (107, false, (.rows 34 (.pair (.int .i64) (.pair (.int .i64) (.sl .byte))))), (104, false, (.map (.int .i64) (.int .i64))), (108, false, (.vars (.cons (.p (.int .u8)) (.cons (.p (.int .i64)) (.cons (.p (.int .i64)) (.cons (.p (.int .i64)) (.cons (.p (.sl .byte)) .nil)))))))]⟩⟩ false [] (.reg [(9, { ids := [111], sh := [100, 106, 101], fn := 6 })])) (.two (.two (.leaf) (.join ⟨[5, 7], ⟨(.cons (.own 0 100 0 0) (.cons (.own 0 103 0 0) .nil)), [(100, false, (.vars (.cons (.p (.int .i64)) (.cons (.p (.int .i64)) (.cons (.slf 3 106) (.cons (.mp 101) .nil)))))), (106, false, (.rows 34 (.pair (.int .i64) (.pair (.int .i64) (.sl .byte))))), (101, false, (.map (.int .i64) (.int .i64))), (103, false, (.vars (.cons (.p (.int .i64)) (.cons (.p (.int .i64)) (.cons (.slf 3 107) (.cons (.mp 104) .nil)))))), (107, false, (.rows 34 (.pair (.int .i64) (.pair (.int .i64) (.sl .byte))))), (104, false, (.map (.int .i64) (.int .i64)))]⟩⟩ true [] (.two (.two (.join ⟨[5, 7, 22], ⟨(.cons (.own 0 100 0 0) (.cons (.own 0 103 0 0) (.cons (.p .str) .nil))), [(100, false, (.vars (.cons (.p (.int .i64)) (.cons (.p (.int .i64)) (.cons (.slf 3 106) (.cons (.mp 101) .nil)))))), (106, false, (.rows 34 (.pair (.int .i64) (.pair (.int .i64) (.sl .byte))))), (101, false, (.map (.int .i64) (.int .i64))), (103, false, (.vars (.cons (.p (.int .i64)) (.cons (.p (.int .i64)) (.cons (.slf 3 107) (.cons (.mp 104) .nil)))))), (107, false, (.rows 34 (.pair (.int .i64) (.pair (.int .i64) (.sl .byte))))), (104, false, (.map (.int .i64) (.int .i64)))]⟩⟩ false [] (.reg [(8, { ids := [112], sh := [103, 107, 104], fn := 6 })])) (.two (.leaf) (.two (.leaf) (.leaf)))) (.leaf)))) (.two (.reg [(3, { sh := [100, 106, 101, 103, 107, 104], fn := 10 })]) (.two (.leaf) (.leaf)))))))))))) (.leaf)))))))) (.two (.reg [(0, { fn := 5 })]) (.leaf))))))))), ⟨(.cons (.p (.int .i64)) (.cons (.p (.sl (.pair .byte (.pair (.int .i64) (.pair (.int .i64) (.pair (.int .i64) (.sl .byte))))))) .nil)), []⟩, [⟨(.cons (.p .bool) .nil), []⟩], [0]⟩
def law07_NetOthers_ft (fu : Nat) : FnT := ⟨8, ⟨(.cons (.p (.int .i64)) (.cons (.p (.sl (.pair .byte (.pair (.int .i64) (.pair (.int .i64) (.pair (.int .i64) (.sl .byte))))))) .nil)), []⟩, [⟨(.cons (.p .bool) .nil), []⟩], fun t => law07_NetOthers fu t.1 t.2⟩
theorem law07_NetOthers_eq (fu : Nat) : ∀ t, evF Go.Proofs.Try.prog [net_New_ft fu, low_Pick_ft fu, net_Net_Look_n0_ft fu, law07_deed_n0_ft fu, law07_alike_n0n1_ft fu, law07_awake_ft fu, law07_deed__com_ft fu, law07_alike_n0_com_ft fu, net_Net_Look__com_ft fu, law07_alike_n1_com_ft fu, law07_alike__comcom_ft fu] fu Go.Proofs.Try.f8 law07_NetOthers_fa t = (law07_NetOthers_ft fu).spec t := fun t => by kernel_rfl
theorem law07_NetOthers_told (fu : Nat) : Told Go.Proofs.Try.prog (law07_NetOthers_ft fu) := told_of (allT_cons (net_New_told fu) (allT_cons (low_Pick_told fu) (allT_cons (net_Net_Look_n0_told fu) (allT_cons (law07_deed_n0_told fu) (allT_cons (law07_alike_n0n1_told fu) (allT_cons (law07_awake_told fu) (allT_cons (law07_deed__com_told fu) (allT_cons (law07_alike_n0_com_told fu) (allT_cons (net_Net_Look__com_told fu) (allT_cons (law07_alike_n1_com_told fu) (allT_cons (law07_alike__comcom_told fu) allT_nil))))))))))) mixed Go.Proofs.Try.func8 (by kernel_rfl) (by kernel_rfl) (law07_NetOthers_eq fu)

def law07_NetMost_l0 (fu : Nat) (most : Int) (i : Int) : Option (Int ⊕ (Unit ⊕ Bool)) :=
  bif (decide (i < (IntKind.wrap .i64 (1 + (IntKind.wrap .i64 (Int.tmod most 40)))))) then
    Option.bind (α := (Int)) (
      bif ((Int.tmod i 2) == 0) then
        (byte? (IntKind.wrap .u8 i)).bind fun c =>
        (net_Net_Send_n0 fu 0 1 [c]).bind fun r3 =>
        some r3
      else
        (net_Net_Copy_n0 fu 0).bind fun r4 =>
        some r4) fun o =>
    Option.bind (α := (Bool)) (
      bif (!(o == 0)) then
        some true
      else
        (net_Net_Waiting_n0 fu 1).bind fun r5 =>
        some (!(r5 == (IntKind.wrap .i64 (i + 1))))) fun o1 =>
    bif o1 then
      some (.inr (.inr false))
    else
      some (.inl (IntKind.wrap .i64 (i + 1)))
  else
    some (.inr (.inl ()))
def law07_NetMost_l0_it (fu : Nat) (most : Int) (tt : Int) : Option (Unit ⊕ Bool) :=
  iter fu (fun tt => law07_NetMost_l0 fu most tt) tt
def law07_NetMost_l1 (fu : Nat) (most : Int) (i1 : Int) (h : Int) (h1 : Int) (h2 : List ((Int × (Int × List (UInt8))))) (h3 : (List (((Int × Int) × Nat)) × Nat)) : Option ((Int × (Int × (Int × (List ((Int × (Int × List (UInt8)))) × (List (((Int × Int) × Nat)) × Nat))))) ⊕ ((Int × (Int × (List ((Int × (Int × List (UInt8)))) × (List (((Int × Int) × Nat)) × Nat)))) ⊕ Bool)) :=
  bif (decide (i1 < (IntKind.wrap .i64 (1 + (IntKind.wrap .i64 (Int.tmod most 40)))))) then
    Option.bind (α := ((Int × (Int × (Int × (List ((Int × (Int × List (UInt8)))) × (List (((Int × Int) × Nat)) × Nat))))))) (
      bif ((Int.tmod i1 2) == 0) then
        Option.bind (α := ((Int × (Int × (Int × (List ((Int × (Int × List (UInt8)))) × (List (((Int × Int) × Nat)) × Nat))))))) (
          (byte? (IntKind.wrap .u8 i1)).bind fun c1 =>
          (net_Net_Send__com fu 0 1 [c1] h h1 h2 h3).bind fun r17 =>
          match r17 with
          | .inl r18 =>
            some (r18.1, (r18.2.1, (r18.2.2.1, (r18.2.2.2.1, r18.2.2.2.2))))
          | .inr r19 =>
            some (r19.1, (r19.2.1, (r19.2.2.1, (r19.2.2.2.2, r19.2.2.2.1))))) fun o7 =>
        some (o7.1, (o7.2.1, (o7.2.2.1, (o7.2.2.2.1, o7.2.2.2.2))))
      else
        Option.bind (α := ((Int × (Int × (Int × (List ((Int × (Int × List (UInt8)))) × (List (((Int × Int) × Nat)) × Nat))))))) (
          (net_Net_Copy__com fu 0 h h1 h2 h3).bind fun r20 =>
          match r20 with
          | .inl r21 =>
            some (r21.1, (r21.2.1, (r21.2.2.1, (r21.2.2.2.1, r21.2.2.2.2))))
          | .inr r22 =>
            some (r22.1, (r22.2.1, (r22.2.2.1, (r22.2.2.2.2, r22.2.2.2.1))))) fun o8 =>
        some (o8.1, (o8.2.1, (o8.2.2.1, (o8.2.2.2.1, o8.2.2.2.2))))) fun o9 =>
    Option.bind (α := ((Bool × (Int × (Int × (List ((Int × (Int × List (UInt8)))) × (List (((Int × Int) × Nat)) × Nat))))))) (
      bif (!(o9.1 == 0)) then
        some (true, (o9.2.1, (o9.2.2.1, (o9.2.2.2.1, o9.2.2.2.2))))
      else
        (net_Net_Waiting__com fu 1 o9.2.1 o9.2.2.1 o9.2.2.2.1 o9.2.2.2.2).bind fun r23 =>
        some ((!(r23.1 == (IntKind.wrap .i64 (i1 + 1)))), (r23.2.1, (r23.2.2.1, (r23.2.2.2.1, r23.2.2.2.2))))) fun o10 =>
    bif o10.1 then
      some (.inr (.inr false))
    else
      some (.inl ((IntKind.wrap .i64 (i1 + 1)), (o10.2.1, (o10.2.2.1, (o10.2.2.2.1, o10.2.2.2.2)))))
  else
    some (.inr (.inl (h, (h1, (h2, h3)))))
def law07_NetMost_l1_it (fu : Nat) (most : Int) (tt : (Int × (Int × (Int × (List ((Int × (Int × List (UInt8)))) × (List (((Int × Int) × Nat)) × Nat)))))) : Option ((Int × (Int × (List ((Int × (Int × List (UInt8)))) × (List (((Int × Int) × Nat)) × Nat)))) ⊕ Bool) :=
  iter fu (fun tt => law07_NetMost_l1 fu most tt.1 tt.2.1 tt.2.2.1 tt.2.2.2.1 tt.2.2.2.2) tt
def law07_NetMost (fu : Nat) (most : Int) (way : Int) : Option (Bool) :=
  (net_New fu 2 (IntKind.wrap .i64 (1 + (IntKind.wrap .i64 (Int.tmod most 40))))).bind fun r =>
  match r with
  | .inl r1 =>
    bif (!(r1 == 0)) then
      some false
    else
      (law07_NetMost_l0_it fu most 0).bind fun o2 =>
      match o2 with
      | .inl s =>
        Option.bind (α := (Bool)) (
          (net_Net_Send_n0 fu 1 1 []).bind fun r6 =>
          bif (!(r6 == 5)) then
            some true
          else
            (net_Net_Copy_n0 fu 0).bind fun r7 =>
            bif (!(r7 == 5)) then
              some true
            else
              (net_Net_Send_n0 fu 1 0 []).bind fun r8 =>
              some (!(r8 == 0))) fun o4 =>
        bif o4 then
          some false
        else
          Option.bind (α := (Int)) (
            bif ((Int.tmod way 3) == 0) then
              (net_Net_Take_n0 fu 0).bind fun r9 =>
              some (IntKind.wrap .i64 ((IntKind.wrap .i64 (1 + (IntKind.wrap .i64 (Int.tmod most 40)))) - 1))
            else
              Option.bind (α := (Int)) (
                bif ((Int.tmod way 3) == 1) then
                  (net_Net_Drop_n0 fu (IntKind.wrap .i64 ((IntKind.wrap .i64 (1 + (IntKind.wrap .i64 (Int.tmod most 40)))) - 1))).bind fun r10 =>
                  some (IntKind.wrap .i64 ((IntKind.wrap .i64 (1 + (IntKind.wrap .i64 (Int.tmod most 40)))) - 1))
                else
                  (net_Net_Forget_n0 fu 1).bind fun r11 =>
                  some 0) fun o5 =>
              some o5) fun o6 =>
          (net_Net_Waiting_n0 fu 1).bind fun r12 =>
          bif (r12 == o6) then
            (net_Net_Waiting_n0 fu 0).bind fun r13 =>
            bif (r13 == 1) then
              (net_Net_Send_n0 fu 0 1 []).bind fun r14 =>
              bif (r14 == 0) then
                (net_Net_Waiting_n0 fu 1).bind fun r15 =>
                bif (r15 == (IntKind.wrap .i64 (o6 + 1))) then
                  (law07_awake fu).bind fun r16 =>
                  some r16
                else
                  some false
              else
                some false
            else
              some false
          else
            some false
      | .inr o3 =>
        some o3
  | .inr r2 =>
    bif (!(r2.1 == 0)) then
      some false
    else
      (law07_NetMost_l1_it fu most (0, (r2.2.1, (r2.2.2.1, ([], r2.2.2.2))))).bind fun o11 =>
      match o11 with
      | .inl s1 =>
        Option.bind (α := ((Bool × (Int × (Int × (List ((Int × (Int × List (UInt8)))) × (List (((Int × Int) × Nat)) × Nat))))))) (
          (net_Net_Send__com fu 1 1 [] s1.1 s1.2.1 s1.2.2.1 s1.2.2.2).bind fun r24 =>
          match r24 with
          | .inl r25 =>
            bif (!(r25.1 == 5)) then
              some (true, (r25.2.1, (r25.2.2.1, (r25.2.2.2.1, r25.2.2.2.2))))
            else
              (net_Net_Copy__com fu 0 r25.2.1 r25.2.2.1 r25.2.2.2.1 r25.2.2.2.2).bind fun r27 =>
              match r27 with
              | .inl r28 =>
                bif (!(r28.1 == 5)) then
                  some (true, (r28.2.1, (r28.2.2.1, (r28.2.2.2.1, r28.2.2.2.2))))
                else
                  (net_Net_Send__com fu 1 0 [] r28.2.1 r28.2.2.1 r28.2.2.2.1 r28.2.2.2.2).bind fun r30 =>
                  match r30 with
                  | .inl r31 =>
                    some ((!(r31.1 == 0)), (r31.2.1, (r31.2.2.1, (r31.2.2.2.1, r31.2.2.2.2))))
                  | .inr r32 =>
                    some ((!(r32.1 == 0)), (r32.2.1, (r32.2.2.1, (r32.2.2.2.2, r32.2.2.2.1))))
              | .inr r29 =>
                bif (!(r29.1 == 5)) then
                  some (true, (r29.2.1, (r29.2.2.1, (r29.2.2.2.2, r29.2.2.2.1))))
                else
                  (net_Net_Send__com fu 1 0 [] r29.2.1 r29.2.2.1 r29.2.2.2.2 r29.2.2.2.1).bind fun r33 =>
                  match r33 with
                  | .inl r34 =>
                    some ((!(r34.1 == 0)), (r34.2.1, (r34.2.2.1, (r34.2.2.2.1, r34.2.2.2.2))))
                  | .inr r35 =>
                    some ((!(r35.1 == 0)), (r35.2.1, (r35.2.2.1, (r35.2.2.2.2, r35.2.2.2.1))))
          | .inr r26 =>
            bif (!(r26.1 == 5)) then
              some (true, (r26.2.1, (r26.2.2.1, (r26.2.2.2.2, r26.2.2.2.1))))
            else
              (net_Net_Copy__com fu 0 r26.2.1 r26.2.2.1 r26.2.2.2.2 r26.2.2.2.1).bind fun r36 =>
              match r36 with
              | .inl r37 =>
                bif (!(r37.1 == 5)) then
                  some (true, (r37.2.1, (r37.2.2.1, (r37.2.2.2.1, r37.2.2.2.2))))
                else
                  (net_Net_Send__com fu 1 0 [] r37.2.1 r37.2.2.1 r37.2.2.2.1 r37.2.2.2.2).bind fun r39 =>
                  match r39 with
                  | .inl r40 =>
                    some ((!(r40.1 == 0)), (r40.2.1, (r40.2.2.1, (r40.2.2.2.1, r40.2.2.2.2))))
                  | .inr r41 =>
                    some ((!(r41.1 == 0)), (r41.2.1, (r41.2.2.1, (r41.2.2.2.2, r41.2.2.2.1))))
              | .inr r38 =>
                bif (!(r38.1 == 5)) then
                  some (true, (r38.2.1, (r38.2.2.1, (r38.2.2.2.2, r38.2.2.2.1))))
                else
                  (net_Net_Send__com fu 1 0 [] r38.2.1 r38.2.2.1 r38.2.2.2.2 r38.2.2.2.1).bind fun r42 =>
                  match r42 with
                  | .inl r43 =>
                    some ((!(r43.1 == 0)), (r43.2.1, (r43.2.2.1, (r43.2.2.2.1, r43.2.2.2.2))))
                  | .inr r44 =>
                    some ((!(r44.1 == 0)), (r44.2.1, (r44.2.2.1, (r44.2.2.2.2, r44.2.2.2.1))))) fun o13 =>
        bif o13.1 then
          some false
        else
          Option.bind (α := ((Int × (Int × (Int × (List ((Int × (Int × List (UInt8)))) × (List (((Int × Int) × Nat)) × Nat))))))) (
            bif ((Int.tmod way 3) == 0) then
              Option.bind (α := ((Int × (Int × (List ((Int × (Int × List (UInt8)))) × (List (((Int × Int) × Nat)) × Nat)))))) (
                (net_Net_Take__com fu 0 o13.2.1 o13.2.2.1 o13.2.2.2.1 o13.2.2.2.2).bind fun r45 =>
                match r45 with
                | .inl r46 =>
                  some (r46.2.2.2.2.1, (r46.2.2.2.2.2.1, (r46.2.2.2.2.2.2.1, r46.2.2.2.2.2.2.2)))
                | .inr r47 =>
                  some (r47.2.2.2.2.1, (r47.2.2.2.2.2.1, (r47.2.2.2.2.2.2.2.2, r47.2.2.2.2.2.2.1)))) fun o14 =>
              some ((IntKind.wrap .i64 ((IntKind.wrap .i64 (1 + (IntKind.wrap .i64 (Int.tmod most 40)))) - 1)), (o14.1, (o14.2.1, (o14.2.2.1, o14.2.2.2))))
            else
              Option.bind (α := ((Int × (Int × (Int × (List ((Int × (Int × List (UInt8)))) × (List (((Int × Int) × Nat)) × Nat))))))) (
                bif ((Int.tmod way 3) == 1) then
                  Option.bind (α := ((Int × (Int × (List ((Int × (Int × List (UInt8)))) × (List (((Int × Int) × Nat)) × Nat)))))) (
                    (net_Net_Drop__com fu (IntKind.wrap .i64 ((IntKind.wrap .i64 (1 + (IntKind.wrap .i64 (Int.tmod most 40)))) - 1)) o13.2.1 o13.2.2.1 o13.2.2.2.1 o13.2.2.2.2).bind fun r48 =>
                    match r48 with
                    | .inl r49 =>
                      some (r49.2.1, (r49.2.2.1, (r49.2.2.2.1, r49.2.2.2.2)))
                    | .inr r50 =>
                      some (r50.2.1, (r50.2.2.1, (r50.2.2.2.2.2, r50.2.2.2.1)))) fun o15 =>
                  some ((IntKind.wrap .i64 ((IntKind.wrap .i64 (1 + (IntKind.wrap .i64 (Int.tmod most 40)))) - 1)), (o15.1, (o15.2.1, (o15.2.2.1, o15.2.2.2))))
                else
                  (net_Net_Forget__com fu 1 o13.2.1 o13.2.2.1 o13.2.2.2.1 o13.2.2.2.2).bind fun r51 =>
                  some (0, (r51.2.1, (r51.2.2.1, (r51.2.2.2.2, r51.2.2.2.1))))) fun o16 =>
              some (o16.1, (o16.2.1, (o16.2.2.1, (o16.2.2.2.1, o16.2.2.2.2))))) fun o17 =>
          (net_Net_Waiting__com fu 1 o17.2.1 o17.2.2.1 o17.2.2.2.1 o17.2.2.2.2).bind fun r52 =>
          bif (r52.1 == o17.1) then
            (net_Net_Waiting__com fu 0 r52.2.1 r52.2.2.1 r52.2.2.2.1 r52.2.2.2.2).bind fun r53 =>
            bif (r53.1 == 1) then
              (net_Net_Send__com fu 0 1 [] r53.2.1 r53.2.2.1 r53.2.2.2.1 r53.2.2.2.2).bind fun r54 =>
              match r54 with
              | .inl r55 =>
                bif (r55.1 == 0) then
                  (net_Net_Waiting__com fu 1 r55.2.1 r55.2.2.1 r55.2.2.2.1 r55.2.2.2.2).bind fun r57 =>
                  bif (r57.1 == (IntKind.wrap .i64 (o17.1 + 1))) then
                    (law07_awake fu).bind fun r58 =>
                    some r58
                  else
                    some false
                else
                  some false
              | .inr r56 =>
                bif (r56.1 == 0) then
                  (net_Net_Waiting__com fu 1 r56.2.1 r56.2.2.1 r56.2.2.2.2 r56.2.2.2.1).bind fun r59 =>
                  bif (r59.1 == (IntKind.wrap .i64 (o17.1 + 1))) then
                    (law07_awake fu).bind fun r60 =>
                    some r60
                  else
                    some false
                else
                  some false
            else
              some false
          else
            some false
      | .inr o12 =>
        some o12
def law07_NetMost_fa : FnA := ⟨.two (.leaf) (.two (.leaf) (.two (.reg [(1, { ids := [100, 101] })]) (.sel (.slot 6 (.nilp (.pointer none))) (.two (.two (.leaf) (.two (.leaf) (.leaf))) (.two (.two (.leaf) (.one (.loop ⟨[8], ⟨(.cons (.p (.int .i64)) .nil), []⟩⟩ true [(0, ⟨[], ⟨.nil, []⟩⟩)] (.two (.two (.leaf) (.leaf)) (.two (.one (.two (.leaf) (.two (.two (.leaf) (.join ⟨[9], ⟨(.cons (.p (.int .i64)) .nil), []⟩⟩ false [] (.two (.reg [(3, { ids := [103] }), (4, { md := [0, 0, 0, 2], fn := 1 })]) (.reg [(1, { fn := 2 })])))) (.two (.join ⟨[45], ⟨(.cons (.p .bool) .nil), []⟩⟩ false [] (.reg [(4, { fn := 3 })])) (.two (.leaf) (.leaf)))))) (.leaf)))))) (.two (.two (.join ⟨[58], ⟨(.cons (.p .bool) .nil), []⟩⟩ false [] (.reg [(1, { fn := 1 }), (5, { fn := 2 }), (10, { fn := 1 })])) (.two (.leaf) (.leaf))) (.two (.leaf) (.two (.two (.leaf) (.one (.two (.leaf) (.join ⟨[10], ⟨(.cons (.p (.int .i64)) .nil), []⟩⟩ false [] (.two (.reg [(1, { fn := 4 })]) (.two (.leaf) (.join ⟨[10], ⟨(.cons (.p (.int .i64)) .nil), []⟩⟩ false [] (.two (.reg [(3, { fn := 5 })]) (.two (.reg [(1, { fn := 6 })]) (.leaf)))))))))) (.two (.reg [(1, { fn := 3 }), (6, { fn := 3 }), (11, { fn := 1 }), (16, { fn := 3 }), (22, { fn := 7 })]) (.leaf))))))) (.two (.two (.leaf) (.two (.leaf) (.leaf))) (.two (.two (.leaf) (.one (.pre (.ownCell 100 2 34 103) (.loop ⟨[6, 8], ⟨(.cons (.own 0 100 0 0) (.cons (.p (.int .i64)) .nil)), [(100, false, (.vars (.cons (.p (.int .i64)) (.cons (.p (.int .i64)) (.cons (.slf 3 103) (.cons (.mp 101) .nil)))))), (103, false, (.rows 34 (.pair (.int .i64) (.pair (.int .i64) (.sl .byte))))), (101, false, (.map (.int .i64) (.int .i64)))]⟩⟩ true [(0, ⟨[6], ⟨(.cons (.own 0 100 0 0) .nil), [(100, false, (.vars (.cons (.p (.int .i64)) (.cons (.p (.int .i64)) (.cons (.slf 3 103) (.cons (.mp 101) .nil)))))), (103, false, (.rows 34 (.pair (.int .i64) (.pair (.int .i64) (.sl .byte))))), (101, false, (.map (.int .i64) (.int .i64)))]⟩⟩)] (.two (.two (.leaf) (.leaf)) (.two (.one (.two (.leaf) (.two (.two (.leaf) (.join ⟨[6, 9], ⟨(.cons (.own 0 100 0 0) (.cons (.p (.int .i64)) .nil)), [(100, false, (.vars (.cons (.p (.int .i64)) (.cons (.p (.int .i64)) (.cons (.slf 3 103) (.cons (.mp 101) .nil)))))), (103, false, (.rows 34 (.pair (.int .i64) (.pair (.int .i64) (.sl .byte))))), (101, false, (.map (.int .i64) (.int .i64)))]⟩⟩ false [] (.two (.join ⟨[6, 9], ⟨(.cons (.own 0 100 0 0) (.cons (.p (.int .i64)) .nil)), [(100, false, (.vars (.cons (.p (.int .i64)) (.cons (.p (.int .i64)) (.cons (.slf 3 103) (.cons (.mp 101) .nil)))))), (103, false, (.rows 34 (.pair (.int .i64) (.pair (.int .i64) (.sl .byte))))), (101, false, (.map (.int .i64) (.int .i64)))]⟩⟩ false [] (.reg [(3, { ids := [104] }), (4, { ids := [105], sh := [100, 103, 101], md := [0, 0, 0, 1], fn := 8 })])) (.join ⟨[6, 9], ⟨(.cons (.own 0 100 0 0) (.cons (.p (.int .i64)) .nil)), [(100, false, (.vars (.cons (.p (.int .i64)) (.cons (.p (.int .i64)) (.cons (.slf 3 103) (.cons (.mp 101) .nil)))))), (103, false, (.rows 34 (.pair (.int .i64) (.pair (.int .i64) (.sl .byte))))), (101, false, (.map (.int .i64) (.int .i64)))]⟩⟩ false [] (.reg [(1, { ids := [106], sh := [100, 103, 101], fn := 9 })]))))) (.two (.join ⟨[6, 45], ⟨(.cons (.own 0 100 0 0) (.cons (.p .bool) .nil)), [(100, false, (.vars (.cons (.p (.int .i64)) (.cons (.p (.int .i64)) (.cons (.slf 3 103) (.cons (.mp 101) .nil)))))), (103, false, (.rows 34 (.pair (.int .i64) (.pair (.int .i64) (.sl .byte))))), (101, false, (.map (.int .i64) (.int .i64)))]⟩⟩ false [] (.reg [(4, { sh := [100, 103, 101], fn := 10 })])) (.two (.leaf) (.leaf)))))) (.leaf))))))) (.two (.two (.join ⟨[6, 58], ⟨(.cons (.own 0 100 0 0) (.cons (.p .bool) .nil)), [(100, false, (.vars (.cons (.p (.int .i64)) (.cons (.p (.int .i64)) (.cons (.slf 3 103) (.cons (.mp 101) .nil)))))), (103, false, (.rows 34 (.pair (.int .i64) (.pair (.int .i64) (.sl .byte))))), (101, false, (.map (.int .i64) (.int .i64)))]⟩⟩ false [] (.reg [(1, { ids := [107], sh := [100, 103, 101], fn := 8 }), (5, { ids := [108], sh := [100, 103, 101], fn := 9, more := [{ ids := [108], sh := [100, 107, 101], fn := 9 }] }), (10, { ids := [109], sh := [100, 103, 101], fn := 8, more := [{ ids := [109], sh := [100, 108, 101], fn := 8 }, { ids := [109], sh := [100, 107, 101], fn := 8 }] })])) (.two (.leaf) (.leaf))) (.two (.leaf) (.two (.two (.leaf) (.one (.two (.leaf) (.join ⟨[6, 10], ⟨(.cons (.own 0 100 0 0) (.cons (.p (.int .i64)) .nil)), [(100, false, (.vars (.cons (.p (.int .i64)) (.cons (.p (.int .i64)) (.cons (.slf 3 103) (.cons (.mp 101) .nil)))))), (103, false, (.rows 34 (.pair (.int .i64) (.pair (.int .i64) (.sl .byte))))), (101, false, (.map (.int .i64) (.int .i64)))]⟩⟩ false [] (.two (.join ⟨[6], ⟨(.cons (.own 0 100 0 0) .nil), [(100, false, (.vars (.cons (.p (.int .i64)) (.cons (.p (.int .i64)) (.cons (.slf 3 103) (.cons (.mp 101) .nil)))))), (103, false, (.rows 34 (.pair (.int .i64) (.pair (.int .i64) (.sl .byte))))), (101, false, (.map (.int .i64) (.int .i64)))]⟩⟩ false [] (.reg [(1, { ids := [110], sh := [100, 103, 101], fn := 11 })])) (.two (.leaf) (.join ⟨[6, 10], ⟨(.cons (.own 0 100 0 0) (.cons (.p (.int .i64)) .nil)), [(100, false, (.vars (.cons (.p (.int .i64)) (.cons (.p (.int .i64)) (.cons (.slf 3 103) (.cons (.mp 101) .nil)))))), (103, false, (.rows 34 (.pair (.int .i64) (.pair (.int .i64) (.sl .byte))))), (101, false, (.map (.int .i64) (.int .i64)))]⟩⟩ false [] (.two (.join ⟨[6], ⟨(.cons (.own 0 100 0 0) .nil), [(100, false, (.vars (.cons (.p (.int .i64)) (.cons (.p (.int .i64)) (.cons (.slf 3 103) (.cons (.mp 101) .nil)))))), (103, false, (.rows 34 (.pair (.int .i64) (.pair (.int .i64) (.sl .byte))))), (101, false, (.map (.int .i64) (.int .i64)))]⟩⟩ false [] (.reg [(3, { ids := [111], sh := [100, 103, 101], fn := 12 })])) (.two (.reg [(1, { ids := [112], sh := [100, 103, 101], fn := 13 })]) (.leaf)))))))))) (.two (.reg [(1, { sh := [100, 103, 101], fn := 10 }), (6, { sh := [100, 103, 101], fn := 10 }), (11, { ids := [113], sh := [100, 103, 101], fn := 8 }), (16, { sh := [100, 103, 101], fn := 10, more := [{ sh := [100, 113, 101], fn := 10 }] }), (22, { fn := 7 })]) (.leaf)))))))))), ⟨(.cons (.p (.int .u8)) (.cons (.p (.int .u8)) .nil)), []⟩, [⟨(.cons (.p .bool) .nil), []⟩], [0]⟩
def law07_NetMost_ft (fu : Nat) : FnT := ⟨9, ⟨(.cons (.p (.int .u8)) (.cons (.p (.int .u8)) .nil)), []⟩, [⟨(.cons (.p .bool) .nil), []⟩], fun t => law07_NetMost fu t.1 t.2⟩
theorem law07_NetMost_eq (fu : Nat) : ∀ t, evF Go.Proofs.Try.prog [net_New_ft fu, net_Net_Send_n0_ft fu, net_Net_Copy_n0_ft fu, net_Net_Waiting_n0_ft fu, net_Net_Take_n0_ft fu, net_Net_Drop_n0_ft fu, net_Net_Forget_n0_ft fu, law07_awake_ft fu, net_Net_Send__com_ft fu, net_Net_Copy__com_ft fu, net_Net_Waiting__com_ft fu, net_Net_Take__com_ft fu, net_Net_Drop__com_ft fu, net_Net_Forget__com_ft fu] fu Go.Proofs.Try.f9 law07_NetMost_fa t = (law07_NetMost_ft fu).spec t := fun t => by kernel_rfl
theorem law07_NetMost_told (fu : Nat) : Told Go.Proofs.Try.prog (law07_NetMost_ft fu) := told_of (allT_cons (net_New_told fu) (allT_cons (net_Net_Send_n0_told fu) (allT_cons (net_Net_Copy_n0_told fu) (allT_cons (net_Net_Waiting_n0_told fu) (allT_cons (net_Net_Take_n0_told fu) (allT_cons (net_Net_Drop_n0_told fu) (allT_cons (net_Net_Forget_n0_told fu) (allT_cons (law07_awake_told fu) (allT_cons (net_Net_Send__com_told fu) (allT_cons (net_Net_Copy__com_told fu) (allT_cons (net_Net_Waiting__com_told fu) (allT_cons (net_Net_Take__com_told fu) (allT_cons (net_Net_Drop__com_told fu) (allT_cons (net_Net_Forget__com_told fu) allT_nil)))))))))))))) mixed Go.Proofs.Try.func9 (by kernel_rfl) (by kernel_rfl) (law07_NetMost_eq fu)
end
end Go.Ab.D
