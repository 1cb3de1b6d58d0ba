/- Functions of the program as plain Lean functions: each equation is checked by the kernel; what is told of a function follows from it. -/
import Derived.Test.YtdngccokjijgeaaInodePartsD1
set_option linter.all false
set_option maxRecDepth 100000
set_option maxHeartbeats 4000000
namespace Go.Ab.D
open Go Go.Ab
noncomputable section
def law18_InodeParts_l0 (fu : Nat) (o : (Bool × (Int × (List ((Int × (Int × (Bool × (Bool × (Int × (List ((Int × Int)) × (Int × List ((List UInt8 × Int)))))))))) × (Int × (Int × (Int × (Int × List (Int))))))))) (mine : Int) (x : Int) (h : Int) (h1 : List ((Int × (Int × (Bool × (Bool × (Int × (List ((Int × Int)) × (Int × List ((List UInt8 × Int))))))))))) (h2 : Int) (h3 : Int) (h4 : Int) (h5 : Int) (h6 : List ((Int × Int))) (h7 : List ((Int × Int))) (h8 : List (Int)) : Option ((Int × (Int × (List ((Int × (Int × (Bool × (Bool × (Int × (List ((Int × Int)) × (Int × List ((List UInt8 × Int)))))))))) × (Int × (Int × (Int × (Int × (List ((Int × Int)) × (List ((Int × Int)) × List (Int)))))))))) ⊕ ((Int × (List ((Int × (Int × (Bool × (Bool × (Int × (List ((Int × Int)) × (Int × List ((List UInt8 × Int)))))))))) × (Int × (Int × (Int × (Int × (List ((Int × Int)) × List ((Int × Int))))))))))) :=
  bif (decide (x < ((o.2.2.2.2.2.2.2.length : Nat) : Int))) then
    (idx? x h8.length).bind fun q =>
    (h8)[q]?.bind fun r4 =>
    need (decide (0 ≤ x)) <|
    Option.bind (α := ((Int × (List ((Int × (Int × (Bool × (Bool × (Int × (List ((Int × Int)) × (Int × List ((List UInt8 × Int)))))))))) × (Int × (Int × (Int × (Int × (List ((Int × Int)) × (List ((Int × Int)) × List (Int))))))))))) (
      bif ((bitsI .and .u32 (Int.fdiv mine (2 ^ (min (x).toNat 32))) 1) == 1) then
        need ((Nat.ble ((h6.length + 1) * 16) room) && (Nat.ble (h6.length + 1) room)) <|
        some (h, (h1, (h2, (h3, (h4, (h5, ((h6 ++ [(r4, (IntKind.wrap .i64 (1 + x)))]), (h7, h8))))))))
      else
        need ((Nat.ble ((h7.length + 1) * 16) room) && (Nat.ble (h7.length + 1) room)) <|
        some (h, (h1, (h2, (h3, (h4, (h5, (h6, ((h7 ++ [(r4, (IntKind.wrap .i64 (1 + x)))]), h8))))))))) fun o1 =>
    some (.inl ((IntKind.wrap .i64 (x + 1)), (o1.1, (o1.2.1, (o1.2.2.1, (o1.2.2.2.1, (o1.2.2.2.2.1, (o1.2.2.2.2.2.1, (o1.2.2.2.2.2.2.1, (o1.2.2.2.2.2.2.2.1, o1.2.2.2.2.2.2.2.2))))))))))
  else
    some (.inr (h, (h1, (h2, (h3, (h4, (h5, (h6, h7))))))))
def law18_InodeParts_l0_it (fu : Nat) (o : (Bool × (Int × (List ((Int × (Int × (Bool × (Bool × (Int × (List ((Int × Int)) × (Int × List ((List UInt8 × Int)))))))))) × (Int × (Int × (Int × (Int × List (Int))))))))) (mine : Int) (tt : (Int × (Int × (List ((Int × (Int × (Bool × (Bool × (Int × (List ((Int × Int)) × (Int × List ((List UInt8 × Int)))))))))) × (Int × (Int × (Int × (Int × (List ((Int × Int)) × (List ((Int × Int)) × List (Int))))))))))) : Option ((Int × (List ((Int × (Int × (Bool × (Bool × (Int × (List ((Int × Int)) × (Int × List ((List UInt8 × Int)))))))))) × (Int × (Int × (Int × (Int × (List ((Int × Int)) × List ((Int × Int)))))))))) :=
  iter fu (fun tt => law18_InodeParts_l0 fu o mine tt.1 tt.2.1 tt.2.2.1 tt.2.2.2.1 tt.2.2.2.2.1 tt.2.2.2.2.2.1 tt.2.2.2.2.2.2.1 tt.2.2.2.2.2.2.2.1 tt.2.2.2.2.2.2.2.2.1 tt.2.2.2.2.2.2.2.2.2) tt
def law18_InodeParts_l1 (fu : Nat) (o3 : (Bool × (Int × (List ((Int × (Int × (Bool × (Bool × (Int × (List ((Int × Int)) × (Int × List ((List UInt8 × Int)))))))))) × (Int × (Int × (Int × (Int × (List ((Int × Int)) × List ((Int × Int))))))))))) (x1 : Int) (h9 : Int) (h10 : List ((Int × (Int × (Bool × (Bool × (Int × (List ((Int × Int)) × (Int × List ((List UInt8 × Int))))))))))) (h11 : Int) (h12 : Int) (h13 : Int) (h14 : Int) (h15 : List ((Int × Int))) : Option ((Int × (Int × (List ((Int × (Int × (Bool × (Bool × (Int × (List ((Int × Int)) × (Int × List ((List UInt8 × Int)))))))))) × (Int × (Int × (Int × (Int × List ((Int × Int))))))))) ⊕ ((Int × (List ((Int × (Int × (Bool × (Bool × (Int × (List ((Int × Int)) × (Int × List ((List UInt8 × Int)))))))))) × (Int × Int))) ⊕ Bool)) :=
  bif (decide (x1 < ((o3.2.2.2.2.2.2.2.1.length : Nat) : Int))) then
    need ((Nat.ble ((0 + h15.length) * 16) room) && (Nat.ble (0 + h15.length) room)) <|
    (idx? x1 o3.2.2.2.2.2.2.2.1.length).bind fun q1 =>
    (o3.2.2.2.2.2.2.2.1)[q1]?.bind fun r7 =>
    need ((Nat.ble ((h15.length + 1) * 16) room) && (Nat.ble (h15.length + 1) room)) <|
    (inode_Set fu (h10, h9) h13 20 (h15 ++ [(r7.1, r7.2)])).bind fun r8 =>
    need ((Nat.ble ((0 + o3.2.2.2.2.2.2.2.1.length) * 16) room) && (Nat.ble (0 + o3.2.2.2.2.2.2.2.1.length) room)) <|
    (idx? x1 o3.2.2.2.2.2.2.2.1.length).bind fun q2 =>
    (o3.2.2.2.2.2.2.2.1)[q2]?.bind fun r9 =>
    need ((Nat.ble ((o3.2.2.2.2.2.2.2.1.length + 1) * 16) room) && (Nat.ble (o3.2.2.2.2.2.2.2.1.length + 1) room)) <|
    (inode_Set fu (h10, h9) h11 10 (o3.2.2.2.2.2.2.2.1 ++ [(r9.1, r9.2)])).bind fun r10 =>
    Option.bind (α := ((Bool × (Int × (List ((Int × (Int × (Bool × (Bool × (Int × (List ((Int × Int)) × (Int × List ((List UInt8 × Int)))))))))) × (Int × (Int × (Int × (Int × List ((Int × Int))))))))))) (
      bif (!(r8.2.1 == 177)) then
        some (true, (h9, (h10, (h11, (h12, (h13, (h14, h15)))))))
      else
        bif (!(r10.2.1 == 177)) then
          some (true, (h9, (h10, (h11, (h12, (h13, (h14, h15)))))))
        else
          (kit_SameTree fu (r8.2.2, r8.1) (h10, h9)).bind fun r11 =>
          bif (!r11) then
            some (true, (h9, (h10, (h11, (h12, (h13, (h14, h15)))))))
          else
            (kit_SameTree fu (r10.2.2, r10.1) (h10, h9)).bind fun r12 =>
            some ((!r12), (h9, (h10, (h11, (h12, (h13, (h14, h15)))))))) fun o4 =>
    bif o4.1 then
      some (.inr (.inr false))
    else
      some (.inl ((IntKind.wrap .i64 (x1 + 1)), (o4.2.1, (o4.2.2.1, (o4.2.2.2.1, (o4.2.2.2.2.1, (o4.2.2.2.2.2.1, (o4.2.2.2.2.2.2.1, o4.2.2.2.2.2.2.2))))))))
  else
    some (.inr (.inl (h9, (h10, (h11, h12)))))
def law18_InodeParts_l1_it (fu : Nat) (o3 : (Bool × (Int × (List ((Int × (Int × (Bool × (Bool × (Int × (List ((Int × Int)) × (Int × List ((List UInt8 × Int)))))))))) × (Int × (Int × (Int × (Int × (List ((Int × Int)) × List ((Int × Int))))))))))) (tt : (Int × (Int × (List ((Int × (Int × (Bool × (Bool × (Int × (List ((Int × Int)) × (Int × List ((List UInt8 × Int)))))))))) × (Int × (Int × (Int × (Int × List ((Int × Int)))))))))) : Option ((Int × (List ((Int × (Int × (Bool × (Bool × (Int × (List ((Int × Int)) × (Int × List ((List UInt8 × Int)))))))))) × (Int × Int))) ⊕ Bool) :=
  iter fu (fun tt => law18_InodeParts_l1 fu o3 tt.1 tt.2.1 tt.2.2.1 tt.2.2.2.1 tt.2.2.2.2.1 tt.2.2.2.2.2.1 tt.2.2.2.2.2.2.1 tt.2.2.2.2.2.2.2) tt
def law18_InodeParts_l2 (fu : Nat) (o3 : (Bool × (Int × (List ((Int × (Int × (Bool × (Bool × (Int × (List ((Int × Int)) × (Int × List ((List UInt8 × Int)))))))))) × (Int × (Int × (Int × (Int × (List ((Int × Int)) × List ((Int × Int))))))))))) (i : Int) (h16 : Int) (h17 : List ((Int × (Int × (Bool × (Bool × (Int × (List ((Int × Int)) × (Int × List ((List UInt8 × Int))))))))))) (h18 : Int) (h19 : Int) (h20 : List ((Int × Int))) : Option ((Int × (Int × (List ((Int × (Int × (Bool × (Bool × (Int × (List ((Int × Int)) × (Int × List ((List UInt8 × Int)))))))))) × (Int × (Int × List ((Int × Int))))))) ⊕ ((Int × (List ((Int × (Int × (Bool × (Bool × (Int × (List ((Int × Int)) × (Int × List ((List UInt8 × Int)))))))))) × (Int × (Int × List ((Int × Int)))))))) :=
  bif (decide (i ≥ 0)) then
    (idx? i o3.2.2.2.2.2.2.2.1.length).bind fun q3 =>
    (o3.2.2.2.2.2.2.2.1)[q3]?.bind fun r13 =>
    need ((Nat.ble ((h20.length + 1) * 16) room) && (Nat.ble (h20.length + 1) room)) <|
    some (.inl ((IntKind.wrap .i64 (i - 1)), (h16, (h17, (h18, (h19, (h20 ++ [(r13.1, r13.2)])))))))
  else
    some (.inr (h16, (h17, (h18, (h19, h20)))))
def law18_InodeParts_l2_it (fu : Nat) (o3 : (Bool × (Int × (List ((Int × (Int × (Bool × (Bool × (Int × (List ((Int × Int)) × (Int × List ((List UInt8 × Int)))))))))) × (Int × (Int × (Int × (Int × (List ((Int × Int)) × List ((Int × Int))))))))))) (tt : (Int × (Int × (List ((Int × (Int × (Bool × (Bool × (Int × (List ((Int × Int)) × (Int × List ((List UInt8 × Int)))))))))) × (Int × (Int × List ((Int × Int)))))))) : Option ((Int × (List ((Int × (Int × (Bool × (Bool × (Int × (List ((Int × Int)) × (Int × List ((List UInt8 × Int)))))))))) × (Int × (Int × List ((Int × Int))))))) :=
  iter fu (fun tt => law18_InodeParts_l2 fu o3 tt.1 tt.2.1 tt.2.2.1 tt.2.2.2.1 tt.2.2.2.2.1 tt.2.2.2.2.2) tt
def law18_InodeParts (fu : Nat) (many : Int) (mine : Int) : Option (Bool) :=
  (inode_New fu).bind fun r =>
  (inode_Alloc fu (r.2, r.1) false 1).bind fun r1 =>
  (inode_Alloc fu (r1.2.2.2.2, r1.1) false 1).bind fun r2 =>
  (inode_Fresh fu (r2.2.2.2.2, r2.1) (IntKind.wrap .i64 (1 + (IntKind.wrap .i64 (Int.tmod many 20))))).bind fun r3 =>
  Option.bind (α := ((Bool × (Int × (List ((Int × (Int × (Bool × (Bool × (Int × (List ((Int × Int)) × (Int × List ((List UInt8 × Int)))))))))) × (Int × (Int × (Int × (Int × List (Int)))))))))) (
    bif (!((IntKind.wrap .i64 ((IntKind.wrap .i64 (r1.2.2.2.1 + r2.2.2.2.1)) + r3.2.1)) == 0)) then
      some (true, (r3.1, (r3.2.2.1, (r1.2.1, (r1.2.2.1, (r2.2.1, (r2.2.2.1, r3.2.2.2)))))))
    else
      some ((!(((r3.2.2.2.length : Nat) : Int) == (IntKind.wrap .i64 (1 + (IntKind.wrap .i64 (Int.tmod many 20)))))), (r3.1, (r3.2.2.1, (r1.2.1, (r1.2.2.1, (r2.2.1, (r2.2.2.1, r3.2.2.2)))))))) fun o =>
  bif o.1 then
    some false
  else
    (law18_InodeParts_l0_it fu o mine (0, (o.2.1, (o.2.2.1, (o.2.2.2.1, (o.2.2.2.2.1, (o.2.2.2.2.2.1, (o.2.2.2.2.2.2.1, ([], ([], o.2.2.2.2.2.2.2)))))))))).bind fun o2 =>
    (inode_Set fu (o2.2.1, o2.1) o2.2.2.1 10 o2.2.2.2.2.2.2.1).bind fun r5 =>
    (inode_Set fu (r5.2.2, r5.1) o2.2.2.2.2.1 20 o2.2.2.2.2.2.2.2).bind fun r6 =>
    Option.bind (α := ((Bool × (Int × (List ((Int × (Int × (Bool × (Bool × (Int × (List ((Int × Int)) × (Int × List ((List UInt8 × Int)))))))))) × (Int × (Int × (Int × (Int × (List ((Int × Int)) × List ((Int × Int)))))))))))) (
      bif (!(r5.2.1 == 0)) then
        some (true, (r6.1, (r6.2.2, (o2.2.2.1, (o2.2.2.2.1, (o2.2.2.2.2.1, (o2.2.2.2.2.2.1, (o2.2.2.2.2.2.2.1, o2.2.2.2.2.2.2.2))))))))
      else
        some ((!(r6.2.1 == 0)), (r6.1, (r6.2.2, (o2.2.2.1, (o2.2.2.2.1, (o2.2.2.2.2.1, (o2.2.2.2.2.2.1, (o2.2.2.2.2.2.2.1, o2.2.2.2.2.2.2.2))))))))) fun o3 =>
    bif o3.1 then
      some false
    else
      (law18_InodeParts_l1_it fu o3 (0, (o3.2.1, (o3.2.2.1, (o3.2.2.2.1, (o3.2.2.2.2.1, (o3.2.2.2.2.2.1, (o3.2.2.2.2.2.2.1, o3.2.2.2.2.2.2.2.2)))))))).bind fun o5 =>
      match o5 with
      | .inl s =>
        (law18_InodeParts_l2_it fu o3 ((IntKind.wrap .i64 (((o3.2.2.2.2.2.2.2.1.length : Nat) : Int) - 1)), (s.1, (s.2.1, (s.2.2.1, (s.2.2.2, [])))))).bind fun o7 =>
        (inode_Set fu (o7.2.1, o7.1) o7.2.2.1 10 o7.2.2.2.2).bind fun r14 =>
        (inode_Get fu (r14.2.2, r14.1) (o7.2.2.1, o7.2.2.2.1)).bind fun r15 =>
        bif (r14.2.1 == 0) then
          bif (r15.2.2.2.2.2.2.2.2 == 0) then
            (kit_SameParts fu r15.2.2.2.2.2.1 o7.2.2.2.2).bind fun r16 =>
            bif r16 then
              (law18_awake fu).bind fun r17 =>
              some r17
            else
              some false
          else
            some false
        else
          some false
      | .inr o6 =>
        some o6
def law18_InodeParts_fa : FnA := ⟨.two (.leaf) (.two (.leaf) (.two (.reg [(0, { ids := [100] }), (1, { ids := [101], md := [1, 0, 0], fn := 1 }), (6, { ids := [102] }), (7, { ids := [103] })]) (.two (.reg [(1, { ids := [104], md := [1, 0, 0], fn := 1 }), (6, { ids := [105] })]) (.two (.reg [(2, { ids := [106, 107], md := [1, 0], fn := 2 })]) (.two (.two (.join ⟨[6, 7, 9, 11, 63], ⟨(.cons (.own 0 102 0 0) (.cons (.own 0 103 0 0) (.cons (.own 0 105 0 0) (.cons (.slf 1 107) (.cons (.p .bool) .nil))))), [(102, false, (.vars (.cons (.slf 8 106) (.cons (.p (.int .i64)) .nil)))), (106, false, (.rows 30 (.pair (.int .i64) (.pair (.int .i64) (.pair .bool (.pair .bool (.pair (.int .i64) (.pair (.sl (.pair (.int .i64) (.int .i64))) (.pair (.int .i64) (.sl (.pair .str (.int .i64)))))))))))), (103, false, (.vars (.cons (.p (.int .i64)) (.cons (.p (.int .i64)) .nil)))), (105, false, (.vars (.cons (.p (.int .i64)) (.cons (.p (.int .i64)) .nil)))), (107, false, (.rows 3 (.int .i64)))]⟩⟩ false [] (.leaf)) (.two (.leaf) (.leaf))) (.two (.leaf) (.two (.two (.leaf) (.one (.pre (.ownNil 13 64 108) (.pre (.ownNil 14 64 109) (.loop ⟨[6, 7, 9, 13, 14, 64, 66], ⟨(.cons (.own 0 102 0 0) (.cons (.own 0 103 0 0) (.cons (.own 0 105 0 0) (.cons (.slf 2 108) (.cons (.slf 2 109) (.cons (.slf 1 107) (.cons (.p (.int .i64)) .nil))))))), [(102, false, (.vars (.cons (.slf 8 106) (.cons (.p (.int .i64)) .nil)))), (106, false, (.rows 30 (.pair (.int .i64) (.pair (.int .i64) (.pair .bool (.pair .bool (.pair (.int .i64) (.pair (.sl (.pair (.int .i64) (.int .i64))) (.pair (.int .i64) (.sl (.pair .str (.int .i64)))))))))))), (103, false, (.vars (.cons (.p (.int .i64)) (.cons (.p (.int .i64)) .nil)))), (105, false, (.vars (.cons (.p (.int .i64)) (.cons (.p (.int .i64)) .nil)))), (108, false, (.rows 64 (.pair (.int .i64) (.int .i64)))), (109, false, (.rows 64 (.pair (.int .i64) (.int .i64)))), (107, false, (.rows 3 (.int .i64)))]⟩⟩ false [(0, ⟨[6, 7, 9, 13, 14], ⟨(.cons (.own 0 102 0 0) (.cons (.own 0 103 0 0) (.cons (.own 0 105 0 0) (.cons (.slf 2 108) (.cons (.slf 2 109) .nil))))), [(102, false, (.vars (.cons (.slf 8 106) (.cons (.p (.int .i64)) .nil)))), (106, false, (.rows 30 (.pair (.int .i64) (.pair (.int .i64) (.pair .bool (.pair .bool (.pair (.int .i64) (.pair (.sl (.pair (.int .i64) (.int .i64))) (.pair (.int .i64) (.sl (.pair .str (.int .i64)))))))))))), (103, false, (.vars (.cons (.p (.int .i64)) (.cons (.p (.int .i64)) .nil)))), (105, false, (.vars (.cons (.p (.int .i64)) (.cons (.p (.int .i64)) .nil)))), (108, false, (.rows 64 (.pair (.int .i64) (.int .i64)))), (109, false, (.rows 64 (.pair (.int .i64) (.int .i64))))]⟩⟩)] (.two (.leaf) (.two (.leaf) (.two (.one (.two (.leaf) (.two (.reg [(4, { ids := [110] })]) (.two (.leaf) (.join ⟨[6, 7, 9, 13, 14, 64], ⟨(.cons (.own 0 102 0 0) (.cons (.own 0 103 0 0) (.cons (.own 0 105 0 0) (.cons (.slf 2 112) (.cons (.slf 2 109) (.cons (.slf 1 107) .nil)))))), [(102, false, (.vars (.cons (.slf 8 106) (.cons (.p (.int .i64)) .nil)))), (106, false, (.rows 30 (.pair (.int .i64) (.pair (.int .i64) (.pair .bool (.pair .bool (.pair (.int .i64) (.pair (.sl (.pair (.int .i64) (.int .i64))) (.pair (.int .i64) (.sl (.pair .str (.int .i64)))))))))))), (103, false, (.vars (.cons (.p (.int .i64)) (.cons (.p (.int .i64)) .nil)))), (105, false, (.vars (.cons (.p (.int .i64)) (.cons (.p (.int .i64)) .nil)))), (112, false, (.rows 64 (.pair (.int .i64) (.int .i64)))), (109, false, (.rows 64 (.pair (.int .i64) (.int .i64)))), (107, false, (.rows 3 (.int .i64)))]⟩⟩ false [] (.two (.reg [(2, { ids := [111] }), (3, { ids := [112] })]) (.reg [(2, { ids := [113] }), (3, { ids := [114] })]))))))) (.leaf))))))))) (.two (.reg [(4, { ids := [115], md := [1, 0, 0, 1], fn := 3 })]) (.two (.reg [(4, { ids := [116], md := [1, 0, 0, 1], fn := 3 })]) (.two (.two (.join ⟨[6, 7, 9, 13, 14, 110], ⟨(.cons (.own 0 102 0 0) (.cons (.own 0 103 0 0) (.cons (.own 0 105 0 0) (.cons (.slf 2 108) (.cons (.slf 2 109) (.cons (.p .bool) .nil)))))), [(102, false, (.vars (.cons (.slf 8 116) (.cons (.p (.int .i64)) .nil)))), (116, false, (.rows 30 (.pair (.int .i64) (.pair (.int .i64) (.pair .bool (.pair .bool (.pair (.int .i64) (.pair (.sl (.pair (.int .i64) (.int .i64))) (.pair (.int .i64) (.sl (.pair .str (.int .i64)))))))))))), (103, false, (.vars (.cons (.p (.int .i64)) (.cons (.p (.int .i64)) .nil)))), (105, false, (.vars (.cons (.p (.int .i64)) (.cons (.p (.int .i64)) .nil)))), (108, true, (.rows 64 (.pair (.int .i64) (.int .i64)))), (109, true, (.rows 64 (.pair (.int .i64) (.int .i64))))]⟩⟩ false [] (.leaf)) (.two (.leaf) (.leaf))) (.two (.two (.leaf) (.one (.pre (.pure 13) (.pre (.frzB 116) (.loop ⟨[6, 7, 9, 14, 113], ⟨(.cons (.own 0 102 0 0) (.cons (.own 0 103 0 0) (.cons (.own 0 105 0 0) (.cons (.slf 2 109) (.cons (.p (.int .i64)) .nil))))), [(102, false, (.vars (.cons (.slf 8 116) (.cons (.p (.int .i64)) .nil)))), (116, true, (.rows 30 (.pair (.int .i64) (.pair (.int .i64) (.pair .bool (.pair .bool (.pair (.int .i64) (.pair (.sl (.pair (.int .i64) (.int .i64))) (.pair (.int .i64) (.sl (.pair .str (.int .i64)))))))))))), (103, false, (.vars (.cons (.p (.int .i64)) (.cons (.p (.int .i64)) .nil)))), (105, false, (.vars (.cons (.p (.int .i64)) (.cons (.p (.int .i64)) .nil)))), (109, true, (.rows 64 (.pair (.int .i64) (.int .i64))))]⟩⟩ true [(2, ⟨[6, 7], ⟨(.cons (.own 0 102 0 0) (.cons (.own 0 103 0 0) .nil)), [(102, false, (.vars (.cons (.slf 8 116) (.cons (.p (.int .i64)) .nil)))), (116, true, (.rows 30 (.pair (.int .i64) (.pair (.int .i64) (.pair .bool (.pair .bool (.pair (.int .i64) (.pair (.sl (.pair (.int .i64) (.int .i64))) (.pair (.int .i64) (.sl (.pair .str (.int .i64)))))))))))), (103, false, (.vars (.cons (.p (.int .i64)) (.cons (.p (.int .i64)) .nil))))]⟩⟩)] (.two (.leaf) (.two (.leaf) (.two (.one (.two (.leaf) (.two (.reg [(3, { ids := [117] }), (5, { ids := [118] }), (10, { ids := [119] }), (11, { ids := [120] }), (12, { ids := [121], md := [1, 0, 0, 1], fn := 3 }), (16, { ids := [122] })]) (.two (.reg [(3, { ids := [123] }), (5, { ids := [124] }), (10, { ids := [125] }), (11, { ids := [126] }), (12, { ids := [127], md := [1, 0, 0, 1], fn := 3 }), (16, { ids := [128] })]) (.two (.join ⟨[6, 7, 9, 14, 165], ⟨(.cons (.own 0 102 0 0) (.cons (.own 0 103 0 0) (.cons (.own 0 105 0 0) (.cons (.slf 2 109) (.cons (.p .bool) .nil))))), [(102, false, (.vars (.cons (.slf 8 116) (.cons (.p (.int .i64)) .nil)))), (116, true, (.rows 30 (.pair (.int .i64) (.pair (.int .i64) (.pair .bool (.pair .bool (.pair (.int .i64) (.pair (.sl (.pair (.int .i64) (.int .i64))) (.pair (.int .i64) (.sl (.pair .str (.int .i64)))))))))))), (103, false, (.vars (.cons (.p (.int .i64)) (.cons (.p (.int .i64)) .nil)))), (105, false, (.vars (.cons (.p (.int .i64)) (.cons (.p (.int .i64)) .nil)))), (109, true, (.rows 64 (.pair (.int .i64) (.int .i64))))]⟩⟩ false [] (.reg [(9, { md := [2, 2], fn := 4 }), (15, { md := [2, 2], fn := 4 })])) (.two (.leaf) (.leaf))))))) (.leaf))))))))) (.two (.leaf) (.two (.two (.leaf) (.one (.pre (.ownNil 23 64 129) (.loop ⟨[6, 7, 23, 24], ⟨(.cons (.own 0 102 0 0) (.cons (.own 0 103 0 0) (.cons (.slf 2 129) (.cons (.p (.int .i64)) .nil)))), [(102, false, (.vars (.cons (.slf 8 116) (.cons (.p (.int .i64)) .nil)))), (116, true, (.rows 30 (.pair (.int .i64) (.pair (.int .i64) (.pair .bool (.pair .bool (.pair (.int .i64) (.pair (.sl (.pair (.int .i64) (.int .i64))) (.pair (.int .i64) (.sl (.pair .str (.int .i64)))))))))))), (103, false, (.vars (.cons (.p (.int .i64)) (.cons (.p (.int .i64)) .nil)))), (129, false, (.rows 64 (.pair (.int .i64) (.int .i64))))]⟩⟩ false [(4, ⟨[6, 7, 23], ⟨(.cons (.own 0 102 0 0) (.cons (.own 0 103 0 0) (.cons (.slf 2 129) .nil))), [(102, false, (.vars (.cons (.slf 8 116) (.cons (.p (.int .i64)) .nil)))), (116, true, (.rows 30 (.pair (.int .i64) (.pair (.int .i64) (.pair .bool (.pair .bool (.pair (.int .i64) (.pair (.sl (.pair (.int .i64) (.int .i64))) (.pair (.int .i64) (.sl (.pair .str (.int .i64)))))))))))), (103, false, (.vars (.cons (.p (.int .i64)) (.cons (.p (.int .i64)) .nil)))), (129, false, (.rows 64 (.pair (.int .i64) (.int .i64))))]⟩⟩)] (.two (.two (.leaf) (.leaf)) (.two (.one (.reg [(5, { ids := [130] }), (6, { ids := [131] })])) (.leaf))))))) (.two (.reg [(4, { ids := [132], md := [1, 0, 0, 1], fn := 3 }), (8, { ids := [133] })]) (.two (.reg [(2, { md := [1, 0], fn := 5 }), (6, { ids := [134] })]) (.two (.reg [(10, { md := [0, 2], fn := 6 }), (13, { fn := 7 })]) (.leaf))))))))))))))))), ⟨(.cons (.p (.int .u8)) (.cons (.p (.int .u32)) .nil)), []⟩, [⟨(.cons (.p .bool) .nil), []⟩], [0]⟩
def law18_InodeParts_ft (fu : Nat) : FnT := ⟨7, ⟨(.cons (.p (.int .u8)) (.cons (.p (.int .u32)) .nil)), []⟩, [⟨(.cons (.p .bool) .nil), []⟩], fun t => law18_InodeParts fu t.1 t.2⟩
theorem law18_InodeParts_eq (fu : Nat) : ∀ t, evF Go.Proofs.Try.prog [inode_New_ft fu, inode_Alloc_ft fu, inode_Fresh_ft fu, inode_Set_ft fu, kit_SameTree_ft fu, inode_Get_ft fu, kit_SameParts_ft fu, law18_awake_ft fu] fu Go.Proofs.Try.f7 law18_InodeParts_fa t = (law18_InodeParts_ft fu).spec t := fun t => by kernel_rfl
theorem law18_InodeParts_told (fu : Nat) : Told Go.Proofs.Try.prog (law18_InodeParts_ft fu) := told_of (allT_cons (inode_New_told fu) (allT_cons (inode_Alloc_told fu) (allT_cons (inode_Fresh_told fu) (allT_cons (inode_Set_told fu) (allT_cons (kit_SameTree_told fu) (allT_cons (inode_Get_told fu) (allT_cons (kit_SameParts_told fu) (allT_cons (law18_awake_told fu) allT_nil)))))))) mixed Go.Proofs.Try.func7 (by kernel_rfl) (by kernel_rfl) (law18_InodeParts_eq fu)
end
end Go.Ab.D
