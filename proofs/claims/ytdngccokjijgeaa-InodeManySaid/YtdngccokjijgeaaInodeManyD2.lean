/- Functions of the program as plain Lean functions: each equation is checked by the kernel; what is told of a function follows from it. -/
import Derived.Test.YtdngccokjijgeaaInodeManyD1
set_option linter.all false
set_option maxRecDepth 100000
set_option maxHeartbeats 4000000
namespace Go.Ab.D
open Go Go.Ab
noncomputable section
def law18_InodeTells (fu : Nat) (t : (List ((Int × (Int × (Bool × (Bool × (Int × (List ((Int × Int)) × (Int × List ((List UInt8 × Int)))))))))) × Int)) (x : ((Int × Int) × (Int × (Bool × (Int × (List ((Int × Int)) × Int)))))) : Option (Bool) :=
  Option.bind (α := ((Bool × (List ((Int × (Int × (Bool × (Bool × (Int × (List ((Int × Int)) × (Int × List ((List UInt8 × Int)))))))))) × (Int × (Int × (Int × (Int × (Bool × (Int × (List ((Int × Int)) × Int))))))))))) (
    (kit_Great fu (t.1, t.2)).bind fun r =>
    bif r then
      some (true, (t.1, (t.2, (x.1.1, (x.1.2, (x.2.1, (x.2.2.1, (x.2.2.2.1, (x.2.2.2.2.1, x.2.2.2.2.2)))))))))
    else
      some ((decide (x.2.2.2.2.2 > 8192)), (t.1, (t.2, (x.1.1, (x.1.2, (x.2.1, (x.2.2.1, (x.2.2.2.1, (x.2.2.2.2.1, x.2.2.2.2.2)))))))))) fun o =>
  bif o.1 then
    (law18_awake fu).bind fun r1 =>
    some r1
  else
    (upto? (if 120 < ((o.2.2.2.2.2.2.2.2.1.length : Nat) : Int) then 120 else ((o.2.2.2.2.2.2.2.2.1.length : Nat) : Int)) o.2.2.2.2.2.2.2.2.1.length).bind fun q =>
    (inode_Get fu (o.2.1, o.2.2.1) (o.2.2.2.1, o.2.2.2.2.1)).bind fun r2 =>
    (ref18_Get fu (o.2.1, o.2.2.1) (o.2.2.2.1, o.2.2.2.2.1)).bind fun r3 =>
    (inode_Alloc fu (o.2.1, o.2.2.1) o.2.2.2.2.2.2.1 o.2.2.2.2.2.1).bind fun r4 =>
    (ref18_Alloc fu (o.2.1, o.2.2.1) o.2.2.2.2.2.2.1 o.2.2.2.2.2.1).bind fun r5 =>
    Option.bind (α := ((Bool × (List ((Int × (Int × (Bool × (Bool × (Int × (List ((Int × Int)) × (Int × List ((List UInt8 × Int)))))))))) × (Int × (Int × (Int × (Int × (Bool × (Int × (List ((Int × Int)) × Int))))))))))) (
      (kit_SameInode fu (r2.1, (r2.2.1, (r2.2.2.1, (r2.2.2.2.1, (r2.2.2.2.2.1, (r2.2.2.2.2.2.1, (r2.2.2.2.2.2.2.1, r2.2.2.2.2.2.2.2.1))))))) (r3.1, (r3.2.1, (r3.2.2.1, (r3.2.2.2.1, (r3.2.2.2.2.1, (r3.2.2.2.2.2.1, (r3.2.2.2.2.2.2.1, r3.2.2.2.2.2.2.2.1)))))))).bind fun r6 =>
      bif (!r6) then
        some (true, (o.2.1, (o.2.2.1, (o.2.2.2.1, (o.2.2.2.2.1, (o.2.2.2.2.2.1, (o.2.2.2.2.2.2.1, (o.2.2.2.2.2.2.2.1, (o.2.2.2.2.2.2.2.2.1, o.2.2.2.2.2.2.2.2.2)))))))))
      else
        bif (!(r2.2.2.2.2.2.2.2.2 == r3.2.2.2.2.2.2.2.2)) then
          some (true, (o.2.1, (o.2.2.1, (o.2.2.2.1, (o.2.2.2.2.1, (o.2.2.2.2.2.1, (o.2.2.2.2.2.2.1, (o.2.2.2.2.2.2.2.1, (o.2.2.2.2.2.2.2.2.1, o.2.2.2.2.2.2.2.2.2)))))))))
        else
          (kit_SameTree fu (r4.2.2.2.2, r4.1) (r5.2.2.2.2, r5.1)).bind fun r7 =>
          bif (!r7) then
            some (true, (o.2.1, (o.2.2.1, (o.2.2.2.1, (o.2.2.2.2.1, (o.2.2.2.2.2.1, (o.2.2.2.2.2.2.1, (o.2.2.2.2.2.2.2.1, (o.2.2.2.2.2.2.2.2.1, o.2.2.2.2.2.2.2.2.2)))))))))
          else
            bif (!((r4.2.1 == r5.2.1) && (r4.2.2.1 == r5.2.2.1))) then
              some (true, (o.2.1, (o.2.2.1, (o.2.2.2.1, (o.2.2.2.2.1, (o.2.2.2.2.2.1, (o.2.2.2.2.2.2.1, (o.2.2.2.2.2.2.2.1, (o.2.2.2.2.2.2.2.2.1, o.2.2.2.2.2.2.2.2.2)))))))))
            else
              bif (!(r4.2.2.2.1 == r5.2.2.2.1)) then
                some (true, (o.2.1, (o.2.2.1, (o.2.2.2.1, (o.2.2.2.2.1, (o.2.2.2.2.2.1, (o.2.2.2.2.2.2.1, (o.2.2.2.2.2.2.2.1, (o.2.2.2.2.2.2.2.2.1, o.2.2.2.2.2.2.2.2.2)))))))))
              else
                (inode_Right fu (o.2.1, o.2.2.1)).bind fun r8 =>
                (ref18_Right fu (o.2.1, o.2.2.1)).bind fun r9 =>
                bif (!(r8 == r9)) then
                  some (true, (o.2.1, (o.2.2.1, (o.2.2.2.1, (o.2.2.2.2.1, (o.2.2.2.2.2.1, (o.2.2.2.2.2.2.1, (o.2.2.2.2.2.2.2.1, (o.2.2.2.2.2.2.2.2.1, o.2.2.2.2.2.2.2.2.2)))))))))
                else
                  (inode_New fu).bind fun r10 =>
                  (ref18_New fu).bind fun r11 =>
                  (kit_SameTree fu (r10.2, r10.1) (r11.2, r11.1)).bind fun r12 =>
                  some ((!r12), (o.2.1, (o.2.2.1, (o.2.2.2.1, (o.2.2.2.2.1, (o.2.2.2.2.2.1, (o.2.2.2.2.2.2.1, (o.2.2.2.2.2.2.2.1, (o.2.2.2.2.2.2.2.2.1, o.2.2.2.2.2.2.2.2.2)))))))))) fun o1 =>
    bif o1.1 then
      some false
    else
      (inode_Drop fu (o1.2.1, o1.2.2.1) o1.2.2.2.2.2.1).bind fun r13 =>
      (ref18_Drop fu (o1.2.1, o1.2.2.1) o1.2.2.2.2.2.1).bind fun r14 =>
      (inode_Set fu (o1.2.1, o1.2.2.1) o1.2.2.2.2.2.1 o1.2.2.2.2.2.2.2.1 (List.take q o.2.2.2.2.2.2.2.2.1)).bind fun r15 =>
      (ref18_Set fu (o1.2.1, o1.2.2.1) o1.2.2.2.2.2.1 o1.2.2.2.2.2.2.2.1 (List.take q o.2.2.2.2.2.2.2.2.1)).bind fun r16 =>
      Option.bind (α := ((Bool × (List ((Int × (Int × (Bool × (Bool × (Int × (List ((Int × Int)) × (Int × List ((List UInt8 × Int)))))))))) × (Int × (Int × (Int × (Int × (Bool × (Int × (List ((Int × Int)) × Int))))))))))) (
        (kit_SameTree fu (r13.1, r13.2.1) (r14.2.2.1, r14.1)).bind fun r17 =>
        bif (!r17) then
          some (true, (o1.2.1, (o1.2.2.1, (o1.2.2.2.1, (o1.2.2.2.2.1, (o1.2.2.2.2.2.1, (o1.2.2.2.2.2.2.1, (o1.2.2.2.2.2.2.2.1, (o1.2.2.2.2.2.2.2.2.1, o1.2.2.2.2.2.2.2.2.2)))))))))
        else
          (kit_SameParts fu r13.2.2.1 r14.2.2.2).bind fun r18 =>
          bif (!r18) then
            some (true, (o1.2.1, (o1.2.2.1, (o1.2.2.2.1, (o1.2.2.2.2.1, (o1.2.2.2.2.2.1, (o1.2.2.2.2.2.2.1, (o1.2.2.2.2.2.2.2.1, (o1.2.2.2.2.2.2.2.2.1, o1.2.2.2.2.2.2.2.2.2)))))))))
          else
            bif (!(r13.2.2.2 == r14.2.1)) then
              some (true, (o1.2.1, (o1.2.2.1, (o1.2.2.2.1, (o1.2.2.2.2.1, (o1.2.2.2.2.2.1, (o1.2.2.2.2.2.2.1, (o1.2.2.2.2.2.2.2.1, (o1.2.2.2.2.2.2.2.2.1, o1.2.2.2.2.2.2.2.2.2)))))))))
            else
              (kit_SameTree fu (r15.2.2, r15.1) (r16.2.2, r16.1)).bind fun r19 =>
              bif (!r19) then
                some (true, (o1.2.1, (o1.2.2.1, (o1.2.2.2.1, (o1.2.2.2.2.1, (o1.2.2.2.2.2.1, (o1.2.2.2.2.2.2.1, (o1.2.2.2.2.2.2.2.1, (o1.2.2.2.2.2.2.2.2.1, o1.2.2.2.2.2.2.2.2.2)))))))))
              else
                some ((!(r15.2.1 == r16.2.1)), (o1.2.1, (o1.2.2.1, (o1.2.2.2.1, (o1.2.2.2.2.1, (o1.2.2.2.2.2.1, (o1.2.2.2.2.2.2.1, (o1.2.2.2.2.2.2.2.1, (o1.2.2.2.2.2.2.2.2.1, o1.2.2.2.2.2.2.2.2.2)))))))))) fun o2 =>
      bif o2.1 then
        some false
      else
        (inode_Fresh fu (o2.2.1, o2.2.2.1) o2.2.2.2.2.2.2.2.2.2).bind fun r20 =>
        (ref18_Fresh fu (o2.2.1, o2.2.2.1) o2.2.2.2.2.2.2.2.2.2).bind fun r21 =>
        (kit_SameTree fu (r20.2.2.1, r20.1) (r21.2.2.1, r21.1)).bind fun r22 =>
        bif r22 then
          (low_SameInts fu r20.2.2.2 r21.2.2.2).bind fun r23 =>
          bif r23 then
            bif (r20.2.1 == r21.2.1) then
              (law18_awake fu).bind fun r24 =>
              some r24
            else
              some false
          else
            some false
        else
          some false
def law18_InodeTells_fa : FnA := ⟨.two (.reg [(0, { ids := [100] }), (1, { ids := [101] })]) (.two (.two (.join ⟨[2, 3, 38], ⟨(.cons (.own 0 100 0 0) (.cons (.own 0 101 0 0) (.cons (.p .bool) .nil))), [(100, false, (.vars (.cons (.p (.sl (.pair (.int .i64) (.pair (.int .i64) (.pair .bool (.pair .bool (.pair (.int .i64) (.pair (.sl (.pair (.int .i64) (.int .i64))) (.pair (.int .i64) (.sl (.pair .str (.int .i64)))))))))))) (.cons (.p (.int .i64)) .nil)))), (101, false, (.vars (.cons (.p (.int .i64)) (.cons (.p (.int .i64)) (.cons (.p (.int .i64)) (.cons (.p .bool) (.cons (.p (.int .i64)) (.cons (.p (.sl (.pair (.int .i64) (.int .i64)))) (.cons (.p (.int .i64)) .nil)))))))))]⟩⟩ false [] (.reg [(1, {  })])) (.two (.two (.reg [(0, { fn := 1 })]) (.leaf)) (.leaf))) (.two (.leaf) (.two (.reg [(3, { fn := 2 }), (7, { ids := [102] })]) (.two (.reg [(3, { fn := 3 }), (7, { ids := [103] })]) (.two (.reg [(5, { ids := [104], fn := 4 }), (10, { ids := [105] }), (11, { ids := [106] })]) (.two (.reg [(5, { ids := [107], fn := 5 }), (10, { ids := [108] }), (11, { ids := [109] })]) (.two (.two (.join ⟨[2, 3, 118], ⟨(.cons (.own 0 100 0 0) (.cons (.own 0 101 0 0) (.cons (.p .bool) .nil))), [(100, false, (.vars (.cons (.p (.sl (.pair (.int .i64) (.pair (.int .i64) (.pair .bool (.pair .bool (.pair (.int .i64) (.pair (.sl (.pair (.int .i64) (.int .i64))) (.pair (.int .i64) (.sl (.pair .str (.int .i64)))))))))))) (.cons (.p (.int .i64)) .nil)))), (101, false, (.vars (.cons (.p (.int .i64)) (.cons (.p (.int .i64)) (.cons (.p (.int .i64)) (.cons (.p .bool) (.cons (.p (.int .i64)) (.cons (.p (.sl (.pair (.int .i64) (.int .i64)))) (.cons (.p (.int .i64)) .nil)))))))))]⟩⟩ false [] (.reg [(2, { fn := 6 }), (12, { md := [2, 2], fn := 7 }), (27, { fn := 8 }), (29, { fn := 9 }), (33, { ids := [110], fn := 10 }), (34, { ids := [111], fn := 11 }), (35, { md := [2, 2], fn := 7 })])) (.two (.leaf) (.leaf))) (.two (.reg [(3, { fn := 12 }), (8, { ids := [112] })]) (.two (.reg [(3, { ids := [113, 114], fn := 13 }), (8, { ids := [115] })]) (.two (.reg [(6, { ids := [116], fn := 14 }), (10, { ids := [117] })]) (.two (.reg [(6, { ids := [118], fn := 15 }), (10, { ids := [119] })]) (.two (.two (.join ⟨[2, 3, 180], ⟨(.cons (.own 0 100 0 0) (.cons (.own 0 101 0 0) (.cons (.p .bool) .nil))), [(100, false, (.vars (.cons (.p (.sl (.pair (.int .i64) (.pair (.int .i64) (.pair .bool (.pair .bool (.pair (.int .i64) (.pair (.sl (.pair (.int .i64) (.int .i64))) (.pair (.int .i64) (.sl (.pair .str (.int .i64)))))))))))) (.cons (.p (.int .i64)) .nil)))), (101, false, (.vars (.cons (.p (.int .i64)) (.cons (.p (.int .i64)) (.cons (.p (.int .i64)) (.cons (.p .bool) (.cons (.p (.int .i64)) (.cons (.p (.sl (.pair (.int .i64) (.int .i64)))) (.cons (.p (.int .i64)) .nil)))))))))]⟩⟩ false [] (.reg [(2, { md := [0, 2], fn := 7 }), (7, { md := [0, 2], fn := 16 }), (18, { md := [2, 2], fn := 7 })])) (.two (.leaf) (.leaf))) (.two (.reg [(3, { ids := [120, 121], fn := 17 }), (8, { ids := [122] })]) (.two (.reg [(3, { ids := [123, 124], fn := 18 }), (8, { ids := [125] })]) (.two (.reg [(2, { md := [2, 2], fn := 7 }), (6, { md := [2, 2], fn := 19 }), (14, { fn := 1 })]) (.leaf)))))))))))))))), ⟨(.cons (.p (.pair (.sl (.pair (.int .i64) (.pair (.int .i64) (.pair .bool (.pair .bool (.pair (.int .i64) (.pair (.sl (.pair (.int .i64) (.int .i64))) (.pair (.int .i64) (.sl (.pair .str (.int .i64))))))))))) (.int .i64))) (.cons (.p (.pair (.pair (.int .i64) (.int .i64)) (.pair (.int .i64) (.pair .bool (.pair (.int .i64) (.pair (.sl (.pair (.int .i64) (.int .i64))) (.int .i64))))))) .nil)), []⟩, [⟨(.cons (.p .bool) .nil), []⟩], [0]⟩
def law18_InodeTells_ft (fu : Nat) : FnT := ⟨4, ⟨(.cons (.p (.pair (.sl (.pair (.int .i64) (.pair (.int .i64) (.pair .bool (.pair .bool (.pair (.int .i64) (.pair (.sl (.pair (.int .i64) (.int .i64))) (.pair (.int .i64) (.sl (.pair .str (.int .i64))))))))))) (.int .i64))) (.cons (.p (.pair (.pair (.int .i64) (.int .i64)) (.pair (.int .i64) (.pair .bool (.pair (.int .i64) (.pair (.sl (.pair (.int .i64) (.int .i64))) (.int .i64))))))) .nil)), []⟩, [⟨(.cons (.p .bool) .nil), []⟩], fun t => law18_InodeTells fu t.1 t.2⟩
theorem law18_InodeTells_eq (fu : Nat) : ∀ t, evF Go.Proofs.Try.prog [kit_Great_ft fu, law18_awake_ft fu, inode_Get_ft fu, ref18_Get_ft fu, inode_Alloc_ft fu, ref18_Alloc_ft fu, kit_SameInode_ft fu, kit_SameTree_ft fu, inode_Right_ft fu, ref18_Right_ft fu, inode_New_ft fu, ref18_New_ft fu, inode_Drop_ft fu, ref18_Drop_ft fu, inode_Set_ft fu, ref18_Set_ft fu, kit_SameParts_ft fu, inode_Fresh_ft fu, ref18_Fresh_ft fu, low_SameInts_ft fu] fu Go.Proofs.Try.f4 law18_InodeTells_fa t = (law18_InodeTells_ft fu).spec t := fun t => by kernel_rfl
theorem law18_InodeTells_told (fu : Nat) : Told Go.Proofs.Try.prog (law18_InodeTells_ft fu) := told_of (allT_cons (kit_Great_told fu) (allT_cons (law18_awake_told fu) (allT_cons (inode_Get_told fu) (allT_cons (ref18_Get_told fu) (allT_cons (inode_Alloc_told fu) (allT_cons (ref18_Alloc_told fu) (allT_cons (kit_SameInode_told fu) (allT_cons (kit_SameTree_told fu) (allT_cons (inode_Right_told fu) (allT_cons (ref18_Right_told fu) (allT_cons (inode_New_told fu) (allT_cons (ref18_New_told fu) (allT_cons (inode_Drop_told fu) (allT_cons (ref18_Drop_told fu) (allT_cons (inode_Set_told fu) (allT_cons (ref18_Set_told fu) (allT_cons (kit_SameParts_told fu) (allT_cons (inode_Fresh_told fu) (allT_cons (ref18_Fresh_told fu) (allT_cons (low_SameInts_told fu) allT_nil)))))))))))))))))))) mixed Go.Proofs.Try.func4 (by kernel_rfl) (by kernel_rfl) (law18_InodeTells_eq fu)
end
end Go.Ab.D
