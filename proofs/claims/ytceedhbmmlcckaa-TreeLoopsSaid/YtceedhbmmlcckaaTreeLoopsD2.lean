/- Functions of the program as plain Lean functions: each equation is checked by the kernel; what is told of a function follows from it. -/
import Derived.Test.YtceedhbmmlcckaaTreeLoopsD1
set_option linter.all false
set_option maxRecDepth 100000
set_option maxHeartbeats 4000000
namespace Go.Ab.D
open Go Go.Ab
noncomputable section
def inode_Drop_go0_R (fu : Nat) (t : Int) (id : Int) (h : List ((Int × (Int × (Bool × (Bool × (Int × (List ((Int × Int)) × (Int × (List ((List UInt8 × Int)) ⊕ Option (Nat × (Nat × Nat)))))))))))) (h1 : List ((Nat × List ((List UInt8 × Int))))) : Option ((List ((Int × (Int × (Bool × (Bool × (Int × (List ((Int × Int)) × (Int × List ((List UInt8 × Int)))))))))) × (Int × (List ((Int × Int)) × (Int × (List ((Int × (Int × (Bool × (Bool × (Int × (List ((Int × Int)) × (Int × (List ((List UInt8 × Int)) ⊕ Option (Nat × (Nat × Nat))))))))))) × List ((Nat × List ((List UInt8 × Int)))))))))) :=
  (inode_copied_P_go0_R fu t h h1).bind fun r =>
  (unrefL (unrefD [⟨1, (.pair .str (.int .i64)), (List.map frz1 r.2.2.2.2)⟩, ⟨0, (.pair (.int .i64) (.int .i64)), (List.map frz1 r.2.2.2.1)⟩] (.pair (.int .i64) (.pair (.int .i64) (.pair .bool (.pair .bool (.pair (.int .i64) (.pair (.sl (.pair (.int .i64) (.int .i64))) (.pair (.int .i64) (.ref 1 (.pair .str (.int .i64))))))))))) r.2.1).bind fun l =>
  (inode_Right fu (l, t)).bind fun r1 =>
  bif (!r1) then
    (unrefL (unrefD [⟨1, (.pair .str (.int .i64)), (List.map frz1 r.2.2.2.2)⟩, ⟨0, (.pair (.int .i64) (.int .i64)), (List.map frz1 r.2.2.2.1)⟩] (.pair (.int .i64) (.pair (.int .i64) (.pair .bool (.pair .bool (.pair (.int .i64) (.pair (.ref 0 (.pair (.int .i64) (.int .i64))) (.pair (.int .i64) (.sl (.pair .str (.int .i64))))))))))) r.2.2.1).bind fun l6 =>
    some (l6, (r.1, ([], (180, (r.2.1, (List.map frz1 r.2.2.2.2))))))
  else
    Option.bind (α := ((Int × (Bool × (List ((Int × (Int × (Bool × (Bool × (Int × (List ((Int × Int)) × (Int × (List ((List UInt8 × Int)) ⊕ Option (Nat × (Nat × Nat))))))))))) × (Int × (Int × (List ((Int × (Int × (Bool × (Bool × (Int × ((List ((Int × Int)) ⊕ Option (Nat × (Nat × Nat))) × (Int × List ((List UInt8 × Int)))))))))) × (List ((Nat × List ((Int × Int)))) × List ((Nat × List ((List UInt8 × Int))))))))))))) (
      bif (id == 1) then
        some (t, (true, (r.2.1, (0, (r.1, (r.2.2.1, (r.2.2.2.1, r.2.2.2.2)))))))
      else
        (unrefL (unrefD [⟨1, (.pair .str (.int .i64)), (List.map frz1 r.2.2.2.2)⟩, ⟨0, (.pair (.int .i64) (.int .i64)), (List.map frz1 r.2.2.2.1)⟩] (.pair (.int .i64) (.pair (.int .i64) (.pair .bool (.pair .bool (.pair (.int .i64) (.pair (.sl (.pair (.int .i64) (.int .i64))) (.pair (.int .i64) (.ref 1 (.pair .str (.int .i64))))))))))) r.2.1).bind fun l1 =>
        (inode_is fu (l1, t) id true).bind fun r2 =>
        bif (!r2) then
          (unrefL (unrefD [⟨1, (.pair .str (.int .i64)), (List.map frz1 r.2.2.2.2)⟩, ⟨0, (.pair (.int .i64) (.int .i64)), (List.map frz1 r.2.2.2.1)⟩] (.pair (.int .i64) (.pair (.int .i64) (.pair .bool (.pair .bool (.pair (.int .i64) (.pair (.sl (.pair (.int .i64) (.int .i64))) (.pair (.int .i64) (.ref 1 (.pair .str (.int .i64))))))))))) r.2.1).bind fun l2 =>
          (inode_is fu (l2, t) id false).bind fun r3 =>
          some (t, ((!r3), (r.2.1, (0, (r.1, (r.2.2.1, (r.2.2.2.1, r.2.2.2.2)))))))
        else
          some (t, (false, (r.2.1, (0, (r.1, (r.2.2.1, (r.2.2.2.1, r.2.2.2.2)))))))) fun o =>
    bif o.2.1 then
      (unrefL (unrefD [⟨1, (.pair .str (.int .i64)), (List.map frz1 o.2.2.2.2.2.2.2)⟩, ⟨0, (.pair (.int .i64) (.int .i64)), (List.map frz1 o.2.2.2.2.2.2.1)⟩] (.pair (.int .i64) (.pair (.int .i64) (.pair .bool (.pair .bool (.pair (.int .i64) (.pair (.ref 0 (.pair (.int .i64) (.int .i64))) (.pair (.int .i64) (.sl (.pair .str (.int .i64))))))))))) o.2.2.2.2.2.1).bind fun l7 =>
      some (l7, (o.2.2.2.2.1, ([], (2, (o.2.2.1, (List.map frz1 o.2.2.2.2.2.2.2))))))
    else
      (idx? (IntKind.wrap .i64 (id - 1)) o.2.2.2.2.2.1.length).bind fun q =>
      Option.bind (α := ((Int × (Nat × (List ((Int × (Int × (Bool × (Bool × (Int × (List ((Int × Int)) × (Int × (List ((List UInt8 × Int)) ⊕ Option (Nat × (Nat × Nat))))))))))) × (Int × (Int × (List ((Int × (Int × (Bool × (Bool × (Int × ((List ((Int × Int)) ⊕ Option (Nat × (Nat × Nat))) × (Int × List ((List UInt8 × Int)))))))))) × (List ((Int × Int)) × (List ((Nat × List ((Int × Int)))) × List ((Nat × List ((List UInt8 × Int)))))))))))))) (
        (o.2.2.2.2.2.1)[q]?.bind fun r4 =>
        (openM o.2.2.2.2.2.2.1 r4.2.2.2.2.2.1).bind fun m =>
        (slices_DeleteFunc__api_Part_api_Part_o0f11 fu m.1).bind fun r5 =>
        match r5 with
        | .inl r6 =>
          some (o.1, (q, (o.2.2.1, (o.2.2.2.1, (o.2.2.2.2.1, (o.2.2.2.2.2.1, (r6, (m.2, o.2.2.2.2.2.2.2))))))))
        | .inr r7 =>
          some (o.1, (q, (o.2.2.1, (o.2.2.2.1, (o.2.2.2.2.1, (o.2.2.2.2.2.1, (r7, (m.2, o.2.2.2.2.2.2.2))))))))) fun o1 =>
      (o1.2.2.2.2.2.1)[o1.2.1]?.bind fun r8 =>
      (o1.2.2.2.2.2.1)[o1.2.1]?.bind fun r9 =>
      (unrefL (unrefD [⟨1, (.pair .str (.int .i64)), (List.map frz1 o1.2.2.2.2.2.2.2.2)⟩, ⟨0, (.pair (.int .i64) (.int .i64)), (List.map frz1 o1.2.2.2.2.2.2.2.1)⟩] (.pair (.int .i64) (.pair (.int .i64) (.pair .bool (.pair .bool (.pair (.int .i64) (.pair (.ref 0 (.pair (.int .i64) (.int .i64))) (.pair (.int .i64) (.sl (.pair .str (.int .i64))))))))))) (List.set o1.2.2.2.2.2.1 o1.2.1 (id, (r8.2.1, (false, (false, (0, ((.inr none), (0, []))))))))).bind fun l8 =>
      some (l8, (o1.2.2.2.2.1, (o1.2.2.2.2.2.2.1, (0, (o1.2.2.1, (List.map frz1 o1.2.2.2.2.2.2.2.2))))))
def inode_Drop_go0_R_fa : FnA := ⟨.two (.reg [(0, { ids := [100] }), (1, { ids := [101] })]) (.two (.reg [(1, { ids := [102, 999984], sh := [0, 999985], md := [3] }), (2, { ids := [103] })]) (.two (.one (.two (.reg [(1, { md := [2], fn := 1 })]) (.two (.leaf) (.two (.join ⟨[0, 4, 7, 17], ⟨(.cons (.agg (.cons (.slf 8 0) (.cons (.p (.int .i64)) .nil))) (.cons (.own 0 101 0 0) (.cons (.own 0 103 0 0) (.cons (.p .bool) .nil)))), [(0, true, (.rows 40 (.pair (.int .i64) (.pair (.int .i64) (.pair .bool (.pair .bool (.pair (.int .i64) (.pair (.sl (.pair (.int .i64) (.int .i64))) (.pair (.int .i64) (.ref 1 (.pair .str (.int .i64)))))))))))), (101, false, (.vars (.cons (.nilp (.slice none 0 0)) (.cons (.p (.int .i64)) .nil)))), (103, false, (.vars (.cons (.slf 8 102) (.cons (.p (.int .i64)) .nil)))), (102, false, (.rows 40 (.pair (.int .i64) (.pair (.int .i64) (.pair .bool (.pair .bool (.pair (.int .i64) (.pair (.ref 0 (.pair (.int .i64) (.int .i64))) (.pair (.int .i64) (.sl (.pair .str (.int .i64)))))))))))), (999984, false, (.fam 67 (.pair (.int .i64) (.int .i64)))), (999985, false, (.fam 59 (.pair .str (.int .i64))))]⟩⟩ false [] (.reg [(5, { md := [2, 0, 0], fn := 2 }), (10, { md := [2, 0, 0], fn := 2 })])) (.two (.leaf) (.leaf)))))) (.two (.leaf) (.two (.join ⟨[0, 4, 7, 8, 9], ⟨(.cons (.agg (.cons (.slf 8 0) (.cons (.p (.int .i64)) .nil))) (.cons (.own 0 101 0 0) (.cons (.own 0 103 0 0) (.cons (.ownx 8 102 0) (.cons (.slf 2 620077) .nil))))), [(0, true, (.rows 40 (.pair (.int .i64) (.pair (.int .i64) (.pair .bool (.pair .bool (.pair (.int .i64) (.pair (.sl (.pair (.int .i64) (.int .i64))) (.pair (.int .i64) (.ref 1 (.pair .str (.int .i64)))))))))))), (101, false, (.vars (.cons (.nilp (.slice none 0 0)) (.cons (.p (.int .i64)) .nil)))), (103, false, (.vars (.cons (.slf 8 102) (.cons (.p (.int .i64)) .nil)))), (102, false, (.rows 40 (.pair (.int .i64) (.pair (.int .i64) (.pair .bool (.pair .bool (.pair (.int .i64) (.pair (.ref 0 (.pair (.int .i64) (.int .i64))) (.pair (.int .i64) (.sl (.pair .str (.int .i64)))))))))))), (620077, false, (.rows 67 (.pair (.int .i64) (.int .i64)))), (999984, false, (.fam 67 (.pair (.int .i64) (.int .i64)))), (999985, false, (.fam 59 (.pair .str (.int .i64))))]⟩⟩ false [] (.reg [(4, { ids := [104], sh := [620077], md := [520077, 0], fn := 3 })])) (.two (.leaf) (.leaf)))))), ⟨(.cons (.agg (.cons (.slf 8 0) (.cons (.p (.int .i64)) .nil))) (.cons (.p (.int .i64)) .nil)), [(0, false, (.rows 40 (.pair (.int .i64) (.pair (.int .i64) (.pair .bool (.pair .bool (.pair (.int .i64) (.pair (.sl (.pair (.int .i64) (.int .i64))) (.pair (.int .i64) (.ref 1 (.pair .str (.int .i64)))))))))))), (999985, false, (.fam 59 (.pair .str (.int .i64))))]⟩, [⟨(.cons (.agg (.cons (.p (.sl (.pair (.int .i64) (.pair (.int .i64) (.pair .bool (.pair .bool (.pair (.int .i64) (.pair (.sl (.pair (.int .i64) (.int .i64))) (.pair (.int .i64) (.sl (.pair .str (.int .i64)))))))))))) (.cons (.p (.int .i64)) .nil))) (.cons (.p (.sl (.pair (.int .i64) (.int .i64)))) (.cons (.p (.int .i64)) .nil))), [(0, true, (.rows 40 (.pair (.int .i64) (.pair (.int .i64) (.pair .bool (.pair .bool (.pair (.int .i64) (.pair (.sl (.pair (.int .i64) (.int .i64))) (.pair (.int .i64) (.ref 1 (.pair .str (.int .i64)))))))))))), (999985, false, (.fam 59 (.pair .str (.int .i64))))]⟩], [1, 1, 0]⟩
def inode_Drop_go0_R_ft (fu : Nat) : FnT := ⟨60, ⟨(.cons (.agg (.cons (.slf 8 0) (.cons (.p (.int .i64)) .nil))) (.cons (.p (.int .i64)) .nil)), [(0, false, (.rows 40 (.pair (.int .i64) (.pair (.int .i64) (.pair .bool (.pair .bool (.pair (.int .i64) (.pair (.sl (.pair (.int .i64) (.int .i64))) (.pair (.int .i64) (.ref 1 (.pair .str (.int .i64)))))))))))), (999985, false, (.fam 59 (.pair .str (.int .i64))))]⟩, [⟨(.cons (.agg (.cons (.p (.sl (.pair (.int .i64) (.pair (.int .i64) (.pair .bool (.pair .bool (.pair (.int .i64) (.pair (.sl (.pair (.int .i64) (.int .i64))) (.pair (.int .i64) (.sl (.pair .str (.int .i64)))))))))))) (.cons (.p (.int .i64)) .nil))) (.cons (.p (.sl (.pair (.int .i64) (.int .i64)))) (.cons (.p (.int .i64)) .nil))), [(0, true, (.rows 40 (.pair (.int .i64) (.pair (.int .i64) (.pair .bool (.pair .bool (.pair (.int .i64) (.pair (.sl (.pair (.int .i64) (.int .i64))) (.pair (.int .i64) (.ref 1 (.pair .str (.int .i64)))))))))))), (999985, false, (.fam 59 (.pair .str (.int .i64))))]⟩], fun t => inode_Drop_go0_R fu t.1 t.2.1 t.2.2.1 t.2.2.2⟩
theorem inode_Drop_go0_R_eq (fu : Nat) : ∀ t, evF Go.Proofs.Try.prog [inode_copied_P_go0_R_ft fu, inode_Right_ft fu, inode_is_ft fu, slices_DeleteFunc__api_Part_api_Part_o0f11_ft fu] fu Go.Proofs.Try.f60 inode_Drop_go0_R_fa t = (inode_Drop_go0_R_ft fu).spec t := fun t => by kernel_rfl
theorem inode_Drop_go0_R_told (fu : Nat) : Told Go.Proofs.Try.prog (inode_Drop_go0_R_ft fu) := told_of (allT_cons (inode_copied_P_go0_R_told fu) (allT_cons (inode_Right_told fu) (allT_cons (inode_is_told fu) (allT_cons (slices_DeleteFunc__api_Part_api_Part_o0f11_told fu) allT_nil)))) mixed Go.Proofs.Try.func60 (by kernel_rfl) (by kernel_rfl) (inode_Drop_go0_R_eq fu)

def tree_without (fu : Nat) (t : (List ((Int × (Int × (Bool × (Bool × (Int × (List ((Int × Int)) × (Int × List ((List UInt8 × Int)))))))))) × Int)) (dir : Int) (name : List UInt8) (id : Int) : Option ((List ((Int × (Int × (Bool × (Bool × (Int × (List ((Int × Int)) × (Int × List ((List UInt8 × Int)))))))))) × (Int × (List ((Int × Int)) × Int)))) :=
  (tree_copied_E fu (t.1, t.2)).bind fun r =>
  (tree_take__coR fu dir name r.1 r.2.1 r.2.2).bind fun r1 =>
  (inode_Drop_go0_R fu r1.1 id r1.2.1 r1.2.2).bind fun r2 =>
  some (r2.1, (r2.2.1, (r2.2.2.1, r2.2.2.2.1)))
def tree_without_fa : FnA := ⟨.two (.reg [(0, { ids := [100] }), (1, { ids := [101] })]) (.two (.reg [(1, { ids := [102, 999985] }), (2, { ids := [103] })]) (.two (.reg [(2, { sh := [103, 102, 999985], fn := 1 })]) (.two (.reg [(2, { sh := [102, 999985], md := [3, 0], fn := 2 })]) (.leaf)))), ⟨(.cons (.p (.pair (.sl (.pair (.int .i64) (.pair (.int .i64) (.pair .bool (.pair .bool (.pair (.int .i64) (.pair (.sl (.pair (.int .i64) (.int .i64))) (.pair (.int .i64) (.sl (.pair .str (.int .i64))))))))))) (.int .i64))) (.cons (.p (.int .i64)) (.cons (.p .str) (.cons (.p (.int .i64)) .nil)))), []⟩, [⟨(.cons (.agg (.cons (.p (.sl (.pair (.int .i64) (.pair (.int .i64) (.pair .bool (.pair .bool (.pair (.int .i64) (.pair (.sl (.pair (.int .i64) (.int .i64))) (.pair (.int .i64) (.sl (.pair .str (.int .i64)))))))))))) (.cons (.p (.int .i64)) .nil))) (.cons (.p (.sl (.pair (.int .i64) (.int .i64)))) (.cons (.p (.int .i64)) .nil))), []⟩], [0, 0, 0]⟩
def tree_without_ft (fu : Nat) : FnT := ⟨42, ⟨(.cons (.p (.pair (.sl (.pair (.int .i64) (.pair (.int .i64) (.pair .bool (.pair .bool (.pair (.int .i64) (.pair (.sl (.pair (.int .i64) (.int .i64))) (.pair (.int .i64) (.sl (.pair .str (.int .i64))))))))))) (.int .i64))) (.cons (.p (.int .i64)) (.cons (.p .str) (.cons (.p (.int .i64)) .nil)))), []⟩, [⟨(.cons (.agg (.cons (.p (.sl (.pair (.int .i64) (.pair (.int .i64) (.pair .bool (.pair .bool (.pair (.int .i64) (.pair (.sl (.pair (.int .i64) (.int .i64))) (.pair (.int .i64) (.sl (.pair .str (.int .i64)))))))))))) (.cons (.p (.int .i64)) .nil))) (.cons (.p (.sl (.pair (.int .i64) (.int .i64)))) (.cons (.p (.int .i64)) .nil))), []⟩], fun t => tree_without fu t.1 t.2.1 t.2.2.1 t.2.2.2⟩
theorem tree_without_eq (fu : Nat) : ∀ t, evF Go.Proofs.Try.prog [tree_copied_E_ft fu, tree_take__coR_ft fu, inode_Drop_go0_R_ft fu] fu Go.Proofs.Try.f42 tree_without_fa t = (tree_without_ft fu).spec t := fun t => by kernel_rfl
theorem tree_without_told (fu : Nat) : Told Go.Proofs.Try.prog (tree_without_ft fu) := told_of (allT_cons (tree_copied_E_told fu) (allT_cons (tree_take__coR_told fu) (allT_cons (inode_Drop_go0_R_told fu) allT_nil))) mixed Go.Proofs.Try.func42 (by kernel_rfl) (by kernel_rfl) (tree_without_eq fu)

def tree_Remove (fu : Nat) (t : (List ((Int × (Int × (Bool × (Bool × (Int × (List ((Int × Int)) × (Int × List ((List UInt8 × Int)))))))))) × Int)) (dir : (Int × Int)) (name : List UInt8) (is_ : Bool) : Option ((List ((Int × (Int × (Bool × (Bool × (Int × (List ((Int × Int)) × (Int × List ((List UInt8 × Int)))))))))) × (Int × (List ((Int × Int)) × Int)))) :=
  (tree_asked fu (t.1, t.2) [(dir.1, dir.2)]).bind fun r =>
  bif (!(r.1 == 0)) then
    (tree_copied fu (t.1, t.2)).bind fun r1 =>
    some (r1.2, (r1.1, ([], r.1)))
  else
    (tree_Named fu name).bind fun r2 =>
    bif (!r2) then
      (tree_copied fu (t.1, t.2)).bind fun r3 =>
      some (r3.2, (r3.1, ([], 176)))
    else
      (idx? 0 r.2.length).bind fun q =>
      (r.2)[q]?.bind fun r4 =>
      (tree_entry fu r4 name).bind fun r5 =>
      bif (!r5.2) then
        (tree_copied fu (t.1, t.2)).bind fun r6 =>
        some (r6.2, (r6.1, ([], 171)))
      else
        (idx? 0 r.2.length).bind fun q1 =>
        (r.2)[q1]?.bind fun r7 =>
        (idx? r5.1 r7.2.2.2.2.2.2.2.length).bind fun q2 =>
        (r7.2.2.2.2.2.2.2)[q2]?.bind fun r8 =>
        (idx? (IntKind.wrap .i64 (r8.2 - 1)) t.1.length).bind fun q3 =>
        (t.1)[q3]?.bind fun r9 =>
        (tree_mismatch fu is_ r9).bind fun r10 =>
        bif (!(r10 == 0)) then
          (tree_copied fu (t.1, t.2)).bind fun r11 =>
          some (r11.2, (r11.1, ([], r10)))
        else
          (tree_without fu (t.1, t.2) dir.1 name r8.2).bind fun r12 =>
          some (r12.1, (r12.2.1, (r12.2.2.1, r12.2.2.2)))
def tree_Remove_fa : FnA := ⟨.two (.reg [(0, { ids := [100] }), (1, { ids := [101] }), (2, { ids := [102] })]) (.two (.reg [(2, { ids := [103] }), (3, { ids := [104], md := [0, 1] })]) (.two (.two (.leaf) (.two (.two (.reg [(1, { ids := [105], fn := 1 })]) (.leaf)) (.leaf))) (.two (.two (.reg [(1, { fn := 2 })]) (.two (.two (.reg [(1, { ids := [106], fn := 1 })]) (.leaf)) (.leaf))) (.two (.reg [(4, { fn := 3 })]) (.two (.two (.leaf) (.two (.two (.reg [(1, { ids := [107], fn := 1 })]) (.leaf)) (.leaf))) (.two (.leaf) (.two (.two (.reg [(7, { fn := 4 })]) (.two (.leaf) (.two (.two (.reg [(1, { ids := [108], fn := 1 })]) (.leaf)) (.leaf)))) (.two (.reg [(5, { fn := 5 })]) (.leaf))))))))), ⟨(.cons (.p (.pair (.sl (.pair (.int .i64) (.pair (.int .i64) (.pair .bool (.pair .bool (.pair (.int .i64) (.pair (.sl (.pair (.int .i64) (.int .i64))) (.pair (.int .i64) (.sl (.pair .str (.int .i64))))))))))) (.int .i64))) (.cons (.p (.pair (.int .i64) (.int .i64))) (.cons (.p .str) (.cons (.p .bool) .nil)))), []⟩, [⟨(.cons (.agg (.cons (.p (.sl (.pair (.int .i64) (.pair (.int .i64) (.pair .bool (.pair .bool (.pair (.int .i64) (.pair (.sl (.pair (.int .i64) (.int .i64))) (.pair (.int .i64) (.sl (.pair .str (.int .i64)))))))))))) (.cons (.p (.int .i64)) .nil))) (.cons (.p (.sl (.pair (.int .i64) (.int .i64)))) (.cons (.p (.int .i64)) .nil))), []⟩], [1, 1, 0]⟩
def tree_Remove_ft (fu : Nat) : FnT := ⟨20, ⟨(.cons (.p (.pair (.sl (.pair (.int .i64) (.pair (.int .i64) (.pair .bool (.pair .bool (.pair (.int .i64) (.pair (.sl (.pair (.int .i64) (.int .i64))) (.pair (.int .i64) (.sl (.pair .str (.int .i64))))))))))) (.int .i64))) (.cons (.p (.pair (.int .i64) (.int .i64))) (.cons (.p .str) (.cons (.p .bool) .nil)))), []⟩, [⟨(.cons (.agg (.cons (.p (.sl (.pair (.int .i64) (.pair (.int .i64) (.pair .bool (.pair .bool (.pair (.int .i64) (.pair (.sl (.pair (.int .i64) (.int .i64))) (.pair (.int .i64) (.sl (.pair .str (.int .i64)))))))))))) (.cons (.p (.int .i64)) .nil))) (.cons (.p (.sl (.pair (.int .i64) (.int .i64)))) (.cons (.p (.int .i64)) .nil))), []⟩], fun t => tree_Remove fu t.1 t.2.1 t.2.2.1 t.2.2.2⟩
theorem tree_Remove_eq (fu : Nat) : ∀ t, evF Go.Proofs.Try.prog [tree_asked_ft fu, tree_copied_ft fu, tree_Named_ft fu, tree_entry_ft fu, tree_mismatch_ft fu, tree_without_ft fu] fu Go.Proofs.Try.f20 tree_Remove_fa t = (tree_Remove_ft fu).spec t := fun t => by kernel_rfl
theorem tree_Remove_told (fu : Nat) : Told Go.Proofs.Try.prog (tree_Remove_ft fu) := told_of (allT_cons (tree_asked_told fu) (allT_cons (tree_copied_told fu) (allT_cons (tree_Named_told fu) (allT_cons (tree_entry_told fu) (allT_cons (tree_mismatch_told fu) (allT_cons (tree_without_told fu) allT_nil)))))) mixed Go.Proofs.Try.func20 (by kernel_rfl) (by kernel_rfl) (tree_Remove_eq fu)

def law19_awake (fu : Nat)  : Option (Bool) :=
  (inode_New fu).bind fun r =>
  (law19_root fu).bind fun r1 =>
  (tree_Make fu (r.2, r.1) (r1.1, r1.2) [97] true).bind fun r2 =>
  (tree_Make fu (r2.1, r2.2.1) (r2.2.2.1, r2.2.2.2.1) [98] true).bind fun r3 =>
  (law19_root fu).bind fun r4 =>
  (tree_Rename fu (r3.1, r3.2.1) (r4.1, r4.2) [97] (r3.2.2.1, r3.2.2.2.1) [99]).bind fun r5 =>
  (law19_root fu).bind fun r6 =>
  (tree_Make fu (r3.1, r3.2.1) (r6.1, r6.2) [120] false).bind fun r7 =>
  (law19_root fu).bind fun r8 =>
  (tree_Rename fu (r7.1, r7.2.1) (r8.1, r8.2) [120] (r2.2.2.1, r2.2.2.2.1) [120]).bind fun r9 =>
  (tree_Lookup fu (r9.1, r9.2.1) (r2.2.2.1, r2.2.2.2.1) [120]).bind fun r10 =>
  (law19_root fu).bind fun r11 =>
  (tree_Remove fu (r9.1, r9.2.1) (r11.1, r11.2) [97] true).bind fun r12 =>
  bif ((IntKind.wrap .i64 ((IntKind.wrap .i64 ((IntKind.wrap .i64 ((IntKind.wrap .i64 (r2.2.2.2.2 + r3.2.2.2.2)) + r7.2.2.2.2)) + r9.2.2.2)) + r10.2.2)) == 0) then
    bif (r5.2.2.2 == 178) then
      bif ((r7.2.2.1 == r10.1) && (r7.2.2.2.1 == r10.2.1)) then
        bif (r7.2.2.1 == 4) then
          some (r12.2.2.2 == 175)
        else
          some false
      else
        some false
    else
      some false
  else
    some false
def law19_awake_fa : FnA := ⟨.two (.leaf) (.two (.reg [(0, { ids := [100] }), (1, { fn := 1 }), (2, { md := [1, 0, 0, 0], fn := 2 }), (7, { ids := [101] }), (8, { ids := [102] })]) (.two (.reg [(2, { fn := 2 }), (7, { ids := [103] })]) (.two (.reg [(1, { fn := 1 }), (3, { fn := 3 }), (8, { ids := [104] })]) (.two (.reg [(1, { fn := 1 }), (2, { fn := 2 }), (7, { ids := [105] })]) (.two (.reg [(1, { fn := 1 }), (3, { fn := 3 })]) (.two (.reg [(2, { fn := 4 }), (6, { ids := [106] })]) (.two (.reg [(1, { fn := 1 }), (2, { fn := 5 }), (7, { ids := [107] })]) (.leaf)))))))), ⟨.nil, []⟩, [⟨(.cons (.p .bool) .nil), []⟩], [0]⟩
def law19_awake_ft (fu : Nat) : FnT := ⟨16, ⟨.nil, []⟩, [⟨(.cons (.p .bool) .nil), []⟩], fun t => law19_awake fu ⟩
theorem law19_awake_eq (fu : Nat) : ∀ t, evF Go.Proofs.Try.prog [inode_New_ft fu, law19_root_ft fu, tree_Make_ft fu, tree_Rename_ft fu, tree_Lookup_ft fu, tree_Remove_ft fu] fu Go.Proofs.Try.f16 law19_awake_fa t = (law19_awake_ft fu).spec t := fun t => by kernel_rfl
theorem law19_awake_told (fu : Nat) : Told Go.Proofs.Try.prog (law19_awake_ft fu) := told_of (allT_cons (inode_New_told fu) (allT_cons (law19_root_told fu) (allT_cons (tree_Make_told fu) (allT_cons (tree_Rename_told fu) (allT_cons (tree_Lookup_told fu) (allT_cons (tree_Remove_told fu) allT_nil)))))) mixed Go.Proofs.Try.func16 (by kernel_rfl) (by kernel_rfl) (law19_awake_eq fu)

def law19_TreeLoops_l0 (fu : Nat) (n : Int) (i : Int) (h : List ((Int × (Int × (Bool × (Bool × (Int × (List ((Int × Int)) × (Int × List ((List UInt8 × Int))))))))))) (h1 : Int) (h2 : List ((Int × Int))) : Option ((Int × (List ((Int × (Int × (Bool × (Bool × (Int × (List ((Int × Int)) × (Int × List ((List UInt8 × Int)))))))))) × (Int × List ((Int × Int))))) ⊕ ((List ((Int × (Int × (Bool × (Bool × (Int × (List ((Int × Int)) × (Int × List ((List UInt8 × Int)))))))))) × (Int × List ((Int × Int)))) ⊕ Bool)) :=
  bif (decide (i < (IntKind.wrap .i64 (2 + (IntKind.wrap .i64 (Int.tmod n 7)))))) then
    (idx? i h2.length).bind fun q =>
    (h2)[q]?.bind fun r2 =>
    (tree_Make fu (h, h1) r2 [100] true).bind fun r3 =>
    bif (!(r3.2.2.2.2 == 0)) then
      some (.inr (.inr false))
    else
      need ((Nat.ble ((h2.length + 1) * 16) room) && (Nat.ble (h2.length + 1) room)) <|
      some (.inl ((IntKind.wrap .i64 (i + 1)), (r3.1, (r3.2.1, (h2 ++ [(r3.2.2.1, r3.2.2.2.1)])))))
  else
    some (.inr (.inl (h, (h1, h2))))
def law19_TreeLoops_l0_it (fu : Nat) (n : Int) (tt : (Int × (List ((Int × (Int × (Bool × (Bool × (Int × (List ((Int × Int)) × (Int × List ((List UInt8 × Int)))))))))) × (Int × List ((Int × Int)))))) : Option ((List ((Int × (Int × (Bool × (Bool × (Int × (List ((Int × Int)) × (Int × List ((List UInt8 × Int)))))))))) × (Int × List ((Int × Int)))) ⊕ Bool) :=
  iter fu (fun tt => law19_TreeLoops_l0 fu n tt.1 tt.2.1 tt.2.2.1 tt.2.2.2) tt
def law19_TreeLoops_l1 (fu : Nat) (n : Int) (i1 : Int) (j : Int) (h6 : List ((Int × (Int × (Bool × (Bool × (Int × (List ((Int × Int)) × (Int × List ((List UInt8 × Int))))))))))) (h7 : Int) (h8 : List ((Int × Int))) : Option ((Int × (List ((Int × (Int × (Bool × (Bool × (Int × (List ((Int × Int)) × (Int × List ((List UInt8 × Int)))))))))) × (Int × List ((Int × Int))))) ⊕ ((List ((Int × (Int × (Bool × (Bool × (Int × (List ((Int × Int)) × (Int × List ((List UInt8 × Int)))))))))) × (Int × List ((Int × Int)))) ⊕ ((Int × (List ((Int × (Int × (Bool × (Bool × (Int × (List ((Int × Int)) × (Int × List ((List UInt8 × Int)))))))))) × (Int × List ((Int × Int))))) ⊕ (Unit ⊕ Bool)))) :=
  bif (decide (j ≤ (IntKind.wrap .i64 (2 + (IntKind.wrap .i64 (Int.tmod n 7)))))) then
    (idx? (IntKind.wrap .i64 (i1 - 1)) h8.length).bind fun q1 =>
    (h8)[q1]?.bind fun r4 =>
    (idx? j h8.length).bind fun q2 =>
    (h8)[q2]?.bind fun r5 =>
    (tree_Rename fu (h6, h7) r4 [100] r5 [110, 101, 119]).bind fun r6 =>
    Option.bind (α := ((Bool × (List ((Int × (Int × (Bool × (Bool × (Int × (List ((Int × Int)) × (Int × List ((List UInt8 × Int)))))))))) × (Int × List ((Int × Int))))))) (
      bif (!((r6.2.2.2 == 178) == (decide (j ≥ i1)))) then
        some (true, (h6, (h7, h8)))
      else
        bif (!(r6.2.2.2 == 0)) then
          bif (!(r6.2.2.2 == 178)) then
            some (true, (h6, (h7, h8)))
          else
            (tree_Right fu (r6.1, r6.2.1)).bind fun r7 =>
            some ((!r7), (h6, (h7, h8)))
        else
          (tree_Right fu (r6.1, r6.2.1)).bind fun r8 =>
          some ((!r8), (h6, (h7, h8)))) fun o2 =>
    bif o2.1 then
      some (.inr (.inr (.inr (.inr false))))
    else
      some (.inl ((IntKind.wrap .i64 (j + 1)), (o2.2.1, (o2.2.2.1, o2.2.2.2))))
  else
    some (.inr (.inl (h6, (h7, h8))))
def law19_TreeLoops_l1_it (fu : Nat) (n : Int) (i1 : Int) (tt : (Int × (List ((Int × (Int × (Bool × (Bool × (Int × (List ((Int × Int)) × (Int × List ((List UInt8 × Int)))))))))) × (Int × List ((Int × Int)))))) : Option ((List ((Int × (Int × (Bool × (Bool × (Int × (List ((Int × Int)) × (Int × List ((List UInt8 × Int)))))))))) × (Int × List ((Int × Int)))) ⊕ ((Int × (List ((Int × (Int × (Bool × (Bool × (Int × (List ((Int × Int)) × (Int × List ((List UInt8 × Int)))))))))) × (Int × List ((Int × Int))))) ⊕ (Unit ⊕ Bool))) :=
  iter fu (fun tt => law19_TreeLoops_l1 fu n i1 tt.1 tt.2.1 tt.2.2.1 tt.2.2.2) tt
def law19_TreeLoops_l2 (fu : Nat) (n : Int) (i1 : Int) (h3 : List ((Int × (Int × (Bool × (Bool × (Int × (List ((Int × Int)) × (Int × List ((List UInt8 × Int))))))))))) (h4 : Int) (h5 : List ((Int × Int))) : Option ((Int × (List ((Int × (Int × (Bool × (Bool × (Int × (List ((Int × Int)) × (Int × List ((List UInt8 × Int)))))))))) × (Int × List ((Int × Int))))) ⊕ (Unit ⊕ Bool)) :=
  bif (decide (i1 ≤ (IntKind.wrap .i64 (2 + (IntKind.wrap .i64 (Int.tmod n 7)))))) then
    (law19_TreeLoops_l1_it fu n i1 (0, (h3, (h4, h5)))).bind fun o3 =>
    match o3 with
    | .inl s1 =>
      some (.inl ((IntKind.wrap .i64 (i1 + 1)), (s1.1, (s1.2.1, s1.2.2))))
    | .inr o4 =>
      some o4
  else
    some (.inr (.inl ()))
def law19_TreeLoops_l2_it (fu : Nat) (n : Int) (tt : (Int × (List ((Int × (Int × (Bool × (Bool × (Int × (List ((Int × Int)) × (Int × List ((List UInt8 × Int)))))))))) × (Int × List ((Int × Int)))))) : Option (Unit ⊕ Bool) :=
  iter fu (fun tt => law19_TreeLoops_l2 fu n tt.1 tt.2.1 tt.2.2.1 tt.2.2.2) tt
def law19_TreeLoops (fu : Nat) (n : Int) : Option (Bool) :=
  (inode_New fu).bind fun r =>
  (law19_root fu).bind fun r1 =>
  (law19_TreeLoops_l0_it fu n (0, (r.2, (r.1, [(r1.1, r1.2)])))).bind fun o =>
  match o with
  | .inl s =>
    (law19_TreeLoops_l2_it fu n (1, (s.1, (s.2.1, s.2.2)))).bind fun o5 =>
    match o5 with
    | .inl s2 =>
      (law19_awake fu).bind fun r9 =>
      some r9
    | .inr o6 =>
      some o6
  | .inr o1 =>
    some o1
def law19_TreeLoops_fa : FnA := ⟨.two (.leaf) (.two (.leaf) (.two (.reg [(0, { ids := [100] }), (1, { ids := [101] })]) (.two (.reg [(0, { fn := 1 }), (1, { ids := [102] })]) (.two (.two (.leaf) (.one (.pre (.pureCell 101 0) (.loop ⟨[4, 5, 6], ⟨(.cons (.own 0 101 0 0) (.cons (.slf 2 102) (.cons (.p (.int .i64)) .nil))), [(101, false, (.vars (.cons (.p (.sl (.pair (.int .i64) (.pair (.int .i64) (.pair .bool (.pair .bool (.pair (.int .i64) (.pair (.sl (.pair (.int .i64) (.int .i64))) (.pair (.int .i64) (.sl (.pair .str (.int .i64)))))))))))) (.cons (.p (.int .i64)) .nil)))), (102, false, (.rows 30 (.pair (.int .i64) (.int .i64))))]⟩⟩ true [(0, ⟨[4, 5], ⟨(.cons (.own 0 101 0 0) (.cons (.slf 2 102) .nil)), [(101, false, (.vars (.cons (.p (.sl (.pair (.int .i64) (.pair (.int .i64) (.pair .bool (.pair .bool (.pair (.int .i64) (.pair (.sl (.pair (.int .i64) (.int .i64))) (.pair (.int .i64) (.sl (.pair .str (.int .i64)))))))))))) (.cons (.p (.int .i64)) .nil)))), (102, false, (.rows 30 (.pair (.int .i64) (.int .i64))))]⟩⟩)] (.two (.two (.leaf) (.leaf)) (.two (.one (.two (.reg [(5, { fn := 2 }), (10, { ids := [103] }), (11, { ids := [104] })]) (.two (.two (.leaf) (.two (.leaf) (.leaf))) (.two (.leaf) (.reg [(2, { ids := [105] }), (3, { ids := [106] })]))))) (.leaf))))))) (.two (.two (.leaf) (.one (.loop ⟨[4, 5, 10], ⟨(.cons (.own 0 101 0 0) (.cons (.slf 2 102) (.cons (.p (.int .i64)) .nil))), [(101, false, (.vars (.cons (.p (.sl (.pair (.int .i64) (.pair (.int .i64) (.pair .bool (.pair .bool (.pair (.int .i64) (.pair (.sl (.pair (.int .i64) (.int .i64))) (.pair (.int .i64) (.sl (.pair .str (.int .i64)))))))))))) (.cons (.p (.int .i64)) .nil)))), (102, false, (.rows 30 (.pair (.int .i64) (.int .i64))))]⟩⟩ true [(2, ⟨[], ⟨.nil, []⟩⟩)] (.two (.two (.leaf) (.leaf)) (.two (.one (.two (.leaf) (.one (.loop ⟨[4, 5, 11], ⟨(.cons (.own 0 101 0 0) (.cons (.slf 2 102) (.cons (.p (.int .i64)) .nil))), [(101, false, (.vars (.cons (.p (.sl (.pair (.int .i64) (.pair (.int .i64) (.pair .bool (.pair .bool (.pair (.int .i64) (.pair (.sl (.pair (.int .i64) (.int .i64))) (.pair (.int .i64) (.sl (.pair .str (.int .i64)))))))))))) (.cons (.p (.int .i64)) .nil)))), (102, false, (.rows 30 (.pair (.int .i64) (.int .i64))))]⟩⟩ true [(4, ⟨[4, 5], ⟨(.cons (.own 0 101 0 0) (.cons (.slf 2 102) .nil)), [(101, false, (.vars (.cons (.p (.sl (.pair (.int .i64) (.pair (.int .i64) (.pair .bool (.pair .bool (.pair (.int .i64) (.pair (.sl (.pair (.int .i64) (.int .i64))) (.pair (.int .i64) (.sl (.pair .str (.int .i64)))))))))))) (.cons (.p (.int .i64)) .nil)))), (102, false, (.rows 30 (.pair (.int .i64) (.int .i64))))]⟩⟩)] (.two (.two (.leaf) (.leaf)) (.two (.one (.two (.reg [(10, { fn := 3 }), (15, { ids := [107] })]) (.two (.join ⟨[4, 5, 87], ⟨(.cons (.own 0 101 0 0) (.cons (.slf 2 102) (.cons (.p .bool) .nil))), [(101, false, (.vars (.cons (.p (.sl (.pair (.int .i64) (.pair (.int .i64) (.pair .bool (.pair .bool (.pair (.int .i64) (.pair (.sl (.pair (.int .i64) (.int .i64))) (.pair (.int .i64) (.sl (.pair .str (.int .i64)))))))))))) (.cons (.p (.int .i64)) .nil)))), (102, false, (.rows 30 (.pair (.int .i64) (.int .i64))))]⟩⟩ false [] (.reg [(16, { fn := 4 })])) (.two (.leaf) (.leaf))))) (.leaf))))))) (.leaf)))))) (.two (.reg [(0, { fn := 5 })]) (.leaf))))))), ⟨(.cons (.p (.int .u8)) .nil), []⟩, [⟨(.cons (.p .bool) .nil), []⟩], [0]⟩
def law19_TreeLoops_ft (fu : Nat) : FnT := ⟨5, ⟨(.cons (.p (.int .u8)) .nil), []⟩, [⟨(.cons (.p .bool) .nil), []⟩], fun t => law19_TreeLoops fu t⟩
theorem law19_TreeLoops_eq (fu : Nat) : ∀ t, evF Go.Proofs.Try.prog [inode_New_ft fu, law19_root_ft fu, tree_Make_ft fu, tree_Rename_ft fu, tree_Right_ft fu, law19_awake_ft fu] fu Go.Proofs.Try.f5 law19_TreeLoops_fa t = (law19_TreeLoops_ft fu).spec t := fun t => by kernel_rfl
theorem law19_TreeLoops_told (fu : Nat) : Told Go.Proofs.Try.prog (law19_TreeLoops_ft fu) := told_of (allT_cons (inode_New_told fu) (allT_cons (law19_root_told fu) (allT_cons (tree_Make_told fu) (allT_cons (tree_Rename_told fu) (allT_cons (tree_Right_told fu) (allT_cons (law19_awake_told fu) allT_nil)))))) mixed Go.Proofs.Try.func5 (by kernel_rfl) (by kernel_rfl) (law19_TreeLoops_eq fu)
end
end Go.Ab.D
