/- Functions of the program as plain Lean functions: each equation is checked by the kernel; what is told of a function follows from it. -/
import Derived.Test.YtceedhbmmlcckaaTreeOverD1
set_option linter.all false
set_option maxRecDepth 100000
set_option maxHeartbeats 4000000
namespace Go.Ab.D
open Go Go.Ab
noncomputable section
def inode_Drop_go0_R (fu : Nat) (t : Int) (id : Int) (h : List ((Int × (Int × (Bool × (Bool × (Int × (List ((Int × Int)) × (Int × (List ((List UInt8 × Int)) ⊕ Option (Nat × (Nat × Nat)))))))))))) (h1 : List ((Nat × List ((List UInt8 × Int))))) : Option ((List ((Int × (Int × (Bool × (Bool × (Int × (List ((Int × Int)) × (Int × List ((List UInt8 × Int)))))))))) × (Int × (List ((Int × Int)) × (Int × (List ((Int × (Int × (Bool × (Bool × (Int × (List ((Int × Int)) × (Int × (List ((List UInt8 × Int)) ⊕ Option (Nat × (Nat × Nat))))))))))) × List ((Nat × List ((List UInt8 × Int)))))))))) :=
  (inode_copied_P_go0_R fu t h h1).bind fun r =>
  (unrefL (unrefD [⟨1, (.pair .str (.int .i64)), (List.map frz1 r.2.2.2.2)⟩, ⟨0, (.pair (.int .i64) (.int .i64)), (List.map frz1 r.2.2.2.1)⟩] (.pair (.int .i64) (.pair (.int .i64) (.pair .bool (.pair .bool (.pair (.int .i64) (.pair (.sl (.pair (.int .i64) (.int .i64))) (.pair (.int .i64) (.ref 1 (.pair .str (.int .i64))))))))))) r.2.1).bind fun l =>
  (inode_Right fu (l, t)).bind fun r1 =>
  bif (!r1) then
    (unrefL (unrefD [⟨1, (.pair .str (.int .i64)), (List.map frz1 r.2.2.2.2)⟩, ⟨0, (.pair (.int .i64) (.int .i64)), (List.map frz1 r.2.2.2.1)⟩] (.pair (.int .i64) (.pair (.int .i64) (.pair .bool (.pair .bool (.pair (.int .i64) (.pair (.ref 0 (.pair (.int .i64) (.int .i64))) (.pair (.int .i64) (.sl (.pair .str (.int .i64))))))))))) r.2.2.1).bind fun l6 =>
    some (l6, (r.1, ([], (180, (r.2.1, (List.map frz1 r.2.2.2.2))))))
  else
    Option.bind (α := ((Int × (Bool × (List ((Int × (Int × (Bool × (Bool × (Int × (List ((Int × Int)) × (Int × (List ((List UInt8 × Int)) ⊕ Option (Nat × (Nat × Nat))))))))))) × (Int × (Int × (List ((Int × (Int × (Bool × (Bool × (Int × ((List ((Int × Int)) ⊕ Option (Nat × (Nat × Nat))) × (Int × List ((List UInt8 × Int)))))))))) × (List ((Nat × List ((Int × Int)))) × List ((Nat × List ((List UInt8 × Int))))))))))))) (
      bif (id == 1) then
        some (t, (true, (r.2.1, (0, (r.1, (r.2.2.1, (r.2.2.2.1, r.2.2.2.2)))))))
      else
        (unrefL (unrefD [⟨1, (.pair .str (.int .i64)), (List.map frz1 r.2.2.2.2)⟩, ⟨0, (.pair (.int .i64) (.int .i64)), (List.map frz1 r.2.2.2.1)⟩] (.pair (.int .i64) (.pair (.int .i64) (.pair .bool (.pair .bool (.pair (.int .i64) (.pair (.sl (.pair (.int .i64) (.int .i64))) (.pair (.int .i64) (.ref 1 (.pair .str (.int .i64))))))))))) r.2.1).bind fun l1 =>
        (inode_is fu (l1, t) id true).bind fun r2 =>
        bif (!r2) then
          (unrefL (unrefD [⟨1, (.pair .str (.int .i64)), (List.map frz1 r.2.2.2.2)⟩, ⟨0, (.pair (.int .i64) (.int .i64)), (List.map frz1 r.2.2.2.1)⟩] (.pair (.int .i64) (.pair (.int .i64) (.pair .bool (.pair .bool (.pair (.int .i64) (.pair (.sl (.pair (.int .i64) (.int .i64))) (.pair (.int .i64) (.ref 1 (.pair .str (.int .i64))))))))))) r.2.1).bind fun l2 =>
          (inode_is fu (l2, t) id false).bind fun r3 =>
          some (t, ((!r3), (r.2.1, (0, (r.1, (r.2.2.1, (r.2.2.2.1, r.2.2.2.2)))))))
        else
          some (t, (false, (r.2.1, (0, (r.1, (r.2.2.1, (r.2.2.2.1, r.2.2.2.2)))))))) fun o =>
    bif o.2.1 then
      (unrefL (unrefD [⟨1, (.pair .str (.int .i64)), (List.map frz1 o.2.2.2.2.2.2.2)⟩, ⟨0, (.pair (.int .i64) (.int .i64)), (List.map frz1 o.2.2.2.2.2.2.1)⟩] (.pair (.int .i64) (.pair (.int .i64) (.pair .bool (.pair .bool (.pair (.int .i64) (.pair (.ref 0 (.pair (.int .i64) (.int .i64))) (.pair (.int .i64) (.sl (.pair .str (.int .i64))))))))))) o.2.2.2.2.2.1).bind fun l7 =>
      some (l7, (o.2.2.2.2.1, ([], (2, (o.2.2.1, (List.map frz1 o.2.2.2.2.2.2.2))))))
    else
      (idx? (IntKind.wrap .i64 (id - 1)) o.2.2.2.2.2.1.length).bind fun q =>
      Option.bind (α := ((Int × (Nat × (List ((Int × (Int × (Bool × (Bool × (Int × (List ((Int × Int)) × (Int × (List ((List UInt8 × Int)) ⊕ Option (Nat × (Nat × Nat))))))))))) × (Int × (Int × (List ((Int × (Int × (Bool × (Bool × (Int × ((List ((Int × Int)) ⊕ Option (Nat × (Nat × Nat))) × (Int × List ((List UInt8 × Int)))))))))) × (List ((Int × Int)) × (List ((Nat × List ((Int × Int)))) × List ((Nat × List ((List UInt8 × Int)))))))))))))) (
        (o.2.2.2.2.2.1)[q]?.bind fun r4 =>
        (openM o.2.2.2.2.2.2.1 r4.2.2.2.2.2.1).bind fun m =>
        (slices_DeleteFunc__api_Part_api_Part_o0f11 fu m.1).bind fun r5 =>
        match r5 with
        | .inl r6 =>
          some (o.1, (q, (o.2.2.1, (o.2.2.2.1, (o.2.2.2.2.1, (o.2.2.2.2.2.1, (r6, (m.2, o.2.2.2.2.2.2.2))))))))
        | .inr r7 =>
          some (o.1, (q, (o.2.2.1, (o.2.2.2.1, (o.2.2.2.2.1, (o.2.2.2.2.2.1, (r7, (m.2, o.2.2.2.2.2.2.2))))))))) fun o1 =>
      (o1.2.2.2.2.2.1)[o1.2.1]?.bind fun r8 =>
      (o1.2.2.2.2.2.1)[o1.2.1]?.bind fun r9 =>
      (unrefL (unrefD [⟨1, (.pair .str (.int .i64)), (List.map frz1 o1.2.2.2.2.2.2.2.2)⟩, ⟨0, (.pair (.int .i64) (.int .i64)), (List.map frz1 o1.2.2.2.2.2.2.2.1)⟩] (.pair (.int .i64) (.pair (.int .i64) (.pair .bool (.pair .bool (.pair (.int .i64) (.pair (.ref 0 (.pair (.int .i64) (.int .i64))) (.pair (.int .i64) (.sl (.pair .str (.int .i64))))))))))) (List.set o1.2.2.2.2.2.1 o1.2.1 (id, (r8.2.1, (false, (false, (0, ((.inr none), (0, []))))))))).bind fun l8 =>
      some (l8, (o1.2.2.2.2.1, (o1.2.2.2.2.2.2.1, (0, (o1.2.2.1, (List.map frz1 o1.2.2.2.2.2.2.2.2))))))
def inode_Drop_go0_R_fa : FnA := ⟨.two (.reg [(0, { ids := [100] }), (1, { ids := [101] })]) (.two (.reg [(1, { ids := [102, 999984], sh := [0, 999985], md := [3] }), (2, { ids := [103] })]) (.two (.one (.two (.reg [(1, { md := [2], fn := 1 })]) (.two (.leaf) (.two (.join ⟨[0, 4, 7, 17], ⟨(.cons (.agg (.cons (.slf 8 0) (.cons (.p (.int .i64)) .nil))) (.cons (.own 0 101 0 0) (.cons (.own 0 103 0 0) (.cons (.p .bool) .nil)))), [(0, true, (.rows 40 (.pair (.int .i64) (.pair (.int .i64) (.pair .bool (.pair .bool (.pair (.int .i64) (.pair (.sl (.pair (.int .i64) (.int .i64))) (.pair (.int .i64) (.ref 1 (.pair .str (.int .i64)))))))))))), (101, false, (.vars (.cons (.nilp (.slice none 0 0)) (.cons (.p (.int .i64)) .nil)))), (103, false, (.vars (.cons (.slf 8 102) (.cons (.p (.int .i64)) .nil)))), (102, false, (.rows 40 (.pair (.int .i64) (.pair (.int .i64) (.pair .bool (.pair .bool (.pair (.int .i64) (.pair (.ref 0 (.pair (.int .i64) (.int .i64))) (.pair (.int .i64) (.sl (.pair .str (.int .i64)))))))))))), (999984, false, (.fam 67 (.pair (.int .i64) (.int .i64)))), (999985, false, (.fam 59 (.pair .str (.int .i64))))]⟩⟩ false [] (.reg [(5, { md := [2, 0, 0], fn := 2 }), (10, { md := [2, 0, 0], fn := 2 })])) (.two (.leaf) (.leaf)))))) (.two (.leaf) (.two (.join ⟨[0, 4, 7, 8, 9], ⟨(.cons (.agg (.cons (.slf 8 0) (.cons (.p (.int .i64)) .nil))) (.cons (.own 0 101 0 0) (.cons (.own 0 103 0 0) (.cons (.ownx 8 102 0) (.cons (.slf 2 620077) .nil))))), [(0, true, (.rows 40 (.pair (.int .i64) (.pair (.int .i64) (.pair .bool (.pair .bool (.pair (.int .i64) (.pair (.sl (.pair (.int .i64) (.int .i64))) (.pair (.int .i64) (.ref 1 (.pair .str (.int .i64)))))))))))), (101, false, (.vars (.cons (.nilp (.slice none 0 0)) (.cons (.p (.int .i64)) .nil)))), (103, false, (.vars (.cons (.slf 8 102) (.cons (.p (.int .i64)) .nil)))), (102, false, (.rows 40 (.pair (.int .i64) (.pair (.int .i64) (.pair .bool (.pair .bool (.pair (.int .i64) (.pair (.ref 0 (.pair (.int .i64) (.int .i64))) (.pair (.int .i64) (.sl (.pair .str (.int .i64)))))))))))), (620077, false, (.rows 67 (.pair (.int .i64) (.int .i64)))), (999984, false, (.fam 67 (.pair (.int .i64) (.int .i64)))), (999985, false, (.fam 59 (.pair .str (.int .i64))))]⟩⟩ false [] (.reg [(4, { ids := [104], sh := [620077], md := [520077, 0], fn := 3 })])) (.two (.leaf) (.leaf)))))), ⟨(.cons (.agg (.cons (.slf 8 0) (.cons (.p (.int .i64)) .nil))) (.cons (.p (.int .i64)) .nil)), [(0, false, (.rows 40 (.pair (.int .i64) (.pair (.int .i64) (.pair .bool (.pair .bool (.pair (.int .i64) (.pair (.sl (.pair (.int .i64) (.int .i64))) (.pair (.int .i64) (.ref 1 (.pair .str (.int .i64)))))))))))), (999985, false, (.fam 59 (.pair .str (.int .i64))))]⟩, [⟨(.cons (.agg (.cons (.p (.sl (.pair (.int .i64) (.pair (.int .i64) (.pair .bool (.pair .bool (.pair (.int .i64) (.pair (.sl (.pair (.int .i64) (.int .i64))) (.pair (.int .i64) (.sl (.pair .str (.int .i64)))))))))))) (.cons (.p (.int .i64)) .nil))) (.cons (.p (.sl (.pair (.int .i64) (.int .i64)))) (.cons (.p (.int .i64)) .nil))), [(0, true, (.rows 40 (.pair (.int .i64) (.pair (.int .i64) (.pair .bool (.pair .bool (.pair (.int .i64) (.pair (.sl (.pair (.int .i64) (.int .i64))) (.pair (.int .i64) (.ref 1 (.pair .str (.int .i64)))))))))))), (999985, false, (.fam 59 (.pair .str (.int .i64))))]⟩], [1, 1, 0]⟩
def inode_Drop_go0_R_ft (fu : Nat) : FnT := ⟨60, ⟨(.cons (.agg (.cons (.slf 8 0) (.cons (.p (.int .i64)) .nil))) (.cons (.p (.int .i64)) .nil)), [(0, false, (.rows 40 (.pair (.int .i64) (.pair (.int .i64) (.pair .bool (.pair .bool (.pair (.int .i64) (.pair (.sl (.pair (.int .i64) (.int .i64))) (.pair (.int .i64) (.ref 1 (.pair .str (.int .i64)))))))))))), (999985, false, (.fam 59 (.pair .str (.int .i64))))]⟩, [⟨(.cons (.agg (.cons (.p (.sl (.pair (.int .i64) (.pair (.int .i64) (.pair .bool (.pair .bool (.pair (.int .i64) (.pair (.sl (.pair (.int .i64) (.int .i64))) (.pair (.int .i64) (.sl (.pair .str (.int .i64)))))))))))) (.cons (.p (.int .i64)) .nil))) (.cons (.p (.sl (.pair (.int .i64) (.int .i64)))) (.cons (.p (.int .i64)) .nil))), [(0, true, (.rows 40 (.pair (.int .i64) (.pair (.int .i64) (.pair .bool (.pair .bool (.pair (.int .i64) (.pair (.sl (.pair (.int .i64) (.int .i64))) (.pair (.int .i64) (.ref 1 (.pair .str (.int .i64)))))))))))), (999985, false, (.fam 59 (.pair .str (.int .i64))))]⟩], fun t => inode_Drop_go0_R fu t.1 t.2.1 t.2.2.1 t.2.2.2⟩
theorem inode_Drop_go0_R_eq (fu : Nat) : ∀ t, evF Go.Proofs.Try.prog [inode_copied_P_go0_R_ft fu, inode_Right_ft fu, inode_is_ft fu, slices_DeleteFunc__api_Part_api_Part_o0f11_ft fu] fu Go.Proofs.Try.f60 inode_Drop_go0_R_fa t = (inode_Drop_go0_R_ft fu).spec t := fun t => by kernel_rfl
theorem inode_Drop_go0_R_told (fu : Nat) : Told Go.Proofs.Try.prog (inode_Drop_go0_R_ft fu) := told_of (allT_cons (inode_copied_P_go0_R_told fu) (allT_cons (inode_Right_told fu) (allT_cons (inode_is_told fu) (allT_cons (slices_DeleteFunc__api_Part_api_Part_o0f11_told fu) allT_nil)))) mixed Go.Proofs.Try.func60 (by kernel_rfl) (by kernel_rfl) (inode_Drop_go0_R_eq fu)

def tree_without (fu : Nat) (t : (List ((Int × (Int × (Bool × (Bool × (Int × (List ((Int × Int)) × (Int × List ((List UInt8 × Int)))))))))) × Int)) (dir : Int) (name : List UInt8) (id : Int) : Option ((List ((Int × (Int × (Bool × (Bool × (Int × (List ((Int × Int)) × (Int × List ((List UInt8 × Int)))))))))) × (Int × (List ((Int × Int)) × Int)))) :=
  (tree_copied_E fu (t.1, t.2)).bind fun r =>
  (tree_take__coR fu dir name r.1 r.2.1 r.2.2).bind fun r1 =>
  (inode_Drop_go0_R fu r1.1 id r1.2.1 r1.2.2).bind fun r2 =>
  some (r2.1, (r2.2.1, (r2.2.2.1, r2.2.2.2.1)))
def tree_without_fa : FnA := ⟨.two (.reg [(0, { ids := [100] }), (1, { ids := [101] })]) (.two (.reg [(1, { ids := [102, 999985] }), (2, { ids := [103] })]) (.two (.reg [(2, { sh := [103, 102, 999985], fn := 1 })]) (.two (.reg [(2, { sh := [102, 999985], md := [3, 0], fn := 2 })]) (.leaf)))), ⟨(.cons (.p (.pair (.sl (.pair (.int .i64) (.pair (.int .i64) (.pair .bool (.pair .bool (.pair (.int .i64) (.pair (.sl (.pair (.int .i64) (.int .i64))) (.pair (.int .i64) (.sl (.pair .str (.int .i64))))))))))) (.int .i64))) (.cons (.p (.int .i64)) (.cons (.p .str) (.cons (.p (.int .i64)) .nil)))), []⟩, [⟨(.cons (.agg (.cons (.p (.sl (.pair (.int .i64) (.pair (.int .i64) (.pair .bool (.pair .bool (.pair (.int .i64) (.pair (.sl (.pair (.int .i64) (.int .i64))) (.pair (.int .i64) (.sl (.pair .str (.int .i64)))))))))))) (.cons (.p (.int .i64)) .nil))) (.cons (.p (.sl (.pair (.int .i64) (.int .i64)))) (.cons (.p (.int .i64)) .nil))), []⟩], [0, 0, 0]⟩
def tree_without_ft (fu : Nat) : FnT := ⟨42, ⟨(.cons (.p (.pair (.sl (.pair (.int .i64) (.pair (.int .i64) (.pair .bool (.pair .bool (.pair (.int .i64) (.pair (.sl (.pair (.int .i64) (.int .i64))) (.pair (.int .i64) (.sl (.pair .str (.int .i64))))))))))) (.int .i64))) (.cons (.p (.int .i64)) (.cons (.p .str) (.cons (.p (.int .i64)) .nil)))), []⟩, [⟨(.cons (.agg (.cons (.p (.sl (.pair (.int .i64) (.pair (.int .i64) (.pair .bool (.pair .bool (.pair (.int .i64) (.pair (.sl (.pair (.int .i64) (.int .i64))) (.pair (.int .i64) (.sl (.pair .str (.int .i64)))))))))))) (.cons (.p (.int .i64)) .nil))) (.cons (.p (.sl (.pair (.int .i64) (.int .i64)))) (.cons (.p (.int .i64)) .nil))), []⟩], fun t => tree_without fu t.1 t.2.1 t.2.2.1 t.2.2.2⟩
theorem tree_without_eq (fu : Nat) : ∀ t, evF Go.Proofs.Try.prog [tree_copied_E_ft fu, tree_take__coR_ft fu, inode_Drop_go0_R_ft fu] fu Go.Proofs.Try.f42 tree_without_fa t = (tree_without_ft fu).spec t := fun t => by kernel_rfl
theorem tree_without_told (fu : Nat) : Told Go.Proofs.Try.prog (tree_without_ft fu) := told_of (allT_cons (tree_copied_E_told fu) (allT_cons (tree_take__coR_told fu) (allT_cons (inode_Drop_go0_R_told fu) allT_nil))) mixed Go.Proofs.Try.func42 (by kernel_rfl) (by kernel_rfl) (tree_without_eq fu)

def tree_Remove (fu : Nat) (t : (List ((Int × (Int × (Bool × (Bool × (Int × (List ((Int × Int)) × (Int × List ((List UInt8 × Int)))))))))) × Int)) (dir : (Int × Int)) (name : List UInt8) (is_ : Bool) : Option ((List ((Int × (Int × (Bool × (Bool × (Int × (List ((Int × Int)) × (Int × List ((List UInt8 × Int)))))))))) × (Int × (List ((Int × Int)) × Int)))) :=
  (tree_asked fu (t.1, t.2) [(dir.1, dir.2)]).bind fun r =>
  bif (!(r.1 == 0)) then
    (tree_copied fu (t.1, t.2)).bind fun r1 =>
    some (r1.2, (r1.1, ([], r.1)))
  else
    (tree_Named fu name).bind fun r2 =>
    bif (!r2) then
      (tree_copied fu (t.1, t.2)).bind fun r3 =>
      some (r3.2, (r3.1, ([], 176)))
    else
      (idx? 0 r.2.length).bind fun q =>
      (r.2)[q]?.bind fun r4 =>
      (tree_entry fu r4 name).bind fun r5 =>
      bif (!r5.2) then
        (tree_copied fu (t.1, t.2)).bind fun r6 =>
        some (r6.2, (r6.1, ([], 171)))
      else
        (idx? 0 r.2.length).bind fun q1 =>
        (r.2)[q1]?.bind fun r7 =>
        (idx? r5.1 r7.2.2.2.2.2.2.2.length).bind fun q2 =>
        (r7.2.2.2.2.2.2.2)[q2]?.bind fun r8 =>
        (idx? (IntKind.wrap .i64 (r8.2 - 1)) t.1.length).bind fun q3 =>
        (t.1)[q3]?.bind fun r9 =>
        (tree_mismatch fu is_ r9).bind fun r10 =>
        bif (!(r10 == 0)) then
          (tree_copied fu (t.1, t.2)).bind fun r11 =>
          some (r11.2, (r11.1, ([], r10)))
        else
          (tree_without fu (t.1, t.2) dir.1 name r8.2).bind fun r12 =>
          some (r12.1, (r12.2.1, (r12.2.2.1, r12.2.2.2)))
def tree_Remove_fa : FnA := ⟨.two (.reg [(0, { ids := [100] }), (1, { ids := [101] }), (2, { ids := [102] })]) (.two (.reg [(2, { ids := [103] }), (3, { ids := [104], md := [0, 1] })]) (.two (.two (.leaf) (.two (.two (.reg [(1, { ids := [105], fn := 1 })]) (.leaf)) (.leaf))) (.two (.two (.reg [(1, { fn := 2 })]) (.two (.two (.reg [(1, { ids := [106], fn := 1 })]) (.leaf)) (.leaf))) (.two (.reg [(4, { fn := 3 })]) (.two (.two (.leaf) (.two (.two (.reg [(1, { ids := [107], fn := 1 })]) (.leaf)) (.leaf))) (.two (.leaf) (.two (.two (.reg [(7, { fn := 4 })]) (.two (.leaf) (.two (.two (.reg [(1, { ids := [108], fn := 1 })]) (.leaf)) (.leaf)))) (.two (.reg [(5, { fn := 5 })]) (.leaf))))))))), ⟨(.cons (.p (.pair (.sl (.pair (.int .i64) (.pair (.int .i64) (.pair .bool (.pair .bool (.pair (.int .i64) (.pair (.sl (.pair (.int .i64) (.int .i64))) (.pair (.int .i64) (.sl (.pair .str (.int .i64))))))))))) (.int .i64))) (.cons (.p (.pair (.int .i64) (.int .i64))) (.cons (.p .str) (.cons (.p .bool) .nil)))), []⟩, [⟨(.cons (.agg (.cons (.p (.sl (.pair (.int .i64) (.pair (.int .i64) (.pair .bool (.pair .bool (.pair (.int .i64) (.pair (.sl (.pair (.int .i64) (.int .i64))) (.pair (.int .i64) (.sl (.pair .str (.int .i64)))))))))))) (.cons (.p (.int .i64)) .nil))) (.cons (.p (.sl (.pair (.int .i64) (.int .i64)))) (.cons (.p (.int .i64)) .nil))), []⟩], [1, 1, 0]⟩
def tree_Remove_ft (fu : Nat) : FnT := ⟨20, ⟨(.cons (.p (.pair (.sl (.pair (.int .i64) (.pair (.int .i64) (.pair .bool (.pair .bool (.pair (.int .i64) (.pair (.sl (.pair (.int .i64) (.int .i64))) (.pair (.int .i64) (.sl (.pair .str (.int .i64))))))))))) (.int .i64))) (.cons (.p (.pair (.int .i64) (.int .i64))) (.cons (.p .str) (.cons (.p .bool) .nil)))), []⟩, [⟨(.cons (.agg (.cons (.p (.sl (.pair (.int .i64) (.pair (.int .i64) (.pair .bool (.pair .bool (.pair (.int .i64) (.pair (.sl (.pair (.int .i64) (.int .i64))) (.pair (.int .i64) (.sl (.pair .str (.int .i64)))))))))))) (.cons (.p (.int .i64)) .nil))) (.cons (.p (.sl (.pair (.int .i64) (.int .i64)))) (.cons (.p (.int .i64)) .nil))), []⟩], fun t => tree_Remove fu t.1 t.2.1 t.2.2.1 t.2.2.2⟩
theorem tree_Remove_eq (fu : Nat) : ∀ t, evF Go.Proofs.Try.prog [tree_asked_ft fu, tree_copied_ft fu, tree_Named_ft fu, tree_entry_ft fu, tree_mismatch_ft fu, tree_without_ft fu] fu Go.Proofs.Try.f20 tree_Remove_fa t = (tree_Remove_ft fu).spec t := fun t => by kernel_rfl
theorem tree_Remove_told (fu : Nat) : Told Go.Proofs.Try.prog (tree_Remove_ft fu) := told_of (allT_cons (tree_asked_told fu) (allT_cons (tree_copied_told fu) (allT_cons (tree_Named_told fu) (allT_cons (tree_entry_told fu) (allT_cons (tree_mismatch_told fu) (allT_cons (tree_without_told fu) allT_nil)))))) mixed Go.Proofs.Try.func20 (by kernel_rfl) (by kernel_rfl) (tree_Remove_eq fu)

def law19_awake (fu : Nat)  : Option (Bool) :=
  (inode_New fu).bind fun r =>
  (law19_root fu).bind fun r1 =>
  (tree_Make fu (r.2, r.1) (r1.1, r1.2) [97] true).bind fun r2 =>
  (tree_Make fu (r2.1, r2.2.1) (r2.2.2.1, r2.2.2.2.1) [98] true).bind fun r3 =>
  (law19_root fu).bind fun r4 =>
  (tree_Rename fu (r3.1, r3.2.1) (r4.1, r4.2) [97] (r3.2.2.1, r3.2.2.2.1) [99]).bind fun r5 =>
  (law19_root fu).bind fun r6 =>
  (tree_Make fu (r3.1, r3.2.1) (r6.1, r6.2) [120] false).bind fun r7 =>
  (law19_root fu).bind fun r8 =>
  (tree_Rename fu (r7.1, r7.2.1) (r8.1, r8.2) [120] (r2.2.2.1, r2.2.2.2.1) [120]).bind fun r9 =>
  (tree_Lookup fu (r9.1, r9.2.1) (r2.2.2.1, r2.2.2.2.1) [120]).bind fun r10 =>
  (law19_root fu).bind fun r11 =>
  (tree_Remove fu (r9.1, r9.2.1) (r11.1, r11.2) [97] true).bind fun r12 =>
  bif ((IntKind.wrap .i64 ((IntKind.wrap .i64 ((IntKind.wrap .i64 ((IntKind.wrap .i64 (r2.2.2.2.2 + r3.2.2.2.2)) + r7.2.2.2.2)) + r9.2.2.2)) + r10.2.2)) == 0) then
    bif (r5.2.2.2 == 178) then
      bif ((r7.2.2.1 == r10.1) && (r7.2.2.2.1 == r10.2.1)) then
        bif (r7.2.2.1 == 4) then
          some (r12.2.2.2 == 175)
        else
          some false
      else
        some false
    else
      some false
  else
    some false
def law19_awake_fa : FnA := ⟨.two (.leaf) (.two (.reg [(0, { ids := [100] }), (1, { fn := 1 }), (2, { md := [1, 0, 0, 0], fn := 2 }), (7, { ids := [101] }), (8, { ids := [102] })]) (.two (.reg [(2, { fn := 2 }), (7, { ids := [103] })]) (.two (.reg [(1, { fn := 1 }), (3, { fn := 3 }), (8, { ids := [104] })]) (.two (.reg [(1, { fn := 1 }), (2, { fn := 2 }), (7, { ids := [105] })]) (.two (.reg [(1, { fn := 1 }), (3, { fn := 3 })]) (.two (.reg [(2, { fn := 4 }), (6, { ids := [106] })]) (.two (.reg [(1, { fn := 1 }), (2, { fn := 5 }), (7, { ids := [107] })]) (.leaf)))))))), ⟨.nil, []⟩, [⟨(.cons (.p .bool) .nil), []⟩], [0]⟩
def law19_awake_ft (fu : Nat) : FnT := ⟨16, ⟨.nil, []⟩, [⟨(.cons (.p .bool) .nil), []⟩], fun t => law19_awake fu ⟩
theorem law19_awake_eq (fu : Nat) : ∀ t, evF Go.Proofs.Try.prog [inode_New_ft fu, law19_root_ft fu, tree_Make_ft fu, tree_Rename_ft fu, tree_Lookup_ft fu, tree_Remove_ft fu] fu Go.Proofs.Try.f16 law19_awake_fa t = (law19_awake_ft fu).spec t := fun t => by kernel_rfl
theorem law19_awake_told (fu : Nat) : Told Go.Proofs.Try.prog (law19_awake_ft fu) := told_of (allT_cons (inode_New_told fu) (allT_cons (law19_root_told fu) (allT_cons (tree_Make_told fu) (allT_cons (tree_Rename_told fu) (allT_cons (tree_Lookup_told fu) (allT_cons (tree_Remove_told fu) allT_nil)))))) mixed Go.Proofs.Try.func16 (by kernel_rfl) (by kernel_rfl) (law19_awake_eq fu)

def kit_SameParts_l0 (fu : Nat) (a : List ((Int × Int))) (b : List ((Int × Int))) (i : Int) : Option (Int ⊕ (Unit ⊕ Bool)) :=
  bif (decide (i < ((a.length : Nat) : Int))) then
    (idx? i a.length).bind fun q =>
    (a)[q]?.bind fun r =>
    (idx? i b.length).bind fun q1 =>
    (b)[q1]?.bind fun r1 =>
    bif (!((r.1 == r1.1) && (r.2 == r1.2))) then
      some (.inr (.inr false))
    else
      some (.inl (IntKind.wrap .i64 (i + 1)))
  else
    some (.inr (.inl ()))
def kit_SameParts_l0_it (fu : Nat) (a : List ((Int × Int))) (b : List ((Int × Int))) (tt : Int) : Option (Unit ⊕ Bool) :=
  iter fu (fun tt => kit_SameParts_l0 fu a b tt) tt
def kit_SameParts (fu : Nat) (a : List ((Int × Int))) (b : List ((Int × Int))) : Option (Bool) :=
  bif (!(((a.length : Nat) : Int) == ((b.length : Nat) : Int))) then
    some false
  else
    (kit_SameParts_l0_it fu a b 0).bind fun o =>
    match o with
    | .inl s =>
      some true
    | .inr o1 =>
      some o1
def kit_SameParts_fa : FnA := ⟨.two (.leaf) (.two (.two (.leaf) (.two (.leaf) (.leaf))) (.two (.two (.leaf) (.one (.loop ⟨[5], ⟨(.cons (.p (.int .i64)) .nil), []⟩⟩ true [(0, ⟨[], ⟨.nil, []⟩⟩)] (.two (.two (.leaf) (.leaf)) (.two (.one (.two (.leaf) (.two (.leaf) (.leaf)))) (.leaf)))))) (.leaf))), ⟨(.cons (.p (.sl (.pair (.int .i64) (.int .i64)))) (.cons (.p (.sl (.pair (.int .i64) (.int .i64)))) .nil)), []⟩, [⟨(.cons (.p .bool) .nil), []⟩], [0]⟩
def kit_SameParts_ft (fu : Nat) : FnT := ⟨29, ⟨(.cons (.p (.sl (.pair (.int .i64) (.int .i64)))) (.cons (.p (.sl (.pair (.int .i64) (.int .i64)))) .nil)), []⟩, [⟨(.cons (.p .bool) .nil), []⟩], fun t => kit_SameParts fu t.1 t.2⟩
theorem kit_SameParts_eq (fu : Nat) : ∀ t, evF Go.Proofs.Try.prog [] fu Go.Proofs.Try.f29 kit_SameParts_fa t = (kit_SameParts_ft fu).spec t := fun t => by kernel_rfl
theorem kit_SameParts_told (fu : Nat) : Told Go.Proofs.Try.prog (kit_SameParts_ft fu) := told_of allT_nil mixed Go.Proofs.Try.func29 (by kernel_rfl) (by kernel_rfl) (kit_SameParts_eq fu)

def inode_copied_l0 (fu : Nat) (r : List ((Int × (Int × (Bool × (Bool × (Int × (List ((Int × Int)) × (Int × List ((List UInt8 × Int))))))))))) (x : Int) (h : Int) (h1 : List ((Int × (Int × (Bool × (Bool × (Int × (List ((Int × Int)) × (Int × List ((List UInt8 × Int))))))))))) (h2 : Int) : Option ((Int × (Int × (List ((Int × (Int × (Bool × (Bool × (Int × (List ((Int × Int)) × (Int × List ((List UInt8 × Int)))))))))) × Int))) ⊕ ((Int × (List ((Int × (Int × (Bool × (Bool × (Int × (List ((Int × Int)) × (Int × List ((List UInt8 × Int)))))))))) × Int)))) :=
  bif (decide (x < ((r.length : Nat) : Int))) then
    (idx? x h1.length).bind fun q =>
    (h1)[q]?.bind fun r1 =>
    (inode_own fu (r1.1, (r1.2.1, (r1.2.2.1, (r1.2.2.2.1, (r1.2.2.2.2.1, (r1.2.2.2.2.2.1, (r1.2.2.2.2.2.2.1, r1.2.2.2.2.2.2.2)))))))).bind fun r2 =>
    (idx? x h1.length).bind fun q1 =>
    (h1)[q1]?.bind fun r3 =>
    some (.inl ((IntKind.wrap .i64 (x + 1)), (h, ((List.set h1 q1 (r2.1, (r2.2.1, (r2.2.2.1, (r2.2.2.2.1, (r2.2.2.2.2.1, (r2.2.2.2.2.2.2.1, (r2.2.2.2.2.2.1, r2.2.2.2.2.2.2.2)))))))), h2))))
  else
    some (.inr (h, (h1, h2)))
def inode_copied_l0_it (fu : Nat) (r : List ((Int × (Int × (Bool × (Bool × (Int × (List ((Int × Int)) × (Int × List ((List UInt8 × Int))))))))))) (tt : (Int × (Int × (List ((Int × (Int × (Bool × (Bool × (Int × (List ((Int × Int)) × (Int × List ((List UInt8 × Int)))))))))) × Int)))) : Option ((Int × (List ((Int × (Int × (Bool × (Bool × (Int × (List ((Int × Int)) × (Int × List ((List UInt8 × Int)))))))))) × Int))) :=
  iter fu (fun tt => inode_copied_l0 fu r tt.1 tt.2.1 tt.2.2.1 tt.2.2.2) tt
def inode_copied (fu : Nat) (t : (List ((Int × (Int × (Bool × (Bool × (Int × (List ((Int × Int)) × (Int × List ((List UInt8 × Int)))))))))) × Int)) : Option ((Int × List ((Int × (Int × (Bool × (Bool × (Int × (List ((Int × Int)) × (Int × List ((List UInt8 × Int)))))))))))) :=
  (slices_Clone__api_Inode_api_Inode fu t.1).bind fun r =>
  (inode_copied_l0_it fu r (0, (t.2, (r, 0)))).bind fun o =>
  some (o.1, o.2.1)
def inode_copied_fa : FnA := ⟨.two (.reg [(0, { ids := [100] }), (1, { ids := [101] })]) (.two (.reg [(2, { ids := [102] })]) (.two (.two (.leaf) (.one (.loop ⟨[1, 2, 10, 12], ⟨(.cons (.own 0 100 0 0) (.cons (.own 0 101 0 0) (.cons (.slf 8 102) (.cons (.p (.int .i64)) .nil)))), [(100, false, (.vars (.cons (.slf 8 102) (.cons (.p (.int .i64)) .nil)))), (102, false, (.rows 40 (.pair (.int .i64) (.pair (.int .i64) (.pair .bool (.pair .bool (.pair (.int .i64) (.pair (.sl (.pair (.int .i64) (.int .i64))) (.pair (.int .i64) (.sl (.pair .str (.int .i64)))))))))))), (101, false, (.vars (.cons (.nilp (.slice none 0 0)) (.cons (.p (.int .i64)) .nil))))]⟩⟩ false [(0, ⟨[1, 2], ⟨(.cons (.own 0 100 0 0) (.cons (.own 0 101 0 0) .nil)), [(100, false, (.vars (.cons (.slf 8 102) (.cons (.p (.int .i64)) .nil)))), (102, false, (.rows 40 (.pair (.int .i64) (.pair (.int .i64) (.pair .bool (.pair .bool (.pair (.int .i64) (.pair (.sl (.pair (.int .i64) (.int .i64))) (.pair (.int .i64) (.sl (.pair .str (.int .i64)))))))))))), (101, false, (.vars (.cons (.nilp (.slice none 0 0)) (.cons (.p (.int .i64)) .nil))))]⟩⟩)] (.two (.leaf) (.two (.leaf) (.two (.one (.two (.reg [(3, { ids := [103] })]) (.reg [(4, { ids := [104, 105], fn := 1 })]))) (.leaf))))))) (.leaf))), ⟨(.cons (.p (.pair (.sl (.pair (.int .i64) (.pair (.int .i64) (.pair .bool (.pair .bool (.pair (.int .i64) (.pair (.sl (.pair (.int .i64) (.int .i64))) (.pair (.int .i64) (.sl (.pair .str (.int .i64))))))))))) (.int .i64))) .nil), []⟩, [⟨(.cons (.agg (.cons (.slf 8 0) (.cons (.p (.int .i64)) .nil))) .nil), [(0, false, (.rows 40 (.pair (.int .i64) (.pair (.int .i64) (.pair .bool (.pair .bool (.pair (.int .i64) (.pair (.sl (.pair (.int .i64) (.int .i64))) (.pair (.int .i64) (.sl (.pair .str (.int .i64))))))))))))]⟩], [0]⟩
def inode_copied_ft (fu : Nat) : FnT := ⟨47, ⟨(.cons (.p (.pair (.sl (.pair (.int .i64) (.pair (.int .i64) (.pair .bool (.pair .bool (.pair (.int .i64) (.pair (.sl (.pair (.int .i64) (.int .i64))) (.pair (.int .i64) (.sl (.pair .str (.int .i64))))))))))) (.int .i64))) .nil), []⟩, [⟨(.cons (.agg (.cons (.slf 8 0) (.cons (.p (.int .i64)) .nil))) .nil), [(0, false, (.rows 40 (.pair (.int .i64) (.pair (.int .i64) (.pair .bool (.pair .bool (.pair (.int .i64) (.pair (.sl (.pair (.int .i64) (.int .i64))) (.pair (.int .i64) (.sl (.pair .str (.int .i64))))))))))))]⟩], fun t => inode_copied fu t⟩
theorem inode_copied_eq (fu : Nat) : ∀ t, evF Go.Proofs.Try.prog [slices_Clone__api_Inode_api_Inode_ft fu, inode_own_ft fu] fu Go.Proofs.Try.f47 inode_copied_fa t = (inode_copied_ft fu).spec t := fun t => by kernel_rfl
theorem inode_copied_told (fu : Nat) : Told Go.Proofs.Try.prog (inode_copied_ft fu) := told_of (allT_cons (slices_Clone__api_Inode_api_Inode_told fu) (allT_cons (inode_own_told fu) allT_nil)) mixed Go.Proofs.Try.func47 (by kernel_rfl) (by kernel_rfl) (inode_copied_eq fu)

def inode_Fresh_l0 (fu : Nat) (n : Int) (x : Int) (h : Int) (h1 : Int) (h2 : List ((Int × (Int × (Bool × (Bool × (Int × (List ((Int × Int)) × (Int × List ((List UInt8 × Int))))))))))) (h3 : List (Int)) : Option ((Int × (Int × (Int × (List ((Int × (Int × (Bool × (Bool × (Int × (List ((Int × Int)) × (Int × List ((List UInt8 × Int)))))))))) × List (Int))))) ⊕ ((Int × (Int × (List ((Int × (Int × (Bool × (Bool × (Int × (List ((Int × Int)) × (Int × List ((List UInt8 × Int)))))))))) × List (Int)))))) :=
  bif (decide (x < n)) then
    need ((Nat.ble ((h3.length + 1) * 8) room) && (Nat.ble (h3.length + 1) room)) <|
    some (.inl ((IntKind.wrap .i64 (x + 1)), (h, ((IntKind.wrap .i64 (h1 + 1)), (h2, (h3 ++ [(IntKind.wrap .i64 (h1 + 1))]))))))
  else
    some (.inr (h, (h1, (h2, h3))))
def inode_Fresh_l0_it (fu : Nat) (n : Int) (tt : (Int × (Int × (Int × (List ((Int × (Int × (Bool × (Bool × (Int × (List ((Int × Int)) × (Int × List ((List UInt8 × Int)))))))))) × List (Int)))))) : Option ((Int × (Int × (List ((Int × (Int × (Bool × (Bool × (Int × (List ((Int × Int)) × (Int × List ((List UInt8 × Int)))))))))) × List (Int))))) :=
  iter fu (fun tt => inode_Fresh_l0 fu n tt.1 tt.2.1 tt.2.2.1 tt.2.2.2.1 tt.2.2.2.2) tt
def inode_Fresh (fu : Nat) (t : (List ((Int × (Int × (Bool × (Bool × (Int × (List ((Int × Int)) × (Int × List ((List UInt8 × Int)))))))))) × Int)) (n : Int) : Option ((Int × (Int × (List ((Int × (Int × (Bool × (Bool × (Int × (List ((Int × Int)) × (Int × List ((List UInt8 × Int)))))))))) × List (Int))))) :=
  (inode_copied fu (t.1, t.2)).bind fun r =>
  (inode_Right fu (t.1, t.2)).bind fun r1 =>
  bif (!r1) then
    some (r.1, (180, (r.2, [])))
  else
    Option.bind (α := ((Bool × (List ((Int × (Int × (Bool × (Bool × (Int × (List ((Int × Int)) × (Int × List ((List UInt8 × Int)))))))))) × (Int × (Int × (Int × List ((Int × (Int × (Bool × (Bool × (Int × (List ((Int × Int)) × (Int × List ((List UInt8 × Int))))))))))))))))) (
      bif (decide (n < 0)) then
        some (true, (t.1, (t.2, (0, (r.1, r.2)))))
      else
        some ((decide (n > 4096)), (t.1, (t.2, (0, (r.1, r.2)))))) fun o =>
    bif o.1 then
      some (o.2.2.2.2.1, (2, (o.2.2.2.2.2, [])))
    else
      bif (decide (n > (IntKind.wrap .i64 (1099511627776 - o.2.2.1)))) then
        some (o.2.2.2.2.1, (5, (o.2.2.2.2.2, [])))
      else
        (inode_Fresh_l0_it fu n (0, (o.2.2.2.1, (o.2.2.2.2.1, (o.2.2.2.2.2, []))))).bind fun o1 =>
        some (o1.2.1, (0, (o1.2.2.1, o1.2.2.2)))
def inode_Fresh_fa : FnA := ⟨.two (.reg [(0, { ids := [100] }), (1, { ids := [101] })]) (.two (.reg [(1, { ids := [102] }), (2, { ids := [103] })]) (.two (.one (.two (.reg [(1, { fn := 1 })]) (.two (.leaf) (.two (.join ⟨[2, 4, 7, 16], ⟨(.cons (.own 0 100 0 0) (.cons (.own 0 101 0 0) (.cons (.own 0 103 0 0) (.cons (.p .bool) .nil)))), [(100, false, (.vars (.cons (.p (.sl (.pair (.int .i64) (.pair (.int .i64) (.pair .bool (.pair .bool (.pair (.int .i64) (.pair (.sl (.pair (.int .i64) (.int .i64))) (.pair (.int .i64) (.sl (.pair .str (.int .i64)))))))))))) (.cons (.p (.int .i64)) .nil)))), (101, false, (.vars (.cons (.nilp (.slice none 0 0)) (.cons (.p (.int .i64)) .nil)))), (103, false, (.vars (.cons (.slf 8 102) (.cons (.p (.int .i64)) .nil)))), (102, false, (.rows 40 (.pair (.int .i64) (.pair (.int .i64) (.pair .bool (.pair .bool (.pair (.int .i64) (.pair (.sl (.pair (.int .i64) (.int .i64))) (.pair (.int .i64) (.sl (.pair .str (.int .i64))))))))))))]⟩⟩ false [] (.leaf)) (.two (.leaf) (.two (.leaf) (.two (.leaf) (.leaf)))))))) (.two (.leaf) (.two (.two (.leaf) (.one (.pre (.ownNil 8 3 104) (.loop ⟨[4, 7, 8, 32], ⟨(.cons (.own 0 101 0 0) (.cons (.own 0 103 0 0) (.cons (.slf 1 104) (.cons (.p (.int .i64)) .nil)))), [(101, false, (.vars (.cons (.nilp (.slice none 0 0)) (.cons (.p (.int .i64)) .nil)))), (103, false, (.vars (.cons (.slf 8 102) (.cons (.p (.int .i64)) .nil)))), (102, false, (.rows 40 (.pair (.int .i64) (.pair (.int .i64) (.pair .bool (.pair .bool (.pair (.int .i64) (.pair (.sl (.pair (.int .i64) (.int .i64))) (.pair (.int .i64) (.sl (.pair .str (.int .i64)))))))))))), (104, false, (.rows 3 (.int .i64)))]⟩⟩ false [(1, ⟨[4, 7, 8], ⟨(.cons (.own 0 101 0 0) (.cons (.own 0 103 0 0) (.cons (.slf 1 104) .nil))), [(101, false, (.vars (.cons (.nilp (.slice none 0 0)) (.cons (.p (.int .i64)) .nil)))), (103, false, (.vars (.cons (.slf 8 102) (.cons (.p (.int .i64)) .nil)))), (102, false, (.rows 40 (.pair (.int .i64) (.pair (.int .i64) (.pair .bool (.pair .bool (.pair (.int .i64) (.pair (.sl (.pair (.int .i64) (.int .i64))) (.pair (.int .i64) (.sl (.pair .str (.int .i64)))))))))))), (104, false, (.rows 3 (.int .i64)))]⟩⟩)] (.two (.leaf) (.two (.leaf) (.two (.one (.two (.leaf) (.reg [(3, { ids := [105] }), (4, { ids := [106] })]))) (.leaf)))))))) (.leaf))))), ⟨(.cons (.p (.pair (.sl (.pair (.int .i64) (.pair (.int .i64) (.pair .bool (.pair .bool (.pair (.int .i64) (.pair (.sl (.pair (.int .i64) (.int .i64))) (.pair (.int .i64) (.sl (.pair .str (.int .i64))))))))))) (.int .i64))) (.cons (.p (.int .i64)) .nil)), []⟩, [⟨(.cons (.agg (.cons (.slf 8 0) (.cons (.p (.int .i64)) .nil))) (.cons (.slf 1 1) (.cons (.p (.int .i64)) .nil))), [(0, false, (.rows 40 (.pair (.int .i64) (.pair (.int .i64) (.pair .bool (.pair .bool (.pair (.int .i64) (.pair (.sl (.pair (.int .i64) (.int .i64))) (.pair (.int .i64) (.sl (.pair .str (.int .i64)))))))))))), (1, false, (.rows 3 (.int .i64)))]⟩], [0, 13, 0]⟩
def inode_Fresh_ft (fu : Nat) : FnT := ⟨27, ⟨(.cons (.p (.pair (.sl (.pair (.int .i64) (.pair (.int .i64) (.pair .bool (.pair .bool (.pair (.int .i64) (.pair (.sl (.pair (.int .i64) (.int .i64))) (.pair (.int .i64) (.sl (.pair .str (.int .i64))))))))))) (.int .i64))) (.cons (.p (.int .i64)) .nil)), []⟩, [⟨(.cons (.agg (.cons (.slf 8 0) (.cons (.p (.int .i64)) .nil))) (.cons (.slf 1 1) (.cons (.p (.int .i64)) .nil))), [(0, false, (.rows 40 (.pair (.int .i64) (.pair (.int .i64) (.pair .bool (.pair .bool (.pair (.int .i64) (.pair (.sl (.pair (.int .i64) (.int .i64))) (.pair (.int .i64) (.sl (.pair .str (.int .i64)))))))))))), (1, false, (.rows 3 (.int .i64)))]⟩], fun t => inode_Fresh fu t.1 t.2⟩
theorem inode_Fresh_eq (fu : Nat) : ∀ t, evF Go.Proofs.Try.prog [inode_copied_ft fu, inode_Right_ft fu] fu Go.Proofs.Try.f27 inode_Fresh_fa t = (inode_Fresh_ft fu).spec t := fun t => by kernel_rfl
theorem inode_Fresh_told (fu : Nat) : Told Go.Proofs.Try.prog (inode_Fresh_ft fu) := told_of (allT_cons (inode_copied_told fu) (allT_cons (inode_Right_told fu) allT_nil)) mixed Go.Proofs.Try.func27 (by kernel_rfl) (by kernel_rfl) (inode_Fresh_eq fu)

def inode_Set (fu : Nat) (t : (List ((Int × (Int × (Bool × (Bool × (Int × (List ((Int × Int)) × (Int × List ((List UInt8 × Int)))))))))) × Int)) (id : Int) (size : Int) (parts : List ((Int × Int))) : Option ((Int × (Int × List ((Int × (Int × (Bool × (Bool × (Int × (List ((Int × Int)) × (Int × List ((List UInt8 × Int))))))))))))) :=
  (inode_copied fu (t.1, t.2)).bind fun r =>
  (inode_Right fu (t.1, t.2)).bind fun r1 =>
  bif (!r1) then
    some (r.1, (180, r.2))
  else
    (inode_is fu (t.1, t.2) id false).bind fun r2 =>
    bif (!r2) then
      some (r.1, (2, r.2))
    else
      (slices_Clone__api_Part_api_Part fu parts).bind fun r3 =>
      (idx? (IntKind.wrap .i64 (id - 1)) r.2.length).bind fun q =>
      (r.2)[q]?.bind fun r4 =>
      (idx? (IntKind.wrap .i64 (id - 1)) (List.set r.2 q (r4.1, (r4.2.1, (r4.2.2.1, (r4.2.2.2.1, (size, r4.2.2.2.2.2)))))).length).bind fun q1 =>
      ((List.set r.2 q (r4.1, (r4.2.1, (r4.2.2.1, (r4.2.2.2.1, (size, r4.2.2.2.2.2)))))))[q1]?.bind fun r5 =>
      (inode_Right fu ((List.set (List.set r.2 q (r4.1, (r4.2.1, (r4.2.2.1, (r4.2.2.2.1, (size, r4.2.2.2.2.2)))))) q1 (r5.1, (r5.2.1, (r5.2.2.1, (r5.2.2.2.1, (r5.2.2.2.2.1, (r3, r5.2.2.2.2.2.2))))))), r.1)).bind fun r6 =>
      bif (!r6) then
        (inode_copied fu (t.1, t.2)).bind fun r7 =>
        some (r7.1, (177, r7.2))
      else
        some (r.1, (0, (List.set (List.set r.2 q (r4.1, (r4.2.1, (r4.2.2.1, (r4.2.2.2.1, (size, r4.2.2.2.2.2)))))) q1 (r5.1, (r5.2.1, (r5.2.2.1, (r5.2.2.2.1, (r5.2.2.2.2.1, (r3, r5.2.2.2.2.2.2)))))))))
def inode_Set_fa : FnA := ⟨.two (.reg [(0, { ids := [100] }), (1, { ids := [101] })]) (.two (.reg [(1, { ids := [102] }), (2, { ids := [103] })]) (.two (.one (.two (.reg [(1, { fn := 1 })]) (.two (.leaf) (.two (.reg [(2, { fn := 2 })]) (.two (.leaf) (.leaf)))))) (.two (.reg [(10, { ids := [104], fn := 3 })]) (.two (.two (.reg [(1, { md := [2], fn := 1 })]) (.two (.two (.reg [(1, { ids := [105] })]) (.leaf)) (.leaf))) (.leaf))))), ⟨(.cons (.p (.pair (.sl (.pair (.int .i64) (.pair (.int .i64) (.pair .bool (.pair .bool (.pair (.int .i64) (.pair (.sl (.pair (.int .i64) (.int .i64))) (.pair (.int .i64) (.sl (.pair .str (.int .i64))))))))))) (.int .i64))) (.cons (.p (.int .i64)) (.cons (.p (.int .i64)) (.cons (.p (.sl (.pair (.int .i64) (.int .i64)))) .nil)))), []⟩, [⟨(.cons (.agg (.cons (.slf 8 0) (.cons (.p (.int .i64)) .nil))) (.cons (.p (.int .i64)) .nil)), [(0, false, (.rows 40 (.pair (.int .i64) (.pair (.int .i64) (.pair .bool (.pair .bool (.pair (.int .i64) (.pair (.sl (.pair (.int .i64) (.int .i64))) (.pair (.int .i64) (.sl (.pair .str (.int .i64))))))))))))]⟩], [0, 0]⟩
def inode_Set_ft (fu : Nat) : FnT := ⟨28, ⟨(.cons (.p (.pair (.sl (.pair (.int .i64) (.pair (.int .i64) (.pair .bool (.pair .bool (.pair (.int .i64) (.pair (.sl (.pair (.int .i64) (.int .i64))) (.pair (.int .i64) (.sl (.pair .str (.int .i64))))))))))) (.int .i64))) (.cons (.p (.int .i64)) (.cons (.p (.int .i64)) (.cons (.p (.sl (.pair (.int .i64) (.int .i64)))) .nil)))), []⟩, [⟨(.cons (.agg (.cons (.slf 8 0) (.cons (.p (.int .i64)) .nil))) (.cons (.p (.int .i64)) .nil)), [(0, false, (.rows 40 (.pair (.int .i64) (.pair (.int .i64) (.pair .bool (.pair .bool (.pair (.int .i64) (.pair (.sl (.pair (.int .i64) (.int .i64))) (.pair (.int .i64) (.sl (.pair .str (.int .i64))))))))))))]⟩], fun t => inode_Set fu t.1 t.2.1 t.2.2.1 t.2.2.2⟩
theorem inode_Set_eq (fu : Nat) : ∀ t, evF Go.Proofs.Try.prog [inode_copied_ft fu, inode_Right_ft fu, inode_is_ft fu, slices_Clone__api_Part_api_Part_ft fu] fu Go.Proofs.Try.f28 inode_Set_fa t = (inode_Set_ft fu).spec t := fun t => by kernel_rfl
theorem inode_Set_told (fu : Nat) : Told Go.Proofs.Try.prog (inode_Set_ft fu) := told_of (allT_cons (inode_copied_told fu) (allT_cons (inode_Right_told fu) (allT_cons (inode_is_told fu) (allT_cons (slices_Clone__api_Part_api_Part_told fu) allT_nil)))) mixed Go.Proofs.Try.func28 (by kernel_rfl) (by kernel_rfl) (inode_Set_eq fu)

def law19_TreeOver_l0 (fu : Nat) (parts : Int) (x : Int) (h : Int) (h1 : List ((Int × (Int × (Bool × (Bool × (Int × (List ((Int × Int)) × (Int × List ((List UInt8 × Int))))))))))) (h2 : Int) (h3 : Int) (h4 : Int) (h5 : Int) (h6 : Int) (h7 : Int) (h8 : List (Int)) (h9 : List ((Int × Int))) : Option ((Int × (Int × (List ((Int × (Int × (Bool × (Bool × (Int × (List ((Int × Int)) × (Int × List ((List UInt8 × Int)))))))))) × (Int × (Int × (Int × (Int × (Int × (Int × (List (Int) × List ((Int × Int)))))))))))) ⊕ ((Int × (List ((Int × (Int × (Bool × (Bool × (Int × (List ((Int × Int)) × (Int × List ((List UInt8 × Int)))))))))) × (Int × (Int × (Int × (Int × (Int × (Int × (List (Int) × List ((Int × Int))))))))))))) :=
  bif (decide (x < (IntKind.wrap .i64 (Int.tmod parts 7)))) then
    (idx? x h8.length).bind fun q =>
    (h8)[q]?.bind fun r8 =>
    need ((Nat.ble ((h9.length + 1) * 16) room) && (Nat.ble (h9.length + 1) room)) <|
    some (.inl ((IntKind.wrap .i64 (x + 1)), (h, (h1, (h2, (h3, (h4, (h5, (h6, (h7, (h8, (h9 ++ [(r8, 3)]))))))))))))
  else
    some (.inr (h, (h1, (h2, (h3, (h4, (h5, (h6, (h7, (h8, h9))))))))))
def law19_TreeOver_l0_it (fu : Nat) (parts : Int) (tt : (Int × (Int × (List ((Int × (Int × (Bool × (Bool × (Int × (List ((Int × Int)) × (Int × List ((List UInt8 × Int)))))))))) × (Int × (Int × (Int × (Int × (Int × (Int × (List (Int) × List ((Int × Int))))))))))))) : Option ((Int × (List ((Int × (Int × (Bool × (Bool × (Int × (List ((Int × Int)) × (Int × List ((List UInt8 × Int)))))))))) × (Int × (Int × (Int × (Int × (Int × (Int × (List (Int) × List ((Int × Int)))))))))))) :=
  iter fu (fun tt => law19_TreeOver_l0 fu parts tt.1 tt.2.1 tt.2.2.1 tt.2.2.2.1 tt.2.2.2.2.1 tt.2.2.2.2.2.1 tt.2.2.2.2.2.2.1 tt.2.2.2.2.2.2.2.1 tt.2.2.2.2.2.2.2.2.1 tt.2.2.2.2.2.2.2.2.2.1 tt.2.2.2.2.2.2.2.2.2.2) tt
def law19_TreeOver_l1 (fu : Nat) (others : Int) (x1 : Int) (h10 : Int) (h11 : List ((Int × (Int × (Bool × (Bool × (Int × (List ((Int × Int)) × (Int × List ((List UInt8 × Int))))))))))) (h12 : Int) (h13 : Int) (h14 : Int) (h15 : Int) (h16 : Int) (h17 : Int) (h18 : List (Int)) (h19 : List ((Int × Int))) (h20 : List ((Int × Int))) : Option ((Int × (Int × (List ((Int × (Int × (Bool × (Bool × (Int × (List ((Int × Int)) × (Int × List ((List UInt8 × Int)))))))))) × (Int × (Int × (Int × (Int × (Int × (Int × (List (Int) × (List ((Int × Int)) × List ((Int × Int))))))))))))) ⊕ ((Int × (List ((Int × (Int × (Bool × (Bool × (Int × (List ((Int × Int)) × (Int × List ((List UInt8 × Int)))))))))) × (Int × (Int × (Int × (Int × (Int × (Int × (List ((Int × Int)) × List ((Int × Int))))))))))))) :=
  bif (decide (x1 < (IntKind.wrap .i64 (Int.tmod others 7)))) then
    (idx? (IntKind.wrap .i64 (6 + x1)) h18.length).bind fun q1 =>
    (h18)[q1]?.bind fun r9 =>
    need ((Nat.ble ((h20.length + 1) * 16) room) && (Nat.ble (h20.length + 1) room)) <|
    some (.inl ((IntKind.wrap .i64 (x1 + 1)), (h10, (h11, (h12, (h13, (h14, (h15, (h16, (h17, (h18, (h19, (h20 ++ [(r9, 4)])))))))))))))
  else
    some (.inr (h10, (h11, (h12, (h13, (h14, (h15, (h16, (h17, (h19, h20))))))))))
def law19_TreeOver_l1_it (fu : Nat) (others : Int) (tt : (Int × (Int × (List ((Int × (Int × (Bool × (Bool × (Int × (List ((Int × Int)) × (Int × List ((List UInt8 × Int)))))))))) × (Int × (Int × (Int × (Int × (Int × (Int × (List (Int) × (List ((Int × Int)) × List ((Int × Int)))))))))))))) : Option ((Int × (List ((Int × (Int × (Bool × (Bool × (Int × (List ((Int × Int)) × (Int × List ((List UInt8 × Int)))))))))) × (Int × (Int × (Int × (Int × (Int × (Int × (List ((Int × Int)) × List ((Int × Int)))))))))))) :=
  iter fu (fun tt => law19_TreeOver_l1 fu others tt.1 tt.2.1 tt.2.2.1 tt.2.2.2.1 tt.2.2.2.2.1 tt.2.2.2.2.2.1 tt.2.2.2.2.2.2.1 tt.2.2.2.2.2.2.2.1 tt.2.2.2.2.2.2.2.2.1 tt.2.2.2.2.2.2.2.2.2.1 tt.2.2.2.2.2.2.2.2.2.2.1 tt.2.2.2.2.2.2.2.2.2.2.2) tt
def law19_TreeOver (fu : Nat) (parts : Int) (others : Int) (apart : Bool) : Option (Bool) :=
  (inode_New fu).bind fun r =>
  (law19_root fu).bind fun r1 =>
  (tree_Make fu (r.2, r.1) (r1.1, r1.2) [100] true).bind fun r2 =>
  (law19_root fu).bind fun r3 =>
  Option.bind (α := ((List ((Int × (Int × (Bool × (Bool × (Int × (List ((Int × Int)) × (Int × List ((List UInt8 × Int)))))))))) × (Int × (Int × Int))))) (
    bif apart then
      some (r2.1, (r2.2.1, (r2.2.2.1, r2.2.2.2.1)))
    else
      some (r2.1, (r2.2.1, (r3.1, r3.2)))) fun o =>
  (law19_root fu).bind fun r4 =>
  (tree_Make fu (o.1, o.2.1) (r4.1, r4.2) [97] false).bind fun r5 =>
  (tree_Make fu (r5.1, r5.2.1) (o.2.2.1, o.2.2.2) [98] false).bind fun r6 =>
  (inode_Fresh fu (r6.1, r6.2.1) 12).bind fun r7 =>
  Option.bind (α := ((Bool × (Int × (List ((Int × (Int × (Bool × (Bool × (Int × (List ((Int × Int)) × (Int × List ((List UInt8 × Int)))))))))) × (Int × (Int × (Int × (Int × (Int × (Int × List (Int)))))))))))) (
    bif (!((IntKind.wrap .i64 ((IntKind.wrap .i64 ((IntKind.wrap .i64 (r2.2.2.2.2 + r5.2.2.2.2)) + r6.2.2.2.2)) + r7.2.1)) == 0)) then
      some (true, (r7.1, (r7.2.2.1, (o.2.2.1, (o.2.2.2, (r5.2.2.1, (r5.2.2.2.1, (r6.2.2.1, (r6.2.2.2.1, r7.2.2.2)))))))))
    else
      some ((!(((r7.2.2.2.length : Nat) : Int) == 12)), (r7.1, (r7.2.2.1, (o.2.2.1, (o.2.2.2, (r5.2.2.1, (r5.2.2.2.1, (r6.2.2.1, (r6.2.2.2.1, r7.2.2.2)))))))))) fun o1 =>
  bif o1.1 then
    some false
  else
    (law19_TreeOver_l0_it fu parts (0, (o1.2.1, (o1.2.2.1, (o1.2.2.2.1, (o1.2.2.2.2.1, (o1.2.2.2.2.2.1, (o1.2.2.2.2.2.2.1, (o1.2.2.2.2.2.2.2.1, (o1.2.2.2.2.2.2.2.2.1, (o1.2.2.2.2.2.2.2.2.2, []))))))))))).bind fun o2 =>
    (law19_TreeOver_l1_it fu others (0, (o2.1, (o2.2.1, (o2.2.2.1, (o2.2.2.2.1, (o2.2.2.2.2.1, (o2.2.2.2.2.2.1, (o2.2.2.2.2.2.2.1, (o2.2.2.2.2.2.2.2.1, (o2.2.2.2.2.2.2.2.2.1, (o2.2.2.2.2.2.2.2.2.2, [])))))))))))).bind fun o3 =>
    (inode_Set fu (o3.2.1, o3.1) o3.2.2.2.2.1 5 o3.2.2.2.2.2.2.2.2.1).bind fun r10 =>
    (inode_Set fu (r10.2.2, r10.1) o3.2.2.2.2.2.2.1 6 o3.2.2.2.2.2.2.2.2.2).bind fun r11 =>
    (law19_root fu).bind fun r12 =>
    (tree_Rename fu (r11.2.2, r11.1) (r12.1, r12.2) [97] (o3.2.2.1, o3.2.2.2.1) [98]).bind fun r13 =>
    Option.bind (α := ((Bool × (Int × (Int × (Int × (Int × (Int × (Int × (List ((Int × Int)) × (List ((Int × (Int × (Bool × (Bool × (Int × (List ((Int × Int)) × (Int × List ((List UInt8 × Int)))))))))) × Int))))))))))) (
      bif (!(r10.2.1 == 0)) then
        some (true, (o3.2.2.1, (o3.2.2.2.1, (o3.2.2.2.2.1, (o3.2.2.2.2.2.1, (o3.2.2.2.2.2.2.1, (o3.2.2.2.2.2.2.2.1, (o3.2.2.2.2.2.2.2.2.1, (r13.1, r13.2.1)))))))))
      else
        bif (!(r11.2.1 == 0)) then
          some (true, (o3.2.2.1, (o3.2.2.2.1, (o3.2.2.2.2.1, (o3.2.2.2.2.2.1, (o3.2.2.2.2.2.2.1, (o3.2.2.2.2.2.2.2.1, (o3.2.2.2.2.2.2.2.2.1, (r13.1, r13.2.1)))))))))
        else
          bif (!(r13.2.2.2 == 0)) then
            some (true, (o3.2.2.1, (o3.2.2.2.1, (o3.2.2.2.2.1, (o3.2.2.2.2.2.1, (o3.2.2.2.2.2.2.1, (o3.2.2.2.2.2.2.2.1, (o3.2.2.2.2.2.2.2.2.1, (r13.1, r13.2.1)))))))))
          else
            (tree_Right fu (r13.1, r13.2.1)).bind fun r14 =>
            bif (!r14) then
              some (true, (o3.2.2.1, (o3.2.2.2.1, (o3.2.2.2.2.1, (o3.2.2.2.2.2.1, (o3.2.2.2.2.2.2.1, (o3.2.2.2.2.2.2.2.1, (o3.2.2.2.2.2.2.2.2.1, (r13.1, r13.2.1)))))))))
            else
              (kit_SameParts fu r13.2.2.1 o3.2.2.2.2.2.2.2.2.2).bind fun r15 =>
              some ((!r15), (o3.2.2.1, (o3.2.2.2.1, (o3.2.2.2.2.1, (o3.2.2.2.2.2.1, (o3.2.2.2.2.2.2.1, (o3.2.2.2.2.2.2.2.1, (o3.2.2.2.2.2.2.2.2.1, (r13.1, r13.2.1)))))))))) fun o4 =>
    bif o4.1 then
      some false
    else
      (inode_Get fu (o4.2.2.2.2.2.2.2.2.1, o4.2.2.2.2.2.2.2.2.2) (o4.2.2.2.1, o4.2.2.2.2.1)).bind fun r16 =>
      (inode_Get fu (o4.2.2.2.2.2.2.2.2.1, o4.2.2.2.2.2.2.2.2.2) (o4.2.2.2.2.2.1, o4.2.2.2.2.2.2.1)).bind fun r17 =>
      (tree_Lookup fu (o4.2.2.2.2.2.2.2.2.1, o4.2.2.2.2.2.2.2.2.2) (o4.2.1, o4.2.2.1) [98]).bind fun r18 =>
      (law19_root fu).bind fun r19 =>
      (tree_Lookup fu (o4.2.2.2.2.2.2.2.2.1, o4.2.2.2.2.2.2.2.2.2) (r19.1, r19.2) [97]).bind fun r20 =>
      bif (r16.2.2.2.2.2.2.2.2 == 0) then
        (kit_SameParts fu r16.2.2.2.2.2.1 o4.2.2.2.2.2.2.2.1).bind fun r21 =>
        bif r21 then
          bif (r16.2.2.2.2.1 == 5) then
            bif (r16.2.2.2.2.2.2.1 == o4.2.1) then
              bif (r17.2.2.2.2.2.2.2.2 == 170) then
                bif (r18.2.2 == 0) then
                  bif ((r18.1 == o4.2.2.2.1) && (r18.2.1 == o4.2.2.2.2.1)) then
                    bif (r20.2.2 == 171) then
                      (law19_awake fu).bind fun r22 =>
                      some r22
                    else
                      some false
                  else
                    some false
                else
                  some false
              else
                some false
            else
              some false
          else
            some false
        else
          some false
      else
        some false
def law19_TreeOver_fa : FnA := ⟨.two (.leaf) (.two (.reg [(0, { ids := [100] }), (1, { fn := 1 }), (2, { md := [1, 0, 0, 0], fn := 2 }), (7, { ids := [101] }), (8, { ids := [102] })]) (.two (.reg [(0, { fn := 1 }), (1, { ids := [103] })]) (.two (.two (.leaf) (.join ⟨[7, 10], ⟨(.cons (.own 0 101 0 0) (.cons (.own 0 103 0 0) .nil)), [(101, false, (.vars (.cons (.p (.sl (.pair (.int .i64) (.pair (.int .i64) (.pair .bool (.pair .bool (.pair (.int .i64) (.pair (.sl (.pair (.int .i64) (.int .i64))) (.pair (.int .i64) (.sl (.pair .str (.int .i64)))))))))))) (.cons (.p (.int .i64)) .nil)))), (103, false, (.vars (.cons (.p (.int .i64)) (.cons (.p (.int .i64)) .nil))))]⟩⟩ false [] (.leaf))) (.two (.reg [(1, { fn := 1 }), (2, { fn := 2 }), (7, { ids := [104] })]) (.two (.reg [(2, { fn := 2 }), (7, { ids := [105] })]) (.two (.reg [(1, { ids := [106, 107], fn := 3 })]) (.two (.two (.join ⟨[7, 10, 11, 13, 15, 72], ⟨(.cons (.own 0 101 0 0) (.cons (.own 0 103 0 0) (.cons (.own 0 104 0 0) (.cons (.own 0 105 0 0) (.cons (.slf 1 107) (.cons (.p .bool) .nil)))))), [(101, false, (.vars (.cons (.slf 8 106) (.cons (.p (.int .i64)) .nil)))), (106, false, (.rows 40 (.pair (.int .i64) (.pair (.int .i64) (.pair .bool (.pair .bool (.pair (.int .i64) (.pair (.sl (.pair (.int .i64) (.int .i64))) (.pair (.int .i64) (.sl (.pair .str (.int .i64)))))))))))), (103, false, (.vars (.cons (.p (.int .i64)) (.cons (.p (.int .i64)) .nil)))), (104, false, (.vars (.cons (.p (.int .i64)) (.cons (.p (.int .i64)) .nil)))), (105, false, (.vars (.cons (.p (.int .i64)) (.cons (.p (.int .i64)) .nil)))), (107, false, (.rows 3 (.int .i64)))]⟩⟩ false [] (.leaf)) (.two (.leaf) (.leaf))) (.two (.leaf) (.two (.two (.leaf) (.one (.pre (.ownNil 17 67 108) (.loop ⟨[7, 10, 11, 13, 15, 17, 76], ⟨(.cons (.own 0 101 0 0) (.cons (.own 0 103 0 0) (.cons (.own 0 104 0 0) (.cons (.own 0 105 0 0) (.cons (.slf 1 107) (.cons (.slf 2 108) (.cons (.p (.int .i64)) .nil))))))), [(101, false, (.vars (.cons (.slf 8 106) (.cons (.p (.int .i64)) .nil)))), (106, false, (.rows 40 (.pair (.int .i64) (.pair (.int .i64) (.pair .bool (.pair .bool (.pair (.int .i64) (.pair (.sl (.pair (.int .i64) (.int .i64))) (.pair (.int .i64) (.sl (.pair .str (.int .i64)))))))))))), (103, false, (.vars (.cons (.p (.int .i64)) (.cons (.p (.int .i64)) .nil)))), (104, false, (.vars (.cons (.p (.int .i64)) (.cons (.p (.int .i64)) .nil)))), (105, false, (.vars (.cons (.p (.int .i64)) (.cons (.p (.int .i64)) .nil)))), (107, false, (.rows 3 (.int .i64))), (108, false, (.rows 67 (.pair (.int .i64) (.int .i64))))]⟩⟩ false [(0, ⟨[7, 10, 11, 13, 15, 17], ⟨(.cons (.own 0 101 0 0) (.cons (.own 0 103 0 0) (.cons (.own 0 104 0 0) (.cons (.own 0 105 0 0) (.cons (.slf 1 107) (.cons (.slf 2 108) .nil)))))), [(101, false, (.vars (.cons (.slf 8 106) (.cons (.p (.int .i64)) .nil)))), (106, false, (.rows 40 (.pair (.int .i64) (.pair (.int .i64) (.pair .bool (.pair .bool (.pair (.int .i64) (.pair (.sl (.pair (.int .i64) (.int .i64))) (.pair (.int .i64) (.sl (.pair .str (.int .i64)))))))))))), (103, false, (.vars (.cons (.p (.int .i64)) (.cons (.p (.int .i64)) .nil)))), (104, false, (.vars (.cons (.p (.int .i64)) (.cons (.p (.int .i64)) .nil)))), (105, false, (.vars (.cons (.p (.int .i64)) (.cons (.p (.int .i64)) .nil)))), (107, false, (.rows 3 (.int .i64))), (108, false, (.rows 67 (.pair (.int .i64) (.int .i64))))]⟩⟩)] (.two (.leaf) (.two (.leaf) (.two (.one (.two (.leaf) (.reg [(6, { ids := [109] }), (7, { ids := [110] })]))) (.leaf)))))))) (.two (.two (.leaf) (.one (.pre (.ownNil 18 67 111) (.loop ⟨[7, 10, 11, 13, 15, 17, 18, 91], ⟨(.cons (.own 0 101 0 0) (.cons (.own 0 103 0 0) (.cons (.own 0 104 0 0) (.cons (.own 0 105 0 0) (.cons (.slf 1 107) (.cons (.slf 2 108) (.cons (.slf 2 111) (.cons (.p (.int .i64)) .nil)))))))), [(101, false, (.vars (.cons (.slf 8 106) (.cons (.p (.int .i64)) .nil)))), (106, false, (.rows 40 (.pair (.int .i64) (.pair (.int .i64) (.pair .bool (.pair .bool (.pair (.int .i64) (.pair (.sl (.pair (.int .i64) (.int .i64))) (.pair (.int .i64) (.sl (.pair .str (.int .i64)))))))))))), (103, false, (.vars (.cons (.p (.int .i64)) (.cons (.p (.int .i64)) .nil)))), (104, false, (.vars (.cons (.p (.int .i64)) (.cons (.p (.int .i64)) .nil)))), (105, false, (.vars (.cons (.p (.int .i64)) (.cons (.p (.int .i64)) .nil)))), (107, false, (.rows 3 (.int .i64))), (108, false, (.rows 67 (.pair (.int .i64) (.int .i64)))), (111, false, (.rows 67 (.pair (.int .i64) (.int .i64))))]⟩⟩ false [(2, ⟨[7, 10, 11, 13, 17, 18], ⟨(.cons (.own 0 101 0 0) (.cons (.own 0 103 0 0) (.cons (.own 0 104 0 0) (.cons (.own 0 105 0 0) (.cons (.slf 2 108) (.cons (.slf 2 111) .nil)))))), [(101, false, (.vars (.cons (.slf 8 106) (.cons (.p (.int .i64)) .nil)))), (106, false, (.rows 40 (.pair (.int .i64) (.pair (.int .i64) (.pair .bool (.pair .bool (.pair (.int .i64) (.pair (.sl (.pair (.int .i64) (.int .i64))) (.pair (.int .i64) (.sl (.pair .str (.int .i64)))))))))))), (103, false, (.vars (.cons (.p (.int .i64)) (.cons (.p (.int .i64)) .nil)))), (104, false, (.vars (.cons (.p (.int .i64)) (.cons (.p (.int .i64)) .nil)))), (105, false, (.vars (.cons (.p (.int .i64)) (.cons (.p (.int .i64)) .nil)))), (108, false, (.rows 67 (.pair (.int .i64) (.int .i64)))), (111, false, (.rows 67 (.pair (.int .i64) (.int .i64))))]⟩⟩)] (.two (.leaf) (.two (.leaf) (.two (.one (.two (.leaf) (.reg [(7, { ids := [112] }), (8, { ids := [113] })]))) (.leaf)))))))) (.two (.reg [(4, { ids := [114], md := [1, 0, 0, 1], fn := 4 })]) (.two (.reg [(4, { ids := [115], md := [1, 0, 0, 1], fn := 4 })]) (.two (.reg [(1, { fn := 1 }), (3, { md := [1, 0, 0, 0, 0], fn := 5 }), (8, { ids := [116] })]) (.two (.two (.join ⟨[10, 11, 13, 17, 21, 148], ⟨(.cons (.own 0 103 0 0) (.cons (.own 0 104 0 0) (.cons (.own 0 105 0 0) (.cons (.slf 2 108) (.cons (.own 0 116 0 0) (.cons (.p .bool) .nil)))))), [(103, false, (.vars (.cons (.p (.int .i64)) (.cons (.p (.int .i64)) .nil)))), (104, false, (.vars (.cons (.p (.int .i64)) (.cons (.p (.int .i64)) .nil)))), (105, false, (.vars (.cons (.p (.int .i64)) (.cons (.p (.int .i64)) .nil)))), (108, true, (.rows 67 (.pair (.int .i64) (.int .i64)))), (116, false, (.vars (.cons (.p (.sl (.pair (.int .i64) (.pair (.int .i64) (.pair .bool (.pair .bool (.pair (.int .i64) (.pair (.sl (.pair (.int .i64) (.int .i64))) (.pair (.int .i64) (.sl (.pair .str (.int .i64)))))))))))) (.cons (.p (.int .i64)) .nil))))]⟩⟩ false [] (.reg [(12, { fn := 6 }), (18, { md := [0, 2], fn := 7 })])) (.two (.leaf) (.leaf))) (.two (.reg [(2, { fn := 8 }), (6, { ids := [117] })]) (.two (.reg [(2, { fn := 8 }), (6, { ids := [118] })]) (.two (.reg [(2, { fn := 9 }), (6, { ids := [119] })]) (.two (.reg [(1, { fn := 1 }), (2, { fn := 9 }), (6, { ids := [120] })]) (.two (.reg [(6, { md := [0, 2], fn := 7 }), (38, { fn := 10 })]) (.leaf)))))))))))))))))))), ⟨(.cons (.p (.int .u8)) (.cons (.p (.int .u8)) (.cons (.p .bool) .nil))), []⟩, [⟨(.cons (.p .bool) .nil), []⟩], [0]⟩
def law19_TreeOver_ft (fu : Nat) : FnT := ⟨8, ⟨(.cons (.p (.int .u8)) (.cons (.p (.int .u8)) (.cons (.p .bool) .nil))), []⟩, [⟨(.cons (.p .bool) .nil), []⟩], fun t => law19_TreeOver fu t.1 t.2.1 t.2.2⟩
theorem law19_TreeOver_eq (fu : Nat) : ∀ t, evF Go.Proofs.Try.prog [inode_New_ft fu, law19_root_ft fu, tree_Make_ft fu, inode_Fresh_ft fu, inode_Set_ft fu, tree_Rename_ft fu, tree_Right_ft fu, kit_SameParts_ft fu, inode_Get_ft fu, tree_Lookup_ft fu, law19_awake_ft fu] fu Go.Proofs.Try.f8 law19_TreeOver_fa t = (law19_TreeOver_ft fu).spec t := fun t => by kernel_rfl
theorem law19_TreeOver_told (fu : Nat) : Told Go.Proofs.Try.prog (law19_TreeOver_ft fu) := told_of (allT_cons (inode_New_told fu) (allT_cons (law19_root_told fu) (allT_cons (tree_Make_told fu) (allT_cons (inode_Fresh_told fu) (allT_cons (inode_Set_told fu) (allT_cons (tree_Rename_told fu) (allT_cons (tree_Right_told fu) (allT_cons (kit_SameParts_told fu) (allT_cons (inode_Get_told fu) (allT_cons (tree_Lookup_told fu) (allT_cons (law19_awake_told fu) allT_nil))))))))))) mixed Go.Proofs.Try.func8 (by kernel_rfl) (by kernel_rfl) (law19_TreeOver_eq fu)
end
end Go.Ab.D
