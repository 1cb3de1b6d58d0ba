/- Functions of the program as plain Lean functions: each equation is checked by the kernel; what is told of a function follows from it. -/
import Derived.Test.YtceedhbmmlcckaaTreeManyD1
set_option linter.all false
set_option maxRecDepth 100000
set_option maxHeartbeats 4000000
namespace Go.Ab.D
open Go Go.Ab
noncomputable section
def iDrogo0R (fu : Nat) (t : Int) (id : Int) (h : List qT4) (h1 : List qT10) : Option ((List (qT1) × (Int × (List ((Int × Int)) × (Int × (List qT4 × List qT10)))))) :=
  (icopPgo0R fu t h h1).bind fun r =>
  (unrefL (unrefD [⟨1, (.pair .str (.int .i64)), (List.map frz1 r.2.2.2.2)⟩, ⟨0, qY6, (List.map frz1 r.2.2.2.1)⟩] qY2) r.2.1).bind fun l =>
  (iRig fu (l, t)).bind fun r1 =>
  bif (!r1) then
    (unrefL (unrefD [⟨1, (.pair .str (.int .i64)), (List.map frz1 r.2.2.2.2)⟩, ⟨0, qY6, (List.map frz1 r.2.2.2.1)⟩] qY11) r.2.2.1).bind fun l6 =>
    some (l6, (r.1, ([], (180, (r.2.1, (List.map frz1 r.2.2.2.2))))))
  else
    Option.bind (α := ((Int × (Bool × (List qT4 × (Int × (Int × (List qT16 × (List qT24 × List qT10))))))))) (
      bif (id == 1) then
        some (t, (true, (r.2.1, (0, (r.1, (r.2.2.1, (r.2.2.2.1, r.2.2.2.2)))))))
      else
        (unrefL (unrefD [⟨1, (.pair .str (.int .i64)), (List.map frz1 r.2.2.2.2)⟩, ⟨0, qY6, (List.map frz1 r.2.2.2.1)⟩] qY2) r.2.1).bind fun l1 =>
        (inode_is fu (l1, t) id true).bind fun r2 =>
        bif (!r2) then
          (unrefL (unrefD [⟨1, (.pair .str (.int .i64)), (List.map frz1 r.2.2.2.2)⟩, ⟨0, qY6, (List.map frz1 r.2.2.2.1)⟩] qY2) r.2.1).bind fun l2 =>
          (inode_is fu (l2, t) id false).bind fun r3 =>
          some (t, ((!r3), (r.2.1, (0, (r.1, (r.2.2.1, (r.2.2.2.1, r.2.2.2.2)))))))
        else
          some (t, (false, (r.2.1, (0, (r.1, (r.2.2.1, (r.2.2.2.1, r.2.2.2.2)))))))) fun o =>
    bif o.2.1 then
      (unrefL (unrefD [⟨1, (.pair .str (.int .i64)), (List.map frz1 o.2.2.2.2.2.2.2)⟩, ⟨0, qY6, (List.map frz1 o.2.2.2.2.2.2.1)⟩] qY11) o.2.2.2.2.2.1).bind fun l7 =>
      some (l7, (o.2.2.2.2.1, ([], (2, (o.2.2.1, (List.map frz1 o.2.2.2.2.2.2.2))))))
    else
      (idx? (IntKind.wrap .i64 (id - 1)) o.2.2.2.2.2.1.length).bind fun q =>
      Option.bind (α := ((Int × (Nat × (List qT4 × (Int × (Int × (List qT16 × (List ((Int × Int)) × (List qT24 × List qT10)))))))))) (
        (o.2.2.2.2.2.1)[q]?.bind fun r4 =>
        (openM o.2.2.2.2.2.2.1 r4.2.2.2.2.2.1).bind fun m =>
        (sDelFun2 fu m.1).bind fun r5 =>
        match r5 with
        | .inl r6 =>
          some (o.1, (q, (o.2.2.1, (o.2.2.2.1, (o.2.2.2.2.1, (o.2.2.2.2.2.1, (r6, (m.2, o.2.2.2.2.2.2.2))))))))
        | .inr r7 =>
          some (o.1, (q, (o.2.2.1, (o.2.2.2.1, (o.2.2.2.2.1, (o.2.2.2.2.2.1, (r7, (m.2, o.2.2.2.2.2.2.2))))))))) fun o1 =>
      (o1.2.2.2.2.2.1)[o1.2.1]?.bind fun r8 =>
      (o1.2.2.2.2.2.1)[o1.2.1]?.bind fun r9 =>
      (unrefL (unrefD [⟨1, (.pair .str (.int .i64)), (List.map frz1 o1.2.2.2.2.2.2.2.2)⟩, ⟨0, qY6, (List.map frz1 o1.2.2.2.2.2.2.2.1)⟩] qY11) (List.set o1.2.2.2.2.2.1 o1.2.1 (id, (r8.2.1, (false, (false, (0, ((.inr none), (0, []))))))))).bind fun l8 =>
      some (l8, (o1.2.2.2.2.1, (o1.2.2.2.2.2.2.1, (0, (o1.2.2.1, (List.map frz1 o1.2.2.2.2.2.2.2.2))))))
def iDrogo0R_fa : FnA := ⟨.two (.reg [(0, { ids := [100] }), (1, { ids := [101] })]) (.two (.reg [(1, { ids := [102, 999984], sh := [0, 999985], md := [3] }), (2, { ids := [103] })]) (.two (.one (.two (.reg [(1, { md := [2], fn := 1 })]) (.two (.leaf) (.two (.join ⟨[0, 4, 7, 17], ⟨(.cons (.agg (.cons (.slf 8 0) qL3)) (.cons (.own 0 101 0 0) (.cons (.own 0 103 0 0) (.cons (.p .bool) .nil)))), [(0, true, (.rows 40 qY2)), (101, false, qB18), (103, false, qB28), (102, false, (.rows 40 qY11)), (999984, false, (.fam 67 qY6)), (999985, false, qB13)]⟩⟩ false [] (.reg [(5, { md := [2, 0, 0], fn := 2 }), (10, { md := [2, 0, 0], fn := 2 })])) (.two (.leaf) (.leaf)))))) (.two (.leaf) (.two (.join ⟨[0, 4, 7, 8, 9], ⟨(.cons (.agg (.cons (.slf 8 0) qL3)) (.cons (.own 0 101 0 0) (.cons (.own 0 103 0 0) (.cons (.ownx 8 102 0) (.cons (.slf 2 620077) .nil))))), [(0, true, (.rows 40 qY2)), (101, false, qB18), (103, false, qB28), (102, false, (.rows 40 qY11)), (620077, false, (.rows 67 qY6)), (999984, false, (.fam 67 qY6)), (999985, false, qB13)]⟩⟩ false [] (.reg [(4, { ids := [104], sh := [620077], md := [520077, 0], fn := 3 })])) (.two (.leaf) (.leaf)))))), ⟨(.cons (.agg (.cons (.slf 8 0) qL3)) qL3), [(0, false, (.rows 40 qY2)), (999985, false, qB13)]⟩, [⟨(.cons (.agg (.cons (.p (.sl qY0)) qL3)) (.cons (.p (.sl qY6)) qL3)), [(0, true, (.rows 40 qY2)), (999985, false, qB13)]⟩], [1, 1, 0]⟩
def iDrogo0R_ft (fu : Nat) : FnT := ⟨60, iDrogo0R_fa.i, iDrogo0R_fa.os, fun t => iDrogo0R fu t.1 t.2.1 t.2.2.1 t.2.2.2⟩
theorem iDrogo0R_eq (fu : Nat) : ∀ t, evF Go.Proofs.Try.prog [icopPgo0R_ft fu, iRig_ft fu, inode_is_ft fu, sDelFun2_ft fu] fu Go.Proofs.Try.f60 iDrogo0R_fa t = (iDrogo0R_ft fu).spec t := fun t => by kernel_rfl
theorem iDrogo0R_told (fu : Nat) : Told Go.Proofs.Try.prog (iDrogo0R_ft fu) := told_of (allT_cons (icopPgo0R_told fu) (allT_cons (iRig_told fu) (allT_cons (inode_is_told fu) (allT_cons (sDelFun2_told fu) allT_nil)))) mixed Go.Proofs.Try.func60 (by kernel_rfl) (by kernel_rfl) (iDrogo0R_eq fu)
def twit (fu : Nat) (t : (List (qT1) × Int)) (dir : Int) (name : List UInt8) (id : Int) : Option ((List (qT1) × (Int × (List ((Int × Int)) × Int)))) :=
  (tcopE fu (t.1, t.2)).bind fun r =>
  (ttak fu dir name r.1 r.2.1 r.2.2).bind fun r1 =>
  (iDrogo0R fu r1.1 id r1.2.1 r1.2.2).bind fun r2 =>
  some (r2.1, (r2.2.1, (r2.2.2.1, r2.2.2.2.1)))
def twit_fa : FnA := ⟨.two (.reg [(0, { ids := [100] }), (1, { ids := [101] })]) (.two (.reg [(1, { ids := [102, 999985] }), (2, { ids := [103] })]) (.two (.reg [(2, { sh := [103, 102, 999985], fn := 1 })]) (.two (.reg [(2, { sh := [102, 999985], md := [3, 0], fn := 2 })]) (.leaf)))), ⟨(.cons (.p qY21) (.cons (.p (.int .i64)) (.cons (.p .str) qL3))), []⟩, [⟨(.cons (.agg (.cons (.p (.sl qY0)) qL3)) (.cons (.p (.sl qY6)) qL3)), []⟩], [0, 0, 0]⟩
def twit_ft (fu : Nat) : FnT := ⟨42, twit_fa.i, twit_fa.os, fun t => twit fu t.1 t.2.1 t.2.2.1 t.2.2.2⟩
theorem twit_eq (fu : Nat) : ∀ t, evF Go.Proofs.Try.prog [tcopE_ft fu, ttak_ft fu, iDrogo0R_ft fu] fu Go.Proofs.Try.f42 twit_fa t = (twit_ft fu).spec t := fun t => by kernel_rfl
theorem twit_told (fu : Nat) : Told Go.Proofs.Try.prog (twit_ft fu) := told_of (allT_cons (tcopE_told fu) (allT_cons (ttak_told fu) (allT_cons (iDrogo0R_told fu) allT_nil))) mixed Go.Proofs.Try.func42 (by kernel_rfl) (by kernel_rfl) (twit_eq fu)
def tRem (fu : Nat) (t : (List (qT1) × Int)) (dir : (Int × Int)) (name : List UInt8) (is_ : Bool) : Option ((List (qT1) × (Int × (List ((Int × Int)) × Int)))) :=
  (task fu (t.1, t.2) [(dir.1, dir.2)]).bind fun r =>
  bif (!(r.1 == 0)) then
    (tcop fu (t.1, t.2)).bind fun r1 =>
    some (r1.2, (r1.1, ([], r.1)))
  else
    (tNam fu name).bind fun r2 =>
    bif (!r2) then
      (tcop fu (t.1, t.2)).bind fun r3 =>
      some (r3.2, (r3.1, ([], 176)))
    else
      (idx? 0 r.2.length).bind fun q =>
      (r.2)[q]?.bind fun r4 =>
      (tent fu r4 name).bind fun r5 =>
      bif (!r5.2) then
        (tcop fu (t.1, t.2)).bind fun r6 =>
        some (r6.2, (r6.1, ([], 171)))
      else
        (idx? 0 r.2.length).bind fun q1 =>
        (r.2)[q1]?.bind fun r7 =>
        (idx? r5.1 r7.2.2.2.2.2.2.2.length).bind fun q2 =>
        (r7.2.2.2.2.2.2.2)[q2]?.bind fun r8 =>
        (idx? (IntKind.wrap .i64 (r8.2 - 1)) t.1.length).bind fun q3 =>
        (t.1)[q3]?.bind fun r9 =>
        (tmis fu is_ r9).bind fun r10 =>
        bif (!(r10 == 0)) then
          (tcop fu (t.1, t.2)).bind fun r11 =>
          some (r11.2, (r11.1, ([], r10)))
        else
          (twit fu (t.1, t.2) dir.1 name r8.2).bind fun r12 =>
          some (r12.1, (r12.2.1, (r12.2.2.1, r12.2.2.2)))
def tRem_fa : FnA := ⟨.two (.reg [(0, { ids := [100] }), (1, { ids := [101] }), (2, { ids := [102] })]) (.two (.reg [(2, { ids := [103] }), (3, { ids := [104], md := [0, 1] })]) (.two (.two (.leaf) (.two (.two (.reg [(1, { ids := [105], fn := 1 })]) (.leaf)) (.leaf))) (.two (.two (.reg [(1, { fn := 2 })]) (.two (.two (.reg [(1, { ids := [106], fn := 1 })]) (.leaf)) (.leaf))) (.two (.reg [(4, { fn := 3 })]) (.two (.two (.leaf) (.two (.two (.reg [(1, { ids := [107], fn := 1 })]) (.leaf)) (.leaf))) (.two (.leaf) (.two (.two (.reg [(7, { fn := 4 })]) (.two (.leaf) (.two (.two (.reg [(1, { ids := [108], fn := 1 })]) (.leaf)) (.leaf)))) (.two (.reg [(5, { fn := 5 })]) (.leaf))))))))), ⟨(.cons (.p qY21) (.cons (.p qY6) (.cons (.p .str) (.cons (.p .bool) .nil)))), []⟩, [⟨(.cons (.agg (.cons (.p (.sl qY0)) qL3)) (.cons (.p (.sl qY6)) qL3)), []⟩], [1, 1, 0]⟩
def tRem_ft (fu : Nat) : FnT := ⟨20, tRem_fa.i, tRem_fa.os, fun t => tRem fu t.1 t.2.1 t.2.2.1 t.2.2.2⟩
theorem tRem_eq (fu : Nat) : ∀ t, evF Go.Proofs.Try.prog [task_ft fu, tcop_ft fu, tNam_ft fu, tent_ft fu, tmis_ft fu, twit_ft fu] fu Go.Proofs.Try.f20 tRem_fa t = (tRem_ft fu).spec t := fun t => by kernel_rfl
theorem tRem_told (fu : Nat) : Told Go.Proofs.Try.prog (tRem_ft fu) := told_of (allT_cons (task_told fu) (allT_cons (tcop_told fu) (allT_cons (tNam_told fu) (allT_cons (tent_told fu) (allT_cons (tmis_told fu) (allT_cons (twit_told fu) allT_nil)))))) mixed Go.Proofs.Try.func20 (by kernel_rfl) (by kernel_rfl) (tRem_eq fu)
def law19_awake (fu : Nat)  : Option (Bool) :=
  (inode_New fu).bind fun r =>
  (law19_root fu).bind fun r1 =>
  (tree_Make fu (r.2, r.1) (r1.1, r1.2) [97] true).bind fun r2 =>
  (tree_Make fu (r2.1, r2.2.1) (r2.2.2.1, r2.2.2.2.1) [98] true).bind fun r3 =>
  (law19_root fu).bind fun r4 =>
  (tRen fu (r3.1, r3.2.1) (r4.1, r4.2) [97] (r3.2.2.1, r3.2.2.2.1) [99]).bind fun r5 =>
  (law19_root fu).bind fun r6 =>
  (tree_Make fu (r3.1, r3.2.1) (r6.1, r6.2) [120] false).bind fun r7 =>
  (law19_root fu).bind fun r8 =>
  (tRen fu (r7.1, r7.2.1) (r8.1, r8.2) [120] (r2.2.2.1, r2.2.2.2.1) [120]).bind fun r9 =>
  (tLoo fu (r9.1, r9.2.1) (r2.2.2.1, r2.2.2.2.1) [120]).bind fun r10 =>
  (law19_root fu).bind fun r11 =>
  (tRem fu (r9.1, r9.2.1) (r11.1, r11.2) [97] true).bind fun r12 =>
  bif ((IntKind.wrap .i64 ((IntKind.wrap .i64 ((IntKind.wrap .i64 ((IntKind.wrap .i64 (r2.2.2.2.2 + r3.2.2.2.2)) + r7.2.2.2.2)) + r9.2.2.2)) + r10.2.2)) == 0) then
    bif (r5.2.2.2 == 178) then
      bif ((r7.2.2.1 == r10.1) && (r7.2.2.2.1 == r10.2.1)) then
        bif (r7.2.2.1 == 4) then
          some (r12.2.2.2 == 175)
        else
          some false
      else
        some false
    else
      some false
  else
    some false
def law19_awake_fa : FnA := ⟨.two (.leaf) (.two (.reg [(0, { ids := [100] }), (1, { fn := 1 }), (2, { md := [1, 0, 0, 0], fn := 2 }), (7, { ids := [101] }), (8, { ids := [102] })]) (.two (.reg [(2, { fn := 2 }), (7, { ids := [103] })]) (.two (.reg [(1, { fn := 1 }), (3, { fn := 3 }), (8, { ids := [104] })]) (.two (.reg [(1, { fn := 1 }), (2, { fn := 2 }), (7, { ids := [105] })]) (.two (.reg [(1, { fn := 1 }), (3, { fn := 3 })]) (.two (.reg [(2, { fn := 4 }), (6, { ids := [106] })]) (.two (.reg [(1, { fn := 1 }), (2, { fn := 5 }), (7, { ids := [107] })]) (.leaf)))))))), ⟨.nil, []⟩, [⟨(.cons (.p .bool) .nil), []⟩], [0]⟩
def law19_awake_ft (fu : Nat) : FnT := ⟨16, law19_awake_fa.i, law19_awake_fa.os, fun t => law19_awake fu ⟩
theorem law19_awake_eq (fu : Nat) : ∀ t, evF Go.Proofs.Try.prog [inode_New_ft fu, law19_root_ft fu, tree_Make_ft fu, tRen_ft fu, tLoo_ft fu, tRem_ft fu] fu Go.Proofs.Try.f16 law19_awake_fa t = (law19_awake_ft fu).spec t := fun t => by kernel_rfl
theorem law19_awake_told (fu : Nat) : Told Go.Proofs.Try.prog (law19_awake_ft fu) := told_of (allT_cons (inode_New_told fu) (allT_cons (law19_root_told fu) (allT_cons (tree_Make_told fu) (allT_cons (tRen_told fu) (allT_cons (tLoo_told fu) (allT_cons (tRem_told fu) allT_nil)))))) mixed Go.Proofs.Try.func16 (by kernel_rfl) (by kernel_rfl) (law19_awake_eq fu)
def kit_Pick (fu : Nat) (x : Int) (n : Int) : Option (Int) :=
  bif (decide (n < 1)) then
    some 0
  else
    need (!(decide (n = 0))) <|
    bif (decide ((Int.tmod x n) < 0)) then
      some (IntKind.wrap .i64 ((Int.tmod x n) + n))
    else
      some (Int.tmod x n)
def kit_Pick_fa : FnA := ⟨.two (.leaf) (.two (.two (.leaf) (.two (.leaf) (.leaf))) (.two (.leaf) (.two (.two (.leaf) (.leaf)) (.leaf)))), ⟨(.cons (.p (.int .i64)) qL3), []⟩, [⟨qL3, []⟩], [0]⟩
def kit_Pick_ft (fu : Nat) : FnT := ⟨14, kit_Pick_fa.i, kit_Pick_fa.os, fun t => kit_Pick fu t.1 t.2⟩
theorem kit_Pick_eq (fu : Nat) : ∀ t, evF Go.Proofs.Try.prog [] fu Go.Proofs.Try.f14 kit_Pick_fa t = (kit_Pick_ft fu).spec t := fun t => by kernel_rfl
theorem kit_Pick_told (fu : Nat) : Told Go.Proofs.Try.prog (kit_Pick_ft fu) := told_of allT_nil mixed Go.Proofs.Try.func14 (by kernel_rfl) (by kernel_rfl) (kit_Pick_eq fu)
def kSamPar_l0 (fu : Nat) (a : List ((Int × Int))) (b : List ((Int × Int))) (i : Int) : Option (Int ⊕ (Unit ⊕ Bool)) :=
  bif (decide (i < ((a.length : Nat) : Int))) then
    (idx? i a.length).bind fun q =>
    (a)[q]?.bind fun r =>
    (idx? i b.length).bind fun q1 =>
    (b)[q1]?.bind fun r1 =>
    bif (!((r.1 == r1.1) && (r.2 == r1.2))) then
      some (.inr (.inr false))
    else
      some (.inl (IntKind.wrap .i64 (i + 1)))
  else
    some (.inr (.inl ()))
def kSamPar_l0_it (fu : Nat) (a : List ((Int × Int))) (b : List ((Int × Int))) (tt : Int) : Option (Unit ⊕ Bool) :=
  iter fu (fun tt => kSamPar_l0 fu a b tt) tt
def kSamPar (fu : Nat) (a : List ((Int × Int))) (b : List ((Int × Int))) : Option (Bool) :=
  bif (!(((a.length : Nat) : Int) == ((b.length : Nat) : Int))) then
    some false
  else
    (kSamPar_l0_it fu a b 0).bind fun o =>
    match o with
    | .inl s =>
      some true
    | .inr o1 =>
      some o1
def kSamPar_fa : FnA := ⟨.two (.leaf) (.two (.two (.leaf) (.two (.leaf) (.leaf))) (.two (.two (.leaf) (.one (.loop ⟨[5], ⟨qL3, []⟩⟩ true [(0, ⟨[], ⟨.nil, []⟩⟩)] (.two (.two (.leaf) (.leaf)) (.two (.one (.two (.leaf) (.two (.leaf) (.leaf)))) (.leaf)))))) (.leaf))), ⟨(.cons (.p (.sl qY6)) (.cons (.p (.sl qY6)) .nil)), []⟩, [⟨(.cons (.p .bool) .nil), []⟩], [0]⟩
def kSamPar_ft (fu : Nat) : FnT := ⟨29, kSamPar_fa.i, kSamPar_fa.os, fun t => kSamPar fu t.1 t.2⟩
theorem kSamPar_eq (fu : Nat) : ∀ t, evF Go.Proofs.Try.prog [] fu Go.Proofs.Try.f29 kSamPar_fa t = (kSamPar_ft fu).spec t := fun t => by kernel_rfl
theorem kSamPar_told (fu : Nat) : Told Go.Proofs.Try.prog (kSamPar_ft fu) := told_of allT_nil mixed Go.Proofs.Try.func29 (by kernel_rfl) (by kernel_rfl) (kSamPar_eq fu)
def kSamEnt_l0 (fu : Nat) (a : List ((List UInt8 × Int))) (b : List ((List UInt8 × Int))) (i : Int) : Option (Int ⊕ (Unit ⊕ Bool)) :=
  bif (decide (i < ((a.length : Nat) : Int))) then
    (idx? i a.length).bind fun q =>
    (a)[q]?.bind fun r =>
    (idx? i b.length).bind fun q1 =>
    (b)[q1]?.bind fun r1 =>
    bif (!((r.1 == r1.1) && (r.2 == r1.2))) then
      some (.inr (.inr false))
    else
      some (.inl (IntKind.wrap .i64 (i + 1)))
  else
    some (.inr (.inl ()))
def kSamEnt_l0_it (fu : Nat) (a : List ((List UInt8 × Int))) (b : List ((List UInt8 × Int))) (tt : Int) : Option (Unit ⊕ Bool) :=
  iter fu (fun tt => kSamEnt_l0 fu a b tt) tt
def kSamEnt (fu : Nat) (a : List ((List UInt8 × Int))) (b : List ((List UInt8 × Int))) : Option (Bool) :=
  bif (!(((a.length : Nat) : Int) == ((b.length : Nat) : Int))) then
    some false
  else
    (kSamEnt_l0_it fu a b 0).bind fun o =>
    match o with
    | .inl s =>
      some true
    | .inr o1 =>
      some o1
def kSamEnt_fa : FnA := ⟨.two (.leaf) (.two (.two (.leaf) (.two (.leaf) (.leaf))) (.two (.two (.leaf) (.one (.loop ⟨[5], ⟨qL3, []⟩⟩ true [(0, ⟨[], ⟨.nil, []⟩⟩)] (.two (.two (.leaf) (.leaf)) (.two (.one (.two (.leaf) (.two (.leaf) (.leaf)))) (.leaf)))))) (.leaf))), ⟨(.cons (.p (.sl (.pair .str (.int .i64)))) (.cons (.p (.sl (.pair .str (.int .i64)))) .nil)), []⟩, [⟨(.cons (.p .bool) .nil), []⟩], [0]⟩
def kSamEnt_ft (fu : Nat) : FnT := ⟨21, kSamEnt_fa.i, kSamEnt_fa.os, fun t => kSamEnt fu t.1 t.2⟩
theorem kSamEnt_eq (fu : Nat) : ∀ t, evF Go.Proofs.Try.prog [] fu Go.Proofs.Try.f21 kSamEnt_fa t = (kSamEnt_ft fu).spec t := fun t => by kernel_rfl
theorem kSamEnt_told (fu : Nat) : Told Go.Proofs.Try.prog (kSamEnt_ft fu) := told_of allT_nil mixed Go.Proofs.Try.func21 (by kernel_rfl) (by kernel_rfl) (kSamEnt_eq fu)
def kSamIno (fu : Nat) (a : qT1) (b : qT1) : Option (Bool) :=
  bif (a.1 == b.1) then
    bif (a.2.1 == b.2.1) then
      bif (a.2.2.1 == b.2.2.1) then
        bif (a.2.2.2.1 == b.2.2.2.1) then
          bif (a.2.2.2.2.1 == b.2.2.2.2.1) then
            bif (a.2.2.2.2.2.2.1 == b.2.2.2.2.2.2.1) then
              (kSamPar fu a.2.2.2.2.2.1 b.2.2.2.2.2.1).bind fun r =>
              bif r then
                (kSamEnt fu a.2.2.2.2.2.2.2 b.2.2.2.2.2.2.2).bind fun r1 =>
                some r1
              else
                some false
            else
              some false
          else
            some false
        else
          some false
      else
        some false
    else
      some false
  else
    some false
def kSamIno_fa : FnA := ⟨.two (.reg [(0, { ids := [100] }), (1, { ids := [101] })]) (.two (.reg [(45, {  }), (52, { fn := 1 })]) (.leaf)), ⟨(.cons (.p qY0) (.cons (.p qY0) .nil)), []⟩, [⟨(.cons (.p .bool) .nil), []⟩], [0]⟩
def kSamIno_ft (fu : Nat) : FnT := ⟨35, kSamIno_fa.i, kSamIno_fa.os, fun t => kSamIno fu t.1 t.2⟩
theorem kSamIno_eq (fu : Nat) : ∀ t, evF Go.Proofs.Try.prog [kSamPar_ft fu, kSamEnt_ft fu] fu Go.Proofs.Try.f35 kSamIno_fa t = (kSamIno_ft fu).spec t := fun t => by kernel_rfl
theorem kSamIno_told (fu : Nat) : Told Go.Proofs.Try.prog (kSamIno_ft fu) := told_of (allT_cons (kSamPar_told fu) (allT_cons (kSamEnt_told fu) allT_nil)) mixed Go.Proofs.Try.func35 (by kernel_rfl) (by kernel_rfl) (kSamIno_eq fu)
def kSamTre_l0 (fu : Nat) (o : (Bool × (List (qT1) × qT32))) (x : Int) (h : List (qT1)) (h1 : Int) (h2 : List (qT1)) (h3 : Int) : Option ((Int × (List (qT1) × qT32)) ⊕ (Unit ⊕ Bool)) :=
  bif (decide (x < ((o.2.1.length : Nat) : Int))) then
    (idx? x h.length).bind fun q =>
    (h)[q]?.bind fun r =>
    (idx? x h2.length).bind fun q1 =>
    (h2)[q1]?.bind fun r1 =>
    (kSamIno fu r r1).bind fun r2 =>
    bif (!r2) then
      some (.inr (.inr false))
    else
      some (.inl ((IntKind.wrap .i64 (x + 1)), (h, (h1, (h2, h3)))))
  else
    some (.inr (.inl ()))
def kSamTre_l0_it (fu : Nat) (o : (Bool × (List (qT1) × qT32))) (tt : (Int × (List (qT1) × qT32))) : Option (Unit ⊕ Bool) :=
  iter fu (fun tt => kSamTre_l0 fu o tt.1 tt.2.1 tt.2.2.1 tt.2.2.2.1 tt.2.2.2.2) tt
def kSamTre (fu : Nat) (a : (List (qT1) × Int)) (b : (List (qT1) × Int)) : Option (Bool) :=
  Option.bind (α := ((Bool × (List (qT1) × qT32)))) (
    bif (!(a.2 == b.2)) then
      some (true, (a.1, (a.2, (b.1, b.2))))
    else
      some ((!(((a.1.length : Nat) : Int) == ((b.1.length : Nat) : Int))), (a.1, (a.2, (b.1, b.2))))) fun o =>
  bif o.1 then
    some false
  else
    (kSamTre_l0_it fu o (0, (o.2.1, (o.2.2.1, (o.2.2.2.1, o.2.2.2.2))))).bind fun o1 =>
    match o1 with
    | .inl s =>
      some true
    | .inr o2 =>
      some o2
def kSamTre_fa : FnA := ⟨.two (.reg [(0, { ids := [100] }), (1, { ids := [101] })]) (.two (.two (.join ⟨[2, 3, 19], ⟨(.cons (.own 0 100 0 0) (.cons (.own 0 101 0 0) (.cons (.p .bool) .nil))), [(100, false, qB9), (101, false, qB9)]⟩⟩ false [] (.leaf)) (.two (.leaf) (.leaf))) (.two (.two (.leaf) (.one (.loop ⟨[2, 3, 23], ⟨(.cons (.own 0 100 0 0) (.cons (.own 0 101 0 0) qL3)), [(100, false, qB9), (101, false, qB9)]⟩⟩ true [(0, ⟨[], ⟨.nil, []⟩⟩)] (.two (.leaf) (.two (.leaf) (.two (.one (.two (.leaf) (.two (.reg [(10, {  })]) (.two (.leaf) (.leaf))))) (.leaf))))))) (.leaf))), ⟨(.cons (.p qY21) (.cons (.p qY21) .nil)), []⟩, [⟨(.cons (.p .bool) .nil), []⟩], [0]⟩
def kSamTre_ft (fu : Nat) : FnT := ⟨12, kSamTre_fa.i, kSamTre_fa.os, fun t => kSamTre fu t.1 t.2⟩
theorem kSamTre_eq (fu : Nat) : ∀ t, evF Go.Proofs.Try.prog [kSamIno_ft fu] fu Go.Proofs.Try.f12 kSamTre_fa t = (kSamTre_ft fu).spec t := fun t => by kernel_rfl
theorem kSamTre_told (fu : Nat) : Told Go.Proofs.Try.prog (kSamTre_ft fu) := told_of (allT_cons (kSamIno_told fu) allT_nil) mixed Go.Proofs.Try.func12 (by kernel_rfl) (by kernel_rfl) (kSamTre_eq fu)
def law19_TreeRight_1 (fu : Nat) (was : (List (qT1) × Int)) (t : (List (qT1) × Int)) (o : qT22) (a : (Int × Int)) (b : (Int × Int)) (h : (Int × Int)) (e : Int) : Option (Bool) :=
  Option.bind (α := ((Bool × (List (qT1) × (Int × (List (qT1) × (Int × (Int × (Int × (Int × (List UInt8 × (List UInt8 × (Bool × (Int × (Int × (Int × (Int × (Int × Int)))))))))))))))))) (
    (tRig fu (t.1, t.2)).bind fun r =>
    bif (!r) then
      some (true, (was.1, (was.2, (t.1, (t.2, (o.1, (o.2.1, (o.2.2.1, (o.2.2.2.1, (o.2.2.2.2.1, (o.2.2.2.2.2, (a.1, (a.2, (b.1, (b.2, (h.1, h.2))))))))))))))))
    else
      bif (!(e == 0)) then
        (kSamTre fu (was.1, was.2) (t.1, t.2)).bind fun r1 =>
        some ((!r1), (was.1, (was.2, (t.1, (t.2, (o.1, (o.2.1, (o.2.2.1, (o.2.2.2.1, (o.2.2.2.2.1, (o.2.2.2.2.2, (a.1, (a.2, (b.1, (b.2, (h.1, h.2))))))))))))))))
      else
        some (false, (was.1, (was.2, (t.1, (t.2, (o.1, (o.2.1, (o.2.2.1, (o.2.2.2.1, (o.2.2.2.2.1, (o.2.2.2.2.2, (a.1, (a.2, (b.1, (b.2, (h.1, h.2))))))))))))))))) fun o1 =>
  bif o1.1 then
    some false
  else
    bif (!(e == 0)) then
      some true
    else
      (tLoo fu (o1.2.2.2.1, o1.2.2.2.2.1) (o1.2.2.2.2.2.2.2.2.2.2.2.1, o1.2.2.2.2.2.2.2.2.2.2.2.2.1) o1.2.2.2.2.2.2.2.2.1).bind fun r2 =>
      (kit_Pick fu o1.2.2.2.2.2.1 4).bind fun r3 =>
      bif (r3 == 0) then
        bif (r2.2.2 == 0) then
          some ((r2.1 == o1.2.2.2.2.2.2.2.2.2.2.2.2.2.2.2.1) && (r2.2.1 == o1.2.2.2.2.2.2.2.2.2.2.2.2.2.2.2.2))
        else
          some false
      else
        bif (r3 == 1) then
          (tLoo fu (o1.2.1, o1.2.2.1) (o1.2.2.2.2.2.2.2.2.2.2.2.1, o1.2.2.2.2.2.2.2.2.2.2.2.2.1) o1.2.2.2.2.2.2.2.2.1).bind fun r4 =>
          (inode_Get fu (o1.2.2.2.1, o1.2.2.2.2.1) (r4.1, r4.2.1)).bind fun r5 =>
          bif (r2.2.2 == 171) then
            bif (r4.2.2 == 0) then
              some (r5.2.2.2.2.2.2.2.2 == 170)
            else
              some false
          else
            some false
        else
          bif (r3 == 2) then
            (tLoo fu (o1.2.1, o1.2.2.1) (o1.2.2.2.2.2.2.2.2.2.2.2.1, o1.2.2.2.2.2.2.2.2.2.2.2.2.1) o1.2.2.2.2.2.2.2.2.1).bind fun r6 =>
            (tLoo fu (o1.2.2.2.1, o1.2.2.2.2.1) (o1.2.2.2.2.2.2.2.2.2.2.2.2.2.1, o1.2.2.2.2.2.2.2.2.2.2.2.2.2.2.1) o1.2.2.2.2.2.2.2.2.2.1).bind fun r7 =>
            bif (r6.2.2 == 0) then
              bif (r7.2.2 == 0) then
                bif ((r6.1 == r7.1) && (r6.2.1 == r7.2.1)) then
                  bif ((o1.2.2.2.2.2.2.2.2.2.2.2.1 == o1.2.2.2.2.2.2.2.2.2.2.2.2.2.1) && (o1.2.2.2.2.2.2.2.2.2.2.2.2.1 == o1.2.2.2.2.2.2.2.2.2.2.2.2.2.2.1)) then
                    bif (o1.2.2.2.2.2.2.2.2.1 == o1.2.2.2.2.2.2.2.2.2.1) then
                      some true
                    else
                      some (r2.2.2 == 171)
                  else
                    some (r2.2.2 == 171)
                else
                  some false
              else
                some false
            else
              some false
          else
            some true
def law19_TreeRight_1_fa : FnA := ⟨.two (.reg [(0, { ids := [100] }), (1, { ids := [101] }), (2, { ids := [102] }), (3, { ids := [103] }), (4, { ids := [104] }), (5, { ids := [105] })]) (.two (.two (.join ⟨[7, 8, 9, 10, 11, 12, 37], ⟨(.cons (.own 0 100 0 0) (.cons (.own 0 101 0 0) (.cons (.own 0 102 0 0) (.cons (.own 0 103 0 0) (.cons (.own 0 104 0 0) (.cons (.own 0 105 0 0) (.cons (.p .bool) .nil))))))), [(100, false, qB9), (101, false, qB9), (102, false, qB14), (103, false, qB12), (104, false, qB12), (105, false, qB12)]⟩⟩ false [] (.reg [(1, {  }), (9, { fn := 1 })])) (.two (.leaf) (.leaf))) (.two (.two (.leaf) (.two (.leaf) (.leaf))) (.two (.reg [(4, { fn := 2 }), (8, { ids := [106] })]) (.two (.two (.reg [(2, { fn := 3 })]) (.one (.two (.leaf) (.two (.leaf) (.two (.leaf) (.two (.two (.reg [(4, { fn := 2 }), (8, { ids := [107] })]) (.two (.reg [(2, { fn := 4 }), (6, { ids := [108] })]) (.leaf))) (.two (.leaf) (.two (.two (.reg [(4, { fn := 2 }), (8, { ids := [109] })]) (.two (.reg [(4, { fn := 2 }), (8, { ids := [110] })]) (.leaf))) (.leaf))))))))) (.leaf))))), ⟨(.cons (.p qY21) (.cons (.p qY21) (.cons (.p qY30) (.cons (.p qY6) (.cons (.p qY6) (.cons (.p qY6) qL3)))))), []⟩, [⟨(.cons (.p .bool) .nil), []⟩], [0]⟩
def law19_TreeRight_1_ft (fu : Nat) : FnT := ⟨10, law19_TreeRight_1_fa.i, law19_TreeRight_1_fa.os, fun t => law19_TreeRight_1 fu t.1 t.2.1 t.2.2.1 t.2.2.2.1 t.2.2.2.2.1 t.2.2.2.2.2.1 t.2.2.2.2.2.2⟩
theorem law19_TreeRight_1_eq (fu : Nat) : ∀ t, evF Go.Proofs.Try.prog [tRig_ft fu, kSamTre_ft fu, tLoo_ft fu, kit_Pick_ft fu, inode_Get_ft fu] fu Go.Proofs.Try.f10 law19_TreeRight_1_fa t = (law19_TreeRight_1_ft fu).spec t := fun t => by kernel_rfl
theorem law19_TreeRight_1_told (fu : Nat) : Told Go.Proofs.Try.prog (law19_TreeRight_1_ft fu) := told_of (allT_cons (tRig_told fu) (allT_cons (kSamTre_told fu) (allT_cons (tLoo_told fu) (allT_cons (kit_Pick_told fu) (allT_cons (inode_Get_told fu) allT_nil))))) mixed Go.Proofs.Try.func10 (by kernel_rfl) (by kernel_rfl) (law19_TreeRight_1_eq fu)
def law19_played_f11_l0 (fu : Nat) (l : List (qT22)) (i : Int) (h : List (qT1)) (h1 : Int) (h2 : List ((Int × Int))) : Option ((Int × qT33) ⊕ (Unit ⊕ Bool)) :=
  Option.bind (α := ((Bool × qT33))) (
    bif (decide (i < ((l.length : Nat) : Int))) then
      some ((decide (i < 40)), (h, (h1, h2)))
    else
      some (false, (h, (h1, h2)))) fun o =>
  bif o.1 then
    Option.bind (α := (qT33 ⊕ ((Int × qT33) ⊕ (Unit ⊕ Bool)))) (
      (idx? i l.length).bind fun q =>
      (l)[q]?.bind fun r2 =>
      Option.bind (α := ((Bool × (List (qT1) × (Int × (List ((Int × Int)) × qT22)))))) (
        bif (decide (((r2.2.2.2.1.length : Nat) : Int) > 40)) then
          some (true, (o.2.1, (o.2.2.1, (o.2.2.2, (r2.1, (r2.2.1, (r2.2.2.1, (r2.2.2.2.1, (r2.2.2.2.2.1, r2.2.2.2.2.2)))))))))
        else
          some ((decide (((r2.2.2.2.2.1.length : Nat) : Int) > 40)), (o.2.1, (o.2.2.1, (o.2.2.2, (r2.1, (r2.2.1, (r2.2.2.1, (r2.2.2.2.1, (r2.2.2.2.2.1, r2.2.2.2.2.2)))))))))) fun o1 =>
      bif o1.1 then
        some (.inl (o1.2.1, (o1.2.2.1, o1.2.2.2.1)))
      else
        (kit_Pick fu o1.2.2.2.2.2.1 ((o1.2.2.2.1.length : Nat) : Int)).bind fun r3 =>
        (idx? r3 o1.2.2.2.1.length).bind fun q1 =>
        (o1.2.2.2.1)[q1]?.bind fun r4 =>
        (kit_Pick fu o1.2.2.2.2.2.2.1 ((o1.2.2.2.1.length : Nat) : Int)).bind fun r5 =>
        (idx? r5 o1.2.2.2.1.length).bind fun q2 =>
        (o1.2.2.2.1)[q2]?.bind fun r6 =>
        (kit_Pick fu o1.2.2.2.2.1 4).bind fun r7 =>
        Option.bind (α := (qT15)) (
          bif (r7 == 0) then
            (tree_Make fu (o1.2.1, o1.2.2.1) (r4.1, r4.2) o1.2.2.2.2.2.2.2.1 o1.2.2.2.2.2.2.2.2.2).bind fun r8 =>
            some (r8.2.2.2.2, (o1.2.1, (o1.2.2.1, (o1.2.2.2.1, (o1.2.2.2.2.1, (o1.2.2.2.2.2.1, (o1.2.2.2.2.2.2.1, (o1.2.2.2.2.2.2.2.1, (o1.2.2.2.2.2.2.2.2.1, (o1.2.2.2.2.2.2.2.2.2, (r4.1, (r4.2, (r6.1, (r6.2, (r8.1, (r8.2.1, (r8.2.2.1, r8.2.2.2.1)))))))))))))))))
          else
            Option.bind (α := (qT15)) (
              bif (r7 == 1) then
                (tRem fu (o1.2.1, o1.2.2.1) (r4.1, r4.2) o1.2.2.2.2.2.2.2.1 o1.2.2.2.2.2.2.2.2.2).bind fun r9 =>
                some (r9.2.2.2, (o1.2.1, (o1.2.2.1, (o1.2.2.2.1, (o1.2.2.2.2.1, (o1.2.2.2.2.2.1, (o1.2.2.2.2.2.2.1, (o1.2.2.2.2.2.2.2.1, (o1.2.2.2.2.2.2.2.2.1, (o1.2.2.2.2.2.2.2.2.2, (r4.1, (r4.2, (r6.1, (r6.2, (r9.1, (r9.2.1, (0, 0)))))))))))))))))
              else
                Option.bind (α := (qT15)) (
                  bif (r7 == 2) then
                    (tRen fu (o1.2.1, o1.2.2.1) (r4.1, r4.2) o1.2.2.2.2.2.2.2.1 (r6.1, r6.2) o1.2.2.2.2.2.2.2.2.1).bind fun r10 =>
                    some (r10.2.2.2, (o1.2.1, (o1.2.2.1, (o1.2.2.2.1, (o1.2.2.2.2.1, (o1.2.2.2.2.2.1, (o1.2.2.2.2.2.2.1, (o1.2.2.2.2.2.2.2.1, (o1.2.2.2.2.2.2.2.2.1, (o1.2.2.2.2.2.2.2.2.2, (r4.1, (r4.2, (r6.1, (r6.2, (r10.1, (r10.2.1, (0, 0)))))))))))))))))
                  else
                    (tLoo fu (o1.2.1, o1.2.2.1) (r4.1, r4.2) o1.2.2.2.2.2.2.2.1).bind fun r11 =>
                    some (r11.2.2, (o1.2.1, (o1.2.2.1, (o1.2.2.2.1, (o1.2.2.2.2.1, (o1.2.2.2.2.2.1, (o1.2.2.2.2.2.2.1, (o1.2.2.2.2.2.2.2.1, (o1.2.2.2.2.2.2.2.2.1, (o1.2.2.2.2.2.2.2.2.2, (r4.1, (r4.2, (r6.1, (r6.2, (o1.2.1, (o1.2.2.1, (r11.1, r11.2.1)))))))))))))))))) fun o2 =>
                some (o2.1, (o2.2.1, (o2.2.2.1, (o2.2.2.2.1, (o2.2.2.2.2.1, (o2.2.2.2.2.2.1, (o2.2.2.2.2.2.2.1, (o2.2.2.2.2.2.2.2.1, (o2.2.2.2.2.2.2.2.2.1, (o2.2.2.2.2.2.2.2.2.2.1, (o2.2.2.2.2.2.2.2.2.2.2.1, (o2.2.2.2.2.2.2.2.2.2.2.2.1, (o2.2.2.2.2.2.2.2.2.2.2.2.2.1, (o2.2.2.2.2.2.2.2.2.2.2.2.2.2.1, (o2.2.2.2.2.2.2.2.2.2.2.2.2.2.2.1, (o2.2.2.2.2.2.2.2.2.2.2.2.2.2.2.2.1, (o2.2.2.2.2.2.2.2.2.2.2.2.2.2.2.2.2.1, o2.2.2.2.2.2.2.2.2.2.2.2.2.2.2.2.2.2)))))))))))))))))) fun o3 =>
            some (o3.1, (o3.2.1, (o3.2.2.1, (o3.2.2.2.1, (o3.2.2.2.2.1, (o3.2.2.2.2.2.1, (o3.2.2.2.2.2.2.1, (o3.2.2.2.2.2.2.2.1, (o3.2.2.2.2.2.2.2.2.1, (o3.2.2.2.2.2.2.2.2.2.1, (o3.2.2.2.2.2.2.2.2.2.2.1, (o3.2.2.2.2.2.2.2.2.2.2.2.1, (o3.2.2.2.2.2.2.2.2.2.2.2.2.1, (o3.2.2.2.2.2.2.2.2.2.2.2.2.2.1, (o3.2.2.2.2.2.2.2.2.2.2.2.2.2.2.1, (o3.2.2.2.2.2.2.2.2.2.2.2.2.2.2.2.1, (o3.2.2.2.2.2.2.2.2.2.2.2.2.2.2.2.2.1, o3.2.2.2.2.2.2.2.2.2.2.2.2.2.2.2.2.2)))))))))))))))))) fun o4 =>
        (law19_TreeRight_1 fu (o4.2.1, o4.2.2.1) (o4.2.2.2.2.2.2.2.2.2.2.2.2.2.2.1, o4.2.2.2.2.2.2.2.2.2.2.2.2.2.2.2.1) (o4.2.2.2.2.1, (o4.2.2.2.2.2.1, (o4.2.2.2.2.2.2.1, (o4.2.2.2.2.2.2.2.1, (o4.2.2.2.2.2.2.2.2.1, o4.2.2.2.2.2.2.2.2.2.1))))) (o4.2.2.2.2.2.2.2.2.2.2.1, o4.2.2.2.2.2.2.2.2.2.2.2.1) (o4.2.2.2.2.2.2.2.2.2.2.2.2.1, o4.2.2.2.2.2.2.2.2.2.2.2.2.2.1) (o4.2.2.2.2.2.2.2.2.2.2.2.2.2.2.2.2.1, o4.2.2.2.2.2.2.2.2.2.2.2.2.2.2.2.2.2) o4.1).bind fun r12 =>
        bif (!r12) then
          some (.inr (.inr (.inr false)))
        else
          Option.bind (α := ((Bool × (List (qT1) × (Int × (List ((Int × Int)) × (List (qT1) × (Int × (Int × Int))))))))) (
            bif (o4.1 == 0) then
              some ((decide (o4.2.2.2.2.2.2.2.2.2.2.2.2.2.2.2.2.1 > 0)), (o4.2.1, (o4.2.2.1, (o4.2.2.2.1, (o4.2.2.2.2.2.2.2.2.2.2.2.2.2.2.1, (o4.2.2.2.2.2.2.2.2.2.2.2.2.2.2.2.1, (o4.2.2.2.2.2.2.2.2.2.2.2.2.2.2.2.2.1, o4.2.2.2.2.2.2.2.2.2.2.2.2.2.2.2.2.2)))))))
            else
              some (false, (o4.2.1, (o4.2.2.1, (o4.2.2.2.1, (o4.2.2.2.2.2.2.2.2.2.2.2.2.2.2.1, (o4.2.2.2.2.2.2.2.2.2.2.2.2.2.2.2.1, (o4.2.2.2.2.2.2.2.2.2.2.2.2.2.2.2.2.1, o4.2.2.2.2.2.2.2.2.2.2.2.2.2.2.2.2.2)))))))) fun o5 =>
          Option.bind (α := ((List (qT1) × (Int × (List ((Int × Int)) × (List (qT1) × Int)))))) (
            bif o5.1 then
              need ((Nat.ble ((o5.2.2.2.1.length + 1) * 16) room) && (Nat.ble (o5.2.2.2.1.length + 1) room)) <|
              some (o5.2.1, (o5.2.2.1, ((o5.2.2.2.1 ++ [(o5.2.2.2.2.2.2.1, o5.2.2.2.2.2.2.2)]), (o5.2.2.2.2.1, o5.2.2.2.2.2.1))))
            else
              some (o5.2.1, (o5.2.2.1, (o5.2.2.2.1, (o5.2.2.2.2.1, o5.2.2.2.2.2.1))))) fun o6 =>
          some (.inl (o6.2.2.2.1, (o6.2.2.2.2, o6.2.2.1)))) fun o7 =>
    match o7 with
    | .inl s =>
      some (.inl ((IntKind.wrap .i64 (i + 1)), (s.1, (s.2.1, s.2.2))))
    | .inr o8 =>
      some o8
  else
    some (.inr (.inl ()))
def law19_played_f11_l0_it (fu : Nat) (l : List (qT22)) (tt : (Int × qT33)) : Option (Unit ⊕ Bool) :=
  iter fu (fun tt => law19_played_f11_l0 fu l tt.1 tt.2.1 tt.2.2.1 tt.2.2.2) tt
def law19_played_f11 (fu : Nat) (l : List (qT22)) : Option (Bool) :=
  (inode_New fu).bind fun r =>
  (law19_root fu).bind fun r1 =>
  (law19_played_f11_l0_it fu l (0, (r.2, (r.1, [(r1.1, r1.2)])))).bind fun o9 =>
  match o9 with
  | .inl s1 =>
    some true
  | .inr o10 =>
    some o10
def law19_played_f11_fa : FnA := ⟨.two (.leaf) (.two (.reg [(0, { ids := [100] }), (1, { ids := [101] })]) (.two (.reg [(0, { fn := 1 }), (1, { ids := [102] })]) (.two (.two (.leaf) (.one (.pre (.pureCell 101 0) (.loop ⟨[5, 6, 7], ⟨(.cons (.own 0 101 0 0) (.cons (.slf 2 102) qL3)), [(101, false, qB9), (102, false, (.rows 30 qY6))]⟩⟩ true [(0, ⟨[], ⟨.nil, []⟩⟩)] (.two (.two (.join ⟨[5, 6, 24], ⟨(.cons (.own 0 101 0 0) (.cons (.slf 2 102) (.cons (.p .bool) .nil))), [(101, false, qB9), (102, false, (.rows 30 qY6))]⟩⟩ false [] (.leaf)) (.leaf)) (.two (.join ⟨[5, 6], ⟨(.cons (.own 0 101 0 0) (.cons (.slf 2 102) .nil)), [(101, false, qB9), (102, false, (.rows 30 qY6))]⟩⟩ true [] (.one (.two (.reg [(4, { ids := [103] })]) (.two (.two (.join ⟨[5, 6, 8, 40], ⟨(.cons (.own 0 101 0 0) (.cons (.slf 2 102) (.cons (.own 0 103 0 0) (.cons (.p .bool) .nil)))), [(101, false, qB9), (102, false, (.rows 30 qY6)), (103, false, qB14)]⟩⟩ false [] (.leaf)) (.leaf)) (.two (.reg [(5, { fn := 2 }), (13, { fn := 2 }), (16, { ids := [104] }), (17, { ids := [105] })]) (.two (.reg [(0, { ids := [106] })]) (.two (.reg [(0, { ids := [107] })]) (.two (.leaf) (.two (.two (.reg [(2, { fn := 2 })]) (.one (.two (.leaf) (.join ⟨[5, 6, 8, 9, 10, 11, 12, 13], ⟨qL17, [(101, false, qB9), (102, false, (.rows 30 qY6)), (103, false, qB14), (104, false, qB12), (105, false, qB12), (106, false, qB9), (107, false, qB12)]⟩⟩ false [] (.two (.reg [(6, { fn := 3 })]) (.two (.leaf) (.join ⟨[5, 6, 8, 9, 10, 11, 12, 13], ⟨qL17, [(101, false, qB9), (102, false, (.rows 30 qY6)), (103, false, qB14), (104, false, qB12), (105, false, qB12), (106, false, qB9), (107, false, qB12)]⟩⟩ false [] (.two (.reg [(6, { fn := 4 })]) (.two (.leaf) (.join ⟨[5, 6, 8, 9, 10, 11, 12, 13], ⟨qL17, [(101, false, qB9), (102, false, (.rows 30 qY6)), (103, false, qB14), (104, false, qB12), (105, false, qB12), (106, false, qB9), (107, false, qB12)]⟩⟩ false [] (.two (.reg [(7, { fn := 5 })]) (.two (.leaf) (.reg [(4, { fn := 6 })]))))))))))))) (.two (.two (.reg [(8, { fn := 7 })]) (.two (.leaf) (.leaf))) (.two (.two (.join ⟨[5, 6, 11, 12, 125], ⟨(.cons (.own 0 101 0 0) (.cons (.slf 2 102) (.cons (.own 0 106 0 0) (.cons (.own 0 107 0 0) (.cons (.p .bool) .nil))))), [(101, false, qB9), (102, false, (.rows 30 qY6)), (106, false, qB9), (107, false, qB12)]⟩⟩ false [] (.leaf)) (.join ⟨[5, 6, 11], ⟨(.cons (.own 0 101 0 0) (.cons (.slf 2 109) (.cons (.own 0 106 0 0) .nil))), [(101, false, qB9), (109, false, (.rows 30 qY6)), (106, false, qB9)]⟩⟩ false [] (.two (.reg [(2, { ids := [108] }), (3, { ids := [109] })]) (.leaf)))) (.leaf)))))))))))) (.leaf))))))) (.leaf)))), ⟨(.cons (.p (.sl qY30)) (.cons (.fn 10 .nil .nil) .nil)), []⟩, [⟨(.cons (.p .bool) .nil), []⟩], [0]⟩
def law19_played_f11_ft (fu : Nat) : FnT := ⟨9, law19_played_f11_fa.i, law19_played_f11_fa.os, fun t => law19_played_f11 fu t⟩
theorem law19_played_f11_eq (fu : Nat) : ∀ t, evF Go.Proofs.Try.prog [inode_New_ft fu, law19_root_ft fu, kit_Pick_ft fu, tree_Make_ft fu, tRem_ft fu, tRen_ft fu, tLoo_ft fu, law19_TreeRight_1_ft fu] fu Go.Proofs.Try.f9 law19_played_f11_fa t = (law19_played_f11_ft fu).spec t := fun t => by kernel_rfl
theorem law19_played_f11_told (fu : Nat) : Told Go.Proofs.Try.prog (law19_played_f11_ft fu) := told_of (allT_cons (inode_New_told fu) (allT_cons (law19_root_told fu) (allT_cons (kit_Pick_told fu) (allT_cons (tree_Make_told fu) (allT_cons (tRem_told fu) (allT_cons (tRen_told fu) (allT_cons (tLoo_told fu) (allT_cons (law19_TreeRight_1_told fu) allT_nil)))))))) mixed Go.Proofs.Try.func9 (by kernel_rfl) (by kernel_rfl) (law19_played_f11_eq fu)
def tree_List (fu : Nat) (t : (List (qT1) × Int)) (dir : (Int × Int)) (after : List UInt8) (most : Int) : Option ((Bool × (Int × List ((List UInt8 × Int))))) :=
  (task fu (t.1, t.2) [(dir.1, dir.2)]).bind fun r =>
  bif (!(r.1 == 0)) then
    some (false, (r.1, []))
  else
    Option.bind (α := ((Bool × List (qT1)))) (
      bif (decide (most < 0)) then
        some (true, r.2)
      else
        some ((decide (most > 4096)), r.2)) fun o =>
    bif o.1 then
      some (false, (2, []))
    else
      (idx? 0 o.2.length).bind fun q =>
      (o.2)[q]?.bind fun r1 =>
      (tent fu r1 after).bind fun r2 =>
      Option.bind (α := ((Int × List (qT1)))) (
        bif r2.2 then
          some ((IntKind.wrap .i64 (r2.1 + 1)), o.2)
        else
          some (r2.1, o.2)) fun o1 =>
      (idx? 0 o1.2.length).bind fun q1 =>
      (o1.2)[q1]?.bind fun r3 =>
      (upto? o1.1 r3.2.2.2.2.2.2.2.length).bind fun q2 =>
      (upto? (if most < (((List.drop q2 r3.2.2.2.2.2.2.2).length : Nat) : Int) then most else (((List.drop q2 r3.2.2.2.2.2.2.2).length : Nat) : Int)) (List.drop q2 r3.2.2.2.2.2.2.2).length).bind fun q3 =>
      (sClo2 fu (List.take q3 (List.drop q2 r3.2.2.2.2.2.2.2))).bind fun r4 =>
      some ((decide ((((List.drop q2 r3.2.2.2.2.2.2.2).length : Nat) : Int) > most)), (0, r4))
def tree_List_fa : FnA := ⟨.two (.reg [(0, { ids := [100] }), (1, { ids := [101] })]) (.two (.reg [(2, { ids := [102] }), (3, { ids := [103], md := [0, 1] })]) (.two (.one (.two (.leaf) (.two (.leaf) (.two (.join ⟨[11, 27], ⟨(.cons (.slf 8 103) (.cons (.p .bool) .nil)), [(103, false, (.rows 40 qY0))]⟩⟩ false [] (.leaf)) (.two (.leaf) (.leaf)))))) (.two (.reg [(4, { fn := 1 })]) (.two (.two (.leaf) (.join ⟨[11, 13], ⟨(.cons (.slf 8 103) qL3), [(103, false, (.rows 40 qY0))]⟩⟩ false [] (.leaf))) (.two (.leaf) (.two (.reg [(6, { ids := [104], fn := 2 })]) (.leaf))))))), ⟨(.cons (.p qY21) (.cons (.p qY6) (.cons (.p .str) qL3))), []⟩, [⟨(.cons (.slf 2 0) (.cons (.p .bool) qL3)), [(0, false, qB20)]⟩], [69, 0, 0]⟩
def tree_List_ft (fu : Nat) : FnT := ⟨25, tree_List_fa.i, tree_List_fa.os, fun t => tree_List fu t.1 t.2.1 t.2.2.1 t.2.2.2⟩
theorem tree_List_eq (fu : Nat) : ∀ t, evF Go.Proofs.Try.prog [task_ft fu, tent_ft fu, sClo2_ft fu] fu Go.Proofs.Try.f25 tree_List_fa t = (tree_List_ft fu).spec t := fun t => by kernel_rfl
theorem tree_List_told (fu : Nat) : Told Go.Proofs.Try.prog (tree_List_ft fu) := told_of (allT_cons (task_told fu) (allT_cons (tent_told fu) (allT_cons (sClo2_told fu) allT_nil))) mixed Go.Proofs.Try.func25 (by kernel_rfl) (by kernel_rfl) (tree_List_eq fu)
def law19_TreeLists_1_l0 (fu : Nat) (after : List UInt8) (x : Int) (h2 : Int) (h3 : List (qT1)) (h4 : Int) (h5 : Int) (h6 : Int) (h7 : Int) (h8 : Int) (h9 : Bool) (h10 : Bool) (h11 : Int) (h12 : List ((Int × Int))) (h13 : Int) (h14 : List ((List UInt8 × Int))) (h15 : List ((List UInt8 × Int))) : Option ((List UInt8 × (Int × (Int × (List (qT1) × (Int × (Int × qT29)))))) ⊕ (qT29 ⊕ (Bool × Int))) :=
  bif (decide (x < 120)) then
    (tree_List fu (h3, h4) (h5, h6) after (IntKind.wrap .i64 (1 + (IntKind.wrap .i64 (Int.tmod h2 3))))).bind fun r1 =>
    Option.bind (α := ((Bool × (Int × (List (qT1) × (Int × (Int × (Int × (Int × (Int × (Bool × (Bool × (Int × (List ((Int × Int)) × (Int × (List ((List UInt8 × Int)) × (List ((List UInt8 × Int)) × List ((List UInt8 × Int))))))))))))))))))) (
      bif (!(r1.2.1 == 0)) then
        some (true, (h2, (h3, (h4, (h5, (h6, (h7, (h8, (h9, (h10, (h11, (h12, (h13, (h14, (h15, r1.2.2)))))))))))))))
      else
        bif r1.1 then
          some ((!(((r1.2.2.length : Nat) : Int) == (IntKind.wrap .i64 (1 + (IntKind.wrap .i64 (Int.tmod h2 3)))))), (h2, (h3, (h4, (h5, (h6, (h7, (h8, (h9, (h10, (h11, (h12, (h13, (h14, (h15, r1.2.2)))))))))))))))
        else
          some (false, (h2, (h3, (h4, (h5, (h6, (h7, (h8, (h9, (h10, (h11, (h12, (h13, (h14, (h15, r1.2.2)))))))))))))))) fun o2 =>
    bif o2.1 then
      some (.inr (.inr (false, o2.2.1)))
    else
      need ((Nat.ble ((o2.2.2.2.2.2.2.2.2.2.2.2.2.2.2.1.length + o2.2.2.2.2.2.2.2.2.2.2.2.2.2.2.2.length) * 24) room) && (Nat.ble (o2.2.2.2.2.2.2.2.2.2.2.2.2.2.2.1.length + o2.2.2.2.2.2.2.2.2.2.2.2.2.2.2.2.length) room)) <|
      bif (!r1.1) then
        some (.inr (.inl (o2.2.1, (o2.2.2.2.2.2.2.1, (o2.2.2.2.2.2.2.2.1, (o2.2.2.2.2.2.2.2.2.1, (o2.2.2.2.2.2.2.2.2.2.1, (o2.2.2.2.2.2.2.2.2.2.2.1, (o2.2.2.2.2.2.2.2.2.2.2.2.1, (o2.2.2.2.2.2.2.2.2.2.2.2.2.1, (o2.2.2.2.2.2.2.2.2.2.2.2.2.2.1, (o2.2.2.2.2.2.2.2.2.2.2.2.2.2.2.1 ++ o2.2.2.2.2.2.2.2.2.2.2.2.2.2.2.2))))))))))))
      else
        (idx? (IntKind.wrap .i64 (((o2.2.2.2.2.2.2.2.2.2.2.2.2.2.2.2.length : Nat) : Int) - 1)) o2.2.2.2.2.2.2.2.2.2.2.2.2.2.2.2.length).bind fun q =>
        (o2.2.2.2.2.2.2.2.2.2.2.2.2.2.2.2)[q]?.bind fun r2 =>
        some (.inl (r2.1, ((IntKind.wrap .i64 (x + 1)), (o2.2.1, (o2.2.2.1, (o2.2.2.2.1, (o2.2.2.2.2.1, (o2.2.2.2.2.2.1, (o2.2.2.2.2.2.2.1, (o2.2.2.2.2.2.2.2.1, (o2.2.2.2.2.2.2.2.2.1, (o2.2.2.2.2.2.2.2.2.2.1, (o2.2.2.2.2.2.2.2.2.2.2.1, (o2.2.2.2.2.2.2.2.2.2.2.2.1, (o2.2.2.2.2.2.2.2.2.2.2.2.2.1, (o2.2.2.2.2.2.2.2.2.2.2.2.2.2.1, (o2.2.2.2.2.2.2.2.2.2.2.2.2.2.2.1 ++ o2.2.2.2.2.2.2.2.2.2.2.2.2.2.2.2)))))))))))))))))
  else
    some (.inr (.inl (h2, (h7, (h8, (h9, (h10, (h11, (h12, (h13, (h14, h15)))))))))))
def law19_TreeLists_1_l0_it (fu : Nat)  (tt : (List UInt8 × (Int × (Int × (List (qT1) × (Int × (Int × qT29))))))) : Option (qT29 ⊕ (Bool × Int)) :=
  iter fu (fun tt => law19_TreeLists_1_l0 fu tt.1 tt.2.1 tt.2.2.1 tt.2.2.2.1 tt.2.2.2.2.1 tt.2.2.2.2.2.1 tt.2.2.2.2.2.2.1 tt.2.2.2.2.2.2.2.1 tt.2.2.2.2.2.2.2.2.1 tt.2.2.2.2.2.2.2.2.2.1 tt.2.2.2.2.2.2.2.2.2.2.1 tt.2.2.2.2.2.2.2.2.2.2.2.1 tt.2.2.2.2.2.2.2.2.2.2.2.2.1 tt.2.2.2.2.2.2.2.2.2.2.2.2.2.1 tt.2.2.2.2.2.2.2.2.2.2.2.2.2.2.1 tt.2.2.2.2.2.2.2.2.2.2.2.2.2.2.2) tt
def law19_TreeLists_1 (fu : Nat) (was : (List (qT1) × Int)) (t : (List (qT1) × Int)) (o : qT22) (a : (Int × Int)) (b : (Int × Int)) (h : (Int × Int)) (e : Int) (h1 : Int) : Option ((Bool × Int)) :=
  (inode_Get fu (t.1, t.2) (a.1, a.2)).bind fun r =>
  Option.bind (α := ((Bool × (Int × (List (qT1) × (Int × (Int × (Int × qT1)))))))) (
    bif (!(r.2.2.2.2.2.2.2.2 == 0)) then
      some (true, (h1, (t.1, (t.2, (a.1, (a.2, (r.1, (r.2.1, (r.2.2.1, (r.2.2.2.1, (r.2.2.2.2.1, (r.2.2.2.2.2.1, (r.2.2.2.2.2.2.1, r.2.2.2.2.2.2.2.1)))))))))))))
    else
      some ((!r.2.2.2.1), (h1, (t.1, (t.2, (a.1, (a.2, (r.1, (r.2.1, (r.2.2.1, (r.2.2.2.1, (r.2.2.2.2.1, (r.2.2.2.2.2.1, (r.2.2.2.2.2.2.1, r.2.2.2.2.2.2.2.1)))))))))))))) fun o1 =>
  bif o1.1 then
    some (true, o1.2.1)
  else
    (law19_TreeLists_1_l0_it fu  ([], (0, (o1.2.1, (o1.2.2.1, (o1.2.2.2.1, (o1.2.2.2.2.1, (o1.2.2.2.2.2.1, (o1.2.2.2.2.2.2.1, (o1.2.2.2.2.2.2.2.1, (o1.2.2.2.2.2.2.2.2.1, (o1.2.2.2.2.2.2.2.2.2.1, (o1.2.2.2.2.2.2.2.2.2.2.1, (o1.2.2.2.2.2.2.2.2.2.2.2.1, (o1.2.2.2.2.2.2.2.2.2.2.2.2.1, (o1.2.2.2.2.2.2.2.2.2.2.2.2.2, [])))))))))))))))).bind fun o3 =>
    match o3 with
    | .inl s =>
      (kSamEnt fu s.2.2.2.2.2.2.2.2.2 s.2.2.2.2.2.2.2.2.1).bind fun r3 =>
      some (r3, s.1)
    | .inr o4 =>
      some o4
def law19_TreeLists_1_fa : FnA := ⟨.two (.reg [(0, { ids := [100] }), (1, { ids := [101] }), (2, { ids := [102] }), (3, { ids := [103] }), (4, { ids := [104] }), (5, { ids := [105] })]) (.two (.reg [(2, {  }), (6, { ids := [106] })]) (.two (.two (.join ⟨[7, 9, 11, 16, 35], ⟨(.cons (.own 0 0 0 0) (.cons (.own 0 101 0 0) (.cons (.own 0 103 0 0) (.cons (.own 0 106 0 0) (.cons (.p .bool) .nil))))), [(0, false, qB23), (101, false, qB9), (103, false, qB12), (106, false, (.vars qL5))]⟩⟩ false [] (.leaf)) (.two (.leaf) (.leaf))) (.two (.leaf) (.two (.leaf) (.two (.two (.leaf) (.one (.pre (.ownNil 18 59 107) (.loop ⟨[7, 9, 11, 16, 18, 19, 36], ⟨(.cons (.own 0 0 0 0) (.cons (.own 0 101 0 0) (.cons (.own 0 103 0 0) (.cons (.own 0 106 0 0) (.cons (.slf 2 107) (.cons (.p .str) qL3)))))), [(0, false, qB23), (101, false, qB9), (103, false, qB12), (106, false, (.vars qL5)), (107, false, qB20)]⟩⟩ true [(0, ⟨[7, 16, 18], ⟨(.cons (.own 0 0 0 0) (.cons (.own 0 106 0 0) (.cons (.slf 2 109) .nil))), [(0, false, qB23), (106, false, (.vars qL5)), (109, false, qB20)]⟩⟩)] (.two (.leaf) (.two (.leaf) (.two (.one (.two (.reg [(7, { ids := [108], fn := 1 })]) (.two (.two (.join ⟨[7, 9, 11, 16, 18, 20, 63], ⟨(.cons (.own 0 0 0 0) (.cons (.own 0 101 0 0) (.cons (.own 0 103 0 0) (.cons (.own 0 106 0 0) (.cons (.slf 2 107) (.cons (.slf 2 108) (.cons (.p .bool) .nil))))))), [(0, false, qB23), (101, false, qB9), (103, false, qB12), (106, false, (.vars qL5)), (107, false, qB20), (108, false, qB20)]⟩⟩ false [] (.leaf)) (.two (.leaf) (.leaf))) (.two (.reg [(2, { ids := [109] })]) (.two (.two (.leaf) (.leaf)) (.leaf)))))) (.leaf)))))))) (.two (.reg [(3, { md := [2, 0], fn := 2 })]) (.leaf))))))), ⟨(.cons (.p qY21) (.cons (.p qY21) (.cons (.p qY30) (.cons (.p qY6) (.cons (.p qY6) (.cons (.p qY6) (.cons (.p (.int .i64)) (.cons (.own 0 0 0 0) .nil)))))))), [(0, false, qB23)]⟩, [⟨(.cons (.p .bool) .nil), [(0, false, qB23)]⟩], [0]⟩
def law19_TreeLists_1_ft (fu : Nat) : FnT := ⟨24, law19_TreeLists_1_fa.i, law19_TreeLists_1_fa.os, fun t => law19_TreeLists_1 fu t.1 t.2.1 t.2.2.1 t.2.2.2.1 t.2.2.2.2.1 t.2.2.2.2.2.1 t.2.2.2.2.2.2.1 t.2.2.2.2.2.2.2⟩
theorem law19_TreeLists_1_eq (fu : Nat) : ∀ t, evF Go.Proofs.Try.prog [inode_Get_ft fu, tree_List_ft fu, kSamEnt_ft fu] fu Go.Proofs.Try.f24 law19_TreeLists_1_fa t = (law19_TreeLists_1_ft fu).spec t := fun t => by kernel_rfl
theorem law19_TreeLists_1_told (fu : Nat) : Told Go.Proofs.Try.prog (law19_TreeLists_1_ft fu) := told_of (allT_cons (inode_Get_told fu) (allT_cons (tree_List_told fu) (allT_cons (kSamEnt_told fu) allT_nil))) mixed Go.Proofs.Try.func24 (by kernel_rfl) (by kernel_rfl) (law19_TreeLists_1_eq fu)
def law19_played_f11_v2_l0 (fu : Nat) (l : List (qT22)) (i : Int) (h1 : Int) (h2 : List (qT1)) (h3 : Int) (h4 : List ((Int × Int))) : Option ((Int × (Int × qT33)) ⊕ (Int ⊕ (Bool × Int))) :=
  Option.bind (α := ((Bool × (Int × qT33)))) (
    bif (decide (i < ((l.length : Nat) : Int))) then
      some ((decide (i < 40)), (h1, (h2, (h3, h4))))
    else
      some (false, (h1, (h2, (h3, h4))))) fun o =>
  bif o.1 then
    Option.bind (α := ((Int × qT33) ⊕ ((Int × (Int × qT33)) ⊕ (Int ⊕ (Bool × Int))))) (
      (idx? i l.length).bind fun q =>
      (l)[q]?.bind fun r2 =>
      Option.bind (α := ((Bool × (Int × (List (qT1) × (Int × (List ((Int × Int)) × qT22))))))) (
        bif (decide (((r2.2.2.2.1.length : Nat) : Int) > 40)) then
          some (true, (o.2.1, (o.2.2.1, (o.2.2.2.1, (o.2.2.2.2, (r2.1, (r2.2.1, (r2.2.2.1, (r2.2.2.2.1, (r2.2.2.2.2.1, r2.2.2.2.2.2))))))))))
        else
          some ((decide (((r2.2.2.2.2.1.length : Nat) : Int) > 40)), (o.2.1, (o.2.2.1, (o.2.2.2.1, (o.2.2.2.2, (r2.1, (r2.2.1, (r2.2.2.1, (r2.2.2.2.1, (r2.2.2.2.2.1, r2.2.2.2.2.2))))))))))) fun o1 =>
      bif o1.1 then
        some (.inl (o1.2.1, (o1.2.2.1, (o1.2.2.2.1, o1.2.2.2.2.1))))
      else
        (kit_Pick fu o1.2.2.2.2.2.2.1 ((o1.2.2.2.2.1.length : Nat) : Int)).bind fun r3 =>
        (idx? r3 o1.2.2.2.2.1.length).bind fun q1 =>
        (o1.2.2.2.2.1)[q1]?.bind fun r4 =>
        (kit_Pick fu o1.2.2.2.2.2.2.2.1 ((o1.2.2.2.2.1.length : Nat) : Int)).bind fun r5 =>
        (idx? r5 o1.2.2.2.2.1.length).bind fun q2 =>
        (o1.2.2.2.2.1)[q2]?.bind fun r6 =>
        (kit_Pick fu o1.2.2.2.2.2.1 4).bind fun r7 =>
        Option.bind (α := ((Int × qT15))) (
          bif (r7 == 0) then
            (tree_Make fu (o1.2.2.1, o1.2.2.2.1) (r4.1, r4.2) o1.2.2.2.2.2.2.2.2.1 o1.2.2.2.2.2.2.2.2.2.2).bind fun r8 =>
            some (r8.2.2.2.2, (o1.2.1, (o1.2.2.1, (o1.2.2.2.1, (o1.2.2.2.2.1, (o1.2.2.2.2.2.1, (o1.2.2.2.2.2.2.1, (o1.2.2.2.2.2.2.2.1, (o1.2.2.2.2.2.2.2.2.1, (o1.2.2.2.2.2.2.2.2.2.1, (o1.2.2.2.2.2.2.2.2.2.2, (r4.1, (r4.2, (r6.1, (r6.2, (r8.1, (r8.2.1, (r8.2.2.1, r8.2.2.2.1))))))))))))))))))
          else
            Option.bind (α := ((Int × qT15))) (
              bif (r7 == 1) then
                (tRem fu (o1.2.2.1, o1.2.2.2.1) (r4.1, r4.2) o1.2.2.2.2.2.2.2.2.1 o1.2.2.2.2.2.2.2.2.2.2).bind fun r9 =>
                some (r9.2.2.2, (o1.2.1, (o1.2.2.1, (o1.2.2.2.1, (o1.2.2.2.2.1, (o1.2.2.2.2.2.1, (o1.2.2.2.2.2.2.1, (o1.2.2.2.2.2.2.2.1, (o1.2.2.2.2.2.2.2.2.1, (o1.2.2.2.2.2.2.2.2.2.1, (o1.2.2.2.2.2.2.2.2.2.2, (r4.1, (r4.2, (r6.1, (r6.2, (r9.1, (r9.2.1, (0, 0))))))))))))))))))
              else
                Option.bind (α := ((Int × qT15))) (
                  bif (r7 == 2) then
                    (tRen fu (o1.2.2.1, o1.2.2.2.1) (r4.1, r4.2) o1.2.2.2.2.2.2.2.2.1 (r6.1, r6.2) o1.2.2.2.2.2.2.2.2.2.1).bind fun r10 =>
                    some (r10.2.2.2, (o1.2.1, (o1.2.2.1, (o1.2.2.2.1, (o1.2.2.2.2.1, (o1.2.2.2.2.2.1, (o1.2.2.2.2.2.2.1, (o1.2.2.2.2.2.2.2.1, (o1.2.2.2.2.2.2.2.2.1, (o1.2.2.2.2.2.2.2.2.2.1, (o1.2.2.2.2.2.2.2.2.2.2, (r4.1, (r4.2, (r6.1, (r6.2, (r10.1, (r10.2.1, (0, 0))))))))))))))))))
                  else
                    (tLoo fu (o1.2.2.1, o1.2.2.2.1) (r4.1, r4.2) o1.2.2.2.2.2.2.2.2.1).bind fun r11 =>
                    some (r11.2.2, (o1.2.1, (o1.2.2.1, (o1.2.2.2.1, (o1.2.2.2.2.1, (o1.2.2.2.2.2.1, (o1.2.2.2.2.2.2.1, (o1.2.2.2.2.2.2.2.1, (o1.2.2.2.2.2.2.2.2.1, (o1.2.2.2.2.2.2.2.2.2.1, (o1.2.2.2.2.2.2.2.2.2.2, (r4.1, (r4.2, (r6.1, (r6.2, (o1.2.2.1, (o1.2.2.2.1, (r11.1, r11.2.1))))))))))))))))))) fun o2 =>
                some (o2.1, (o2.2.1, (o2.2.2.1, (o2.2.2.2.1, (o2.2.2.2.2.1, (o2.2.2.2.2.2.1, (o2.2.2.2.2.2.2.1, (o2.2.2.2.2.2.2.2.1, (o2.2.2.2.2.2.2.2.2.1, (o2.2.2.2.2.2.2.2.2.2.1, (o2.2.2.2.2.2.2.2.2.2.2.1, (o2.2.2.2.2.2.2.2.2.2.2.2.1, (o2.2.2.2.2.2.2.2.2.2.2.2.2.1, (o2.2.2.2.2.2.2.2.2.2.2.2.2.2.1, (o2.2.2.2.2.2.2.2.2.2.2.2.2.2.2.1, (o2.2.2.2.2.2.2.2.2.2.2.2.2.2.2.2.1, (o2.2.2.2.2.2.2.2.2.2.2.2.2.2.2.2.2.1, (o2.2.2.2.2.2.2.2.2.2.2.2.2.2.2.2.2.2.1, o2.2.2.2.2.2.2.2.2.2.2.2.2.2.2.2.2.2.2))))))))))))))))))) fun o3 =>
            some (o3.1, (o3.2.1, (o3.2.2.1, (o3.2.2.2.1, (o3.2.2.2.2.1, (o3.2.2.2.2.2.1, (o3.2.2.2.2.2.2.1, (o3.2.2.2.2.2.2.2.1, (o3.2.2.2.2.2.2.2.2.1, (o3.2.2.2.2.2.2.2.2.2.1, (o3.2.2.2.2.2.2.2.2.2.2.1, (o3.2.2.2.2.2.2.2.2.2.2.2.1, (o3.2.2.2.2.2.2.2.2.2.2.2.2.1, (o3.2.2.2.2.2.2.2.2.2.2.2.2.2.1, (o3.2.2.2.2.2.2.2.2.2.2.2.2.2.2.1, (o3.2.2.2.2.2.2.2.2.2.2.2.2.2.2.2.1, (o3.2.2.2.2.2.2.2.2.2.2.2.2.2.2.2.2.1, (o3.2.2.2.2.2.2.2.2.2.2.2.2.2.2.2.2.2.1, o3.2.2.2.2.2.2.2.2.2.2.2.2.2.2.2.2.2.2))))))))))))))))))) fun o4 =>
        (law19_TreeLists_1 fu (o4.2.2.1, o4.2.2.2.1) (o4.2.2.2.2.2.2.2.2.2.2.2.2.2.2.2.1, o4.2.2.2.2.2.2.2.2.2.2.2.2.2.2.2.2.1) (o4.2.2.2.2.2.1, (o4.2.2.2.2.2.2.1, (o4.2.2.2.2.2.2.2.1, (o4.2.2.2.2.2.2.2.2.1, (o4.2.2.2.2.2.2.2.2.2.1, o4.2.2.2.2.2.2.2.2.2.2.1))))) (o4.2.2.2.2.2.2.2.2.2.2.2.1, o4.2.2.2.2.2.2.2.2.2.2.2.2.1) (o4.2.2.2.2.2.2.2.2.2.2.2.2.2.1, o4.2.2.2.2.2.2.2.2.2.2.2.2.2.2.1) (o4.2.2.2.2.2.2.2.2.2.2.2.2.2.2.2.2.2.1, o4.2.2.2.2.2.2.2.2.2.2.2.2.2.2.2.2.2.2) o4.1 o4.2.1).bind fun r12 =>
        bif (!r12.1) then
          some (.inr (.inr (.inr (false, r12.2))))
        else
          Option.bind (α := ((Bool × (Int × (List (qT1) × (Int × (List ((Int × Int)) × (List (qT1) × (Int × (Int × Int)))))))))) (
            bif (o4.1 == 0) then
              some ((decide (o4.2.2.2.2.2.2.2.2.2.2.2.2.2.2.2.2.2.1 > 0)), (r12.2, (o4.2.2.1, (o4.2.2.2.1, (o4.2.2.2.2.1, (o4.2.2.2.2.2.2.2.2.2.2.2.2.2.2.2.1, (o4.2.2.2.2.2.2.2.2.2.2.2.2.2.2.2.2.1, (o4.2.2.2.2.2.2.2.2.2.2.2.2.2.2.2.2.2.1, o4.2.2.2.2.2.2.2.2.2.2.2.2.2.2.2.2.2.2))))))))
            else
              some (false, (r12.2, (o4.2.2.1, (o4.2.2.2.1, (o4.2.2.2.2.1, (o4.2.2.2.2.2.2.2.2.2.2.2.2.2.2.2.1, (o4.2.2.2.2.2.2.2.2.2.2.2.2.2.2.2.2.1, (o4.2.2.2.2.2.2.2.2.2.2.2.2.2.2.2.2.2.1, o4.2.2.2.2.2.2.2.2.2.2.2.2.2.2.2.2.2.2))))))))) fun o5 =>
          Option.bind (α := ((Int × (List (qT1) × (Int × (List ((Int × Int)) × (List (qT1) × Int))))))) (
            bif o5.1 then
              need ((Nat.ble ((o5.2.2.2.2.1.length + 1) * 16) room) && (Nat.ble (o5.2.2.2.2.1.length + 1) room)) <|
              some (o5.2.1, (o5.2.2.1, (o5.2.2.2.1, ((o5.2.2.2.2.1 ++ [(o5.2.2.2.2.2.2.2.1, o5.2.2.2.2.2.2.2.2)]), (o5.2.2.2.2.2.1, o5.2.2.2.2.2.2.1)))))
            else
              some (o5.2.1, (o5.2.2.1, (o5.2.2.2.1, (o5.2.2.2.2.1, (o5.2.2.2.2.2.1, o5.2.2.2.2.2.2.1)))))) fun o6 =>
          some (.inl (o6.1, (o6.2.2.2.2.1, (o6.2.2.2.2.2, o6.2.2.2.1))))) fun o7 =>
    match o7 with
    | .inl s =>
      some (.inl ((IntKind.wrap .i64 (i + 1)), (s.1, (s.2.1, (s.2.2.1, s.2.2.2)))))
    | .inr o8 =>
      some o8
  else
    some (.inr (.inl o.2.1))
def law19_played_f11_v2_l0_it (fu : Nat) (l : List (qT22)) (tt : (Int × (Int × qT33))) : Option (Int ⊕ (Bool × Int)) :=
  iter fu (fun tt => law19_played_f11_v2_l0 fu l tt.1 tt.2.1 tt.2.2.1 tt.2.2.2.1 tt.2.2.2.2) tt
def law19_played_f11_v2 (fu : Nat) (l : List (qT22)) (h : Int) : Option ((Bool × Int)) :=
  (inode_New fu).bind fun r =>
  (law19_root fu).bind fun r1 =>
  (law19_played_f11_v2_l0_it fu l (0, (h, (r.2, (r.1, [(r1.1, r1.2)]))))).bind fun o9 =>
  match o9 with
  | .inl s1 =>
    some (true, s1)
  | .inr o10 =>
    some o10
def law19_played_f11_v2_fa : FnA := ⟨.two (.leaf) (.two (.reg [(0, { ids := [100] }), (1, { ids := [101] })]) (.two (.reg [(0, { fn := 1 }), (1, { ids := [102] })]) (.two (.two (.leaf) (.one (.pre (.pureCell 101 0) (.loop ⟨[1, 5, 6, 7], ⟨(.cons (.fn 24 .nil (.cons (.own 0 0 0 0) .nil)) (.cons (.own 0 101 0 0) (.cons (.slf 2 102) qL3))), [(0, false, qB23), (101, false, qB9), (102, false, (.rows 30 qY6))]⟩⟩ true [(0, ⟨[1], ⟨(.cons (.fn 24 .nil (.cons (.own 0 0 0 0) .nil)) .nil), [(0, false, qB23)]⟩⟩)] (.two (.two (.join ⟨[1, 5, 6, 24], ⟨(.cons (.fn 24 .nil (.cons (.own 0 0 0 0) .nil)) (.cons (.own 0 101 0 0) (.cons (.slf 2 102) (.cons (.p .bool) .nil)))), [(0, false, qB23), (101, false, qB9), (102, false, (.rows 30 qY6))]⟩⟩ false [] (.leaf)) (.leaf)) (.two (.join ⟨[1, 5, 6], ⟨(.cons (.fn 24 .nil (.cons (.own 0 0 0 0) .nil)) (.cons (.own 0 101 0 0) (.cons (.slf 2 102) .nil))), [(0, false, qB23), (101, false, qB9), (102, false, (.rows 30 qY6))]⟩⟩ true [] (.one (.two (.reg [(4, { ids := [103] })]) (.two (.two (.join ⟨[1, 5, 6, 8, 40], ⟨(.cons (.fn 24 .nil (.cons (.own 0 0 0 0) .nil)) (.cons (.own 0 101 0 0) (.cons (.slf 2 102) (.cons (.own 0 103 0 0) (.cons (.p .bool) .nil))))), [(0, false, qB23), (101, false, qB9), (102, false, (.rows 30 qY6)), (103, false, qB14)]⟩⟩ false [] (.leaf)) (.leaf)) (.two (.reg [(5, { fn := 2 }), (13, { fn := 2 }), (16, { ids := [104] }), (17, { ids := [105] })]) (.two (.reg [(0, { ids := [106] })]) (.two (.reg [(0, { ids := [107] })]) (.two (.leaf) (.two (.two (.reg [(2, { fn := 2 })]) (.one (.two (.leaf) (.join ⟨[1, 5, 6, 8, 9, 10, 11, 12, 13], ⟨(.cons (.fn 24 .nil (.cons (.own 0 0 0 0) .nil)) qL17), [(0, false, qB23), (101, false, qB9), (102, false, (.rows 30 qY6)), (103, false, qB14), (104, false, qB12), (105, false, qB12), (106, false, qB9), (107, false, qB12)]⟩⟩ false [] (.two (.reg [(6, { fn := 3 })]) (.two (.leaf) (.join ⟨[1, 5, 6, 8, 9, 10, 11, 12, 13], ⟨(.cons (.fn 24 .nil (.cons (.own 0 0 0 0) .nil)) qL17), [(0, false, qB23), (101, false, qB9), (102, false, (.rows 30 qY6)), (103, false, qB14), (104, false, qB12), (105, false, qB12), (106, false, qB9), (107, false, qB12)]⟩⟩ false [] (.two (.reg [(6, { fn := 4 })]) (.two (.leaf) (.join ⟨[1, 5, 6, 8, 9, 10, 11, 12, 13], ⟨(.cons (.fn 24 .nil (.cons (.own 0 0 0 0) .nil)) qL17), [(0, false, qB23), (101, false, qB9), (102, false, (.rows 30 qY6)), (103, false, qB14), (104, false, qB12), (105, false, qB12), (106, false, qB9), (107, false, qB12)]⟩⟩ false [] (.two (.reg [(7, { fn := 5 })]) (.two (.leaf) (.reg [(4, { fn := 6 })]))))))))))))) (.two (.two (.reg [(8, { sh := [0], fn := 7 })]) (.two (.leaf) (.leaf))) (.two (.two (.join ⟨[1, 5, 6, 11, 12, 125], ⟨(.cons (.fn 24 .nil (.cons (.own 0 0 0 0) .nil)) (.cons (.own 0 101 0 0) (.cons (.slf 2 102) (.cons (.own 0 106 0 0) (.cons (.own 0 107 0 0) (.cons (.p .bool) .nil)))))), [(0, false, qB23), (101, false, qB9), (102, false, (.rows 30 qY6)), (106, false, qB9), (107, false, qB12)]⟩⟩ false [] (.leaf)) (.join ⟨[1, 5, 6, 11], ⟨(.cons (.fn 24 .nil (.cons (.own 0 0 0 0) .nil)) (.cons (.own 0 101 0 0) (.cons (.slf 2 109) (.cons (.own 0 106 0 0) .nil)))), [(0, false, qB23), (101, false, qB9), (109, false, (.rows 30 qY6)), (106, false, qB9)]⟩⟩ false [] (.two (.reg [(2, { ids := [108] }), (3, { ids := [109] })]) (.leaf)))) (.leaf)))))))))))) (.leaf))))))) (.leaf)))), ⟨(.cons (.p (.sl qY30)) (.cons (.fn 24 .nil (.cons (.own 0 0 0 0) .nil)) .nil)), [(0, false, qB23)]⟩, [⟨(.cons (.p .bool) .nil), [(0, false, qB23)]⟩], [0]⟩
def law19_played_f11_v2_ft (fu : Nat) : FnT := ⟨9, law19_played_f11_v2_fa.i, law19_played_f11_v2_fa.os, fun t => law19_played_f11_v2 fu t.1 t.2⟩
theorem law19_played_f11_v2_eq (fu : Nat) : ∀ t, evF Go.Proofs.Try.prog [inode_New_ft fu, law19_root_ft fu, kit_Pick_ft fu, tree_Make_ft fu, tRem_ft fu, tRen_ft fu, tLoo_ft fu, law19_TreeLists_1_ft fu] fu Go.Proofs.Try.f9 law19_played_f11_v2_fa t = (law19_played_f11_v2_ft fu).spec t := fun t => by kernel_rfl
theorem law19_played_f11_v2_told (fu : Nat) : Told Go.Proofs.Try.prog (law19_played_f11_v2_ft fu) := told_of (allT_cons (inode_New_told fu) (allT_cons (law19_root_told fu) (allT_cons (kit_Pick_told fu) (allT_cons (tree_Make_told fu) (allT_cons (tRem_told fu) (allT_cons (tRen_told fu) (allT_cons (tLoo_told fu) (allT_cons (law19_TreeLists_1_told fu) allT_nil)))))))) mixed Go.Proofs.Try.func9 (by kernel_rfl) (by kernel_rfl) (law19_played_f11_v2_eq fu)
def law19_TreeLists (fu : Nat) (l : List (qT22)) (piece : Int) : Option (Bool) :=
  (law19_played_f11_v2 fu l piece).bind fun r =>
  bif r.1 then
    (law19_awake fu).bind fun r1 =>
    some r1
  else
    some false
def law19_TreeLists_fa : FnA := ⟨.two (.reg [(0, { ids := [100] })]) (.two (.reg [(2, { sh := [100] }), (4, { fn := 1 })]) (.leaf)), ⟨(.cons (.p (.sl qY30)) (.cons (.p (.int .u8)) .nil)), []⟩, [⟨(.cons (.p .bool) .nil), []⟩], [0]⟩
def law19_TreeLists_ft (fu : Nat) : FnT := ⟨6, law19_TreeLists_fa.i, law19_TreeLists_fa.os, fun t => law19_TreeLists fu t.1 t.2⟩
theorem law19_TreeLists_eq (fu : Nat) : ∀ t, evF Go.Proofs.Try.prog [law19_played_f11_v2_ft fu, law19_awake_ft fu] fu Go.Proofs.Try.f6 law19_TreeLists_fa t = (law19_TreeLists_ft fu).spec t := fun t => by kernel_rfl
theorem law19_TreeLists_told (fu : Nat) : Told Go.Proofs.Try.prog (law19_TreeLists_ft fu) := told_of (allT_cons (law19_played_f11_v2_told fu) (allT_cons (law19_awake_told fu) allT_nil)) mixed Go.Proofs.Try.func6 (by kernel_rfl) (by kernel_rfl) (law19_TreeLists_eq fu)
def law19_TreeMany_1 (fu : Nat) (i : Int) : Option (List UInt8) :=
  (byte? (IntKind.wrap .u8 (IntKind.wrap .i64 (48 + (IntKind.wrap .i64 (Int.tdiv i 10)))))).bind fun c =>
  (byte? (IntKind.wrap .u8 (IntKind.wrap .i64 (48 + (Int.tmod i 10))))).bind fun c1 =>
  some [(UInt8.ofNat 110), c, c1]
def law19_TreeMany_1_fa : FnA := ⟨.two (.leaf) (.two (.reg [(8, { ids := [100] })]) (.leaf)), ⟨qL3, []⟩, [⟨(.cons (.p .str) .nil), []⟩], [0]⟩
def law19_TreeMany_1_ft (fu : Nat) : FnT := ⟨26, law19_TreeMany_1_fa.i, law19_TreeMany_1_fa.os, fun t => law19_TreeMany_1 fu t⟩
theorem law19_TreeMany_1_eq (fu : Nat) : ∀ t, evF Go.Proofs.Try.prog [] fu Go.Proofs.Try.f26 law19_TreeMany_1_fa t = (law19_TreeMany_1_ft fu).spec t := fun t => by kernel_rfl
theorem law19_TreeMany_1_told (fu : Nat) : Told Go.Proofs.Try.prog (law19_TreeMany_1_ft fu) := told_of allT_nil mixed Go.Proofs.Try.func26 (by kernel_rfl) (by kernel_rfl) (law19_TreeMany_1_eq fu)
def law19_TreeMany_l0 (fu : Nat) (x : Int) (h : List (qT1)) (h1 : Int) (h2 : Int) (h3 : Int) : Option ((Int × (List (qT1) × (Int × (Int × Int)))) ⊕ ((List (qT1) × (Int × (Int × Int))) ⊕ Bool)) :=
  bif (decide (x < 100)) then
    (law19_TreeMany_1 fu x).bind fun r5 =>
    (tree_Make fu (h, h1) (h2, h3) r5 false).bind fun r6 =>
    bif (!(r6.2.2.2.2 == 0)) then
      some (.inr (.inr false))
    else
      some (.inl ((IntKind.wrap .i64 (x + 1)), (r6.1, (r6.2.1, (h2, h3)))))
  else
    some (.inr (.inl (h, (h1, (h2, h3)))))
def law19_TreeMany_l0_it (fu : Nat)  (tt : (Int × (List (qT1) × (Int × (Int × Int))))) : Option ((List (qT1) × (Int × (Int × Int))) ⊕ Bool) :=
  iter fu (fun tt => law19_TreeMany_l0 fu tt.1 tt.2.1 tt.2.2.1 tt.2.2.2.1 tt.2.2.2.2) tt
def law19_TreeMany (fu : Nat) (which : Int) : Option (Bool) :=
  (inode_New fu).bind fun r =>
  (law19_root fu).bind fun r1 =>
  (tree_Make fu (r.2, r.1) (r1.1, r1.2) [100] true).bind fun r2 =>
  (law19_root fu).bind fun r3 =>
  (tree_Make fu (r2.1, r2.2.1) (r3.1, r3.2) [120] false).bind fun r4 =>
  Option.bind (α := ((Bool × (List (qT1) × (Int × (Int × Int)))))) (
    bif (!(r2.2.2.2.2 == 0)) then
      some (true, (r4.1, (r4.2.1, (r2.2.2.1, r2.2.2.2.1))))
    else
      some ((!(r4.2.2.2.2 == 0)), (r4.1, (r4.2.1, (r2.2.2.1, r2.2.2.2.1))))) fun o =>
  bif o.1 then
    some false
  else
    (law19_TreeMany_l0_it fu  (0, (o.2.1, (o.2.2.1, (o.2.2.2.1, o.2.2.2.2))))).bind fun o1 =>
    match o1 with
    | .inl s =>
      (tree_Make fu (s.1, s.2.1) (s.2.2.1, s.2.2.2) [111, 110, 101, 32, 109, 111, 114, 101] false).bind fun r7 =>
      (law19_root fu).bind fun r8 =>
      (tRen fu (s.1, s.2.1) (r8.1, r8.2) [120] (s.2.2.1, s.2.2.2) [111, 110, 101, 32, 109, 111, 114, 101]).bind fun r9 =>
      (law19_TreeMany_1 fu (Int.tmod (IntKind.wrap .i64 which) 100)).bind fun r10 =>
      (tRen fu (s.1, s.2.1) (s.2.2.1, s.2.2.2) r10 (s.2.2.1, s.2.2.2) [97, 110, 111, 116, 104, 101, 114]).bind fun r11 =>
      (law19_root fu).bind fun r12 =>
      (law19_TreeMany_1 fu (Int.tmod (IntKind.wrap .i64 which) 100)).bind fun r13 =>
      (tRen fu (s.1, s.2.1) (r12.1, r12.2) [120] (s.2.2.1, s.2.2.2) r13).bind fun r14 =>
      (tree_List fu (r11.1, r11.2.1) (s.2.2.1, s.2.2.2) [] 4096).bind fun r15 =>
      bif (r7.2.2.2.2 == 5) then
        bif (r9.2.2.2 == 5) then
          bif (r11.2.2.2 == 0) then
            bif (r14.2.2.2 == 0) then
              bif (r15.2.1 == 0) then
                (tRig fu (r11.1, r11.2.1)).bind fun r16 =>
                bif r16 then
                  (tRig fu (r14.1, r14.2.1)).bind fun r17 =>
                  bif r17 then
                    bif (((r15.2.2.length : Nat) : Int) == 100) then
                      bif (!r15.1) then
                        (idx? 0 r15.2.2.length).bind fun q =>
                        (r15.2.2)[q]?.bind fun r18 =>
                        bif (r18.1 == [97, 110, 111, 116, 104, 101, 114]) then
                          (law19_awake fu).bind fun r19 =>
                          some r19
                        else
                          some false
                      else
                        some false
                    else
                      some false
                  else
                    some false
                else
                  some false
              else
                some false
            else
              some false
          else
            some false
        else
          some false
      else
        some false
    | .inr o2 =>
      some o2
def law19_TreeMany_fa : FnA := ⟨.two (.leaf) (.two (.reg [(0, { ids := [100] }), (1, { fn := 1 }), (2, { md := [1, 0, 0, 0], fn := 2 }), (7, { ids := [101] }), (8, { ids := [102] })]) (.two (.reg [(1, { fn := 1 }), (2, { fn := 2 }), (7, { ids := [103] })]) (.two (.two (.join ⟨[3, 4, 47], ⟨(.cons (.own 0 101 0 0) (.cons (.own 0 102 0 0) (.cons (.p .bool) .nil))), [(101, false, qB9), (102, false, qB12)]⟩⟩ false [] (.leaf)) (.two (.leaf) (.leaf))) (.two (.leaf) (.two (.two (.leaf) (.one (.loop ⟨[3, 4, 48], ⟨(.cons (.own 0 101 0 0) (.cons (.own 0 102 0 0) qL3)), [(101, false, qB9), (102, false, qB12)]⟩⟩ true [(0, ⟨[3, 4], ⟨(.cons (.own 0 101 0 0) (.cons (.own 0 102 0 0) .nil)), [(101, false, qB9), (102, false, qB12)]⟩⟩)] (.two (.leaf) (.two (.leaf) (.two (.one (.two (.leaf) (.two (.reg [(4, { fn := 3 }), (5, { fn := 2 }), (10, { ids := [104] }), (11, { ids := [105] })]) (.two (.two (.leaf) (.two (.leaf) (.leaf))) (.leaf))))) (.leaf))))))) (.two (.reg [(2, { fn := 2 }), (7, { ids := [106] }), (8, { ids := [107] })]) (.two (.reg [(1, { fn := 1 }), (3, { fn := 4 }), (8, { ids := [108] })]) (.two (.reg [(6, { fn := 3 }), (8, { fn := 4 }), (13, { ids := [109] })]) (.two (.reg [(1, { fn := 1 }), (7, { fn := 3 }), (8, { fn := 4 }), (13, { ids := [110] })]) (.two (.reg [(2, { ids := [111], fn := 5 })]) (.two (.reg [(20, { fn := 6 }), (24, { fn := 6 }), (43, { fn := 7 })]) (.leaf)))))))))))), ⟨(.cons (.p (.int .u8)) .nil), []⟩, [⟨(.cons (.p .bool) .nil), []⟩], [0]⟩
def law19_TreeMany_ft (fu : Nat) : FnT := ⟨7, law19_TreeMany_fa.i, law19_TreeMany_fa.os, fun t => law19_TreeMany fu t⟩
theorem law19_TreeMany_eq (fu : Nat) : ∀ t, evF Go.Proofs.Try.prog [inode_New_ft fu, law19_root_ft fu, tree_Make_ft fu, law19_TreeMany_1_ft fu, tRen_ft fu, tree_List_ft fu, tRig_ft fu, law19_awake_ft fu] fu Go.Proofs.Try.f7 law19_TreeMany_fa t = (law19_TreeMany_ft fu).spec t := fun t => by kernel_rfl
theorem law19_TreeMany_told (fu : Nat) : Told Go.Proofs.Try.prog (law19_TreeMany_ft fu) := told_of (allT_cons (inode_New_told fu) (allT_cons (law19_root_told fu) (allT_cons (tree_Make_told fu) (allT_cons (law19_TreeMany_1_told fu) (allT_cons (tRen_told fu) (allT_cons (tree_List_told fu) (allT_cons (tRig_told fu) (allT_cons (law19_awake_told fu) allT_nil)))))))) mixed Go.Proofs.Try.func7 (by kernel_rfl) (by kernel_rfl) (law19_TreeMany_eq fu)
def icop_l0 (fu : Nat) (r : List (qT1)) (x : Int) (h : Int) (h1 : List (qT1)) (h2 : Int) : Option ((Int × qT32) ⊕ (qT32)) :=
  bif (decide (x < ((r.length : Nat) : Int))) then
    (idx? x h1.length).bind fun q =>
    (h1)[q]?.bind fun r1 =>
    (inode_own fu (r1.1, (r1.2.1, (r1.2.2.1, (r1.2.2.2.1, (r1.2.2.2.2.1, (r1.2.2.2.2.2.1, (r1.2.2.2.2.2.2.1, r1.2.2.2.2.2.2.2)))))))).bind fun r2 =>
    (idx? x h1.length).bind fun q1 =>
    (h1)[q1]?.bind fun r3 =>
    some (.inl ((IntKind.wrap .i64 (x + 1)), (h, ((List.set h1 q1 (r2.1, (r2.2.1, (r2.2.2.1, (r2.2.2.2.1, (r2.2.2.2.2.1, (r2.2.2.2.2.2.2.1, (r2.2.2.2.2.2.1, r2.2.2.2.2.2.2.2)))))))), h2))))
  else
    some (.inr (h, (h1, h2)))
def icop_l0_it (fu : Nat) (r : List (qT1)) (tt : (Int × qT32)) : Option (qT32) :=
  iter fu (fun tt => icop_l0 fu r tt.1 tt.2.1 tt.2.2.1 tt.2.2.2) tt
def icop (fu : Nat) (t : (List (qT1) × Int)) : Option ((Int × List (qT1))) :=
  (sClo fu t.1).bind fun r =>
  (icop_l0_it fu r (0, (t.2, (r, 0)))).bind fun o =>
  some (o.1, o.2.1)
def icop_fa : FnA := ⟨.two (.reg [(0, { ids := [100] }), (1, { ids := [101] })]) (.two (.reg [(2, { ids := [102] })]) (.two (.two (.leaf) (.one (.loop ⟨[1, 2, 10, 12], ⟨(.cons (.own 0 100 0 0) (.cons (.own 0 101 0 0) (.cons (.slf 8 102) qL3))), [(100, false, qB28), (102, false, (.rows 40 qY0)), (101, false, qB18)]⟩⟩ false [(0, ⟨[1, 2], ⟨(.cons (.own 0 100 0 0) (.cons (.own 0 101 0 0) .nil)), [(100, false, qB28), (102, false, (.rows 40 qY0)), (101, false, qB18)]⟩⟩)] (.two (.leaf) (.two (.leaf) (.two (.one (.two (.reg [(3, { ids := [103] })]) (.reg [(4, { ids := [104, 105], fn := 1 })]))) (.leaf))))))) (.leaf))), ⟨(.cons (.p qY21) .nil), []⟩, [⟨(.cons (.agg (.cons (.slf 8 0) qL3)) .nil), [(0, false, (.rows 40 qY0))]⟩], [0]⟩
def icop_ft (fu : Nat) : FnT := ⟨47, icop_fa.i, icop_fa.os, fun t => icop fu t⟩
theorem icop_eq (fu : Nat) : ∀ t, evF Go.Proofs.Try.prog [sClo_ft fu, inode_own_ft fu] fu Go.Proofs.Try.f47 icop_fa t = (icop_ft fu).spec t := fun t => by kernel_rfl
theorem icop_told (fu : Nat) : Told Go.Proofs.Try.prog (icop_ft fu) := told_of (allT_cons (sClo_told fu) (allT_cons (inode_own_told fu) allT_nil)) mixed Go.Proofs.Try.func47 (by kernel_rfl) (by kernel_rfl) (icop_eq fu)
end
end Go.Ab.D
