/- Functions of the program as plain Lean functions: each equation is checked by the kernel; what is told of a function follows from it. -/
import Derived.Test.YtceedhbmmlcckaaE4
import Derived.Test.YtceedhbmmlcckaaProg
import Derived.KernelRfl
namespace Go.Proofs
open Go.Shelf
def Try.ca53_ren : Go.Shelf.Ren := ⟨fun | 150 => 53 | 153 => 69 | 152 => 76 | 226 => 77 | 227 => 78 | 228 => 79 | 137 => 82 | 119 => 83 | 224 => 84 | 225 => 85 | 217 => 87 | 266 => 88 | n => n, fun | 9 => 9 | 4 => 4 | 3 => 3 | 5 => 5 | 21 => 21 | 117 => 118 | 116 => 117 | 0 => 0 | 46 => 110 | 124 => 123 | n => n, fun | n => n⟩
theorem Try.ca53 : Go.Proofs.Lays.n150 Try.prog Try.ca53_ren := {
  mixed := by kernel_rfl
  f119 := Try.func83.trans (congrArg some (by kernel_rfl))
  f137 := Try.func82.trans (congrArg some (by kernel_rfl))
  f150 := Try.func53.trans (congrArg some (by kernel_rfl))
  f152 := Try.func76.trans (congrArg some (by kernel_rfl))
  f153 := Try.func69.trans (congrArg some (by kernel_rfl))
  f217 := Try.func87.trans (congrArg some (by kernel_rfl))
  f224 := Try.func84.trans (congrArg some (by kernel_rfl))
  f225 := Try.func85.trans (congrArg some (by kernel_rfl))
  f226 := Try.func77.trans (congrArg some (by kernel_rfl))
  f227 := Try.func78.trans (congrArg some (by kernel_rfl))
  f228 := Try.func79.trans (congrArg some (by kernel_rfl))
  f266 := Try.func88.trans (congrArg some (by kernel_rfl))
  t0 := Try.underlying0
  a0 := Try.isAgg0
  z0 := Try.sizeOf0
  v0 := Try.zeroValue0
  t3 := Try.underlying3
  a3 := Try.isAgg3
  z3 := Try.sizeOf3
  v3 := Try.zeroValue3
  t4 := Try.underlying4
  a4 := Try.isAgg4
  z4 := Try.sizeOf4
  v4 := Try.zeroValue4
  t5 := Try.underlying5
  a5 := Try.isAgg5
  z5 := Try.sizeOf5
  v5 := Try.zeroValue5
  t9 := Try.underlying9
  a9 := Try.isAgg9
  z9 := Try.sizeOf9
  v9 := Try.zeroValue9
  t21 := Try.underlying21
  a21 := Try.isAgg21
  z21 := Try.sizeOf21
  v21 := Try.zeroValue21
  t46 := Try.underlying110
  a46 := Try.isAgg110
  z46 := Try.sizeOf110
  v46 := Try.zeroValue110
  t116 := Try.underlying117
  a116 := Try.isAgg117
  z116 := Try.sizeOf117
  t117 := Try.underlying118
  a117 := Try.isAgg118
  z117 := Try.sizeOf118
  v117 := Try.zeroValue118
  t124 := Try.underlying123
  a124 := Try.isAgg123
  z124 := Try.sizeOf123
  v124 := Try.zeroValue123 }
end Go.Proofs
namespace Go.Proofs
open Go.Shelf
def Try.ins63_ren : Go.Shelf.Ren := ⟨fun | 22 => 63 | 29 => 73 | 30 => 74 | 36 => 81 | 17 => 86 | n => n, fun | 24 => 38 | 9 => 59 | 3 => 3 | 4 => 4 | 0 => 0 | n => n, fun | n => n⟩
theorem Try.ins63 : Go.Proofs.InsLay Try.prog Try.ins63_ren := {
  mixed := by kernel_rfl
  f22 := ⟨Try.f63.name, by decide, Try.func63.trans (congrArg some (by kernel_rfl))⟩
  x29 := by kernel_rfl
  t0 := Try.underlying0
  a0 := Try.isAgg0
  z0 := Try.sizeOf0
  v0 := Try.zeroValue0
  t3 := Try.underlying3
  a3 := Try.isAgg3
  z3 := Try.sizeOf3
  v3 := Try.zeroValue3
  t4 := Try.underlying4
  a4 := Try.isAgg4
  z4 := Try.sizeOf4
  v4 := Try.zeroValue4
  t24 := Try.underlying38
  a24 := Try.isAgg38
  z24 := Try.sizeOf38
  v24 := Try.zeroValue38 }
end Go.Proofs
set_option linter.all false
set_option maxRecDepth 100000
set_option maxHeartbeats 4000000
namespace Go.Ab.D
open Go Go.Ab
noncomputable section
abbrev qY0 : Ty := (.pair (.int .i64) (.pair (.int .i64) (.pair .bool (.pair .bool (.pair (.int .i64) (.pair (.sl (.pair (.int .i64) (.int .i64))) (.pair (.int .i64) (.sl (.pair .str (.int .i64))))))))))
abbrev qT1 : Type := (Int × (Int × (Bool × (Bool × (Int × (List ((Int × Int)) × (Int × List ((List UInt8 × Int)))))))))
abbrev qY2 : Ty := (.pair (.int .i64) (.pair (.int .i64) (.pair .bool (.pair .bool (.pair (.int .i64) (.pair (.sl (.pair (.int .i64) (.int .i64))) (.pair (.int .i64) (.ref 1 (.pair .str (.int .i64))))))))))
abbrev qL3 : KdL := (.cons (.p (.int .i64)) .nil)
abbrev qT4 : Type := ((Int × (Int × (Bool × (Bool × (Int × (List ((Int × Int)) × (Int × (List ((List UInt8 × Int)) ⊕ Option (Nat × (Nat × Nat)))))))))))
abbrev qL5 : KdL := (.cons (.p (.int .i64)) (.cons (.p (.int .i64)) (.cons (.p .bool) (.cons (.p .bool) (.cons (.p (.int .i64)) (.cons (.p (.sl (.pair (.int .i64) (.int .i64)))) (.cons (.p (.int .i64)) (.cons (.p (.sl (.pair .str (.int .i64)))) .nil))))))))
abbrev qY6 : Ty := (.pair (.int .i64) (.int .i64))
abbrev qY7 : Ty := (.pair (.int .i64) (.pair (.int .i64) (.pair .bool (.pair .bool (.pair (.int .i64) (.pair (.ref 0 qY6) (.pair (.int .i64) (.ref 2 (.pair .str (.int .i64))))))))))
abbrev qT8 : Type := ((Int × (Int × (Bool × (Bool × (Int × ((List ((Int × Int)) ⊕ Option (Nat × (Nat × Nat))) × (Int × (List ((List UInt8 × Int)) ⊕ Option (Nat × (Nat × Nat)))))))))))
abbrev qB9 : BKd := (.vars (.cons (.p (.sl qY0)) qL3))
abbrev qT10 : Type := ((Nat × List ((List UInt8 × Int))))
abbrev qY11 : Ty := (.pair (.int .i64) (.pair (.int .i64) (.pair .bool (.pair .bool (.pair (.int .i64) (.pair (.ref 0 qY6) (.pair (.int .i64) (.sl (.pair .str (.int .i64))))))))))
abbrev qB12 : BKd := (.vars (.cons (.p (.int .i64)) qL3))
abbrev qB13 : BKd := (.fam 59 (.pair .str (.int .i64)))
abbrev qB14 : BKd := (.vars (.cons (.p (.int .i64)) (.cons (.p (.int .i64)) (.cons (.p (.int .i64)) (.cons (.p .str) (.cons (.p .str) (.cons (.p .bool) .nil)))))))
abbrev qT15 : Type := (Int × (List (qT1) × (Int × (List ((Int × Int)) × (Int × (Int × (Int × (List UInt8 × (List UInt8 × (Bool × (Int × (Int × (Int × (Int × (List (qT1) × (Int × (Int × Int)))))))))))))))))
abbrev qT16 : Type := ((Int × (Int × (Bool × (Bool × (Int × ((List ((Int × Int)) ⊕ Option (Nat × (Nat × Nat))) × (Int × List ((List UInt8 × Int))))))))))
abbrev qL17 : KdL := (.cons (.own 0 101 0 0) (.cons (.slf 2 102) (.cons (.own 0 103 0 0) (.cons (.own 0 104 0 0) (.cons (.own 0 105 0 0) (.cons (.own 0 106 0 0) (.cons (.own 0 107 0 0) qL3)))))))
abbrev qB18 : BKd := (.vars (.cons (.nilp (.slice none 0 0)) qL3))
abbrev qT19 : Type := (List (((Int × Int) × Nat)) × Nat)
abbrev qB20 : BKd := (.rows 59 (.pair .str (.int .i64)))
abbrev qY21 : Ty := (.pair (.sl qY0) (.int .i64))
abbrev qT22 : Type := (Int × (Int × (Int × (List UInt8 × (List UInt8 × Bool)))))
abbrev qB23 : BKd := (.vars (.cons (.p (.int .u8)) .nil))
abbrev qT24 : Type := ((Nat × List ((Int × Int))))
abbrev qB25 : BKd := (.vars (.cons (.p .str) .nil))
abbrev qB26 : BKd := (.vars (.cons (.p (.int .i64)) (.cons (.p (.int .i64)) (.cons (.p .bool) (.cons (.p .bool) (.cons (.p (.int .i64)) (.cons (.nilp (.slice none 0 0)) (.cons (.p (.int .i64)) (.cons (.nilp (.slice none 0 0)) .nil)))))))))
abbrev qT27 : Type := (List ((List UInt8 × Int)) × List UInt8)
abbrev qB28 : BKd := (.vars (.cons (.slf 8 102) qL3))
abbrev qT29 : Type := (Int × (Int × (Int × (Bool × (Bool × (Int × (List ((Int × Int)) × (Int × (List ((List UInt8 × Int)) × List ((List UInt8 × Int)))))))))))
abbrev qY30 : Ty := (.pair (.int .i64) (.pair (.int .i64) (.pair (.int .i64) (.pair .str (.pair .str .bool)))))
abbrev qB31 : BKd := (.map (.int .i64) (.int .i64))
abbrev qT32 : Type := (Int × (List (qT1) × Int))
abbrev qT33 : Type := (List (qT1) × (Int × List ((Int × Int))))
theorem mixed : Go.Proofs.Try.prog.follows .mixedOrders = true := by kernel_rfl
def inode_New (fu : Nat)  : Option ((Int × List (qT1))) :=
  some (0, [(1, (1, (true, (true, (0, ([], (1, [])))))))])
def inode_New_fa : FnA := ⟨.two (.reg [(0, { ids := [100] })]) (.two (.reg [(1, { ids := [101] })]) (.leaf)), ⟨.nil, []⟩, [⟨(.cons (.agg (.cons (.slf 8 0) qL3)) .nil), [(0, false, (.rows 40 qY0))]⟩], [0]⟩
def inode_New_ft (fu : Nat) : FnT := ⟨22, inode_New_fa.i, inode_New_fa.os, fun t => inode_New fu ⟩
theorem inode_New_eq (fu : Nat) : ∀ t, evF Go.Proofs.Try.prog [] fu Go.Proofs.Try.f22 inode_New_fa t = (inode_New_ft fu).spec t := fun t => by kernel_rfl
theorem inode_New_told (fu : Nat) : Told Go.Proofs.Try.prog (inode_New_ft fu) := told_of allT_nil mixed Go.Proofs.Try.func22 (by kernel_rfl) (by kernel_rfl) (inode_New_eq fu)
def law19_root (fu : Nat)  : Option ((Int × Int)) :=
  some (1, 1)
def law19_root_fa : FnA := ⟨.two (.reg [(0, { ids := [100] })]) (.leaf), ⟨.nil, []⟩, [⟨(.cons (.agg (.cons (.p (.int .i64)) qL3)) .nil), []⟩], [0]⟩
def law19_root_ft (fu : Nat) : FnT := ⟨23, law19_root_fa.i, law19_root_fa.os, fun t => law19_root fu ⟩
theorem law19_root_eq (fu : Nat) : ∀ t, evF Go.Proofs.Try.prog [] fu Go.Proofs.Try.f23 law19_root_fa t = (law19_root_ft fu).spec t := fun t => by kernel_rfl
theorem law19_root_told (fu : Nat) : Told Go.Proofs.Try.prog (law19_root_ft fu) := told_of allT_nil mixed Go.Proofs.Try.func23 (by kernel_rfl) (by kernel_rfl) (law19_root_eq fu)
def ibar (fu : Nat) (n : qT1) : Option (Bool) :=
  bif (!n.2.2.1) then
    bif (!n.2.2.2.1) then
      bif (n.2.2.2.2.1 == 0) then
        bif (n.2.2.2.2.2.2.1 == 0) then
          some ((IntKind.wrap .i64 (((n.2.2.2.2.2.1.length : Nat) : Int) + ((n.2.2.2.2.2.2.2.length : Nat) : Int))) == 0)
        else
          some false
      else
        some false
    else
      some false
  else
    some false
def ibar_fa : FnA := ⟨.two (.reg [(0, { ids := [100] })]) (.leaf), ⟨(.cons (.p qY0) .nil), []⟩, [⟨(.cons (.p .bool) .nil), []⟩], [0]⟩
def ibar_ft (fu : Nat) : FnT := ⟨50, ibar_fa.i, ibar_fa.os, fun t => ibar fu t⟩
theorem ibar_eq (fu : Nat) : ∀ t, evF Go.Proofs.Try.prog [] fu Go.Proofs.Try.f50 ibar_fa t = (ibar_ft fu).spec t := fun t => by kernel_rfl
theorem ibar_told (fu : Nat) : Told Go.Proofs.Try.prog (ibar_ft fu) := told_of allT_nil mixed Go.Proofs.Try.func50 (by kernel_rfl) (by kernel_rfl) (ibar_eq fu)
def idir1 (fu : Nat) (e : (List UInt8 × Int)) (h : List UInt8) (h1 : Int) : Option ((Bool × (List UInt8 × Int))) :=
  bif (decide (((e.1.length : Nat) : Int) < 1)) then
    some (true, (e.1, h1))
  else
    bif (decide (((e.1.length : Nat) : Int) > 30)) then
      some (true, (e.1, h1))
    else
      bif ((Op.bytesLess e.1 h) || (e.1 == h)) then
        some (true, (e.1, h1))
      else
        bif (decide (e.2 < 1)) then
          some (true, (e.1, h1))
        else
          some ((decide (e.2 > h1)), (e.1, h1))
def idir1_fa : FnA := ⟨.two (.reg [(0, { ids := [100] })]) (.two (.leaf) (.two (.leaf) (.leaf))), ⟨(.cons (.p (.pair .str (.int .i64))) (.cons (.own 0 0 0 0) (.cons (.own 0 1 0 0) .nil))), [(0, false, qB25), (1, false, (.vars qL3))]⟩, [⟨(.cons (.p .bool) .nil), [(0, false, qB25), (1, false, (.vars qL3))]⟩], [0]⟩
def idir1_ft (fu : Nat) : FnT := ⟨66, idir1_fa.i, idir1_fa.os, fun t => idir1 fu t.1 t.2.1 t.2.2⟩
theorem idir1_eq (fu : Nat) : ∀ t, evF Go.Proofs.Try.prog [] fu Go.Proofs.Try.f66 idir1_fa t = (idir1_ft fu).spec t := fun t => by kernel_rfl
theorem idir1_told (fu : Nat) : Told Go.Proofs.Try.prog (idir1_ft fu) := told_of allT_nil mixed Go.Proofs.Try.func66 (by kernel_rfl) (by kernel_rfl) (idir1_eq fu)
def sIndFun6_l0 (fu : Nat) (s : List ((List UInt8 × Int))) (x : Int) (h2 : List UInt8) (h3 : Int) : Option ((Int × (List UInt8 × Int)) ⊕ ((List UInt8 × Int) ⊕ (Int × (List UInt8 × Int)))) :=
  bif (decide (x < ((s.length : Nat) : Int))) then
    (idx? x s.length).bind fun q =>
    (s)[q]?.bind fun r =>
    (idir1 fu r h2 h3).bind fun r1 =>
    bif r1.1 then
      some (.inr (.inr (x, (r1.2.1, r1.2.2))))
    else
      some (.inl ((IntKind.wrap .i64 (x + 1)), (r1.2.1, r1.2.2)))
  else
    some (.inr (.inl (h2, h3)))
def sIndFun6_l0_it (fu : Nat) (s : List ((List UInt8 × Int))) (tt : (Int × (List UInt8 × Int))) : Option ((List UInt8 × Int) ⊕ (Int × (List UInt8 × Int))) :=
  iter fu (fun tt => sIndFun6_l0 fu s tt.1 tt.2.1 tt.2.2) tt
def sIndFun6 (fu : Nat) (s : List ((List UInt8 × Int))) (h : List UInt8) (h1 : Int) : Option ((Int × (List UInt8 × Int))) :=
  (sIndFun6_l0_it fu s (0, (h, h1))).bind fun o =>
  match o with
  | .inl s1 =>
    some ((-1), (s1.1, s1.2))
  | .inr o1 =>
    some o1
def sIndFun6_fa : FnA := ⟨.two (.leaf) (.two (.two (.leaf) (.one (.loop ⟨[1, 8], ⟨(.cons (.fn 66 .nil (.cons (.own 0 0 0 0) (.cons (.own 0 1 0 0) .nil))) qL3), [(0, false, qB25), (1, false, (.vars qL3))]⟩⟩ true [(0, ⟨[1], ⟨(.cons (.fn 66 .nil (.cons (.own 0 0 0 0) (.cons (.own 0 1 0 0) .nil))) .nil), [(0, false, qB25), (1, false, (.vars qL3))]⟩⟩)] (.two (.leaf) (.two (.leaf) (.two (.one (.two (.leaf) (.two (.reg [(5, { sh := [0, 1] })]) (.two (.leaf) (.leaf))))) (.leaf))))))) (.leaf)), ⟨(.cons (.p (.sl (.pair .str (.int .i64)))) (.cons (.fn 66 .nil (.cons (.own 0 0 0 0) (.cons (.own 0 1 0 0) .nil))) .nil)), [(0, false, qB25), (1, false, (.vars qL3))]⟩, [⟨qL3, [(0, false, qB25), (1, false, (.vars qL3))]⟩], [0]⟩
def sIndFun6_ft (fu : Nat) : FnT := ⟨54, sIndFun6_fa.i, sIndFun6_fa.os, fun t => sIndFun6 fu t.1 t.2.1 t.2.2⟩
theorem sIndFun6_eq (fu : Nat) : ∀ t, evF Go.Proofs.Try.prog [idir1_ft fu] fu Go.Proofs.Try.f54 sIndFun6_fa t = (sIndFun6_ft fu).spec t := fun t => by kernel_rfl
theorem sIndFun6_told (fu : Nat) : Told Go.Proofs.Try.prog (sIndFun6_ft fu) := told_of (allT_cons (idir1_told fu) allT_nil) mixed Go.Proofs.Try.func54 (by kernel_rfl) (by kernel_rfl) (sIndFun6_eq fu)
def sConFun3 (fu : Nat) (s : List ((List UInt8 × Int))) (h : List UInt8) (h1 : Int) : Option ((Bool × (List UInt8 × Int))) :=
  (sIndFun6 fu s h h1).bind fun r =>
  some ((decide (r.1 ≥ 0)), (r.2.1, r.2.2))
def sConFun3_fa : FnA := ⟨.two (.leaf) (.two (.reg [(2, { sh := [0, 1] })]) (.leaf)), ⟨(.cons (.p (.sl (.pair .str (.int .i64)))) (.cons (.fn 66 .nil (.cons (.own 0 0 0 0) (.cons (.own 0 1 0 0) .nil))) .nil)), [(0, false, qB25), (1, false, (.vars qL3))]⟩, [⟨(.cons (.p .bool) .nil), [(0, false, qB25), (1, false, (.vars qL3))]⟩], [0]⟩
def sConFun3_ft (fu : Nat) : FnT := ⟨33, sConFun3_fa.i, sConFun3_fa.os, fun t => sConFun3 fu t.1 t.2.1 t.2.2⟩
theorem sConFun3_eq (fu : Nat) : ∀ t, evF Go.Proofs.Try.prog [sIndFun6_ft fu] fu Go.Proofs.Try.f33 sConFun3_fa t = (sConFun3_ft fu).spec t := fun t => by kernel_rfl
theorem sConFun3_told (fu : Nat) : Told Go.Proofs.Try.prog (sConFun3_ft fu) := told_of (allT_cons (sIndFun6_told fu) allT_nil) mixed Go.Proofs.Try.func33 (by kernel_rfl) (by kernel_rfl) (sConFun3_eq fu)
def idir (fu : Nat) (n : qT1) (many : Int) : Option (Bool) :=
  bif (n.2.2.2.2.1 == 0) then
    bif (((n.2.2.2.2.2.1.length : Nat) : Int) == 0) then
      bif (decide (((n.2.2.2.2.2.2.2.length : Nat) : Int) ≤ 100)) then
        (sConFun3 fu n.2.2.2.2.2.2.2 [] many).bind fun r =>
        some (!r.1)
      else
        some false
    else
      some false
  else
    some false
def idir_fa : FnA := ⟨.two (.reg [(0, { ids := [100] }), (1, { ids := [101] })]) (.two (.reg [(0, { ids := [102] })]) (.two (.leaf) (.two (.reg [(19, { sh := [102, 101] })]) (.leaf)))), ⟨(.cons (.p qY0) qL3), []⟩, [⟨(.cons (.p .bool) .nil), []⟩], [0]⟩
def idir_ft (fu : Nat) : FnT := ⟨51, idir_fa.i, idir_fa.os, fun t => idir fu t.1 t.2⟩
theorem idir_eq (fu : Nat) : ∀ t, evF Go.Proofs.Try.prog [sConFun3_ft fu] fu Go.Proofs.Try.f51 idir_fa t = (idir_ft fu).spec t := fun t => by kernel_rfl
theorem idir_told (fu : Nat) : Told Go.Proofs.Try.prog (idir_ft fu) := told_of (allT_cons (sConFun3_told fu) allT_nil) mixed Go.Proofs.Try.func51 (by kernel_rfl) (by kernel_rfl) (idir_eq fu)
def ifil1 (fu : Nat) (p : (Int × Int)) (h : qT19) (h1 : Int) : Option ((Bool × (qT19 × Int))) :=
  bif ((p.1 == 0) && (p.2 == 0)) then
    some (false, (h, h1))
  else
    bif ((Option.getD (mget (k := (.int .i64)) (v := (.int .i64)) h p.1) 0) == 1) then
      some (true, ((mput (k := (.int .i64)) (v := (.int .i64)) h p.1 1), h1))
    else
      bif (decide (p.1 < 1)) then
        some (true, ((mput (k := (.int .i64)) (v := (.int .i64)) h p.1 1), h1))
      else
        bif (decide (p.1 > h1)) then
          some (true, ((mput (k := (.int .i64)) (v := (.int .i64)) h p.1 1), h1))
        else
          bif (decide (p.2 < 1)) then
            some (true, ((mput (k := (.int .i64)) (v := (.int .i64)) h p.1 1), h1))
          else
            some ((decide (p.2 > 1099511627776)), ((mput (k := (.int .i64)) (v := (.int .i64)) h p.1 1), h1))
def ifil1_fa : FnA := ⟨.two (.reg [(0, { ids := [100] })]) (.two (.two (.leaf) (.two (.leaf) (.leaf))) (.two (.leaf) (.two (.leaf) (.leaf)))), ⟨(.cons (.p qY6) (.cons (.own 0 0 0 0) (.cons (.own 0 2 0 0) .nil))), [(0, false, (.vars (.cons (.mp 1) .nil))), (1, false, qB31), (2, false, (.vars qL3))]⟩, [⟨(.cons (.p .bool) .nil), [(0, false, (.vars (.cons (.mp 1) .nil))), (1, false, qB31), (2, false, (.vars qL3))]⟩], [0]⟩
def ifil1_ft (fu : Nat) : FnT := ⟨67, ifil1_fa.i, ifil1_fa.os, fun t => ifil1 fu t.1 t.2.1 t.2.2⟩
theorem ifil1_eq (fu : Nat) : ∀ t, evF Go.Proofs.Try.prog [] fu Go.Proofs.Try.f67 ifil1_fa t = (ifil1_ft fu).spec t := fun t => by kernel_rfl
theorem ifil1_told (fu : Nat) : Told Go.Proofs.Try.prog (ifil1_ft fu) := told_of allT_nil mixed Go.Proofs.Try.func67 (by kernel_rfl) (by kernel_rfl) (ifil1_eq fu)
def sIndFun5_l0 (fu : Nat) (s : List ((Int × Int))) (x : Int) (h2 : qT19) (h3 : Int) : Option ((Int × (qT19 × Int)) ⊕ ((qT19 × Int) ⊕ (Int × (qT19 × Int)))) :=
  bif (decide (x < ((s.length : Nat) : Int))) then
    (idx? x s.length).bind fun q =>
    (s)[q]?.bind fun r =>
    (ifil1 fu r h2 h3).bind fun r1 =>
    bif r1.1 then
      some (.inr (.inr (x, (r1.2.1, r1.2.2))))
    else
      some (.inl ((IntKind.wrap .i64 (x + 1)), (r1.2.1, r1.2.2)))
  else
    some (.inr (.inl (h2, h3)))
def sIndFun5_l0_it (fu : Nat) (s : List ((Int × Int))) (tt : (Int × (qT19 × Int))) : Option ((qT19 × Int) ⊕ (Int × (qT19 × Int))) :=
  iter fu (fun tt => sIndFun5_l0 fu s tt.1 tt.2.1 tt.2.2) tt
def sIndFun5 (fu : Nat) (s : List ((Int × Int))) (h : qT19) (h1 : Int) : Option ((Int × (qT19 × Int))) :=
  (sIndFun5_l0_it fu s (0, (h, h1))).bind fun o =>
  match o with
  | .inl s1 =>
    some ((-1), (s1.1, s1.2))
  | .inr o1 =>
    some o1
def sIndFun5_fa : FnA := ⟨.two (.leaf) (.two (.two (.leaf) (.one (.loop ⟨[1, 8], ⟨(.cons (.fn 67 .nil (.cons (.own 0 0 0 0) (.cons (.own 0 2 0 0) .nil))) qL3), [(0, false, (.vars (.cons (.mp 1) .nil))), (1, false, qB31), (2, false, (.vars qL3))]⟩⟩ true [(0, ⟨[1], ⟨(.cons (.fn 67 .nil (.cons (.own 0 0 0 0) (.cons (.own 0 2 0 0) .nil))) .nil), [(0, false, (.vars (.cons (.mp 1) .nil))), (1, false, qB31), (2, false, (.vars qL3))]⟩⟩)] (.two (.leaf) (.two (.leaf) (.two (.one (.two (.leaf) (.two (.reg [(5, { sh := [0, 1, 2] })]) (.two (.leaf) (.leaf))))) (.leaf))))))) (.leaf)), ⟨(.cons (.p (.sl qY6)) (.cons (.fn 67 .nil (.cons (.own 0 0 0 0) (.cons (.own 0 2 0 0) .nil))) .nil)), [(0, false, (.vars (.cons (.mp 1) .nil))), (1, false, qB31), (2, false, (.vars qL3))]⟩, [⟨qL3, [(0, false, (.vars (.cons (.mp 1) .nil))), (1, false, qB31), (2, false, (.vars qL3))]⟩], [0]⟩
def sIndFun5_ft (fu : Nat) : FnT := ⟨75, sIndFun5_fa.i, sIndFun5_fa.os, fun t => sIndFun5 fu t.1 t.2.1 t.2.2⟩
theorem sIndFun5_eq (fu : Nat) : ∀ t, evF Go.Proofs.Try.prog [ifil1_ft fu] fu Go.Proofs.Try.f75 sIndFun5_fa t = (sIndFun5_ft fu).spec t := fun t => by kernel_rfl
theorem sIndFun5_told (fu : Nat) : Told Go.Proofs.Try.prog (sIndFun5_ft fu) := told_of (allT_cons (ifil1_told fu) allT_nil) mixed Go.Proofs.Try.func75 (by kernel_rfl) (by kernel_rfl) (sIndFun5_eq fu)
def sConFun2 (fu : Nat) (s : List ((Int × Int))) (h : qT19) (h1 : Int) : Option ((Bool × (qT19 × Int))) :=
  (sIndFun5 fu s h h1).bind fun r =>
  some ((decide (r.1 ≥ 0)), (r.2.1, r.2.2))
def sConFun2_fa : FnA := ⟨.two (.leaf) (.two (.reg [(2, { sh := [0, 1, 2] })]) (.leaf)), ⟨(.cons (.p (.sl qY6)) (.cons (.fn 67 .nil (.cons (.own 0 0 0 0) (.cons (.own 0 2 0 0) .nil))) .nil)), [(0, false, (.vars (.cons (.mp 1) .nil))), (1, false, qB31), (2, false, (.vars qL3))]⟩, [⟨(.cons (.p .bool) .nil), [(0, false, (.vars (.cons (.mp 1) .nil))), (1, false, qB31), (2, false, (.vars qL3))]⟩], [0]⟩
def sConFun2_ft (fu : Nat) : FnT := ⟨68, sConFun2_fa.i, sConFun2_fa.os, fun t => sConFun2 fu t.1 t.2.1 t.2.2⟩
theorem sConFun2_eq (fu : Nat) : ∀ t, evF Go.Proofs.Try.prog [sIndFun5_ft fu] fu Go.Proofs.Try.f68 sConFun2_fa t = (sConFun2_ft fu).spec t := fun t => by kernel_rfl
theorem sConFun2_told (fu : Nat) : Told Go.Proofs.Try.prog (sConFun2_ft fu) := told_of (allT_cons (sIndFun5_told fu) allT_nil) mixed Go.Proofs.Try.func68 (by kernel_rfl) (by kernel_rfl) (sConFun2_eq fu)
def ifilm2 (fu : Nat) (n : qT1) (stripe : Int) (h : qT19) : Option ((Bool × qT19)) :=
  bif (decide (n.2.2.2.2.1 ≥ 0)) then
    bif (decide (n.2.2.2.2.1 ≤ 65536)) then
      bif (((n.2.2.2.2.2.2.2.length : Nat) : Int) == 0) then
        bif (decide (((n.2.2.2.2.2.1.length : Nat) : Int) ≤ 4096)) then
          (sConFun2 fu n.2.2.2.2.2.1 h stripe).bind fun r =>
          some ((!r.1), r.2.1)
        else
          some (false, h)
      else
        some (false, h)
    else
      some (false, h)
  else
    some (false, h)
def ifilm2_fa : FnA := ⟨.two (.reg [(0, { ids := [100] }), (1, { ids := [101] }), (2, { ids := [102] })]) (.two (.leaf) (.two (.reg [(24, { sh := [102, 0, 101] })]) (.leaf))), ⟨(.cons (.p qY0) (.cons (.p (.int .i64)) (.cons (.mp 0) .nil))), [(0, false, qB31)]⟩, [⟨(.cons (.p .bool) .nil), [(0, false, qB31)]⟩], [0]⟩
def ifilm2_ft (fu : Nat) : FnT := ⟨52, ifilm2_fa.i, ifilm2_fa.os, fun t => ifilm2 fu t.1 t.2.1 t.2.2⟩
theorem ifilm2_eq (fu : Nat) : ∀ t, evF Go.Proofs.Try.prog [sConFun2_ft fu] fu Go.Proofs.Try.f52 ifilm2_fa t = (ifilm2_ft fu).spec t := fun t => by kernel_rfl
theorem ifilm2_told (fu : Nat) : Told Go.Proofs.Try.prog (ifilm2_ft fu) := told_of (allT_cons (sConFun2_told fu) allT_nil) mixed Go.Proofs.Try.func52 (by kernel_rfl) (by kernel_rfl) (ifilm2_eq fu)
def iRig_l0 (fu : Nat) (o : (Bool × (List (qT1) × Int))) (t : (List (qT1) × Int)) (x : Int) (h : List (qT1)) (h1 : Int) (h2 : qT19) : Option ((Int × (List (qT1) × (Int × qT19))) ⊕ ((List (qT1) × Int) ⊕ Bool)) :=
  bif (decide (x < ((o.2.1.length : Nat) : Int))) then
    (idx? x o.2.1.length).bind fun q =>
    (o.2.1)[q]?.bind fun r =>
    (ibar fu (r.1, (r.2.1, (r.2.2.1, (r.2.2.2.1, (r.2.2.2.2.1, (r.2.2.2.2.2.1, (r.2.2.2.2.2.2.1, r.2.2.2.2.2.2.2)))))))).bind fun r1 =>
    Option.bind (α := ((Bool × (List (qT1) × (Int × (qT19 × qT1)))))) (
      bif r.2.2.1 then
        some (r.2.2.2.1, (h, (h1, (h2, (r.1, (r.2.1, (r.2.2.1, (r.2.2.2.1, (r.2.2.2.2.1, (r.2.2.2.2.2.1, (r.2.2.2.2.2.2.1, r.2.2.2.2.2.2.2)))))))))))
      else
        some (false, (h, (h1, (h2, (r.1, (r.2.1, (r.2.2.1, (r.2.2.2.1, (r.2.2.2.2.1, (r.2.2.2.2.2.1, (r.2.2.2.2.2.2.1, r.2.2.2.2.2.2.2)))))))))))) fun o1 =>
    Option.bind (α := ((Bool × (List (qT1) × (Int × (qT19 × qT1)))))) (
      bif o1.1 then
        (idir fu (o1.2.2.2.2.1, (o1.2.2.2.2.2.1, (o1.2.2.2.2.2.2.1, (o1.2.2.2.2.2.2.2.1, (o1.2.2.2.2.2.2.2.2.1, (o1.2.2.2.2.2.2.2.2.2.1, (o1.2.2.2.2.2.2.2.2.2.2.1, o1.2.2.2.2.2.2.2.2.2.2.2))))))) ((t.1.length : Nat) : Int)).bind fun r2 =>
        some (r2, (o1.2.1, (o1.2.2.1, (o1.2.2.2.1, (o1.2.2.2.2.1, (o1.2.2.2.2.2.1, (o1.2.2.2.2.2.2.1, (o1.2.2.2.2.2.2.2.1, (o1.2.2.2.2.2.2.2.2.1, (o1.2.2.2.2.2.2.2.2.2.1, (o1.2.2.2.2.2.2.2.2.2.2.1, o1.2.2.2.2.2.2.2.2.2.2.2)))))))))))
      else
        Option.bind (α := ((Bool × (List (qT1) × (Int × (qT19 × qT1)))))) (
          bif o1.2.2.2.2.2.2.1 then
            (ifilm2 fu (o1.2.2.2.2.1, (o1.2.2.2.2.2.1, (o1.2.2.2.2.2.2.1, (o1.2.2.2.2.2.2.2.1, (o1.2.2.2.2.2.2.2.2.1, (o1.2.2.2.2.2.2.2.2.2.1, (o1.2.2.2.2.2.2.2.2.2.2.1, o1.2.2.2.2.2.2.2.2.2.2.2))))))) o1.2.2.1 o1.2.2.2.1).bind fun r3 =>
            some (r3.1, (o1.2.1, (o1.2.2.1, (r3.2, (o1.2.2.2.2.1, (o1.2.2.2.2.2.1, (o1.2.2.2.2.2.2.1, (o1.2.2.2.2.2.2.2.1, (o1.2.2.2.2.2.2.2.2.1, (o1.2.2.2.2.2.2.2.2.2.1, (o1.2.2.2.2.2.2.2.2.2.2.1, o1.2.2.2.2.2.2.2.2.2.2.2)))))))))))
          else
            some (r1, (o1.2.1, (o1.2.2.1, (o1.2.2.2.1, (o1.2.2.2.2.1, (o1.2.2.2.2.2.1, (o1.2.2.2.2.2.2.1, (o1.2.2.2.2.2.2.2.1, (o1.2.2.2.2.2.2.2.2.1, (o1.2.2.2.2.2.2.2.2.2.1, (o1.2.2.2.2.2.2.2.2.2.2.1, o1.2.2.2.2.2.2.2.2.2.2.2)))))))))))) fun o2 =>
        some (o2.1, (o2.2.1, (o2.2.2.1, (o2.2.2.2.1, (o2.2.2.2.2.1, (o2.2.2.2.2.2.1, (o2.2.2.2.2.2.2.1, (o2.2.2.2.2.2.2.2.1, (o2.2.2.2.2.2.2.2.2.1, (o2.2.2.2.2.2.2.2.2.2.1, (o2.2.2.2.2.2.2.2.2.2.2.1, o2.2.2.2.2.2.2.2.2.2.2.2)))))))))))) fun o3 =>
    Option.bind (α := ((Bool × (List (qT1) × (Int × qT19))))) (
      bif (!o3.1) then
        some (true, (o3.2.1, (o3.2.2.1, o3.2.2.2.1)))
      else
        bif (!(o3.2.2.2.2.1 == (IntKind.wrap .i64 (x + 1)))) then
          some (true, (o3.2.1, (o3.2.2.1, o3.2.2.2.1)))
        else
          bif (decide (o3.2.2.2.2.2.1 < 1)) then
            some (true, (o3.2.1, (o3.2.2.1, o3.2.2.2.1)))
          else
            bif (decide (o3.2.2.2.2.2.1 > 1099511627776)) then
              some (true, (o3.2.1, (o3.2.2.1, o3.2.2.2.1)))
            else
              bif o3.2.2.2.2.2.2.1 then
                bif (decide (o3.2.2.2.2.2.2.2.2.2.2.1 < 1)) then
                  some (true, (o3.2.1, (o3.2.2.1, o3.2.2.2.1)))
                else
                  some ((decide (o3.2.2.2.2.2.2.2.2.2.2.1 > ((t.1.length : Nat) : Int))), (o3.2.1, (o3.2.2.1, o3.2.2.2.1)))
              else
                some (false, (o3.2.1, (o3.2.2.1, o3.2.2.2.1)))) fun o4 =>
    bif o4.1 then
      some (.inr (.inr false))
    else
      some (.inl ((IntKind.wrap .i64 (x + 1)), (o4.2.1, (o4.2.2.1, o4.2.2.2))))
  else
    some (.inr (.inl (h, h1)))
def iRig_l0_it (fu : Nat) (o : (Bool × (List (qT1) × Int))) (t : (List (qT1) × Int)) (tt : (Int × (List (qT1) × (Int × qT19)))) : Option ((List (qT1) × Int) ⊕ Bool) :=
  iter fu (fun tt => iRig_l0 fu o t tt.1 tt.2.1 tt.2.2.1 tt.2.2.2) tt
def iRig (fu : Nat) (t : (List (qT1) × Int)) : Option (Bool) :=
  Option.bind (α := ((Bool × (List (qT1) × Int)))) (
    bif (decide (((t.1.length : Nat) : Int) < 1)) then
      some (true, (t.1, t.2))
    else
      bif (decide (((t.1.length : Nat) : Int) > 500)) then
        some (true, (t.1, t.2))
      else
        bif (decide (t.2 < 0)) then
          some (true, (t.1, t.2))
        else
          some ((decide (t.2 > 1099511627776)), (t.1, t.2))) fun o =>
  bif o.1 then
    some false
  else
    (iRig_l0_it fu o t (0, (o.2.1, (o.2.2, ([], 0))))).bind fun o5 =>
    match o5 with
    | .inl s =>
      (idx? 0 s.1.length).bind fun q1 =>
      (s.1)[q1]?.bind fun r4 =>
      bif r4.2.2.1 then
        bif r4.2.2.2.1 then
          some (r4.2.2.2.2.2.2.1 == 1)
        else
          some false
      else
        some false
    | .inr o6 =>
      some o6
def iRig_fa : FnA := ⟨.two (.reg [(0, { ids := [100] })]) (.two (.leaf) (.two (.two (.join ⟨[1, 27], ⟨(.cons (.own 0 100 0 0) (.cons (.p .bool) .nil)), [(100, false, qB9)]⟩⟩ false [] (.leaf)) (.two (.leaf) (.leaf))) (.two (.reg [(0, { ids := [101] })]) (.two (.two (.leaf) (.one (.loop ⟨[1, 4, 32], ⟨(.cons (.own 0 100 0 0) (.cons (.mp 101) qL3)), [(100, false, qB9), (101, false, qB31)]⟩⟩ true [(0, ⟨[1], ⟨(.cons (.own 0 100 0 0) .nil), [(100, false, qB9)]⟩⟩)] (.two (.leaf) (.two (.leaf) (.two (.one (.two (.reg [(3, { ids := [102] })]) (.two (.reg [(1, {  })]) (.two (.one (.two (.join ⟨[1, 4, 6, 39], ⟨(.cons (.own 0 100 0 0) (.cons (.mp 101) (.cons (.own 0 102 0 0) (.cons (.p .bool) .nil)))), [(100, false, qB9), (101, false, qB31), (102, false, (.vars qL5))]⟩⟩ false [] (.leaf)) (.join ⟨[1, 4, 6, 7], ⟨(.cons (.own 0 100 0 0) (.cons (.mp 101) (.cons (.own 0 102 0 0) (.cons (.p .bool) .nil)))), [(100, false, qB9), (101, false, qB31), (102, false, (.vars qL5))]⟩⟩ false [] (.two (.reg [(2, { fn := 1 })]) (.two (.leaf) (.join ⟨[1, 4, 6, 7], ⟨(.cons (.own 0 100 0 0) (.cons (.mp 101) (.cons (.own 0 102 0 0) (.cons (.p .bool) .nil)))), [(100, false, qB9), (101, false, qB31), (102, false, (.vars qL5))]⟩⟩ false [] (.two (.reg [(4, { sh := [101], fn := 2 })]) (.leaf)))))))) (.two (.join ⟨[1, 4, 90], ⟨(.cons (.own 0 100 0 0) (.cons (.mp 101) (.cons (.p .bool) .nil))), [(100, false, qB9), (101, false, qB31)]⟩⟩ false [] (.leaf)) (.two (.leaf) (.leaf))))))) (.leaf))))))) (.two (.reg [(4, { ids := [103] })]) (.leaf)))))), ⟨(.cons (.p qY21) .nil), []⟩, [⟨(.cons (.p .bool) .nil), []⟩], [0]⟩
def iRig_ft (fu : Nat) : FnT := ⟨30, iRig_fa.i, iRig_fa.os, fun t => iRig fu t⟩
theorem iRig_eq (fu : Nat) : ∀ t, evF Go.Proofs.Try.prog [ibar_ft fu, idir_ft fu, ifilm2_ft fu] fu Go.Proofs.Try.f30 iRig_fa t = (iRig_ft fu).spec t := fun t => by kernel_rfl
theorem iRig_told (fu : Nat) : Told Go.Proofs.Try.prog (iRig_ft fu) := told_of (allT_cons (ibar_told fu) (allT_cons (idir_told fu) (allT_cons (ifilm2_told fu) allT_nil))) mixed Go.Proofs.Try.func30 (by kernel_rfl) (by kernel_rfl) (iRig_eq fu)
def sConAny (fu : Nat) (s chars : List UInt8) : Option Bool :=
  need (Nat.beq chars.length 2 && chars.all (fun b => Nat.blt b.toNat 128) && Nat.blt s.length 4294967281) (some (Go.Lib.containsAny s chars))
def sConAny_ft (fu : Nat) : FnT := ⟨53, ⟨(.cons (.p .str) (.cons (.p .str) .nil)), []⟩, [⟨(.cons (.p .bool) .nil), []⟩], fun t => sConAny fu t.1 t.2⟩
theorem sConAny_told (fu : Nat) : Told Go.Proofs.Try.prog (sConAny_ft fu) :=
  told_containsAny Go.Proofs.Try.ca53 (by kernel_rfl) ⟨_, _, Go.Proofs.Try.func53, rfl, by kernel_rfl⟩
def tNam (fu : Nat) (s : List UInt8) : Option (Bool) :=
  bif (decide (((s.length : Nat) : Int) ≥ 1)) then
    bif (decide (((s.length : Nat) : Int) ≤ 30)) then
      bif (!(s == [46])) then
        bif (!(s == [46, 46])) then
          (sConAny fu s [0, 47]).bind fun r =>
          some (!r)
        else
          some false
      else
        some false
    else
      some false
  else
    some false
def tNam_fa : FnA := ⟨.two (.leaf) (.two (.reg [(18, {  })]) (.leaf)), ⟨(.cons (.p .str) .nil), []⟩, [⟨(.cons (.p .bool) .nil), []⟩], [0]⟩
def tNam_ft (fu : Nat) : FnT := ⟨32, tNam_fa.i, tNam_fa.os, fun t => tNam fu t⟩
theorem tNam_eq (fu : Nat) : ∀ t, evF Go.Proofs.Try.prog [sConAny_ft fu] fu Go.Proofs.Try.f32 tNam_fa t = (tNam_ft fu).spec t := fun t => by kernel_rfl
theorem tNam_told (fu : Nat) : Told Go.Proofs.Try.prog (tNam_ft fu) := told_of (allT_cons (sConAny_told fu) allT_nil) mixed Go.Proofs.Try.func32 (by kernel_rfl) (by kernel_rfl) (tNam_eq fu)
def tRig1 (fu : Nat) (e : (List UInt8 × Int)) (h : List (Int)) (h1 : List (qT1)) (h2 : Int) (h3 : Int) (h4 : Int) (h5 : Bool) (h6 : Bool) (h7 : Int) (h8 : List ((Int × Int))) (h9 : Int) (h10 : List ((List UInt8 × Int))) : Option ((Bool × (List (Int) × (List (qT1) × (Int × qT1))))) :=
  (idx? e.2 h.length).bind fun q =>
  (h)[q]?.bind fun r =>
  (idx? e.2 h.length).bind fun q1 =>
  (h)[q1]?.bind fun r1 =>
  (idx? (IntKind.wrap .i64 (e.2 - 1)) h1.length).bind fun q2 =>
  (h1)[q2]?.bind fun r2 =>
  (tNam fu e.1).bind fun r3 =>
  bif (!r3) then
    some (true, ((List.set h q1 (IntKind.wrap .i64 (r + 1))), (h1, (h2, (h3, (h4, (h5, (h6, (h7, (h8, (h9, h10)))))))))))
  else
    bif (!r2.2.2.1) then
      some (true, ((List.set h q1 (IntKind.wrap .i64 (r + 1))), (h1, (h2, (h3, (h4, (h5, (h6, (h7, (h8, (h9, h10)))))))))))
    else
      some ((!(r2.2.2.2.2.2.2.1 == h3)), ((List.set h q1 (IntKind.wrap .i64 (r + 1))), (h1, (h2, (h3, (h4, (h5, (h6, (h7, (h8, (h9, h10)))))))))))
def tRig1_fa : FnA := ⟨.two (.reg [(0, { ids := [100] })]) (.two (.leaf) (.two (.reg [(7, { ids := [101] })]) (.two (.reg [(2, {  })]) (.leaf)))), ⟨(.cons (.p (.pair .str (.int .i64))) (.cons (.own 0 0 0 0) (.cons (.own 0 2 0 0) (.cons (.own 0 3 0 0) .nil)))), [(0, false, (.vars (.cons (.slf 1 1) .nil))), (1, false, (.rows 3 (.int .i64))), (2, false, qB9), (3, false, (.vars qL5))]⟩, [⟨(.cons (.p .bool) .nil), [(0, false, (.vars (.cons (.slf 1 1) .nil))), (1, false, (.rows 3 (.int .i64))), (2, false, qB9), (3, false, (.vars qL5))]⟩], [0]⟩
def tRig1_ft (fu : Nat) : FnT := ⟨31, tRig1_fa.i, tRig1_fa.os, fun t => tRig1 fu t.1 t.2.1 t.2.2.1 t.2.2.2.1 t.2.2.2.2.1 t.2.2.2.2.2.1 t.2.2.2.2.2.2.1 t.2.2.2.2.2.2.2.1 t.2.2.2.2.2.2.2.2.1 t.2.2.2.2.2.2.2.2.2.1 t.2.2.2.2.2.2.2.2.2.2.1 t.2.2.2.2.2.2.2.2.2.2.2⟩
theorem tRig1_eq (fu : Nat) : ∀ t, evF Go.Proofs.Try.prog [tNam_ft fu] fu Go.Proofs.Try.f31 tRig1_fa t = (tRig1_ft fu).spec t := fun t => by kernel_rfl
theorem tRig1_told (fu : Nat) : Told Go.Proofs.Try.prog (tRig1_ft fu) := told_of (allT_cons (tNam_told fu) allT_nil) mixed Go.Proofs.Try.func31 (by kernel_rfl) (by kernel_rfl) (tRig1_eq fu)
def sIndFun3_l0 (fu : Nat) (s : List ((List UInt8 × Int))) (x : Int) (h11 : List (Int)) (h12 : List (qT1)) (h13 : Int) (h14 : Int) (h15 : Int) (h16 : Bool) (h17 : Bool) (h18 : Int) (h19 : List ((Int × Int))) (h20 : Int) (h21 : List ((List UInt8 × Int))) : Option ((Int × (List (Int) × (List (qT1) × (Int × qT1)))) ⊕ ((List (Int) × (List (qT1) × (Int × qT1))) ⊕ (Int × (List (Int) × (List (qT1) × (Int × qT1)))))) :=
  bif (decide (x < ((s.length : Nat) : Int))) then
    (idx? x s.length).bind fun q =>
    (s)[q]?.bind fun r =>
    (tRig1 fu r h11 h12 h13 h14 h15 h16 h17 h18 h19 h20 h21).bind fun r1 =>
    bif r1.1 then
      some (.inr (.inr (x, (r1.2.1, (r1.2.2.1, (r1.2.2.2.1, (r1.2.2.2.2.1, (r1.2.2.2.2.2.1, (r1.2.2.2.2.2.2.1, (r1.2.2.2.2.2.2.2.1, (r1.2.2.2.2.2.2.2.2.1, (r1.2.2.2.2.2.2.2.2.2.1, (r1.2.2.2.2.2.2.2.2.2.2.1, r1.2.2.2.2.2.2.2.2.2.2.2)))))))))))))
    else
      some (.inl ((IntKind.wrap .i64 (x + 1)), (r1.2.1, (r1.2.2.1, (r1.2.2.2.1, (r1.2.2.2.2.1, (r1.2.2.2.2.2.1, (r1.2.2.2.2.2.2.1, (r1.2.2.2.2.2.2.2.1, (r1.2.2.2.2.2.2.2.2.1, (r1.2.2.2.2.2.2.2.2.2.1, (r1.2.2.2.2.2.2.2.2.2.2.1, r1.2.2.2.2.2.2.2.2.2.2.2))))))))))))
  else
    some (.inr (.inl (h11, (h12, (h13, (h14, (h15, (h16, (h17, (h18, (h19, (h20, h21))))))))))))
def sIndFun3_l0_it (fu : Nat) (s : List ((List UInt8 × Int))) (tt : (Int × (List (Int) × (List (qT1) × (Int × qT1))))) : Option ((List (Int) × (List (qT1) × (Int × qT1))) ⊕ (Int × (List (Int) × (List (qT1) × (Int × qT1))))) :=
  iter fu (fun tt => sIndFun3_l0 fu s tt.1 tt.2.1 tt.2.2.1 tt.2.2.2.1 tt.2.2.2.2.1 tt.2.2.2.2.2.1 tt.2.2.2.2.2.2.1 tt.2.2.2.2.2.2.2.1 tt.2.2.2.2.2.2.2.2.1 tt.2.2.2.2.2.2.2.2.2.1 tt.2.2.2.2.2.2.2.2.2.2.1 tt.2.2.2.2.2.2.2.2.2.2.2) tt
def sIndFun3 (fu : Nat) (s : List ((List UInt8 × Int))) (h : List (Int)) (h1 : List (qT1)) (h2 : Int) (h3 : Int) (h4 : Int) (h5 : Bool) (h6 : Bool) (h7 : Int) (h8 : List ((Int × Int))) (h9 : Int) (h10 : List ((List UInt8 × Int))) : Option ((Int × (List (Int) × (List (qT1) × (Int × qT1))))) :=
  (sIndFun3_l0_it fu s (0, (h, (h1, (h2, (h3, (h4, (h5, (h6, (h7, (h8, (h9, h10)))))))))))).bind fun o =>
  match o with
  | .inl s1 =>
    some ((-1), (s1.1, (s1.2.1, (s1.2.2.1, (s1.2.2.2.1, (s1.2.2.2.2.1, (s1.2.2.2.2.2.1, (s1.2.2.2.2.2.2.1, (s1.2.2.2.2.2.2.2.1, (s1.2.2.2.2.2.2.2.2.1, (s1.2.2.2.2.2.2.2.2.2.1, s1.2.2.2.2.2.2.2.2.2.2)))))))))))
  | .inr o1 =>
    some o1
def sIndFun3_fa : FnA := ⟨.two (.leaf) (.two (.two (.leaf) (.one (.loop ⟨[1, 8], ⟨(.cons (.fn 31 .nil (.cons (.own 0 0 0 0) (.cons (.own 0 2 0 0) (.cons (.own 0 3 0 0) .nil)))) qL3), [(0, false, (.vars (.cons (.slf 1 1) .nil))), (1, false, (.rows 3 (.int .i64))), (2, false, qB9), (3, false, (.vars qL5))]⟩⟩ true [(0, ⟨[1], ⟨(.cons (.fn 31 .nil (.cons (.own 0 0 0 0) (.cons (.own 0 2 0 0) (.cons (.own 0 3 0 0) .nil)))) .nil), [(0, false, (.vars (.cons (.slf 1 1) .nil))), (1, false, (.rows 3 (.int .i64))), (2, false, qB9), (3, false, (.vars qL5))]⟩⟩)] (.two (.leaf) (.two (.leaf) (.two (.one (.two (.leaf) (.two (.reg [(5, { sh := [0, 1, 2, 3] })]) (.two (.leaf) (.leaf))))) (.leaf))))))) (.leaf)), ⟨(.cons (.p (.sl (.pair .str (.int .i64)))) (.cons (.fn 31 .nil (.cons (.own 0 0 0 0) (.cons (.own 0 2 0 0) (.cons (.own 0 3 0 0) .nil)))) .nil)), [(0, false, (.vars (.cons (.slf 1 1) .nil))), (1, false, (.rows 3 (.int .i64))), (2, false, qB9), (3, false, (.vars qL5))]⟩, [⟨qL3, [(0, false, (.vars (.cons (.slf 1 1) .nil))), (1, false, (.rows 3 (.int .i64))), (2, false, qB9), (3, false, (.vars qL5))]⟩], [0]⟩
def sIndFun3_ft (fu : Nat) : FnT := ⟨54, sIndFun3_fa.i, sIndFun3_fa.os, fun t => sIndFun3 fu t.1 t.2.1 t.2.2.1 t.2.2.2.1 t.2.2.2.2.1 t.2.2.2.2.2.1 t.2.2.2.2.2.2.1 t.2.2.2.2.2.2.2.1 t.2.2.2.2.2.2.2.2.1 t.2.2.2.2.2.2.2.2.2.1 t.2.2.2.2.2.2.2.2.2.2.1 t.2.2.2.2.2.2.2.2.2.2.2⟩
theorem sIndFun3_eq (fu : Nat) : ∀ t, evF Go.Proofs.Try.prog [tRig1_ft fu] fu Go.Proofs.Try.f54 sIndFun3_fa t = (sIndFun3_ft fu).spec t := fun t => by kernel_rfl
theorem sIndFun3_told (fu : Nat) : Told Go.Proofs.Try.prog (sIndFun3_ft fu) := told_of (allT_cons (tRig1_told fu) allT_nil) mixed Go.Proofs.Try.func54 (by kernel_rfl) (by kernel_rfl) (sIndFun3_eq fu)
def sConFun (fu : Nat) (s : List ((List UInt8 × Int))) (h : List (Int)) (h1 : List (qT1)) (h2 : Int) (h3 : Int) (h4 : Int) (h5 : Bool) (h6 : Bool) (h7 : Int) (h8 : List ((Int × Int))) (h9 : Int) (h10 : List ((List UInt8 × Int))) : Option ((Bool × (List (Int) × (List (qT1) × (Int × qT1))))) :=
  (sIndFun3 fu s h h1 h2 h3 h4 h5 h6 h7 h8 h9 h10).bind fun r =>
  some ((decide (r.1 ≥ 0)), (r.2.1, (r.2.2.1, (r.2.2.2.1, (r.2.2.2.2.1, (r.2.2.2.2.2.1, (r.2.2.2.2.2.2.1, (r.2.2.2.2.2.2.2.1, (r.2.2.2.2.2.2.2.2.1, (r.2.2.2.2.2.2.2.2.2.1, (r.2.2.2.2.2.2.2.2.2.2.1, r.2.2.2.2.2.2.2.2.2.2.2)))))))))))
def sConFun_fa : FnA := ⟨.two (.leaf) (.two (.reg [(2, { sh := [0, 1, 2, 3] })]) (.leaf)), ⟨(.cons (.p (.sl (.pair .str (.int .i64)))) (.cons (.fn 31 .nil (.cons (.own 0 0 0 0) (.cons (.own 0 2 0 0) (.cons (.own 0 3 0 0) .nil)))) .nil)), [(0, false, (.vars (.cons (.slf 1 1) .nil))), (1, false, (.rows 3 (.int .i64))), (2, false, qB9), (3, false, (.vars qL5))]⟩, [⟨(.cons (.p .bool) .nil), [(0, false, (.vars (.cons (.slf 1 1) .nil))), (1, false, (.rows 3 (.int .i64))), (2, false, qB9), (3, false, (.vars qL5))]⟩], [0]⟩
def sConFun_ft (fu : Nat) : FnT := ⟨33, sConFun_fa.i, sConFun_fa.os, fun t => sConFun fu t.1 t.2.1 t.2.2.1 t.2.2.2.1 t.2.2.2.2.1 t.2.2.2.2.2.1 t.2.2.2.2.2.2.1 t.2.2.2.2.2.2.2.1 t.2.2.2.2.2.2.2.2.1 t.2.2.2.2.2.2.2.2.2.1 t.2.2.2.2.2.2.2.2.2.2.1 t.2.2.2.2.2.2.2.2.2.2.2⟩
theorem sConFun_eq (fu : Nat) : ∀ t, evF Go.Proofs.Try.prog [sIndFun3_ft fu] fu Go.Proofs.Try.f33 sConFun_fa t = (sConFun_ft fu).spec t := fun t => by kernel_rfl
theorem sConFun_told (fu : Nat) : Told Go.Proofs.Try.prog (sConFun_ft fu) := told_of (allT_cons (sIndFun3_told fu) allT_nil) mixed Go.Proofs.Try.func33 (by kernel_rfl) (by kernel_rfl) (sConFun_eq fu)
def trea_l0 (fu : Nat) (t : (List (qT1) × Int)) (id1 : Int) (x : Int) (h : List (qT1)) (h1 : Int) : Option ((Int × qT32) ⊕ (Int ⊕ Bool)) :=
  bif (decide (x < ((t.1.length : Nat) : Int))) then
    bif (id1 == 1) then
      some (.inr (.inr true))
    else
      (idx? (IntKind.wrap .i64 (id1 - 1)) h.length).bind fun q =>
      (h)[q]?.bind fun r =>
      bif (!r.2.2.1) then
        some (.inr (.inr false))
      else
        (idx? (IntKind.wrap .i64 (id1 - 1)) h.length).bind fun q1 =>
        (h)[q1]?.bind fun r1 =>
        some (.inl (r1.2.2.2.2.2.2.1, ((IntKind.wrap .i64 (x + 1)), (h, h1))))
  else
    some (.inr (.inl id1))
def trea_l0_it (fu : Nat) (t : (List (qT1) × Int)) (tt : (Int × qT32)) : Option (Int ⊕ Bool) :=
  iter fu (fun tt => trea_l0 fu t tt.1 tt.2.1 tt.2.2.1 tt.2.2.2) tt
def trea (fu : Nat) (t : (List (qT1) × Int)) (id : Int) : Option (Bool) :=
  (trea_l0_it fu t (id, (0, (t.1, t.2)))).bind fun o =>
  match o with
  | .inl s =>
    some (s == 1)
  | .inr o1 =>
    some o1
def trea_fa : FnA := ⟨.two (.reg [(0, { ids := [100] })]) (.two (.two (.leaf) (.one (.loop ⟨[1, 2, 8], ⟨(.cons (.p (.int .i64)) (.cons (.own 0 100 0 0) qL3)), [(100, false, qB9)]⟩⟩ true [(0, ⟨[1], ⟨qL3, []⟩⟩)] (.two (.leaf) (.two (.leaf) (.two (.one (.two (.two (.leaf) (.two (.leaf) (.leaf))) (.two (.two (.leaf) (.two (.leaf) (.leaf))) (.leaf)))) (.leaf))))))) (.leaf)), ⟨(.cons (.p qY21) qL3), []⟩, [⟨(.cons (.p .bool) .nil), []⟩], [0]⟩
def trea_ft (fu : Nat) : FnT := ⟨34, trea_fa.i, trea_fa.os, fun t => trea fu t.1 t.2⟩
theorem trea_eq (fu : Nat) : ∀ t, evF Go.Proofs.Try.prog [] fu Go.Proofs.Try.f34 trea_fa t = (trea_ft fu).spec t := fun t => by kernel_rfl
theorem trea_told (fu : Nat) : Told Go.Proofs.Try.prog (trea_ft fu) := told_of allT_nil mixed Go.Proofs.Try.func34 (by kernel_rfl) (by kernel_rfl) (trea_eq fu)
def tRig_l0 (fu : Nat) (t : (List (qT1) × Int)) (x : Int) (h : List (qT1)) (h1 : Int) (h2 : List (Int)) : Option ((Int × (List (qT1) × (Int × List (Int)))) ⊕ ((List (qT1) × (Int × List (Int))) ⊕ Bool)) :=
  bif (decide (x < ((t.1.length : Nat) : Int))) then
    (idx? x t.1.length).bind fun q1 =>
    (t.1)[q1]?.bind fun r1 =>
    Option.bind (α := ((Bool × (List (qT1) × (Int × List (Int)))))) (
      (sConFun fu r1.2.2.2.2.2.2.2 h2 h h1 r1.1 r1.2.1 r1.2.2.1 r1.2.2.2.1 r1.2.2.2.2.1 r1.2.2.2.2.2.1 r1.2.2.2.2.2.2.1 r1.2.2.2.2.2.2.2).bind fun r2 =>
      bif r2.1 then
        some (true, (r2.2.2.1, (r2.2.2.2.1, r2.2.1)))
      else
        bif r2.2.2.2.2.2.2.1 then
          (trea fu (r2.2.2.1, r2.2.2.2.1) r2.2.2.2.2.1).bind fun r3 =>
          some ((!r3), (r2.2.2.1, (r2.2.2.2.1, r2.2.1)))
        else
          some (false, (r2.2.2.1, (r2.2.2.2.1, r2.2.1)))) fun o =>
    bif o.1 then
      some (.inr (.inr false))
    else
      some (.inl ((IntKind.wrap .i64 (x + 1)), (o.2.1, (o.2.2.1, o.2.2.2))))
  else
    some (.inr (.inl (h, (h1, h2))))
def tRig_l0_it (fu : Nat) (t : (List (qT1) × Int)) (tt : (Int × (List (qT1) × (Int × List (Int))))) : Option ((List (qT1) × (Int × List (Int))) ⊕ Bool) :=
  iter fu (fun tt => tRig_l0 fu t tt.1 tt.2.1 tt.2.2.1 tt.2.2.2) tt
def tRig_l1 (fu : Nat) (s : (List (qT1) × (Int × List (Int)))) (x1 : Int) (h3 : List (Int)) : Option ((Int × List (Int)) ⊕ (Unit ⊕ Bool)) :=
  bif (decide (x1 < ((s.1.length : Nat) : Int))) then
    (idx? x1 s.1.length).bind fun q2 =>
    (s.1)[q2]?.bind fun r4 =>
    Option.bind (α := ((Bool × (List (Int) × qT1)))) (
      bif (r4.1 == 1) then
        some (true, (h3, (r4.1, (r4.2.1, (r4.2.2.1, (r4.2.2.2.1, (r4.2.2.2.2.1, (r4.2.2.2.2.2.1, (r4.2.2.2.2.2.2.1, r4.2.2.2.2.2.2.2)))))))))
      else
        some ((!r4.2.2.1), (h3, (r4.1, (r4.2.1, (r4.2.2.1, (r4.2.2.2.1, (r4.2.2.2.2.1, (r4.2.2.2.2.2.1, (r4.2.2.2.2.2.2.1, r4.2.2.2.2.2.2.2)))))))))) fun o3 =>
    Option.bind (α := ((Int × (List (Int) × qT1)))) (
      bif o3.1 then
        some (0, (o3.2.1, (o3.2.2.1, (o3.2.2.2.1, (o3.2.2.2.2.1, (o3.2.2.2.2.2.1, (o3.2.2.2.2.2.2.1, (o3.2.2.2.2.2.2.2.1, (o3.2.2.2.2.2.2.2.2.1, o3.2.2.2.2.2.2.2.2.2)))))))))
      else
        some (1, (o3.2.1, (o3.2.2.1, (o3.2.2.2.1, (o3.2.2.2.2.1, (o3.2.2.2.2.2.1, (o3.2.2.2.2.2.2.1, (o3.2.2.2.2.2.2.2.1, (o3.2.2.2.2.2.2.2.2.1, o3.2.2.2.2.2.2.2.2.2)))))))))) fun o4 =>
    (idx? o4.2.2.1 o4.2.1.length).bind fun q3 =>
    (o4.2.1)[q3]?.bind fun r5 =>
    bif (!(r5 == o4.1)) then
      some (.inr (.inr false))
    else
      some (.inl ((IntKind.wrap .i64 (x1 + 1)), o4.2.1))
  else
    some (.inr (.inl ()))
def tRig_l1_it (fu : Nat) (s : (List (qT1) × (Int × List (Int)))) (tt : (Int × List (Int))) : Option (Unit ⊕ Bool) :=
  iter fu (fun tt => tRig_l1 fu s tt.1 tt.2) tt
def tRig (fu : Nat) (t : (List (qT1) × Int)) : Option (Bool) :=
  (iRig fu (t.1, t.2)).bind fun r =>
  bif (!r) then
    some false
  else
    (upto? (IntKind.wrap .i64 (((t.1.length : Nat) : Int) + 1)) room).bind fun m =>
    (upto? (IntKind.wrap .i64 (((t.1.length : Nat) : Int) + 1)) m).bind fun q =>
    need (Nat.ble (m * 8) room) <|
    (tRig_l0_it fu t (0, (t.1, (t.2, (List.replicate (α := Int) q 0))))).bind fun o1 =>
    match o1 with
    | .inl s =>
      (tRig_l1_it fu s (0, s.2.2)).bind fun o5 =>
      match o5 with
      | .inl s1 =>
        some true
      | .inr o6 =>
        some o6
    | .inr o2 =>
      some o2
def tRig_fa : FnA := ⟨.two (.reg [(0, { ids := [100] })]) (.two (.two (.reg [(1, {  })]) (.two (.leaf) (.leaf))) (.two (.reg [(4, { ids := [101] }), (5, { ids := [102] })]) (.two (.two (.leaf) (.one (.loop ⟨[1, 3, 21], ⟨(.cons (.own 0 100 0 0) (.cons (.own 0 102 0 0) qL3)), [(100, false, qB9), (102, false, (.vars (.cons (.slf 1 101) .nil))), (101, false, (.rows 3 (.int .i64)))]⟩⟩ true [(0, ⟨[1, 3], ⟨(.cons (.own 0 100 0 0) (.cons (.own 0 102 0 0) .nil)), [(100, false, qB9), (102, false, (.vars (.cons (.slf 1 101) .nil))), (101, false, (.rows 3 (.int .i64)))]⟩⟩)] (.two (.leaf) (.two (.leaf) (.two (.one (.two (.reg [(2, { ids := [103] })]) (.two (.leaf) (.two (.join ⟨[1, 3, 40], ⟨(.cons (.own 0 100 0 0) (.cons (.own 0 102 0 0) (.cons (.p .bool) .nil))), [(100, false, qB9), (102, false, (.vars (.cons (.slf 1 101) .nil))), (101, false, (.rows 3 (.int .i64)))]⟩⟩ false [] (.reg [(3, { sh := [102, 101, 100, 103], fn := 1 }), (11, { fn := 2 })])) (.two (.leaf) (.leaf)))))) (.leaf))))))) (.two (.two (.leaf) (.one (.loop ⟨[3, 45], ⟨(.cons (.own 0 102 0 0) qL3), [(102, false, (.vars (.cons (.slf 1 101) .nil))), (101, false, (.rows 3 (.int .i64)))]⟩⟩ true [(2, ⟨[], ⟨.nil, []⟩⟩)] (.two (.leaf) (.two (.leaf) (.two (.one (.two (.reg [(2, { ids := [104] })]) (.two (.leaf) (.two (.two (.join ⟨[3, 8, 56], ⟨(.cons (.own 0 102 0 0) (.cons (.own 0 104 0 0) (.cons (.p .bool) .nil))), [(102, false, (.vars (.cons (.slf 1 101) .nil))), (101, false, (.rows 3 (.int .i64))), (104, false, (.vars qL5))]⟩⟩ false [] (.leaf)) (.join ⟨[3, 8, 9], ⟨(.cons (.own 0 102 0 0) (.cons (.own 0 104 0 0) qL3)), [(102, false, (.vars (.cons (.slf 1 101) .nil))), (101, false, (.rows 3 (.int .i64))), (104, false, (.vars qL5))]⟩⟩ false [] (.leaf))) (.two (.leaf) (.two (.leaf) (.leaf))))))) (.leaf))))))) (.leaf))))), ⟨(.cons (.p qY21) .nil), []⟩, [⟨(.cons (.p .bool) .nil), []⟩], [0]⟩
def tRig_ft (fu : Nat) : FnT := ⟨11, tRig_fa.i, tRig_fa.os, fun t => tRig fu t⟩
theorem tRig_eq (fu : Nat) : ∀ t, evF Go.Proofs.Try.prog [iRig_ft fu, sConFun_ft fu, trea_ft fu] fu Go.Proofs.Try.f11 tRig_fa t = (tRig_ft fu).spec t := fun t => by kernel_rfl
theorem tRig_told (fu : Nat) : Told Go.Proofs.Try.prog (tRig_ft fu) := told_of (allT_cons (iRig_told fu) (allT_cons (sConFun_told fu) (allT_cons (trea_told fu) allT_nil))) mixed Go.Proofs.Try.func11 (by kernel_rfl) (by kernel_rfl) (tRig_eq fu)
def sClo3 (fu : Nat) (s : List ((Int × Int))) : Option (List ((Int × Int))) :=
  nilQ s.length fun isNil =>
  bif isNil then
    some []
  else
    need ((Nat.ble ((0 + s.length) * 16) room) && (Nat.ble (0 + s.length) room)) <|
    some s
def sClo3_fa : FnA := ⟨.two (.leaf) (.two (.two (.leaf) (.two (.leaf) (.leaf))) (.two (.reg [(0, { ids := [100] }), (2, { ids := [101] })]) (.leaf))), ⟨(.cons (.p (.sl qY6)) .nil), []⟩, [⟨(.cons (.slf 2 0) .nil), [(0, false, (.rows 67 qY6))]⟩], [77]⟩
def sClo3_ft (fu : Nat) : FnT := ⟨49, sClo3_fa.i, sClo3_fa.os, fun t => sClo3 fu t⟩
theorem sClo3_eq (fu : Nat) : ∀ t, evF Go.Proofs.Try.prog [] fu Go.Proofs.Try.f49 sClo3_fa t = (sClo3_ft fu).spec t := fun t => by kernel_rfl
theorem sClo3_told (fu : Nat) : Told Go.Proofs.Try.prog (sClo3_ft fu) := told_of allT_nil mixed Go.Proofs.Try.func49 (by kernel_rfl) (by kernel_rfl) (sClo3_eq fu)
def sClo2 (fu : Nat) (s : List ((List UInt8 × Int))) : Option (List ((List UInt8 × Int))) :=
  nilQ s.length fun isNil =>
  bif isNil then
    some []
  else
    need ((Nat.ble ((0 + s.length) * 24) room) && (Nat.ble (0 + s.length) room)) <|
    some s
def sClo2_fa : FnA := ⟨.two (.leaf) (.two (.two (.leaf) (.two (.leaf) (.leaf))) (.two (.reg [(0, { ids := [100] }), (2, { ids := [101] })]) (.leaf))), ⟨(.cons (.p (.sl (.pair .str (.int .i64)))) .nil), []⟩, [⟨(.cons (.slf 2 0) .nil), [(0, false, qB20)]⟩], [69]⟩
def sClo2_ft (fu : Nat) : FnT := ⟨46, sClo2_fa.i, sClo2_fa.os, fun t => sClo2 fu t⟩
theorem sClo2_eq (fu : Nat) : ∀ t, evF Go.Proofs.Try.prog [] fu Go.Proofs.Try.f46 sClo2_fa t = (sClo2_ft fu).spec t := fun t => by kernel_rfl
theorem sClo2_told (fu : Nat) : Told Go.Proofs.Try.prog (sClo2_ft fu) := told_of allT_nil mixed Go.Proofs.Try.func46 (by kernel_rfl) (by kernel_rfl) (sClo2_eq fu)
def inode_own (fu : Nat) (n : qT1) : Option ((Int × (Int × (Bool × (Bool × (Int × (Int × (List ((Int × Int)) × List ((List UInt8 × Int)))))))))) :=
  (sClo3 fu n.2.2.2.2.2.1).bind fun r =>
  (sClo2 fu n.2.2.2.2.2.2.2).bind fun r1 =>
  some (n.1, (n.2.1, (n.2.2.1, (n.2.2.2.1, (n.2.2.2.2.1, (n.2.2.2.2.2.2.1, (r, r1)))))))
def inode_own_fa : FnA := ⟨.two (.reg [(0, { ids := [100] }), (1, { ids := [101] })]) (.two (.reg [(2, { ids := [102] }), (5, { ids := [103], fn := 1 })]) (.leaf)), ⟨(.cons (.p qY0) .nil), []⟩, [⟨(.cons (.agg (.cons (.p (.int .i64)) (.cons (.p (.int .i64)) (.cons (.p .bool) (.cons (.p .bool) (.cons (.p (.int .i64)) (.cons (.slf 2 0) (.cons (.p (.int .i64)) (.cons (.slf 2 1) .nil))))))))) .nil), [(0, false, (.rows 67 qY6)), (1, false, qB20)]⟩], [0]⟩
def inode_own_ft (fu : Nat) : FnT := ⟨38, inode_own_fa.i, inode_own_fa.os, fun t => inode_own fu t⟩
theorem inode_own_eq (fu : Nat) : ∀ t, evF Go.Proofs.Try.prog [sClo3_ft fu, sClo2_ft fu] fu Go.Proofs.Try.f38 inode_own_fa t = (inode_own_ft fu).spec t := fun t => by kernel_rfl
theorem inode_own_told (fu : Nat) : Told Go.Proofs.Try.prog (inode_own_ft fu) := told_of (allT_cons (sClo3_told fu) (allT_cons (sClo2_told fu) allT_nil)) mixed Go.Proofs.Try.func38 (by kernel_rfl) (by kernel_rfl) (inode_own_eq fu)
def inode_Get (fu : Nat) (t : (List (qT1) × Int)) (h : (Int × Int)) : Option ((Int × (Int × (Bool × (Bool × (Int × (List ((Int × Int)) × (Int × (List ((List UInt8 × Int)) × Int))))))))) :=
  Option.bind (α := ((Bool × (List (qT1) × (Int × (Int × (Int × (Int × (Int × (Bool × (Bool × (Int × Int)))))))))))) (
    bif (decide (h.1 < 1)) then
      some (true, (t.1, (t.2, (h.1, (h.2, (0, (0, (false, (false, (0, 0))))))))))
    else
      some ((decide (h.1 > ((t.1.length : Nat) : Int))), (t.1, (t.2, (h.1, (h.2, (0, (0, (false, (false, (0, 0))))))))))) fun o =>
  bif o.1 then
    some (0, (0, (false, (false, (0, ([], (0, ([], 170))))))))
  else
    (idx? (IntKind.wrap .i64 (o.2.2.2.1 - 1)) o.2.1.length).bind fun q =>
    (o.2.1)[q]?.bind fun r =>
    Option.bind (α := ((Bool × (Int × (Int × (Bool × (Bool × (Int × (Int × qT1))))))))) (
      bif (!r.2.2.1) then
        some (true, (o.2.2.2.2.2.1, (o.2.2.2.2.2.2.1, (o.2.2.2.2.2.2.2.1, (o.2.2.2.2.2.2.2.2.1, (o.2.2.2.2.2.2.2.2.2.1, (o.2.2.2.2.2.2.2.2.2.2, (r.1, (r.2.1, (r.2.2.1, (r.2.2.2.1, (r.2.2.2.2.1, (r.2.2.2.2.2.1, (r.2.2.2.2.2.2.1, r.2.2.2.2.2.2.2))))))))))))))
      else
        some ((!(r.2.1 == o.2.2.2.2.1)), (o.2.2.2.2.2.1, (o.2.2.2.2.2.2.1, (o.2.2.2.2.2.2.2.1, (o.2.2.2.2.2.2.2.2.1, (o.2.2.2.2.2.2.2.2.2.1, (o.2.2.2.2.2.2.2.2.2.2, (r.1, (r.2.1, (r.2.2.1, (r.2.2.2.1, (r.2.2.2.2.1, (r.2.2.2.2.2.1, (r.2.2.2.2.2.2.1, r.2.2.2.2.2.2.2))))))))))))))) fun o1 =>
    bif o1.1 then
      some (0, (0, (false, (false, (0, ([], (0, ([], 170))))))))
    else
      (inode_own fu (o1.2.2.2.2.2.2.2.1, (o1.2.2.2.2.2.2.2.2.1, (o1.2.2.2.2.2.2.2.2.2.1, (o1.2.2.2.2.2.2.2.2.2.2.1, (o1.2.2.2.2.2.2.2.2.2.2.2.1, (o1.2.2.2.2.2.2.2.2.2.2.2.2.1, (o1.2.2.2.2.2.2.2.2.2.2.2.2.2.1, o1.2.2.2.2.2.2.2.2.2.2.2.2.2.2)))))))).bind fun r1 =>
      some (r1.1, (r1.2.1, (r1.2.2.1, (r1.2.2.2.1, (r1.2.2.2.2.1, (r1.2.2.2.2.2.2.1, (r1.2.2.2.2.2.1, (r1.2.2.2.2.2.2.2, 0))))))))
def inode_Get_fa : FnA := ⟨.two (.reg [(0, { ids := [100] }), (1, { ids := [101] }), (2, { ids := [102] })]) (.two (.two (.join ⟨[2, 3, 4, 17], ⟨(.cons (.own 0 100 0 0) (.cons (.own 0 101 0 0) (.cons (.own 0 102 0 0) (.cons (.p .bool) .nil)))), [(100, false, qB9), (101, false, qB12), (102, false, qB26)]⟩⟩ false [] (.leaf)) (.two (.leaf) (.leaf))) (.two (.reg [(7, { ids := [103] })]) (.two (.two (.join ⟨[4, 6, 35], ⟨(.cons (.own 0 102 0 0) (.cons (.own 0 103 0 0) (.cons (.p .bool) .nil))), [(102, false, qB26), (103, false, (.vars qL5))]⟩⟩ false [] (.leaf)) (.two (.leaf) (.leaf))) (.two (.reg [(1, { ids := [104, 105] })]) (.leaf))))), ⟨(.cons (.p qY21) (.cons (.p qY6) .nil)), []⟩, [⟨(.cons (.agg qL5) qL3), []⟩], [1, 0]⟩
def inode_Get_ft (fu : Nat) : FnT := ⟨15, inode_Get_fa.i, inode_Get_fa.os, fun t => inode_Get fu t.1 t.2⟩
theorem inode_Get_eq (fu : Nat) : ∀ t, evF Go.Proofs.Try.prog [inode_own_ft fu] fu Go.Proofs.Try.f15 inode_Get_fa t = (inode_Get_ft fu).spec t := fun t => by kernel_rfl
theorem inode_Get_told (fu : Nat) : Told Go.Proofs.Try.prog (inode_Get_ft fu) := told_of (allT_cons (inode_own_told fu) allT_nil) mixed Go.Proofs.Try.func15 (by kernel_rfl) (by kernel_rfl) (inode_Get_eq fu)
def tdir (fu : Nat) (t : (List (qT1) × Int)) (h : (Int × Int)) : Option ((Int × (Int × (Bool × (Bool × (Int × (List ((Int × Int)) × (Int × (List ((List UInt8 × Int)) × Int))))))))) :=
  (inode_Get fu (t.1, t.2) (h.1, h.2)).bind fun r =>
  Option.bind (α := ((Bool × (Int × (Int × (Bool × (Bool × (Int × (Int × qT1))))))))) (
    bif (r.2.2.2.2.2.2.2.2 == 0) then
      some ((!r.2.2.2.1), (0, (0, (false, (false, (0, (0, (r.1, (r.2.1, (r.2.2.1, (r.2.2.2.1, (r.2.2.2.2.1, (r.2.2.2.2.2.1, (r.2.2.2.2.2.2.1, r.2.2.2.2.2.2.2.1))))))))))))))
    else
      some (false, (0, (0, (false, (false, (0, (0, (r.1, (r.2.1, (r.2.2.1, (r.2.2.2.1, (r.2.2.2.2.1, (r.2.2.2.2.2.1, (r.2.2.2.2.2.2.1, r.2.2.2.2.2.2.2.1))))))))))))))) fun o =>
  bif o.1 then
    some (0, (0, (false, (false, (0, ([], (0, ([], 173))))))))
  else
    some (o.2.2.2.2.2.2.2.1, (o.2.2.2.2.2.2.2.2.1, (o.2.2.2.2.2.2.2.2.2.1, (o.2.2.2.2.2.2.2.2.2.2.1, (o.2.2.2.2.2.2.2.2.2.2.2.1, (o.2.2.2.2.2.2.2.2.2.2.2.2.1, (o.2.2.2.2.2.2.2.2.2.2.2.2.2.1, (o.2.2.2.2.2.2.2.2.2.2.2.2.2.2, r.2.2.2.2.2.2.2.2))))))))
def tdir_fa : FnA := ⟨.two (.reg [(0, { ids := [100] }), (1, { ids := [101] }), (2, { ids := [102] })]) (.two (.reg [(2, {  }), (6, { ids := [103] })]) (.two (.two (.join ⟨[4, 6, 20], ⟨(.cons (.own 0 102 0 0) (.cons (.own 0 103 0 0) (.cons (.p .bool) .nil))), [(102, false, qB26), (103, false, (.vars qL5))]⟩⟩ false [] (.leaf)) (.two (.leaf) (.leaf))) (.leaf))), ⟨(.cons (.p qY21) (.cons (.p qY6) .nil)), []⟩, [⟨(.cons (.agg qL5) qL3), []⟩], [0, 0]⟩
def tdir_ft (fu : Nat) : FnT := ⟨55, tdir_fa.i, tdir_fa.os, fun t => tdir fu t.1 t.2⟩
theorem tdir_eq (fu : Nat) : ∀ t, evF Go.Proofs.Try.prog [inode_Get_ft fu] fu Go.Proofs.Try.f55 tdir_fa t = (tdir_ft fu).spec t := fun t => by kernel_rfl
theorem tdir_told (fu : Nat) : Told Go.Proofs.Try.prog (tdir_ft fu) := told_of (allT_cons (inode_Get_told fu) allT_nil) mixed Go.Proofs.Try.func55 (by kernel_rfl) (by kernel_rfl) (tdir_eq fu)
def task_l0 (fu : Nat) (l : List ((Int × Int))) (x : Int) (h : List (qT1)) (h1 : Int) (h2 : List (qT1)) : Option ((Int × (List (qT1) × (Int × List (qT1)))) ⊕ (List (qT1) ⊕ (Int × List (qT1)))) :=
  bif (decide (x < ((l.length : Nat) : Int))) then
    (idx? x l.length).bind fun q =>
    (l)[q]?.bind fun r1 =>
    (tdir fu (h, h1) (r1.1, r1.2)).bind fun r2 =>
    bif (!(r2.2.2.2.2.2.2.2.2 == 0)) then
      some (.inr (.inr (r2.2.2.2.2.2.2.2.2, [])))
    else
      need ((Nat.ble ((h2.length + 1) * 88) room) && (Nat.ble (h2.length + 1) room)) <|
      some (.inl ((IntKind.wrap .i64 (x + 1)), (h, (h1, (h2 ++ [(r2.1, (r2.2.1, (r2.2.2.1, (r2.2.2.2.1, (r2.2.2.2.2.1, (r2.2.2.2.2.2.1, (r2.2.2.2.2.2.2.1, r2.2.2.2.2.2.2.2.1)))))))])))))
  else
    some (.inr (.inl h2))
def task_l0_it (fu : Nat) (l : List ((Int × Int))) (tt : (Int × (List (qT1) × (Int × List (qT1))))) : Option (List (qT1) ⊕ (Int × List (qT1))) :=
  iter fu (fun tt => task_l0 fu l tt.1 tt.2.1 tt.2.2.1 tt.2.2.2) tt
def task (fu : Nat) (t : (List (qT1) × Int)) (l : List ((Int × Int))) : Option ((Int × List (qT1))) :=
  (tRig fu (t.1, t.2)).bind fun r =>
  bif (!r) then
    some (180, [])
  else
    (task_l0_it fu l (0, (t.1, (t.2, [])))).bind fun o =>
    match o with
    | .inl s =>
      some (0, s)
    | .inr o1 =>
      some o1
def task_fa : FnA := ⟨.two (.reg [(0, { ids := [100] })]) (.two (.two (.reg [(1, {  })]) (.two (.leaf) (.leaf))) (.two (.leaf) (.two (.two (.leaf) (.one (.pre (.ownNil 6 40 101) (.loop ⟨[2, 6, 16], ⟨(.cons (.own 0 100 0 0) (.cons (.slf 8 101) qL3)), [(100, false, qB9), (101, false, (.rows 40 qY0))]⟩⟩ true [(0, ⟨[6], ⟨(.cons (.slf 8 101) .nil), [(101, false, (.rows 40 qY0))]⟩⟩)] (.two (.leaf) (.two (.leaf) (.two (.one (.two (.reg [(2, { ids := [102] })]) (.two (.reg [(2, { fn := 1 }), (6, { ids := [103] })]) (.two (.two (.leaf) (.two (.leaf) (.leaf))) (.reg [(2, { ids := [104] }), (3, { ids := [105] })]))))) (.leaf)))))))) (.leaf)))), ⟨(.cons (.p qY21) (.cons (.p (.sl qY6)) .nil)), []⟩, [⟨(.cons (.slf 8 0) qL3), [(0, false, (.rows 40 qY0))]⟩], [50, 0]⟩
def task_ft (fu : Nat) : FnT := ⟨36, task_fa.i, task_fa.os, fun t => task fu t.1 t.2⟩
theorem task_eq (fu : Nat) : ∀ t, evF Go.Proofs.Try.prog [tRig_ft fu, tdir_ft fu] fu Go.Proofs.Try.f36 task_fa t = (task_ft fu).spec t := fun t => by kernel_rfl
theorem task_told (fu : Nat) : Told Go.Proofs.Try.prog (task_ft fu) := told_of (allT_cons (tRig_told fu) (allT_cons (tdir_told fu) allT_nil)) mixed Go.Proofs.Try.func36 (by kernel_rfl) (by kernel_rfl) (task_eq fu)
def sClo (fu : Nat) (s : List (qT1)) : Option (List (qT1)) :=
  nilQ s.length fun isNil =>
  bif isNil then
    some []
  else
    need ((Nat.ble ((0 + s.length) * 88) room) && (Nat.ble (0 + s.length) room)) <|
    some s
def sClo_fa : FnA := ⟨.two (.leaf) (.two (.two (.leaf) (.two (.leaf) (.leaf))) (.two (.reg [(0, { ids := [100] }), (2, { ids := [101] })]) (.leaf))), ⟨(.cons (.p (.sl qY0)) .nil), []⟩, [⟨(.cons (.slf 8 0) .nil), [(0, false, (.rows 40 qY0))]⟩], [50]⟩
def sClo_ft (fu : Nat) : FnT := ⟨59, sClo_fa.i, sClo_fa.os, fun t => sClo fu t⟩
theorem sClo_eq (fu : Nat) : ∀ t, evF Go.Proofs.Try.prog [] fu Go.Proofs.Try.f59 sClo_fa t = (sClo_ft fu).spec t := fun t => by kernel_rfl
theorem sClo_told (fu : Nat) : Told Go.Proofs.Try.prog (sClo_ft fu) := told_of allT_nil mixed Go.Proofs.Try.func59 (by kernel_rfl) (by kernel_rfl) (sClo_eq fu)
def tcop_l0 (fu : Nat) (r : List (qT1)) (x : Int) (h : Int) (h1 : List (qT1)) (h2 : Int) : Option ((Int × qT32) ⊕ (qT32)) :=
  bif (decide (x < ((r.length : Nat) : Int))) then
    (idx? x h1.length).bind fun q =>
    (h1)[q]?.bind fun r1 =>
    (sClo3 fu r1.2.2.2.2.2.1).bind fun r2 =>
    (h1)[q]?.bind fun r3 =>
    (sClo2 fu r3.2.2.2.2.2.2.2).bind fun r4 =>
    (h1)[q]?.bind fun r5 =>
    ((List.set h1 q (r5.1, (r5.2.1, (r5.2.2.1, (r5.2.2.2.1, (r5.2.2.2.2.1, (r2, r5.2.2.2.2.2.2))))))))[q]?.bind fun r6 =>
    some (.inl ((IntKind.wrap .i64 (x + 1)), (h, ((List.set (List.set h1 q (r5.1, (r5.2.1, (r5.2.2.1, (r5.2.2.2.1, (r5.2.2.2.2.1, (r2, r5.2.2.2.2.2.2))))))) q (r6.1, (r6.2.1, (r6.2.2.1, (r6.2.2.2.1, (r6.2.2.2.2.1, (r6.2.2.2.2.2.1, (r6.2.2.2.2.2.2.1, r4)))))))), h2))))
  else
    some (.inr (h, (h1, h2)))
def tcop_l0_it (fu : Nat) (r : List (qT1)) (tt : (Int × qT32)) : Option (qT32) :=
  iter fu (fun tt => tcop_l0 fu r tt.1 tt.2.1 tt.2.2.1 tt.2.2.2) tt
def tcop (fu : Nat) (t : (List (qT1) × Int)) : Option ((Int × List (qT1))) :=
  (sClo fu t.1).bind fun r =>
  (tcop_l0_it fu r (0, (t.2, (r, 0)))).bind fun o =>
  some (o.1, o.2.1)
def tcop_fa : FnA := ⟨.two (.reg [(0, { ids := [100] }), (1, { ids := [101] })]) (.two (.reg [(2, { ids := [102] })]) (.two (.two (.leaf) (.one (.loop ⟨[1, 2, 12], ⟨(.cons (.own 0 100 0 0) (.cons (.own 0 101 0 0) qL3)), [(100, false, qB28), (102, false, (.rows 40 qY0)), (101, false, qB18)]⟩⟩ false [(0, ⟨[1, 2], ⟨(.cons (.own 0 100 0 0) (.cons (.own 0 101 0 0) .nil)), [(100, false, qB28), (102, false, (.rows 40 qY0)), (101, false, qB18)]⟩⟩)] (.two (.leaf) (.two (.leaf) (.two (.one (.two (.leaf) (.two (.leaf) (.reg [(6, { ids := [103], fn := 1 }), (11, { ids := [104], fn := 2 })])))) (.leaf))))))) (.leaf))), ⟨(.cons (.p qY21) .nil), []⟩, [⟨(.cons (.agg (.cons (.slf 8 0) qL3)) .nil), [(0, false, (.rows 40 qY0))]⟩], [0]⟩
def tcop_ft (fu : Nat) : FnT := ⟨39, tcop_fa.i, tcop_fa.os, fun t => tcop fu t⟩
theorem tcop_eq (fu : Nat) : ∀ t, evF Go.Proofs.Try.prog [sClo_ft fu, sClo3_ft fu, sClo2_ft fu] fu Go.Proofs.Try.f39 tcop_fa t = (tcop_ft fu).spec t := fun t => by kernel_rfl
theorem tcop_told (fu : Nat) : Told Go.Proofs.Try.prog (tcop_ft fu) := told_of (allT_cons (sClo_told fu) (allT_cons (sClo3_told fu) (allT_cons (sClo2_told fu) allT_nil))) mixed Go.Proofs.Try.func39 (by kernel_rfl) (by kernel_rfl) (tcop_eq fu)
def ibytabiru (fu : Nat) (a b : List UInt8) : Option Int :=
  some (Go.Lib.compareBytes a b)
def ibytabiru_ft (fu : Nat) : FnT := ⟨80, ⟨(.cons (.p .str) (.cons (.p .str) .nil)), []⟩, [⟨qL3, []⟩], fun t => ibytabiru fu t.1 t.2⟩
theorem ibytabiru_told (fu : Nat) : Told Go.Proofs.Try.prog (ibytabiru_ft fu) :=
  told_cmpString Go.Proofs.Try.func80 (by kernel_rfl) (by kernel_rfl) (by kernel_rfl) (by kernel_rfl)
def ibytComSt (fu : Nat) (a : List UInt8) (b : List UInt8) : Option (Int) :=
  (ibytabiru fu a b).bind fun r =>
  some r
def ibytComSt_fa : FnA := ⟨.two (.leaf) (.two (.reg [(2, {  })]) (.leaf)), ⟨(.cons (.p .str) (.cons (.p .str) .nil)), []⟩, [⟨qL3, []⟩], [0]⟩
def ibytComSt_ft (fu : Nat) : FnT := ⟨70, ibytComSt_fa.i, ibytComSt_fa.os, fun t => ibytComSt fu t.1 t.2⟩
theorem ibytComSt_eq (fu : Nat) : ∀ t, evF Go.Proofs.Try.prog [ibytabiru_ft fu] fu Go.Proofs.Try.f70 ibytComSt_fa t = (ibytComSt_ft fu).spec t := fun t => by kernel_rfl
theorem ibytComSt_told (fu : Nat) : Told Go.Proofs.Try.prog (ibytComSt_ft fu) := told_of (allT_cons (ibytabiru_told fu) allT_nil) mixed Go.Proofs.Try.func70 (by kernel_rfl) (by kernel_rfl) (ibytComSt_eq fu)
def sCom (fu : Nat) (a : List UInt8) (b : List UInt8) : Option (Int) :=
  (ibytComSt fu a b).bind fun r =>
  some r
def sCom_fa : FnA := ⟨.two (.leaf) (.two (.reg [(2, {  })]) (.leaf)), ⟨(.cons (.p .str) (.cons (.p .str) .nil)), []⟩, [⟨qL3, []⟩], [0]⟩
def sCom_ft (fu : Nat) : FnT := ⟨58, sCom_fa.i, sCom_fa.os, fun t => sCom fu t.1 t.2⟩
theorem sCom_eq (fu : Nat) : ∀ t, evF Go.Proofs.Try.prog [ibytComSt_ft fu] fu Go.Proofs.Try.f58 sCom_fa t = (sCom_ft fu).spec t := fun t => by kernel_rfl
theorem sCom_told (fu : Nat) : Told Go.Proofs.Try.prog (sCom_ft fu) := told_of (allT_cons (ibytComSt_told fu) allT_nil) mixed Go.Proofs.Try.func58 (by kernel_rfl) (by kernel_rfl) (sCom_eq fu)
def tent1 (fu : Nat) (e : (List UInt8 × Int)) (name : List UInt8) : Option (Int) :=
  (sCom fu e.1 name).bind fun r =>
  some r
def tent1_fa : FnA := ⟨.two (.reg [(0, { ids := [100] })]) (.two (.reg [(3, {  })]) (.leaf)), ⟨(.cons (.p (.pair .str (.int .i64))) (.cons (.p .str) .nil)), []⟩, [⟨qL3, []⟩], [0]⟩
def tent1_ft (fu : Nat) : FnT := ⟨57, tent1_fa.i, tent1_fa.os, fun t => tent1 fu t.1 t.2⟩
theorem tent1_eq (fu : Nat) : ∀ t, evF Go.Proofs.Try.prog [sCom_ft fu] fu Go.Proofs.Try.f57 tent1_fa t = (tent1_ft fu).spec t := fun t => by kernel_rfl
theorem tent1_told (fu : Nat) : Told Go.Proofs.Try.prog (tent1_ft fu) := told_of (allT_cons (sCom_told fu) allT_nil) mixed Go.Proofs.Try.func57 (by kernel_rfl) (by kernel_rfl) (tent1_eq fu)
def sBinSeaFu_l0 (fu : Nat) (x : List ((List UInt8 × Int))) (target : List UInt8) (i : Int) (j : Int) : Option ((Int × Int) ⊕ (Int)) :=
  bif (decide (i < j)) then
    (idx? (IntKind.wrap .i64 (Int.fdiv (IntKind.wrap .u64 (IntKind.wrap .i64 (i + j))) 2)) x.length).bind fun q =>
    (x)[q]?.bind fun r =>
    (tent1 fu r target).bind fun r1 =>
    Option.bind (α := ((Int × Int))) (
      bif (decide (r1 < 0)) then
        some ((IntKind.wrap .i64 ((IntKind.wrap .i64 (Int.fdiv (IntKind.wrap .u64 (IntKind.wrap .i64 (i + j))) 2)) + 1)), j)
      else
        some (i, (IntKind.wrap .i64 (Int.fdiv (IntKind.wrap .u64 (IntKind.wrap .i64 (i + j))) 2)))) fun o =>
    some (.inl (o.1, o.2))
  else
    some (.inr i)
def sBinSeaFu_l0_it (fu : Nat) (x : List ((List UInt8 × Int))) (target : List UInt8) (tt : (Int × Int)) : Option (Int) :=
  iter fu (fun tt => sBinSeaFu_l0 fu x target tt.1 tt.2) tt
def sBinSeaFu (fu : Nat) (x : List ((List UInt8 × Int))) (target : List UInt8) : Option ((Int × Bool)) :=
  (sBinSeaFu_l0_it fu x target (0, ((x.length : Nat) : Int))).bind fun o1 =>
  bif (decide (o1 < ((x.length : Nat) : Int))) then
    (idx? o1 x.length).bind fun q1 =>
    (x)[q1]?.bind fun r2 =>
    (tent1 fu r2 target).bind fun r3 =>
    some (o1, (r3 == 0))
  else
    some (o1, false)
def sBinSeaFu_fa : FnA := ⟨.two (.leaf) (.two (.leaf) (.two (.leaf) (.two (.one (.loop ⟨[9, 10], ⟨(.cons (.p (.int .i64)) qL3), []⟩⟩ false [(0, ⟨[9], ⟨qL3, []⟩⟩)] (.two (.two (.leaf) (.leaf)) (.one (.two (.leaf) (.two (.reg [(6, {  })]) (.join ⟨[9, 10], ⟨(.cons (.p (.int .i64)) qL3), []⟩⟩ false [] (.leaf)))))))) (.two (.reg [(11, {  })]) (.leaf))))), ⟨(.cons (.p (.sl (.pair .str (.int .i64)))) (.cons (.p .str) (.cons (.fn 57 .nil .nil) .nil))), []⟩, [⟨(.cons (.p (.int .i64)) (.cons (.p .bool) .nil)), []⟩], [0, 0]⟩
def sBinSeaFu_ft (fu : Nat) : FnT := ⟨56, sBinSeaFu_fa.i, sBinSeaFu_fa.os, fun t => sBinSeaFu fu t.1 t.2⟩
theorem sBinSeaFu_eq (fu : Nat) : ∀ t, evF Go.Proofs.Try.prog [tent1_ft fu] fu Go.Proofs.Try.f56 sBinSeaFu_fa t = (sBinSeaFu_ft fu).spec t := fun t => by kernel_rfl
theorem sBinSeaFu_told (fu : Nat) : Told Go.Proofs.Try.prog (sBinSeaFu_ft fu) := told_of (allT_cons (tent1_told fu) allT_nil) mixed Go.Proofs.Try.func56 (by kernel_rfl) (by kernel_rfl) (sBinSeaFu_eq fu)
def tent (fu : Nat) (n : qT1) (name : List UInt8) : Option ((Int × Bool)) :=
  (sBinSeaFu fu n.2.2.2.2.2.2.2 name).bind fun r =>
  some (r.1, r.2)
def tent_fa : FnA := ⟨.two (.reg [(0, { ids := [100] })]) (.two (.reg [(3, {  })]) (.leaf)), ⟨(.cons (.p qY0) (.cons (.p .str) .nil)), []⟩, [⟨(.cons (.p (.int .i64)) (.cons (.p .bool) .nil)), []⟩], [0, 0]⟩
def tent_ft (fu : Nat) : FnT := ⟨37, tent_fa.i, tent_fa.os, fun t => tent fu t.1 t.2⟩
theorem tent_eq (fu : Nat) : ∀ t, evF Go.Proofs.Try.prog [sBinSeaFu_ft fu] fu Go.Proofs.Try.f37 tent_fa t = (tent_ft fu).spec t := fun t => by kernel_rfl
theorem tent_told (fu : Nat) : Told Go.Proofs.Try.prog (tent_ft fu) := told_of (allT_cons (sBinSeaFu_told fu) allT_nil) mixed Go.Proofs.Try.func37 (by kernel_rfl) (by kernel_rfl) (tent_eq fu)
def icopE_l0 (fu : Nat) (r : List (qT1)) (x : Int) (h : Int) (h1 : List qT4) (h2 : Int) (h3 : List qT10) : Option ((Int × (Int × (List qT4 × (Int × List qT10)))) ⊕ ((Int × (List qT4 × (Int × List qT10))))) :=
  bif (decide (x < ((r.length : Nat) : Int))) then
    (idx? x h1.length).bind fun q =>
    (h1)[q]?.bind fun r1 =>
    (lowD (.ref 1 (.pair .str (.int .i64))) r1.2.2.2.2.2.2.2).bind fun x1 =>
    (inode_own fu (r1.1, (r1.2.1, (r1.2.2.1, (r1.2.2.2.1, (r1.2.2.2.2.1, (r1.2.2.2.2.2.1, (r1.2.2.2.2.2.2.1, x1)))))))).bind fun r2 =>
    (idx? x h1.length).bind fun q1 =>
    (h1)[q1]?.bind fun r3 =>
    some (.inl ((IntKind.wrap .i64 (x + 1)), (h, ((List.set h1 q1 (r2.1, (r2.2.1, (r2.2.2.1, (r2.2.2.2.1, (r2.2.2.2.2.1, (r2.2.2.2.2.2.2.1, (r2.2.2.2.2.2.1, (.inr (some (h3.length, (0, r2.2.2.2.2.2.2.2.length)))))))))))), (h2, (h3 ++ [(1, r2.2.2.2.2.2.2.2)]))))))
  else
    some (.inr (h, (h1, (h2, h3))))
def icopE_l0_it (fu : Nat) (r : List (qT1)) (tt : (Int × (Int × (List qT4 × (Int × List qT10))))) : Option ((Int × (List qT4 × (Int × List qT10)))) :=
  iter fu (fun tt => icopE_l0 fu r tt.1 tt.2.1 tt.2.2.1 tt.2.2.2.1 tt.2.2.2.2) tt
def icopE (fu : Nat) (t : (List (qT1) × Int)) : Option ((Int × (List qT4 × List qT10))) :=
  (sClo fu t.1).bind fun r =>
  (icopE_l0_it fu r (0, (t.2, ((List.map (liftT qY2) r), (0, []))))).bind fun o =>
  some (o.1, (o.2.1, o.2.2.2))
def icopE_fa : FnA := ⟨.two (.reg [(0, { ids := [100] }), (1, { ids := [101] })]) (.two (.reg [(2, { ids := [102] })]) (.two (.two (.leaf) (.one (.pre (.newFam 1 59 (.pair .str (.int .i64))) (.pre (.toRef 102 qY2) (.loop ⟨[1, 2, 10, 12], ⟨(.cons (.own 0 100 0 0) (.cons (.own 0 101 0 0) (.cons (.slf 8 102) qL3))), [(100, false, qB28), (102, false, (.rows 40 qY2)), (101, false, qB18), (999985, false, qB13)]⟩⟩ false [(0, ⟨[1, 2], ⟨(.cons (.own 0 100 0 0) (.cons (.own 0 101 0 0) .nil)), [(100, false, qB28), (102, false, (.rows 40 qY2)), (101, false, qB18), (999985, false, qB13)]⟩⟩)] (.two (.leaf) (.two (.leaf) (.two (.one (.two (.reg [(3, { ids := [103] })]) (.reg [(4, { ids := [104, 105], md := [3], fn := 1 }), (6, { sh := [105, 999985] })]))) (.leaf))))))))) (.leaf))), ⟨(.cons (.p qY21) .nil), []⟩, [⟨(.cons (.agg (.cons (.slf 8 0) qL3)) .nil), [(0, false, (.rows 40 qY2)), (999985, false, qB13)]⟩], [0]⟩
def icopE_ft (fu : Nat) : FnT := ⟨47, icopE_fa.i, icopE_fa.os, fun t => icopE fu t⟩
theorem icopE_eq (fu : Nat) : ∀ t, evF Go.Proofs.Try.prog [sClo_ft fu, inode_own_ft fu] fu Go.Proofs.Try.f47 icopE_fa t = (icopE_ft fu).spec t := fun t => by kernel_rfl
theorem icopE_told (fu : Nat) : Told Go.Proofs.Try.prog (icopE_ft fu) := told_of (allT_cons (sClo_told fu) (allT_cons (inode_own_told fu) allT_nil)) mixed Go.Proofs.Try.func47 (by kernel_rfl) (by kernel_rfl) (icopE_eq fu)
def inode_is (fu : Nat) (t : (List (qT1) × Int)) (id : Int) (dir : Bool) : Option (Bool) :=
  bif (decide (id ≥ 1)) then
    bif (decide (id ≤ ((t.1.length : Nat) : Int))) then
      (idx? (IntKind.wrap .i64 (id - 1)) t.1.length).bind fun q =>
      (t.1)[q]?.bind fun r =>
      bif r.2.2.1 then
        (idx? (IntKind.wrap .i64 (id - 1)) t.1.length).bind fun q1 =>
        (t.1)[q1]?.bind fun r1 =>
        some (r1.2.2.2.1 == dir)
      else
        some false
    else
      some false
  else
    some false
def inode_is_fa : FnA := ⟨.two (.reg [(0, { ids := [100] })]) (.leaf), ⟨(.cons (.p qY21) (.cons (.p (.int .i64)) (.cons (.p .bool) .nil))), []⟩, [⟨(.cons (.p .bool) .nil), []⟩], [0]⟩
def inode_is_ft (fu : Nat) : FnT := ⟨48, inode_is_fa.i, inode_is_fa.os, fun t => inode_is fu t.1 t.2.1 t.2.2⟩
theorem inode_is_eq (fu : Nat) : ∀ t, evF Go.Proofs.Try.prog [] fu Go.Proofs.Try.f48 inode_is_fa t = (inode_is_ft fu).spec t := fun t => by kernel_rfl
theorem inode_is_told (fu : Nat) : Told Go.Proofs.Try.prog (inode_is_ft fu) := told_of allT_nil mixed Go.Proofs.Try.func48 (by kernel_rfl) (by kernel_rfl) (inode_is_eq fu)
def iAll1 (fu : Nat) (n : qT1) : Option (Bool) :=
  some (!n.2.2.1)
def iAll1_fa : FnA := ⟨.two (.reg [(0, { ids := [100] })]) (.leaf), ⟨(.cons (.p qY0) .nil), []⟩, [⟨(.cons (.p .bool) .nil), []⟩], [0]⟩
def iAll1_ft (fu : Nat) : FnT := ⟨64, iAll1_fa.i, iAll1_fa.os, fun t => iAll1 fu t⟩
theorem iAll1_eq (fu : Nat) : ∀ t, evF Go.Proofs.Try.prog [] fu Go.Proofs.Try.f64 iAll1_fa t = (iAll1_ft fu).spec t := fun t => by kernel_rfl
theorem iAll1_told (fu : Nat) : Told Go.Proofs.Try.prog (iAll1_ft fu) := told_of allT_nil mixed Go.Proofs.Try.func64 (by kernel_rfl) (by kernel_rfl) (iAll1_eq fu)
def sIndFun2_l0 (fu : Nat) (s : List (qT1)) (x : Int) : Option (Int ⊕ (Unit ⊕ Int)) :=
  bif (decide (x < ((s.length : Nat) : Int))) then
    (idx? x s.length).bind fun q =>
    (s)[q]?.bind fun r =>
    (iAll1 fu r).bind fun r1 =>
    bif r1 then
      some (.inr (.inr x))
    else
      some (.inl (IntKind.wrap .i64 (x + 1)))
  else
    some (.inr (.inl ()))
def sIndFun2_l0_it (fu : Nat) (s : List (qT1)) (tt : Int) : Option (Unit ⊕ Int) :=
  iter fu (fun tt => sIndFun2_l0 fu s tt) tt
def sIndFun2 (fu : Nat) (s : List (qT1)) : Option (Int) :=
  (sIndFun2_l0_it fu s 0).bind fun o =>
  match o with
  | .inl s1 =>
    some (-1)
  | .inr o1 =>
    some o1
def sIndFun2_fa : FnA := ⟨.two (.leaf) (.two (.two (.leaf) (.one (.loop ⟨[8], ⟨qL3, []⟩⟩ true [(0, ⟨[], ⟨.nil, []⟩⟩)] (.two (.leaf) (.two (.leaf) (.two (.one (.two (.leaf) (.two (.reg [(5, {  })]) (.two (.leaf) (.leaf))))) (.leaf))))))) (.leaf)), ⟨(.cons (.p (.sl qY0)) (.cons (.fn 64 .nil .nil) .nil)), []⟩, [⟨qL3, []⟩], [0]⟩
def sIndFun2_ft (fu : Nat) : FnT := ⟨65, sIndFun2_fa.i, sIndFun2_fa.os, fun t => sIndFun2 fu t⟩
theorem sIndFun2_eq (fu : Nat) : ∀ t, evF Go.Proofs.Try.prog [iAll1_ft fu] fu Go.Proofs.Try.f65 sIndFun2_fa t = (sIndFun2_ft fu).spec t := fun t => by kernel_rfl
theorem sIndFun2_told (fu : Nat) : Told Go.Proofs.Try.prog (sIndFun2_ft fu) := told_of (allT_cons (iAll1_told fu) allT_nil) mixed Go.Proofs.Try.func65 (by kernel_rfl) (by kernel_rfl) (sIndFun2_eq fu)
def iAllE (fu : Nat) (t : (List (qT1) × Int)) (dir : Bool) (parent : Int) : Option ((Int × (Int × (Int × (Int × (List qT4 × List qT10)))))) :=
  (icopE fu (t.1, t.2)).bind fun r =>
  (iRig fu (t.1, t.2)).bind fun r1 =>
  bif (!r1) then
    some (r.1, (0, (0, (180, (r.2.1, r.2.2)))))
  else
    (inode_is fu (t.1, t.2) parent true).bind fun r2 =>
    bif (!r2) then
      some (r.1, (0, (0, (2, (r.2.1, r.2.2)))))
    else
      (unrefL (unrefD [⟨1, (.pair .str (.int .i64)), (List.map frz1 r.2.2)⟩] qY2) r.2.1).bind fun l =>
      (sIndFun2 fu l).bind fun r3 =>
      Option.bind (α := ((Bool × (Int × (Int × (Int × (Int × (List qT4 × List qT10)))))))) (
        bif (decide (r3 < 0)) then
          some ((decide (((r.2.1.length : Nat) : Int) ≥ 500)), (0, (0, (0, (r.1, (r.2.1, r.2.2))))))
        else
          some (false, (0, (0, (0, (r.1, (r.2.1, r.2.2))))))) fun o =>
      bif o.1 then
        some (o.2.2.2.2.1, (0, (0, (5, (o.2.2.2.2.2.1, o.2.2.2.2.2.2)))))
      else
        Option.bind (α := ((Int × (Int × (Int × (Int × (Int × (List qT4 × List qT10)))))) ⊕ (Int × (Int × (Int × (Int × (List qT4 × List qT10))))))) (
          bif (decide (r3 < 0)) then
            need ((Nat.ble ((o.2.2.2.2.2.1.length + 1) * 88) room) && (Nat.ble (o.2.2.2.2.2.1.length + 1) room)) <|
            some (.inl (((o.2.2.2.2.2.1.length : Nat) : Int), (o.2.1, (o.2.2.1, (o.2.2.2.1, (o.2.2.2.2.1, ((o.2.2.2.2.2.1 ++ (List.map (liftT qY2) ([((IntKind.wrap .i64 (((o.2.2.2.2.2.1.length : Nat) : Int) + 1)), (0, (false, (false, (0, ([], (0, [])))))))] : List (qT1)))), o.2.2.2.2.2.2)))))))
          else
            (idx? r3 o.2.2.2.2.2.1.length).bind fun q =>
            (o.2.2.2.2.2.1)[q]?.bind fun r4 =>
            bif (decide (r4.2.1 ≥ 1099511627776)) then
              some (.inr (o.2.2.2.2.1, (0, (0, (5, (o.2.2.2.2.2.1, o.2.2.2.2.2.2))))))
            else
              some (.inl (r3, (o.2.1, (o.2.2.1, (o.2.2.2.1, (o.2.2.2.2.1, (o.2.2.2.2.2.1, o.2.2.2.2.2.2)))))))) fun o1 =>
        match o1 with
        | .inl s =>
          (idx? s.1 s.2.2.2.2.2.1.length).bind fun q1 =>
          (s.2.2.2.2.2.1)[q1]?.bind fun r5 =>
          (s.2.2.2.2.2.1)[q1]?.bind fun r6 =>
          ((List.set s.2.2.2.2.2.1 q1 (r6.1, ((IntKind.wrap .i64 (r5.2.1 + 1)), r6.2.2))))[q1]?.bind fun r7 =>
          ((List.set (List.set s.2.2.2.2.2.1 q1 (r6.1, ((IntKind.wrap .i64 (r5.2.1 + 1)), r6.2.2))) q1 (r7.1, (r7.2.1, (true, r7.2.2.2)))))[q1]?.bind fun r8 =>
          ((List.set (List.set (List.set s.2.2.2.2.2.1 q1 (r6.1, ((IntKind.wrap .i64 (r5.2.1 + 1)), r6.2.2))) q1 (r7.1, (r7.2.1, (true, r7.2.2.2)))) q1 (r8.1, (r8.2.1, (r8.2.2.1, (dir, r8.2.2.2.2))))))[q1]?.bind fun r9 =>
          ((List.set (List.set (List.set (List.set s.2.2.2.2.2.1 q1 (r6.1, ((IntKind.wrap .i64 (r5.2.1 + 1)), r6.2.2))) q1 (r7.1, (r7.2.1, (true, r7.2.2.2)))) q1 (r8.1, (r8.2.1, (r8.2.2.1, (dir, r8.2.2.2.2))))) q1 (r9.1, (r9.2.1, (r9.2.2.1, (r9.2.2.2.1, (r9.2.2.2.2.1, (r9.2.2.2.2.2.1, (parent, r9.2.2.2.2.2.2.2)))))))))[q1]?.bind fun r10 =>
          ((List.set (List.set (List.set (List.set s.2.2.2.2.2.1 q1 (r6.1, ((IntKind.wrap .i64 (r5.2.1 + 1)), r6.2.2))) q1 (r7.1, (r7.2.1, (true, r7.2.2.2)))) q1 (r8.1, (r8.2.1, (r8.2.2.1, (dir, r8.2.2.2.2))))) q1 (r9.1, (r9.2.1, (r9.2.2.1, (r9.2.2.2.1, (r9.2.2.2.2.1, (r9.2.2.2.2.2.1, (parent, r9.2.2.2.2.2.2.2)))))))))[q1]?.bind fun r11 =>
          some (s.2.2.2.2.1, (r10.1, (r11.2.1, (0, ((List.set (List.set (List.set (List.set s.2.2.2.2.2.1 q1 (r6.1, ((IntKind.wrap .i64 (r5.2.1 + 1)), r6.2.2))) q1 (r7.1, (r7.2.1, (true, r7.2.2.2)))) q1 (r8.1, (r8.2.1, (r8.2.2.1, (dir, r8.2.2.2.2))))) q1 (r9.1, (r9.2.1, (r9.2.2.1, (r9.2.2.2.1, (r9.2.2.2.2.1, (r9.2.2.2.2.2.1, (parent, r9.2.2.2.2.2.2.2)))))))), s.2.2.2.2.2.2)))))
        | .inr o2 =>
          some o2
def iAllE_fa : FnA := ⟨.two (.reg [(0, { ids := [100] }), (1, { ids := [101] }), (2, { ids := [102] })]) (.two (.reg [(1, { ids := [103, 999985] }), (2, { ids := [104] })]) (.two (.one (.two (.reg [(1, { fn := 1 })]) (.two (.leaf) (.two (.reg [(2, { fn := 2 })]) (.two (.leaf) (.leaf)))))) (.two (.leaf) (.two (.reg [(3, { md := [2, 0], fn := 3 })]) (.two (.one (.two (.join ⟨[6, 7, 9, 32], ⟨(.cons (.own 0 101 0 0) (.cons (.own 0 102 0 0) (.cons (.own 0 104 0 0) (.cons (.p .bool) .nil)))), [(101, false, qB18), (102, false, qB12), (104, false, (.vars (.cons (.slf 8 103) qL3))), (103, false, (.rows 40 qY2)), (999985, false, qB13)]⟩⟩ false [] (.leaf)) (.two (.leaf) (.two (.leaf) (.join ⟨[6, 7, 9, 11], ⟨(.cons (.own 0 101 0 0) (.cons (.own 0 102 0 0) (.cons (.own 0 104 0 0) qL3))), [(101, false, qB18), (102, false, qB12), (104, false, (.vars (.cons (.slf 8 106) qL3))), (106, false, (.rows 40 qY2)), (999985, false, qB13)]⟩⟩ true [] (.two (.two (.leaf) (.reg [(5, { ids := [105] }), (6, { ids := [106] })])) (.two (.leaf) (.two (.leaf) (.leaf))))))))) (.two (.leaf) (.two (.leaf) (.leaf)))))))), ⟨(.cons (.p qY21) (.cons (.p .bool) qL3)), []⟩, [⟨(.cons (.agg (.cons (.slf 8 0) qL3)) (.cons (.agg (.cons (.p (.int .i64)) qL3)) qL3)), [(0, false, (.rows 40 qY2)), (999985, false, qB13)]⟩], [0, 0, 0]⟩
def iAllE_ft (fu : Nat) : FnT := ⟨45, iAllE_fa.i, iAllE_fa.os, fun t => iAllE fu t.1 t.2.1 t.2.2⟩
theorem iAllE_eq (fu : Nat) : ∀ t, evF Go.Proofs.Try.prog [icopE_ft fu, iRig_ft fu, inode_is_ft fu, sIndFun2_ft fu] fu Go.Proofs.Try.f45 iAllE_fa t = (iAllE_ft fu).spec t := fun t => by kernel_rfl
theorem iAllE_told (fu : Nat) : Told Go.Proofs.Try.prog (iAllE_ft fu) := told_of (allT_cons (icopE_told fu) (allT_cons (iRig_told fu) (allT_cons (inode_is_told fu) (allT_cons (sIndFun2_told fu) allT_nil)))) mixed Go.Proofs.Try.func45 (by kernel_rfl) (by kernel_rfl) (iAllE_eq fu)
def sIns (fu : Nat) (i : Int) (l v : List ((List UInt8 × Int))) : Option (List ((List UInt8 × Int)) × List ((List UInt8 × Int))) :=
  (upto? i l.length).bind fun q => need (Nat.blt 0 v.length && Nat.ble ((l.length + v.length) * 24) room && Nat.ble (l.length + v.length) room) (some (v, l.take q ++ v ++ l.drop q))
def sIns_ft (fu : Nat) : FnT := ⟨63, ⟨(.cons (.slf 2 0) (.cons (.p (.int .i64)) (.cons (.slf 2 1) .nil))), [(0, false, qB20), (1, false, qB20)]⟩, [⟨(.cons (.slf 2 2) .nil), [(1, false, qB20), (2, false, qB20)]⟩], fun t => sIns fu t.1 t.2.1 t.2.2⟩
theorem sIns_told (fu : Nat) : Told Go.Proofs.Try.prog (sIns_ft fu) :=
  told_insert (u := (.pair .str (.int .i64))) Go.Proofs.Try.ins63 (by decide) (by intro h; cases h) Go.Proofs.Try.sizeOf59 Go.Proofs.Try.isAgg59 (by kernel_rfl) ⟨_, _, Go.Proofs.Try.func63, rfl, by kernel_rfl⟩
def tput (fu : Nat) (dir : Int) (name : List UInt8) (id : Int) (h : Int) (h1 : List qT4) (h2 : List qT10) : Option ((Int × (List qT4 × List qT10))) :=
  (idx? (IntKind.wrap .i64 (dir - 1)) h1.length).bind fun q =>
  (h1)[q]?.bind fun r =>
  (unrefD [⟨1, (.pair .str (.int .i64)), (List.map frz1 h2)⟩] qY2 r).bind fun x =>
  (tent fu x name).bind fun r1 =>
  (h1)[q]?.bind fun r2 =>
  (openM h2 r2.2.2.2.2.2.2.2).bind fun m =>
  (sIns fu r1.1 m.1 [(name, id)]).bind fun r3 =>
  (h1)[q]?.bind fun r4 =>
  some (h, ((List.set h1 q (r4.1, (r4.2.1, (r4.2.2.1, (r4.2.2.2.1, (r4.2.2.2.2.1, (r4.2.2.2.2.2.1, (r4.2.2.2.2.2.2.1, (.inr (some (m.2.length, (0, r3.2.length)))))))))))), (m.2 ++ [(1, r3.2)])))
def tput_fa : FnA := ⟨.two (.leaf) (.two (.reg [(4, { md := [2, 0] })]) (.reg [(9, { ids := [100] }), (10, { ids := [101], sh := [605069, 100], md := [505069, 0, 0], fn := 1 }), (13, { sh := [101, 999985] })])), ⟨(.cons (.own 0 0 0 0) (.cons (.p (.int .i64)) (.cons (.p .str) qL3))), [(0, false, (.vars (.cons (.slf 8 1) qL3))), (1, false, (.rows 40 qY2)), (999985, false, qB13)]⟩, [⟨.nil, [(0, false, (.vars (.cons (.slf 8 1) qL3))), (1, false, (.rows 40 qY2)), (999985, false, qB13)]⟩], []⟩
def tput_ft (fu : Nat) : FnT := ⟨44, tput_fa.i, tput_fa.os, fun t => tput fu t.1 t.2.1 t.2.2.1 t.2.2.2.1 t.2.2.2.2.1 t.2.2.2.2.2⟩
theorem tput_eq (fu : Nat) : ∀ t, evF Go.Proofs.Try.prog [tent_ft fu, sIns_ft fu] fu Go.Proofs.Try.f44 tput_fa t = (tput_ft fu).spec t := fun t => by kernel_rfl
theorem tput_told (fu : Nat) : Told Go.Proofs.Try.prog (tput_ft fu) := told_of (allT_cons (tent_told fu) (allT_cons (sIns_told fu) allT_nil)) mixed Go.Proofs.Try.func44 (by kernel_rfl) (by kernel_rfl) (tput_eq fu)
def tree_Make (fu : Nat) (t : (List (qT1) × Int)) (dir : (Int × Int)) (name : List UInt8) (is_ : Bool) : Option ((List (qT1) × (Int × (Int × (Int × Int))))) :=
  (task fu (t.1, t.2) [(dir.1, dir.2)]).bind fun r =>
  bif (!(r.1 == 0)) then
    (tcop fu (t.1, t.2)).bind fun r1 =>
    some (r1.2, (r1.1, (0, (0, r.1))))
  else
    (idx? 0 r.2.length).bind fun q =>
    (r.2)[q]?.bind fun r2 =>
    (tent fu r2 name).bind fun r3 =>
    (tNam fu name).bind fun r4 =>
    bif (!r4) then
      (tcop fu (t.1, t.2)).bind fun r5 =>
      some (r5.2, (r5.1, (0, (0, 176))))
    else
      bif r3.2 then
        (tcop fu (t.1, t.2)).bind fun r6 =>
        some (r6.2, (r6.1, (0, (0, 172))))
      else
        (idx? 0 r.2.length).bind fun q1 =>
        (r.2)[q1]?.bind fun r7 =>
        bif (decide (((r7.2.2.2.2.2.2.2.length : Nat) : Int) ≥ 100)) then
          (tcop fu (t.1, t.2)).bind fun r8 =>
          some (r8.2, (r8.1, (0, (0, 5))))
        else
          (iAllE fu (t.1, t.2) is_ dir.1).bind fun r9 =>
          bif (!(r9.2.2.2.1 == 0)) then
            (unrefL (unrefD [⟨1, (.pair .str (.int .i64)), (List.map frz1 r9.2.2.2.2.2)⟩] qY2) r9.2.2.2.2.1).bind fun l2 =>
            some (l2, (r9.1, (0, (0, r9.2.2.2.1))))
          else
            (tput fu dir.1 name r9.2.1 r9.1 r9.2.2.2.2.1 r9.2.2.2.2.2).bind fun r10 =>
            (unrefL (unrefD [⟨1, (.pair .str (.int .i64)), (List.map frz1 r10.2.2)⟩] qY2) r10.2.1).bind fun l3 =>
            some (l3, (r10.1, (r9.2.1, (r9.2.2.1, 0))))
def tree_Make_fa : FnA := ⟨.two (.reg [(0, { ids := [100] }), (1, { ids := [101] }), (2, { ids := [102] }), (3, { ids := [103] })]) (.two (.reg [(2, { ids := [104] }), (3, { ids := [105], md := [0, 1] })]) (.two (.two (.leaf) (.two (.two (.reg [(1, { ids := [106], fn := 1 })]) (.leaf)) (.leaf))) (.two (.reg [(4, { fn := 2 })]) (.two (.one (.two (.reg [(1, { fn := 3 })]) (.two (.two (.reg [(1, { ids := [107], fn := 1 })]) (.leaf)) (.two (.leaf) (.two (.two (.reg [(1, { ids := [108], fn := 1 })]) (.leaf)) (.two (.leaf) (.two (.two (.reg [(1, { ids := [109], fn := 1 })]) (.leaf)) (.leaf)))))))) (.two (.reg [(4, { ids := [110, 999985], fn := 4 }), (9, { ids := [111] }), (10, { ids := [112] })]) (.two (.two (.leaf) (.two (.leaf) (.leaf))) (.two (.reg [(5, { sh := [111, 110, 999985], fn := 5 })]) (.leaf)))))))), ⟨(.cons (.p qY21) (.cons (.p qY6) (.cons (.p .str) (.cons (.p .bool) .nil)))), []⟩, [⟨(.cons (.agg (.cons (.p (.sl qY0)) qL3)) (.cons (.agg (.cons (.p (.int .i64)) qL3)) qL3)), []⟩], [1, 0, 0]⟩
def tree_Make_ft (fu : Nat) : FnT := ⟨19, tree_Make_fa.i, tree_Make_fa.os, fun t => tree_Make fu t.1 t.2.1 t.2.2.1 t.2.2.2⟩
theorem tree_Make_eq (fu : Nat) : ∀ t, evF Go.Proofs.Try.prog [task_ft fu, tcop_ft fu, tent_ft fu, tNam_ft fu, iAllE_ft fu, tput_ft fu] fu Go.Proofs.Try.f19 tree_Make_fa t = (tree_Make_ft fu).spec t := fun t => by kernel_rfl
theorem tree_Make_told (fu : Nat) : Told Go.Proofs.Try.prog (tree_Make_ft fu) := told_of (allT_cons (task_told fu) (allT_cons (tcop_told fu) (allT_cons (tent_told fu) (allT_cons (tNam_told fu) (allT_cons (iAllE_told fu) (allT_cons (tput_told fu) allT_nil)))))) mixed Go.Proofs.Try.func19 (by kernel_rfl) (by kernel_rfl) (tree_Make_eq fu)
def tbel_l0 (fu : Nat) (top : Int) (id1 : Int) (h : List (qT1)) (h1 : Int) : Option (qT32 ⊕ (Int)) :=
  Option.bind (α := ((Bool × (List (qT1) × Int)))) (
    bif (!(id1 == top)) then
      some ((!(id1 == 1)), (h, h1))
    else
      some (false, (h, h1))) fun o =>
  bif o.1 then
    (idx? (IntKind.wrap .i64 (id1 - 1)) o.2.1.length).bind fun q =>
    (o.2.1)[q]?.bind fun r =>
    some (.inl (r.2.2.2.2.2.2.1, (o.2.1, o.2.2)))
  else
    some (.inr id1)
def tbel_l0_it (fu : Nat) (top : Int) (tt : qT32) : Option (Int) :=
  iter fu (fun tt => tbel_l0 fu top tt.1 tt.2.1 tt.2.2) tt
def tbel (fu : Nat) (t : (List (qT1) × Int)) (id : Int) (top : Int) : Option (Bool) :=
  (tbel_l0_it fu top (id, (t.1, t.2))).bind fun o1 =>
  some (o1 == top)
def tbel_fa : FnA := ⟨.two (.reg [(0, { ids := [100] })]) (.two (.one (.loop ⟨[1, 3], ⟨(.cons (.p (.int .i64)) (.cons (.own 0 100 0 0) .nil)), [(100, false, qB9)]⟩⟩ false [(0, ⟨[1], ⟨qL3, []⟩⟩)] (.two (.two (.join ⟨[3, 13], ⟨(.cons (.own 0 100 0 0) (.cons (.p .bool) .nil)), [(100, false, qB9)]⟩⟩ false [] (.leaf)) (.leaf)) (.leaf)))) (.leaf)), ⟨(.cons (.p qY21) (.cons (.p (.int .i64)) qL3)), []⟩, [⟨(.cons (.p .bool) .nil), []⟩], [0]⟩
def tbel_ft (fu : Nat) : FnT := ⟨40, tbel_fa.i, tbel_fa.os, fun t => tbel fu t.1 t.2.1 t.2.2⟩
theorem tbel_eq (fu : Nat) : ∀ t, evF Go.Proofs.Try.prog [] fu Go.Proofs.Try.f40 tbel_fa t = (tbel_ft fu).spec t := fun t => by kernel_rfl
theorem tbel_told (fu : Nat) : Told Go.Proofs.Try.prog (tbel_ft fu) := told_of allT_nil mixed Go.Proofs.Try.func40 (by kernel_rfl) (by kernel_rfl) (tbel_eq fu)
def tcopE_l0 (fu : Nat) (r : List (qT1)) (x : Int) (h : Int) (h1 : List qT4) (h2 : Int) (h3 : List qT10) : Option ((Int × (Int × (List qT4 × (Int × List qT10)))) ⊕ ((Int × (List qT4 × (Int × List qT10))))) :=
  bif (decide (x < ((r.length : Nat) : Int))) then
    (idx? x h1.length).bind fun q =>
    (h1)[q]?.bind fun r1 =>
    (sClo3 fu r1.2.2.2.2.2.1).bind fun r2 =>
    (h1)[q]?.bind fun r3 =>
    (lowD (.ref 1 (.pair .str (.int .i64))) r3.2.2.2.2.2.2.2).bind fun x1 =>
    (sClo2 fu x1).bind fun r4 =>
    (h1)[q]?.bind fun r5 =>
    ((List.set h1 q (r5.1, (r5.2.1, (r5.2.2.1, (r5.2.2.2.1, (r5.2.2.2.2.1, (r2, r5.2.2.2.2.2.2))))))))[q]?.bind fun r6 =>
    some (.inl ((IntKind.wrap .i64 (x + 1)), (h, ((List.set (List.set h1 q (r5.1, (r5.2.1, (r5.2.2.1, (r5.2.2.2.1, (r5.2.2.2.2.1, (r2, r5.2.2.2.2.2.2))))))) q (r6.1, (r6.2.1, (r6.2.2.1, (r6.2.2.2.1, (r6.2.2.2.2.1, (r6.2.2.2.2.2.1, (r6.2.2.2.2.2.2.1, (.inr (some (h3.length, (0, r4.length)))))))))))), (h2, (h3 ++ [(1, r4)]))))))
  else
    some (.inr (h, (h1, (h2, h3))))
def tcopE_l0_it (fu : Nat) (r : List (qT1)) (tt : (Int × (Int × (List qT4 × (Int × List qT10))))) : Option ((Int × (List qT4 × (Int × List qT10)))) :=
  iter fu (fun tt => tcopE_l0 fu r tt.1 tt.2.1 tt.2.2.1 tt.2.2.2.1 tt.2.2.2.2) tt
def tcopE (fu : Nat) (t : (List (qT1) × Int)) : Option ((Int × (List qT4 × List qT10))) :=
  (sClo fu t.1).bind fun r =>
  (tcopE_l0_it fu r (0, (t.2, ((List.map (liftT qY2) r), (0, []))))).bind fun o =>
  some (o.1, (o.2.1, o.2.2.2))
def tcopE_fa : FnA := ⟨.two (.reg [(0, { ids := [100] }), (1, { ids := [101] })]) (.two (.reg [(2, { ids := [102] })]) (.two (.two (.leaf) (.one (.pre (.newFam 1 59 (.pair .str (.int .i64))) (.pre (.toRef 102 qY2) (.loop ⟨[1, 2, 12], ⟨(.cons (.own 0 100 0 0) (.cons (.own 0 101 0 0) qL3)), [(100, false, qB28), (102, false, (.rows 40 qY2)), (101, false, qB18), (999985, false, qB13)]⟩⟩ false [(0, ⟨[1, 2], ⟨(.cons (.own 0 100 0 0) (.cons (.own 0 101 0 0) .nil)), [(100, false, qB28), (102, false, (.rows 40 qY2)), (101, false, qB18), (999985, false, qB13)]⟩⟩)] (.two (.leaf) (.two (.leaf) (.two (.one (.two (.leaf) (.two (.leaf) (.reg [(6, { ids := [103], fn := 1 }), (11, { ids := [104], md := [3], fn := 2 }), (17, { sh := [104, 999985] })])))) (.leaf))))))))) (.leaf))), ⟨(.cons (.p qY21) .nil), []⟩, [⟨(.cons (.agg (.cons (.slf 8 0) qL3)) .nil), [(0, false, (.rows 40 qY2)), (999985, false, qB13)]⟩], [0]⟩
def tcopE_ft (fu : Nat) : FnT := ⟨39, tcopE_fa.i, tcopE_fa.os, fun t => tcopE fu t⟩
theorem tcopE_eq (fu : Nat) : ∀ t, evF Go.Proofs.Try.prog [sClo_ft fu, sClo3_ft fu, sClo2_ft fu] fu Go.Proofs.Try.f39 tcopE_fa t = (tcopE_ft fu).spec t := fun t => by kernel_rfl
theorem tcopE_told (fu : Nat) : Told Go.Proofs.Try.prog (tcopE_ft fu) := told_of (allT_cons (sClo_told fu) (allT_cons (sClo3_told fu) (allT_cons (sClo2_told fu) allT_nil))) mixed Go.Proofs.Try.func39 (by kernel_rfl) (by kernel_rfl) (tcopE_eq fu)
def tmis (fu : Nat) (dir : Bool) (n : qT1) : Option (Int) :=
  Option.bind (α := ((Bool × qT1))) (
    bif dir then
      some ((!n.2.2.2.1), (n.1, (n.2.1, (n.2.2.1, (n.2.2.2.1, (n.2.2.2.2.1, (n.2.2.2.2.2.1, (n.2.2.2.2.2.2.1, n.2.2.2.2.2.2.2))))))))
    else
      some (false, (n.1, (n.2.1, (n.2.2.1, (n.2.2.2.1, (n.2.2.2.2.1, (n.2.2.2.2.2.1, (n.2.2.2.2.2.2.1, n.2.2.2.2.2.2.2))))))))) fun o =>
  bif o.1 then
    some 173
  else
    Option.bind (α := ((Bool × qT1))) (
      bif (!dir) then
        some (o.2.2.2.2.1, (o.2.1, (o.2.2.1, (o.2.2.2.1, (o.2.2.2.2.1, (o.2.2.2.2.2.1, (o.2.2.2.2.2.2.1, (o.2.2.2.2.2.2.2.1, o.2.2.2.2.2.2.2.2))))))))
      else
        some (false, (o.2.1, (o.2.2.1, (o.2.2.2.1, (o.2.2.2.2.1, (o.2.2.2.2.2.1, (o.2.2.2.2.2.2.1, (o.2.2.2.2.2.2.2.1, o.2.2.2.2.2.2.2.2))))))))) fun o1 =>
    bif o1.1 then
      some 174
    else
      bif (decide (((o1.2.2.2.2.2.2.2.2.length : Nat) : Int) > 0)) then
        some 175
      else
        some 0
def tmis_fa : FnA := ⟨.two (.reg [(0, { ids := [100] })]) (.two (.one (.two (.join ⟨[3, 5], ⟨(.cons (.own 0 100 0 0) (.cons (.p .bool) .nil)), [(100, false, (.vars qL5))]⟩⟩ false [] (.leaf)) (.two (.leaf) (.two (.join ⟨[3, 12], ⟨(.cons (.own 0 100 0 0) (.cons (.p .bool) .nil)), [(100, false, (.vars qL5))]⟩⟩ false [] (.leaf)) (.two (.leaf) (.two (.leaf) (.two (.leaf) (.leaf)))))))) (.leaf)), ⟨(.cons (.p .bool) (.cons (.p qY0) .nil)), []⟩, [⟨qL3, []⟩], [0]⟩
def tmis_ft (fu : Nat) : FnT := ⟨41, tmis_fa.i, tmis_fa.os, fun t => tmis fu t.1 t.2⟩
theorem tmis_eq (fu : Nat) : ∀ t, evF Go.Proofs.Try.prog [] fu Go.Proofs.Try.f41 tmis_fa t = (tmis_ft fu).spec t := fun t => by kernel_rfl
theorem tmis_told (fu : Nat) : Told Go.Proofs.Try.prog (tmis_ft fu) := told_of allT_nil mixed Go.Proofs.Try.func41 (by kernel_rfl) (by kernel_rfl) (tmis_eq fu)
def ttak1 (fu : Nat) (e : (List UInt8 × Int)) (h : List UInt8) : Option ((Bool × List UInt8)) :=
  some ((e.1 == h), h)
def ttak1_fa : FnA := ⟨.two (.reg [(0, { ids := [100] })]) (.leaf), ⟨(.cons (.p (.pair .str (.int .i64))) (.cons (.own 0 0 0 0) .nil)), [(0, false, qB25)]⟩, [⟨(.cons (.p .bool) .nil), [(0, false, qB25)]⟩], [0]⟩
def ttak1_ft (fu : Nat) : FnT := ⟨62, ttak1_fa.i, ttak1_fa.os, fun t => ttak1 fu t.1 t.2⟩
theorem ttak1_eq (fu : Nat) : ∀ t, evF Go.Proofs.Try.prog [] fu Go.Proofs.Try.f62 ttak1_fa t = (ttak1_ft fu).spec t := fun t => by kernel_rfl
theorem ttak1_told (fu : Nat) : Told Go.Proofs.Try.prog (ttak1_ft fu) := told_of allT_nil mixed Go.Proofs.Try.func62 (by kernel_rfl) (by kernel_rfl) (ttak1_eq fu)
def sIndFun_l0 (fu : Nat) (h : List ((List UInt8 × Int))) (x : Int) (h2 : List ((List UInt8 × Int))) (h3 : List UInt8) : Option ((Int × qT27) ⊕ (qT27 ⊕ (Int × qT27))) :=
  bif (decide (x < ((h.length : Nat) : Int))) then
    (idx? x h2.length).bind fun q =>
    (h2)[q]?.bind fun r =>
    (ttak1 fu r h3).bind fun r1 =>
    bif r1.1 then
      some (.inr (.inr (x, (h2, r1.2))))
    else
      some (.inl ((IntKind.wrap .i64 (x + 1)), (h2, r1.2)))
  else
    some (.inr (.inl (h2, h3)))
def sIndFun_l0_it (fu : Nat) (h : List ((List UInt8 × Int))) (tt : (Int × qT27)) : Option (qT27 ⊕ (Int × qT27)) :=
  iter fu (fun tt => sIndFun_l0 fu h tt.1 tt.2.1 tt.2.2) tt
def sIndFun (fu : Nat) (h : List ((List UInt8 × Int))) (h1 : List UInt8) : Option ((Int × qT27)) :=
  (sIndFun_l0_it fu h (0, (h, h1))).bind fun o =>
  match o with
  | .inl s =>
    some ((-1), (s.1, s.2))
  | .inr o1 =>
    some o1
def sIndFun_fa : FnA := ⟨.two (.leaf) (.two (.two (.leaf) (.one (.loop ⟨[0, 1, 8], ⟨(.cons (.slf 2 0) (.cons (.fn 62 .nil (.cons (.own 0 1 0 0) .nil)) qL3)), [(0, false, qB20), (1, false, qB25)]⟩⟩ true [(0, ⟨[0, 1], ⟨(.cons (.slf 2 0) (.cons (.fn 62 .nil (.cons (.own 0 1 0 0) .nil)) .nil)), [(0, false, qB20), (1, false, qB25)]⟩⟩)] (.two (.leaf) (.two (.leaf) (.two (.one (.two (.leaf) (.two (.reg [(5, { sh := [1] })]) (.two (.leaf) (.leaf))))) (.leaf))))))) (.leaf)), ⟨(.cons (.slf 2 0) (.cons (.fn 62 .nil (.cons (.own 0 1 0 0) .nil)) .nil)), [(0, false, qB20), (1, false, qB25)]⟩, [⟨qL3, [(0, false, qB20), (1, false, qB25)]⟩], [0]⟩
def sIndFun_ft (fu : Nat) : FnT := ⟨54, sIndFun_fa.i, sIndFun_fa.os, fun t => sIndFun fu t.1 t.2⟩
theorem sIndFun_eq (fu : Nat) : ∀ t, evF Go.Proofs.Try.prog [ttak1_ft fu] fu Go.Proofs.Try.f54 sIndFun_fa t = (sIndFun_ft fu).spec t := fun t => by kernel_rfl
theorem sIndFun_told (fu : Nat) : Told Go.Proofs.Try.prog (sIndFun_ft fu) := told_of (allT_cons (ttak1_told fu) allT_nil) mixed Go.Proofs.Try.func54 (by kernel_rfl) (by kernel_rfl) (sIndFun_eq fu)
def sDelFun_l0 (fu : Nat) (i : Int) (j : Int) (h2 : List ((List UInt8 × Int))) (h3 : List UInt8) : Option ((Int × (Int × qT27)) ⊕ ((Int × qT27))) :=
  bif (decide (j < ((h2.length : Nat) : Int))) then
    (idx? j h2.length).bind fun q =>
    (h2)[q]?.bind fun r1 =>
    (ttak1 fu (r1.1, r1.2) h3).bind fun r2 =>
    Option.bind (α := ((Int × qT27))) (
      bif (!r2.1) then
        (idx? i h2.length).bind fun q1 =>
        (h2)[q1]?.bind fun r3 =>
        some ((IntKind.wrap .i64 (i + 1)), ((List.set h2 q1 (r1.1, r1.2)), r2.2))
      else
        some (i, (h2, r2.2))) fun o =>
    some (.inl (o.1, ((IntKind.wrap .i64 (j + 1)), (o.2.1, o.2.2))))
  else
    some (.inr (i, (h2, h3)))
def sDelFun_l0_it (fu : Nat)  (tt : (Int × (Int × qT27))) : Option ((Int × qT27)) :=
  iter fu (fun tt => sDelFun_l0 fu tt.1 tt.2.1 tt.2.2.1 tt.2.2.2) tt
def sDelFun (fu : Nat) (h : List ((List UInt8 × Int))) (h1 : List UInt8) : Option (qT27 ⊕ (List UInt8 × List ((List UInt8 × Int)))) :=
  (sIndFun fu h h1).bind fun r =>
  bif (r.1 == (-1)) then
    some (.inl (r.2.1, r.2.2))
  else
    (sDelFun_l0_it fu  (r.1, ((IntKind.wrap .i64 (r.1 + 1)), (r.2.1, r.2.2)))).bind fun o1 =>
    (upto? o1.1 o1.2.1.length).bind fun q2 =>
    need (Nat.ble (q2 + (o1.2.1.length - q2)) o1.2.1.length) <|
    (upto? o1.1 (splice o1.2.1 q2 (List.replicate (α := (List UInt8 × Int)) (o1.2.1.length - q2) ([], 0))).length).bind fun q3 =>
    need (Nat.ble q3 (splice o1.2.1 q2 (List.replicate (α := (List UInt8 × Int)) (o1.2.1.length - q2) ([], 0))).length) <|
    some (.inr (o1.2.2, (List.take q3 (splice o1.2.1 q2 (List.replicate (α := (List UInt8 × Int)) (o1.2.1.length - q2) ([], 0))))))
def sDelFun_fa : FnA := ⟨.two (.leaf) (.two (.reg [(2, { sh := [0, 1] })]) (.two (.two (.leaf) (.two (.leaf) (.leaf))) (.two (.two (.leaf) (.one (.loop ⟨[0, 1, 5, 6], ⟨(.cons (.slf 2 0) (.cons (.fn 62 .nil (.cons (.own 0 1 0 0) .nil)) (.cons (.p (.int .i64)) qL3))), [(0, false, qB20), (1, false, qB25)]⟩⟩ false [(0, ⟨[0, 1, 5], ⟨(.cons (.slf 2 0) (.cons (.fn 62 .nil (.cons (.own 0 1 0 0) .nil)) qL3)), [(0, false, qB20), (1, false, qB25)]⟩⟩)] (.two (.two (.leaf) (.leaf)) (.two (.one (.two (.reg [(4, { ids := [100] })]) (.two (.reg [(2, { sh := [1], fn := 1 })]) (.join ⟨[0, 1, 5], ⟨(.cons (.slf 2 0) (.cons (.fn 62 .nil (.cons (.own 0 1 0 0) .nil)) qL3)), [(0, false, qB20), (1, false, qB25)]⟩⟩ false [] (.two (.leaf) (.leaf)))))) (.leaf)))))) (.two (.leaf) (.leaf))))), ⟨(.cons (.slf 2 0) (.cons (.fn 62 .nil (.cons (.own 0 1 0 0) .nil)) .nil)), [(0, false, qB20), (1, false, qB25)]⟩, [⟨(.cons (.slf 2 0) .nil), [(0, false, qB20), (1, false, qB25)]⟩, ⟨(.cons (.slf 2 2) .nil), [(1, false, qB25), (2, false, qB20)]⟩], [69]⟩
def sDelFun_ft (fu : Nat) : FnT := ⟨61, sDelFun_fa.i, sDelFun_fa.os, fun t => sDelFun fu t.1 t.2⟩
theorem sDelFun_eq (fu : Nat) : ∀ t, evF Go.Proofs.Try.prog [sIndFun_ft fu, ttak1_ft fu] fu Go.Proofs.Try.f61 sDelFun_fa t = (sDelFun_ft fu).spec t := fun t => by kernel_rfl
theorem sDelFun_told (fu : Nat) : Told Go.Proofs.Try.prog (sDelFun_ft fu) := told_of (allT_cons (sIndFun_told fu) (allT_cons (ttak1_told fu) allT_nil)) mixed Go.Proofs.Try.func61 (by kernel_rfl) (by kernel_rfl) (sDelFun_eq fu)
def ttak (fu : Nat) (dir : Int) (name : List UInt8) (h : Int) (h1 : List qT4) (h2 : List qT10) : Option ((Int × (List qT4 × List qT10))) :=
  (idx? (IntKind.wrap .i64 (dir - 1)) h1.length).bind fun q =>
  (h1)[q]?.bind fun r =>
  (openM h2 r.2.2.2.2.2.2.2).bind fun m =>
  (sDelFun fu m.1 name).bind fun r1 =>
  match r1 with
  | .inl r2 =>
    (h1)[q]?.bind fun r4 =>
    some (h, ((List.set h1 q (r4.1, (r4.2.1, (r4.2.2.1, (r4.2.2.2.1, (r4.2.2.2.2.1, (r4.2.2.2.2.2.1, (r4.2.2.2.2.2.2.1, (.inr (some (m.2.length, (0, r2.1.length)))))))))))), (m.2 ++ [(1, r2.1)])))
  | .inr r3 =>
    (h1)[q]?.bind fun r5 =>
    some (h, ((List.set h1 q (r5.1, (r5.2.1, (r5.2.2.1, (r5.2.2.2.1, (r5.2.2.2.2.1, (r5.2.2.2.2.2.1, (r5.2.2.2.2.2.2.1, (.inr (some (m.2.length, (0, r3.2.length)))))))))))), (m.2 ++ [(1, r3.2)])))
def ttak_fa : FnA := ⟨.two (.reg [(0, { ids := [100] })]) (.two (.leaf) (.reg [(6, { ids := [101], sh := [605069, 100], md := [505069, 0] }), (9, { sh := [605069, 999985] })])), ⟨(.cons (.own 0 0 0 0) (.cons (.p (.int .i64)) (.cons (.p .str) .nil))), [(0, false, (.vars (.cons (.slf 8 1) qL3))), (1, false, (.rows 40 qY2)), (999985, false, qB13)]⟩, [⟨.nil, [(0, false, (.vars (.cons (.slf 8 1) qL3))), (1, false, (.rows 40 qY2)), (999985, false, qB13)]⟩], []⟩
def ttak_ft (fu : Nat) : FnT := ⟨43, ttak_fa.i, ttak_fa.os, fun t => ttak fu t.1 t.2.1 t.2.2.1 t.2.2.2.1 t.2.2.2.2⟩
theorem ttak_eq (fu : Nat) : ∀ t, evF Go.Proofs.Try.prog [sDelFun_ft fu] fu Go.Proofs.Try.f43 ttak_fa t = (ttak_ft fu).spec t := fun t => by kernel_rfl
theorem ttak_told (fu : Nat) : Told Go.Proofs.Try.prog (ttak_ft fu) := told_of (allT_cons (sDelFun_told fu) allT_nil) mixed Go.Proofs.Try.func43 (by kernel_rfl) (by kernel_rfl) (ttak_eq fu)
def iDro1 (fu : Nat) (p : (Int × Int)) : Option (Bool) :=
  some ((p.1 == 0) && (p.2 == 0))
def iDro1_fa : FnA := ⟨.two (.reg [(0, { ids := [100] })]) (.leaf), ⟨(.cons (.p qY6) .nil), []⟩, [⟨(.cons (.p .bool) .nil), []⟩], [0]⟩
def iDro1_ft (fu : Nat) : FnT := ⟨72, iDro1_fa.i, iDro1_fa.os, fun t => iDro1 fu t⟩
theorem iDro1_eq (fu : Nat) : ∀ t, evF Go.Proofs.Try.prog [] fu Go.Proofs.Try.f72 iDro1_fa t = (iDro1_ft fu).spec t := fun t => by kernel_rfl
theorem iDro1_told (fu : Nat) : Told Go.Proofs.Try.prog (iDro1_ft fu) := told_of allT_nil mixed Go.Proofs.Try.func72 (by kernel_rfl) (by kernel_rfl) (iDro1_eq fu)
def sIndFun4_l0 (fu : Nat) (s : List ((Int × Int))) (x : Int) : Option (Int ⊕ (Unit ⊕ Int)) :=
  bif (decide (x < ((s.length : Nat) : Int))) then
    (idx? x s.length).bind fun q =>
    (s)[q]?.bind fun r =>
    (iDro1 fu r).bind fun r1 =>
    bif r1 then
      some (.inr (.inr x))
    else
      some (.inl (IntKind.wrap .i64 (x + 1)))
  else
    some (.inr (.inl ()))
def sIndFun4_l0_it (fu : Nat) (s : List ((Int × Int))) (tt : Int) : Option (Unit ⊕ Int) :=
  iter fu (fun tt => sIndFun4_l0 fu s tt) tt
def sIndFun4 (fu : Nat) (s : List ((Int × Int))) : Option (Int) :=
  (sIndFun4_l0_it fu s 0).bind fun o =>
  match o with
  | .inl s1 =>
    some (-1)
  | .inr o1 =>
    some o1
def sIndFun4_fa : FnA := ⟨.two (.leaf) (.two (.two (.leaf) (.one (.loop ⟨[8], ⟨qL3, []⟩⟩ true [(0, ⟨[], ⟨.nil, []⟩⟩)] (.two (.leaf) (.two (.leaf) (.two (.one (.two (.leaf) (.two (.reg [(5, {  })]) (.two (.leaf) (.leaf))))) (.leaf))))))) (.leaf)), ⟨(.cons (.p (.sl qY6)) (.cons (.fn 72 .nil .nil) .nil)), []⟩, [⟨qL3, []⟩], [0]⟩
def sIndFun4_ft (fu : Nat) : FnT := ⟨75, sIndFun4_fa.i, sIndFun4_fa.os, fun t => sIndFun4 fu t⟩
theorem sIndFun4_eq (fu : Nat) : ∀ t, evF Go.Proofs.Try.prog [iDro1_ft fu] fu Go.Proofs.Try.f75 sIndFun4_fa t = (sIndFun4_ft fu).spec t := fun t => by kernel_rfl
theorem sIndFun4_told (fu : Nat) : Told Go.Proofs.Try.prog (sIndFun4_ft fu) := told_of (allT_cons (iDro1_told fu) allT_nil) mixed Go.Proofs.Try.func75 (by kernel_rfl) (by kernel_rfl) (sIndFun4_eq fu)
def sDelFun2_l0 (fu : Nat) (i : Int) (j : Int) (h1 : List ((Int × Int))) : Option ((Int × (Int × List ((Int × Int)))) ⊕ ((Int × List ((Int × Int))))) :=
  bif (decide (j < ((h1.length : Nat) : Int))) then
    (idx? j h1.length).bind fun q =>
    (h1)[q]?.bind fun r1 =>
    (iDro1 fu (r1.1, r1.2)).bind fun r2 =>
    Option.bind (α := ((Int × List ((Int × Int))))) (
      bif (!r2) then
        (idx? i h1.length).bind fun q1 =>
        (h1)[q1]?.bind fun r3 =>
        some ((IntKind.wrap .i64 (i + 1)), (List.set h1 q1 (r1.1, r1.2)))
      else
        some (i, h1)) fun o =>
    some (.inl (o.1, ((IntKind.wrap .i64 (j + 1)), o.2)))
  else
    some (.inr (i, h1))
def sDelFun2_l0_it (fu : Nat)  (tt : (Int × (Int × List ((Int × Int))))) : Option ((Int × List ((Int × Int)))) :=
  iter fu (fun tt => sDelFun2_l0 fu tt.1 tt.2.1 tt.2.2) tt
def sDelFun2 (fu : Nat) (h : List ((Int × Int))) : Option (List ((Int × Int)) ⊕ List ((Int × Int))) :=
  (sIndFun4 fu h).bind fun r =>
  bif (r == (-1)) then
    some (.inl h)
  else
    (sDelFun2_l0_it fu  (r, ((IntKind.wrap .i64 (r + 1)), h))).bind fun o1 =>
    (upto? o1.1 o1.2.length).bind fun q2 =>
    need (Nat.ble (q2 + (o1.2.length - q2)) o1.2.length) <|
    (upto? o1.1 (splice o1.2 q2 (List.replicate (α := (Int × Int)) (o1.2.length - q2) (0, 0))).length).bind fun q3 =>
    need (Nat.ble q3 (splice o1.2 q2 (List.replicate (α := (Int × Int)) (o1.2.length - q2) (0, 0))).length) <|
    some (.inr (List.take q3 (splice o1.2 q2 (List.replicate (α := (Int × Int)) (o1.2.length - q2) (0, 0)))))
def sDelFun2_fa : FnA := ⟨.two (.leaf) (.two (.reg [(2, { md := [2, 0] })]) (.two (.two (.leaf) (.two (.leaf) (.leaf))) (.two (.two (.leaf) (.one (.loop ⟨[0, 5, 6], ⟨(.cons (.slf 2 0) (.cons (.p (.int .i64)) qL3)), [(0, false, (.rows 67 qY6))]⟩⟩ false [(0, ⟨[0, 5], ⟨(.cons (.slf 2 0) qL3), [(0, false, (.rows 67 qY6))]⟩⟩)] (.two (.two (.leaf) (.leaf)) (.two (.one (.two (.reg [(4, { ids := [100] })]) (.two (.reg [(2, { fn := 1 })]) (.join ⟨[0, 5], ⟨(.cons (.slf 2 0) qL3), [(0, false, (.rows 67 qY6))]⟩⟩ false [] (.two (.leaf) (.leaf)))))) (.leaf)))))) (.two (.leaf) (.leaf))))), ⟨(.cons (.slf 2 0) (.cons (.fn 72 .nil .nil) .nil)), [(0, false, (.rows 67 qY6))]⟩, [⟨(.cons (.slf 2 0) .nil), [(0, false, (.rows 67 qY6))]⟩, ⟨(.cons (.slf 2 1) .nil), [(1, false, (.rows 67 qY6))]⟩], [77]⟩
def sDelFun2_ft (fu : Nat) : FnT := ⟨71, sDelFun2_fa.i, sDelFun2_fa.os, fun t => sDelFun2 fu t⟩
theorem sDelFun2_eq (fu : Nat) : ∀ t, evF Go.Proofs.Try.prog [sIndFun4_ft fu, iDro1_ft fu] fu Go.Proofs.Try.f71 sDelFun2_fa t = (sDelFun2_ft fu).spec t := fun t => by kernel_rfl
theorem sDelFun2_told (fu : Nat) : Told Go.Proofs.Try.prog (sDelFun2_ft fu) := told_of (allT_cons (sIndFun4_told fu) (allT_cons (iDro1_told fu) allT_nil)) mixed Go.Proofs.Try.func71 (by kernel_rfl) (by kernel_rfl) (sDelFun2_eq fu)
def icop2go0R_l0 (fu : Nat) (r : List (qT1)) (t1 : Int) (x : Int) (h2 : List qT4) (h3 : Int) (h4 : List qT8) (h5 : Int) (h6 : List qT24) (h7 : List qT10) (h8 : List qT10) : Option ((Int × (Int × (List qT4 × (Int × (List qT8 × (Int × (List qT24 × (List qT10 × List qT10)))))))) ⊕ ((Int × (List qT4 × (Int × (List qT8 × (Int × (List qT24 × (List qT10 × List qT10))))))))) :=
  bif (decide (x < ((r.length : Nat) : Int))) then
    (idx? x h4.length).bind fun q =>
    (h4)[q]?.bind fun r1 =>
    (lowD (.ref 0 qY6) r1.2.2.2.2.2.1).bind fun x1 =>
    (lowD (.ref 2 (.pair .str (.int .i64))) r1.2.2.2.2.2.2.2).bind fun x2 =>
    (inode_own fu (r1.1, (r1.2.1, (r1.2.2.1, (r1.2.2.2.1, (r1.2.2.2.2.1, (x1, (r1.2.2.2.2.2.2.1, x2)))))))).bind fun r2 =>
    (idx? x h4.length).bind fun q1 =>
    (h4)[q1]?.bind fun r3 =>
    some (.inl (t1, ((IntKind.wrap .i64 (x + 1)), (h2, (h3, ((List.set h4 q1 (r2.1, (r2.2.1, (r2.2.2.1, (r2.2.2.2.1, (r2.2.2.2.2.1, ((.inr (some (h6.length, (0, r2.2.2.2.2.2.2.1.length)))), (r2.2.2.2.2.2.1, (.inr (some (h8.length, (0, r2.2.2.2.2.2.2.2.length)))))))))))), (h5, ((h6 ++ [(1, r2.2.2.2.2.2.2.1)]), (h7, (h8 ++ [(1, r2.2.2.2.2.2.2.2)]))))))))))
  else
    some (.inr (t1, (h2, (h3, (h4, (h5, (h6, (h7, h8))))))))
def icop2go0R_l0_it (fu : Nat) (r : List (qT1)) (tt : (Int × (Int × (List qT4 × (Int × (List qT8 × (Int × (List qT24 × (List qT10 × List qT10))))))))) : Option ((Int × (List qT4 × (Int × (List qT8 × (Int × (List qT24 × (List qT10 × List qT10)))))))) :=
  iter fu (fun tt => icop2go0R_l0 fu r tt.1 tt.2.1 tt.2.2.1 tt.2.2.2.1 tt.2.2.2.2.1 tt.2.2.2.2.2.1 tt.2.2.2.2.2.2.1 tt.2.2.2.2.2.2.2.1 tt.2.2.2.2.2.2.2.2) tt
def icop2go0R (fu : Nat) (t : Int) (h : List qT4) (h1 : List qT10) : Option ((Int × (List qT4 × (List qT8 × (List qT24 × (List qT10 × List qT10)))))) :=
  (unrefL (unrefD [⟨1, (.pair .str (.int .i64)), (List.map frz1 h1)⟩] qY2) h).bind fun l =>
  (sClo fu l).bind fun r =>
  (icop2go0R_l0_it fu r (t, (0, (h, (t, ((List.map (liftT qY7) r), (0, ([], ((List.map frz1 h1), []))))))))).bind fun o =>
  some (o.2.2.1, (o.2.1, (o.2.2.2.1, (o.2.2.2.2.2.1, (o.2.2.2.2.2.2.1, o.2.2.2.2.2.2.2)))))
def icop2go0R_fa : FnA := ⟨.two (.reg [(0, { ids := [100] }), (1, { ids := [101] })]) (.two (.reg [(2, { ids := [102], md := [1] })]) (.two (.two (.leaf) (.one (.pre (.newFam 0 67 qY6) (.pre (.newFam 2 59 (.pair .str (.int .i64))) (.pre (.toRef 102 qY7) (.loop ⟨[0, 1, 2, 10, 12], ⟨(.cons (.agg (.cons (.slf 8 0) qL3)) (.cons (.own 0 100 0 0) (.cons (.own 0 101 0 0) (.cons (.slf 8 102) qL3)))), [(0, true, (.rows 40 qY2)), (100, false, qB28), (102, false, (.rows 40 qY7)), (101, false, qB18), (999984, false, (.fam 67 qY6)), (999985, false, qB13), (999986, false, qB13)]⟩⟩ false [(0, ⟨[0, 1, 2], ⟨(.cons (.agg (.cons (.slf 8 0) qL3)) (.cons (.own 0 100 0 0) (.cons (.own 0 101 0 0) .nil))), [(0, true, (.rows 40 qY2)), (100, false, qB28), (102, false, (.rows 40 qY7)), (101, false, qB18), (999984, false, (.fam 67 qY6)), (999985, false, qB13), (999986, false, qB13)]⟩⟩)] (.two (.leaf) (.two (.leaf) (.two (.one (.two (.reg [(3, { ids := [103] })]) (.reg [(4, { ids := [104, 105], md := [3], fn := 1 }), (6, { sh := [104, 999984, 105, 999986] })]))) (.leaf)))))))))) (.leaf))), ⟨(.cons (.agg (.cons (.slf 8 0) qL3)) .nil), [(0, false, (.rows 40 qY2)), (999985, false, qB13)]⟩, [⟨(.cons (.agg (.cons (.slf 8 1) qL3)) .nil), [(0, true, (.rows 40 qY2)), (1, false, (.rows 40 qY7)), (999984, false, (.fam 67 qY6)), (999985, false, qB13), (999986, false, qB13)]⟩], [0]⟩
def icop2go0R_ft (fu : Nat) : FnT := ⟨47, icop2go0R_fa.i, icop2go0R_fa.os, fun t => icop2go0R fu t.1 t.2.1 t.2.2⟩
theorem icop2go0R_eq (fu : Nat) : ∀ t, evF Go.Proofs.Try.prog [sClo_ft fu, inode_own_ft fu] fu Go.Proofs.Try.f47 icop2go0R_fa t = (icop2go0R_ft fu).spec t := fun t => by kernel_rfl
theorem icop2go0R_told (fu : Nat) : Told Go.Proofs.Try.prog (icop2go0R_ft fu) := told_of (allT_cons (sClo_told fu) (allT_cons (inode_own_told fu) allT_nil)) mixed Go.Proofs.Try.func47 (by kernel_rfl) (by kernel_rfl) (icop2go0R_eq fu)
def iDro2go0R (fu : Nat) (t : Int) (id : Int) (h : List qT4) (h1 : List qT10) : Option ((Int × (List ((Int × Int)) × (Int × (List qT4 × (List qT8 × (List qT24 × (List qT10 × List qT10)))))))) :=
  (icop2go0R fu t h h1).bind fun r =>
  (unrefL (unrefD [⟨2, (.pair .str (.int .i64)), (List.map frz1 r.2.2.2.2.2)⟩, ⟨1, (.pair .str (.int .i64)), (List.map frz1 r.2.2.2.2.1)⟩, ⟨0, qY6, (List.map frz1 r.2.2.2.1)⟩] qY2) r.2.1).bind fun l =>
  (iRig fu (l, t)).bind fun r1 =>
  bif (!r1) then
    some (r.1, ([], (180, (r.2.1, (r.2.2.1, (r.2.2.2.1, (r.2.2.2.2.1, r.2.2.2.2.2)))))))
  else
    Option.bind (α := ((Int × (Bool × (List qT4 × (Int × (Int × (List qT8 × (List qT24 × (List qT10 × List qT10)))))))))) (
      bif (id == 1) then
        some (t, (true, (r.2.1, (0, (r.1, (r.2.2.1, (r.2.2.2.1, (r.2.2.2.2.1, r.2.2.2.2.2))))))))
      else
        (unrefL (unrefD [⟨2, (.pair .str (.int .i64)), (List.map frz1 r.2.2.2.2.2)⟩, ⟨1, (.pair .str (.int .i64)), (List.map frz1 r.2.2.2.2.1)⟩, ⟨0, qY6, (List.map frz1 r.2.2.2.1)⟩] qY2) r.2.1).bind fun l1 =>
        (inode_is fu (l1, t) id true).bind fun r2 =>
        bif (!r2) then
          (unrefL (unrefD [⟨2, (.pair .str (.int .i64)), (List.map frz1 r.2.2.2.2.2)⟩, ⟨1, (.pair .str (.int .i64)), (List.map frz1 r.2.2.2.2.1)⟩, ⟨0, qY6, (List.map frz1 r.2.2.2.1)⟩] qY2) r.2.1).bind fun l2 =>
          (inode_is fu (l2, t) id false).bind fun r3 =>
          some (t, ((!r3), (r.2.1, (0, (r.1, (r.2.2.1, (r.2.2.2.1, (r.2.2.2.2.1, r.2.2.2.2.2))))))))
        else
          some (t, (false, (r.2.1, (0, (r.1, (r.2.2.1, (r.2.2.2.1, (r.2.2.2.2.1, r.2.2.2.2.2))))))))) fun o =>
    bif o.2.1 then
      some (o.2.2.2.2.1, ([], (2, (o.2.2.1, (o.2.2.2.2.2.1, (o.2.2.2.2.2.2.1, (o.2.2.2.2.2.2.2.1, o.2.2.2.2.2.2.2.2)))))))
    else
      (idx? (IntKind.wrap .i64 (id - 1)) o.2.2.2.2.2.1.length).bind fun q =>
      Option.bind (α := ((Int × (Nat × (List qT4 × (Int × (Int × (List qT8 × (List ((Int × Int)) × (List qT24 × (List qT10 × List qT10))))))))))) (
        (o.2.2.2.2.2.1)[q]?.bind fun r4 =>
        (openM o.2.2.2.2.2.2.1 r4.2.2.2.2.2.1).bind fun m =>
        (sDelFun2 fu m.1).bind fun r5 =>
        match r5 with
        | .inl r6 =>
          some (o.1, (q, (o.2.2.1, (o.2.2.2.1, (o.2.2.2.2.1, (o.2.2.2.2.2.1, (r6, (m.2, (o.2.2.2.2.2.2.2.1, o.2.2.2.2.2.2.2.2)))))))))
        | .inr r7 =>
          some (o.1, (q, (o.2.2.1, (o.2.2.2.1, (o.2.2.2.2.1, (o.2.2.2.2.2.1, (r7, (m.2, (o.2.2.2.2.2.2.2.1, o.2.2.2.2.2.2.2.2)))))))))) fun o1 =>
      (o1.2.2.2.2.2.1)[o1.2.1]?.bind fun r8 =>
      (o1.2.2.2.2.2.1)[o1.2.1]?.bind fun r9 =>
      some (o1.2.2.2.2.1, (o1.2.2.2.2.2.2.1, (0, (o1.2.2.1, ((List.set o1.2.2.2.2.2.1 o1.2.1 (id, (r8.2.1, (false, (false, (0, ((.inr none), (0, (.inr none))))))))), (o1.2.2.2.2.2.2.2.1, (o1.2.2.2.2.2.2.2.2.1, o1.2.2.2.2.2.2.2.2.2)))))))
def iDro2go0R_fa : FnA := ⟨.two (.reg [(0, { ids := [100] }), (1, { ids := [101] })]) (.two (.reg [(1, { ids := [102, 999984, 999986], sh := [0, 999985], md := [3] }), (2, { ids := [103] })]) (.two (.one (.two (.reg [(1, { md := [2], fn := 1 })]) (.two (.leaf) (.two (.join ⟨[0, 4, 7, 17], ⟨(.cons (.agg (.cons (.slf 8 0) qL3)) (.cons (.own 0 101 0 0) (.cons (.own 0 103 0 0) (.cons (.p .bool) .nil)))), [(0, true, (.rows 40 qY2)), (101, false, qB18), (103, false, qB28), (102, false, (.rows 40 qY7)), (999984, false, (.fam 67 qY6)), (999985, false, qB13), (999986, false, qB13)]⟩⟩ false [] (.reg [(5, { md := [2, 0, 0], fn := 2 }), (10, { md := [2, 0, 0], fn := 2 })])) (.two (.leaf) (.leaf)))))) (.two (.leaf) (.two (.join ⟨[0, 4, 7, 8, 9], ⟨(.cons (.agg (.cons (.slf 8 0) qL3)) (.cons (.own 0 101 0 0) (.cons (.own 0 103 0 0) (.cons (.ownx 8 102 0) (.cons (.slf 2 620077) .nil))))), [(0, true, (.rows 40 qY2)), (101, false, qB18), (103, false, qB28), (102, false, (.rows 40 qY7)), (620077, false, (.rows 67 qY6)), (999984, false, (.fam 67 qY6)), (999985, false, qB13), (999986, false, qB13)]⟩⟩ false [] (.reg [(4, { ids := [104], sh := [620077], md := [520077, 0], fn := 3 })])) (.two (.leaf) (.leaf)))))), ⟨(.cons (.agg (.cons (.slf 8 0) qL3)) qL3), [(0, false, (.rows 40 qY2)), (999985, false, qB13)]⟩, [⟨(.cons (.agg (.cons (.slf 8 1) qL3)) (.cons (.p (.sl qY6)) qL3)), [(0, true, (.rows 40 qY2)), (1, false, (.rows 40 qY7)), (999984, false, (.fam 67 qY6)), (999985, false, qB13), (999986, false, qB13)]⟩], [0, 1, 0]⟩
def iDro2go0R_ft (fu : Nat) : FnT := ⟨60, iDro2go0R_fa.i, iDro2go0R_fa.os, fun t => iDro2go0R fu t.1 t.2.1 t.2.2.1 t.2.2.2⟩
theorem iDro2go0R_eq (fu : Nat) : ∀ t, evF Go.Proofs.Try.prog [icop2go0R_ft fu, iRig_ft fu, inode_is_ft fu, sDelFun2_ft fu] fu Go.Proofs.Try.f60 iDro2go0R_fa t = (iDro2go0R_ft fu).spec t := fun t => by kernel_rfl
theorem iDro2go0R_told (fu : Nat) : Told Go.Proofs.Try.prog (iDro2go0R_ft fu) := told_of (allT_cons (icop2go0R_told fu) (allT_cons (iRig_told fu) (allT_cons (inode_is_told fu) (allT_cons (sDelFun2_told fu) allT_nil)))) mixed Go.Proofs.Try.func60 (by kernel_rfl) (by kernel_rfl) (iDro2go0R_eq fu)
def twit2 (fu : Nat) (t : (List (qT1) × Int)) (dir : Int) (name : List UInt8) (id : Int) : Option ((Int × (List ((Int × Int)) × (Int × (List qT8 × (List qT24 × List qT10)))))) :=
  (tcopE fu (t.1, t.2)).bind fun r =>
  (ttak fu dir name r.1 r.2.1 r.2.2).bind fun r1 =>
  (iDro2go0R fu r1.1 id r1.2.1 r1.2.2).bind fun r2 =>
  some (r2.1, (r2.2.1, (r2.2.2.1, (r2.2.2.2.2.1, (r2.2.2.2.2.2.1, r2.2.2.2.2.2.2.2)))))
def twit2_fa : FnA := ⟨.two (.reg [(0, { ids := [100] }), (1, { ids := [101] })]) (.two (.reg [(1, { ids := [102, 999985] }), (2, { ids := [103] })]) (.two (.reg [(2, { sh := [103, 102, 999985], fn := 1 })]) (.two (.reg [(2, { ids := [104, 999984, 999986], sh := [102, 999985], md := [3, 0], fn := 2 })]) (.leaf)))), ⟨(.cons (.p qY21) (.cons (.p (.int .i64)) (.cons (.p .str) qL3))), []⟩, [⟨(.cons (.agg (.cons (.slf 8 0) qL3)) (.cons (.p (.sl qY6)) qL3)), [(0, false, (.rows 40 qY7)), (999984, false, (.fam 67 qY6)), (999986, false, qB13)]⟩], [0, 0, 0]⟩
def twit2_ft (fu : Nat) : FnT := ⟨42, twit2_fa.i, twit2_fa.os, fun t => twit2 fu t.1 t.2.1 t.2.2.1 t.2.2.2⟩
theorem twit2_eq (fu : Nat) : ∀ t, evF Go.Proofs.Try.prog [tcopE_ft fu, ttak_ft fu, iDro2go0R_ft fu] fu Go.Proofs.Try.f42 twit2_fa t = (twit2_ft fu).spec t := fun t => by kernel_rfl
theorem twit2_told (fu : Nat) : Told Go.Proofs.Try.prog (twit2_ft fu) := told_of (allT_cons (tcopE_told fu) (allT_cons (ttak_told fu) (allT_cons (iDro2go0R_told fu) allT_nil))) mixed Go.Proofs.Try.func42 (by kernel_rfl) (by kernel_rfl) (twit2_eq fu)
def ttak2 (fu : Nat) (dir : Int) (name : List UInt8) (h : Int) (h1 : List qT8) (h2 : List qT24) (h3 : List qT10) : Option ((Int × (List qT8 × (List qT24 × List qT10)))) :=
  (idx? (IntKind.wrap .i64 (dir - 1)) h1.length).bind fun q =>
  (h1)[q]?.bind fun r =>
  (openM h3 r.2.2.2.2.2.2.2).bind fun m =>
  (sDelFun fu m.1 name).bind fun r1 =>
  match r1 with
  | .inl r2 =>
    (h1)[q]?.bind fun r4 =>
    some (h, ((List.set h1 q (r4.1, (r4.2.1, (r4.2.2.1, (r4.2.2.2.1, (r4.2.2.2.2.1, (r4.2.2.2.2.2.1, (r4.2.2.2.2.2.2.1, (.inr (some (m.2.length, (0, r2.1.length)))))))))))), (h2, (m.2 ++ [(1, r2.1)]))))
  | .inr r3 =>
    (h1)[q]?.bind fun r5 =>
    some (h, ((List.set h1 q (r5.1, (r5.2.1, (r5.2.2.1, (r5.2.2.2.1, (r5.2.2.2.2.1, (r5.2.2.2.2.2.1, (r5.2.2.2.2.2.2.1, (.inr (some (m.2.length, (0, r3.2.length)))))))))))), (h2, (m.2 ++ [(1, r3.2)]))))
def ttak2_fa : FnA := ⟨.two (.reg [(0, { ids := [100] })]) (.two (.leaf) (.reg [(6, { ids := [101], sh := [605069, 100], md := [505069, 0] }), (9, { sh := [605069, 999986] })])), ⟨(.cons (.own 0 0 0 0) (.cons (.p (.int .i64)) (.cons (.p .str) .nil))), [(0, false, (.vars (.cons (.slf 8 1) qL3))), (1, false, (.rows 40 qY7)), (999984, false, (.fam 67 qY6)), (999986, false, qB13)]⟩, [⟨.nil, [(0, false, (.vars (.cons (.slf 8 1) qL3))), (1, false, (.rows 40 qY7)), (999984, false, (.fam 67 qY6)), (999986, false, qB13)]⟩], []⟩
def ttak2_ft (fu : Nat) : FnT := ⟨43, ttak2_fa.i, ttak2_fa.os, fun t => ttak2 fu t.1 t.2.1 t.2.2.1 t.2.2.2.1 t.2.2.2.2.1 t.2.2.2.2.2⟩
theorem ttak2_eq (fu : Nat) : ∀ t, evF Go.Proofs.Try.prog [sDelFun_ft fu] fu Go.Proofs.Try.f43 ttak2_fa t = (ttak2_ft fu).spec t := fun t => by kernel_rfl
theorem ttak2_told (fu : Nat) : Told Go.Proofs.Try.prog (ttak2_ft fu) := told_of (allT_cons (sDelFun_told fu) allT_nil) mixed Go.Proofs.Try.func43 (by kernel_rfl) (by kernel_rfl) (ttak2_eq fu)
def tput2 (fu : Nat) (dir : Int) (name : List UInt8) (id : Int) (h : Int) (h1 : List qT8) (h2 : List qT24) (h3 : List qT10) : Option ((Int × (List qT8 × (List qT24 × List qT10)))) :=
  (idx? (IntKind.wrap .i64 (dir - 1)) h1.length).bind fun q =>
  (h1)[q]?.bind fun r =>
  (unrefD [⟨2, (.pair .str (.int .i64)), (List.map frz1 h3)⟩, ⟨0, qY6, (List.map frz1 h2)⟩] qY7 r).bind fun x =>
  (tent fu x name).bind fun r1 =>
  (h1)[q]?.bind fun r2 =>
  (openM h3 r2.2.2.2.2.2.2.2).bind fun m =>
  (sIns fu r1.1 m.1 [(name, id)]).bind fun r3 =>
  (h1)[q]?.bind fun r4 =>
  some (h, ((List.set h1 q (r4.1, (r4.2.1, (r4.2.2.1, (r4.2.2.2.1, (r4.2.2.2.2.1, (r4.2.2.2.2.2.1, (r4.2.2.2.2.2.2.1, (.inr (some (m.2.length, (0, r3.2.length)))))))))))), (h2, (m.2 ++ [(1, r3.2)]))))
def tput2_fa : FnA := ⟨.two (.leaf) (.two (.reg [(4, { md := [2, 0] })]) (.reg [(9, { ids := [100] }), (10, { ids := [101], sh := [605069, 100], md := [505069, 0, 0], fn := 1 }), (13, { sh := [101, 999986] })])), ⟨(.cons (.own 0 0 0 0) (.cons (.p (.int .i64)) (.cons (.p .str) qL3))), [(0, false, (.vars (.cons (.slf 8 1) qL3))), (1, false, (.rows 40 qY7)), (999984, false, (.fam 67 qY6)), (999986, false, qB13)]⟩, [⟨.nil, [(0, false, (.vars (.cons (.slf 8 1) qL3))), (1, false, (.rows 40 qY7)), (999984, false, (.fam 67 qY6)), (999986, false, qB13)]⟩], []⟩
def tput2_ft (fu : Nat) : FnT := ⟨44, tput2_fa.i, tput2_fa.os, fun t => tput2 fu t.1 t.2.1 t.2.2.1 t.2.2.2.1 t.2.2.2.2.1 t.2.2.2.2.2.1 t.2.2.2.2.2.2⟩
theorem tput2_eq (fu : Nat) : ∀ t, evF Go.Proofs.Try.prog [tent_ft fu, sIns_ft fu] fu Go.Proofs.Try.f44 tput2_fa t = (tput2_ft fu).spec t := fun t => by kernel_rfl
theorem tput2_told (fu : Nat) : Told Go.Proofs.Try.prog (tput2_ft fu) := told_of (allT_cons (tent_told fu) (allT_cons (sIns_told fu) allT_nil)) mixed Go.Proofs.Try.func44 (by kernel_rfl) (by kernel_rfl) (tput2_eq fu)
def tRen (fu : Nat) (t : (List (qT1) × Int)) (from_ : (Int × Int)) (old : List UInt8) (to_ : (Int × Int)) (name : List UInt8) : Option ((List (qT1) × (Int × (List ((Int × Int)) × Int)))) :=
  (task fu (t.1, t.2) [(from_.1, from_.2), (to_.1, to_.2)]).bind fun r =>
  bif (!(r.1 == 0)) then
    (tcop fu (t.1, t.2)).bind fun r1 =>
    some (r1.2, (r1.1, ([], r.1)))
  else
    Option.bind (α := ((Bool × (List (qT1) × (Int × (Int × (Int × (Int × (Int × (Int × List (qT1))))))))))) (
      (tNam fu old).bind fun r2 =>
      bif (!r2) then
        some (true, (t.1, (t.2, (from_.1, (from_.2, (to_.1, (to_.2, (0, r.2))))))))
      else
        (tNam fu name).bind fun r3 =>
        some ((!r3), (t.1, (t.2, (from_.1, (from_.2, (to_.1, (to_.2, (0, r.2))))))))) fun o =>
    bif o.1 then
      (tcop fu (o.2.1, o.2.2.1)).bind fun r4 =>
      some (r4.2, (r4.1, ([], 176)))
    else
      (idx? 0 o.2.2.2.2.2.2.2.2.length).bind fun q =>
      (o.2.2.2.2.2.2.2.2)[q]?.bind fun r5 =>
      (tent fu r5 old).bind fun r6 =>
      bif (!r6.2) then
        (tcop fu (o.2.1, o.2.2.1)).bind fun r7 =>
        some (r7.2, (r7.1, ([], 171)))
      else
        (idx? 0 o.2.2.2.2.2.2.2.2.length).bind fun q1 =>
        (o.2.2.2.2.2.2.2.2)[q1]?.bind fun r8 =>
        (idx? r6.1 r8.2.2.2.2.2.2.2.length).bind fun q2 =>
        (r8.2.2.2.2.2.2.2)[q2]?.bind fun r9 =>
        (idx? (IntKind.wrap .i64 (r9.2 - 1)) o.2.1.length).bind fun q3 =>
        (o.2.1)[q3]?.bind fun r10 =>
        Option.bind (α := ((Bool × (List (qT1) × (Int × (Int × (Int × (Int × (Int × (Int × List (qT1))))))))))) (
          bif r10.2.2.2.1 then
            (tbel fu (o.2.1, o.2.2.1) o.2.2.2.2.2.1 r9.2).bind fun r11 =>
            some (r11, (o.2.1, (o.2.2.1, (o.2.2.2.1, (o.2.2.2.2.1, (o.2.2.2.2.2.1, (o.2.2.2.2.2.2.1, (o.2.2.2.2.2.2.2.1, o.2.2.2.2.2.2.2.2))))))))
          else
            some (false, (o.2.1, (o.2.2.1, (o.2.2.2.1, (o.2.2.2.2.1, (o.2.2.2.2.2.1, (o.2.2.2.2.2.2.1, (o.2.2.2.2.2.2.2.1, o.2.2.2.2.2.2.2.2))))))))) fun o1 =>
        bif o1.1 then
          (tcop fu (o1.2.1, o1.2.2.1)).bind fun r12 =>
          some (r12.2, (r12.1, ([], 178)))
        else
          (idx? 1 o1.2.2.2.2.2.2.2.2.length).bind fun q4 =>
          (o1.2.2.2.2.2.2.2.2)[q4]?.bind fun r13 =>
          (tent fu r13 name).bind fun r14 =>
          (tcopE fu (o1.2.1, o1.2.2.1)).bind fun r15 =>
          Option.bind (α := ((Bool × (List (qT1) × (Int × (Int × (Int × (Int × (Int × (Int × (List (qT1) × (Int × (List qT4 × List qT10))))))))))))) (
            bif r14.2 then
              (idx? 1 o1.2.2.2.2.2.2.2.2.length).bind fun q5 =>
              (o1.2.2.2.2.2.2.2.2)[q5]?.bind fun r16 =>
              (idx? r14.1 r16.2.2.2.2.2.2.2.length).bind fun q6 =>
              (r16.2.2.2.2.2.2.2)[q6]?.bind fun r17 =>
              some ((r17.2 == r9.2), (o1.2.1, (o1.2.2.1, (o1.2.2.2.1, (o1.2.2.2.2.1, (o1.2.2.2.2.2.1, (o1.2.2.2.2.2.2.1, (o1.2.2.2.2.2.2.2.1, (o1.2.2.2.2.2.2.2.2, (r15.1, (r15.2.1, r15.2.2)))))))))))
            else
              some (false, (o1.2.1, (o1.2.2.1, (o1.2.2.2.1, (o1.2.2.2.2.1, (o1.2.2.2.2.2.1, (o1.2.2.2.2.2.2.1, (o1.2.2.2.2.2.2.2.1, (o1.2.2.2.2.2.2.2.2, (r15.1, (r15.2.1, r15.2.2)))))))))))) fun o2 =>
          bif o2.1 then
            (unrefL (unrefD [⟨1, (.pair .str (.int .i64)), (List.map frz1 o2.2.2.2.2.2.2.2.2.2.2.2)⟩] qY2) o2.2.2.2.2.2.2.2.2.2.2.1).bind fun l5 =>
            some (l5, (o2.2.2.2.2.2.2.2.2.2.1, ([], 0)))
          else
            bif r14.2 then
              (idx? 1 o2.2.2.2.2.2.2.2.2.1.length).bind fun q7 =>
              (o2.2.2.2.2.2.2.2.2.1)[q7]?.bind fun r18 =>
              (idx? r14.1 r18.2.2.2.2.2.2.2.length).bind fun q8 =>
              (r18.2.2.2.2.2.2.2)[q8]?.bind fun r19 =>
              (idx? (IntKind.wrap .i64 (r19.2 - 1)) o2.2.1.length).bind fun q9 =>
              (o2.2.1)[q9]?.bind fun r20 =>
              (tmis fu r10.2.2.2.1 r20).bind fun r21 =>
              bif (!(r21 == 0)) then
                (unrefL (unrefD [⟨1, (.pair .str (.int .i64)), (List.map frz1 o2.2.2.2.2.2.2.2.2.2.2.2)⟩] qY2) o2.2.2.2.2.2.2.2.2.2.2.1).bind fun l6 =>
                some (l6, (o2.2.2.2.2.2.2.2.2.2.1, ([], r21)))
              else
                (twit2 fu (o2.2.1, o2.2.2.1) o2.2.2.2.2.2.1 name r19.2).bind fun r22 =>
                bif (!(r22.2.2.1 == 0)) then
                  (tcop fu (o2.2.1, o2.2.2.1)).bind fun r23 =>
                  some (r23.2, (r23.1, ([], r22.2.2.1)))
                else
                  (ttak2 fu o2.2.2.2.1 old r22.1 r22.2.2.2.1 r22.2.2.2.2.1 r22.2.2.2.2.2).bind fun r25 =>
                  (tput2 fu o2.2.2.2.2.2.1 name r9.2 r25.1 r25.2.1 r25.2.2.1 r25.2.2.2).bind fun r26 =>
                  (idx? (IntKind.wrap .i64 (r9.2 - 1)) r26.2.1.length).bind fun q11 =>
                  (r26.2.1)[q11]?.bind fun r27 =>
                  (unrefL (unrefD [⟨2, (.pair .str (.int .i64)), (List.map frz1 r26.2.2.2)⟩, ⟨1, (.pair .str (.int .i64)), (List.map frz1 o2.2.2.2.2.2.2.2.2.2.2.2)⟩, ⟨0, qY6, (List.map frz1 r26.2.2.1)⟩] qY7) (List.set r26.2.1 q11 (r27.1, (r27.2.1, (r27.2.2.1, (r27.2.2.2.1, (r27.2.2.2.2.1, (r27.2.2.2.2.2.1, (o2.2.2.2.2.2.1, r27.2.2.2.2.2.2.2))))))))).bind fun l7 =>
                  some (l7, (r26.1, (r22.2.1, 0)))
            else
              Option.bind (α := ((Bool × (Int × (Int × (Int × (Int × (Int × (Int × (List qT4 × List qT10)))))))))) (
                bif (!(o2.2.2.2.1 == o2.2.2.2.2.2.1)) then
                  (idx? 1 o2.2.2.2.2.2.2.2.2.1.length).bind fun q10 =>
                  (o2.2.2.2.2.2.2.2.2.1)[q10]?.bind fun r24 =>
                  some ((decide (((r24.2.2.2.2.2.2.2.length : Nat) : Int) ≥ 100)), (o2.2.2.2.1, (o2.2.2.2.2.1, (o2.2.2.2.2.2.1, (o2.2.2.2.2.2.2.1, (o2.2.2.2.2.2.2.2.1, (o2.2.2.2.2.2.2.2.2.2.1, (o2.2.2.2.2.2.2.2.2.2.2.1, o2.2.2.2.2.2.2.2.2.2.2.2))))))))
                else
                  some (false, (o2.2.2.2.1, (o2.2.2.2.2.1, (o2.2.2.2.2.2.1, (o2.2.2.2.2.2.2.1, (o2.2.2.2.2.2.2.2.1, (o2.2.2.2.2.2.2.2.2.2.1, (o2.2.2.2.2.2.2.2.2.2.2.1, o2.2.2.2.2.2.2.2.2.2.2.2))))))))) fun o3 =>
              bif o3.1 then
                (unrefL (unrefD [⟨1, (.pair .str (.int .i64)), (List.map frz1 o3.2.2.2.2.2.2.2.2)⟩] qY2) o3.2.2.2.2.2.2.2.1).bind fun l8 =>
                some (l8, (o3.2.2.2.2.2.2.1, ([], 5)))
              else
                (ttak fu o3.2.1 old o3.2.2.2.2.2.2.1 o3.2.2.2.2.2.2.2.1 o3.2.2.2.2.2.2.2.2).bind fun r28 =>
                (tput fu o3.2.2.2.1 name r9.2 r28.1 r28.2.1 r28.2.2).bind fun r29 =>
                (idx? (IntKind.wrap .i64 (r9.2 - 1)) r29.2.1.length).bind fun q12 =>
                (r29.2.1)[q12]?.bind fun r30 =>
                (unrefL (unrefD [⟨1, (.pair .str (.int .i64)), (List.map frz1 r29.2.2)⟩] qY2) (List.set r29.2.1 q12 (r30.1, (r30.2.1, (r30.2.2.1, (r30.2.2.2.1, (r30.2.2.2.2.1, (r30.2.2.2.2.2.1, (o3.2.2.2.1, r30.2.2.2.2.2.2.2))))))))).bind fun l9 =>
                some (l9, (r29.1, ([], 0)))
def tRen_fa : FnA := ⟨.two (.reg [(0, { ids := [100] }), (1, { ids := [101] }), (2, { ids := [102] }), (3, { ids := [103] })]) (.two (.reg [(3, { ids := [104] }), (4, { ids := [105], md := [0, 1] })]) (.two (.two (.leaf) (.two (.two (.reg [(1, { ids := [106], fn := 1 })]) (.leaf)) (.leaf))) (.two (.two (.join ⟨[5, 6, 8, 10, 13, 45], ⟨(.cons (.own 0 100 0 0) (.cons (.own 0 101 0 0) (.cons (.own 0 102 0 0) (.cons (.own 0 103 0 0) (.cons (.slf 8 105) (.cons (.p .bool) .nil)))))), [(100, false, qB9), (101, false, qB12), (102, false, qB12), (103, false, qB18), (105, false, (.rows 40 qY0))]⟩⟩ false [] (.reg [(1, { fn := 2 }), (5, { fn := 2 })])) (.two (.two (.reg [(1, { ids := [107], fn := 1 })]) (.leaf)) (.leaf))) (.two (.reg [(4, { fn := 3 })]) (.two (.two (.leaf) (.two (.two (.reg [(1, { ids := [108], fn := 1 })]) (.leaf)) (.leaf))) (.two (.leaf) (.two (.leaf) (.two (.two (.join ⟨[5, 6, 8, 10, 13, 82], ⟨(.cons (.own 0 100 0 0) (.cons (.own 0 101 0 0) (.cons (.own 0 102 0 0) (.cons (.own 0 103 0 0) (.cons (.slf 8 105) (.cons (.p .bool) .nil)))))), [(100, false, qB9), (101, false, qB12), (102, false, qB12), (103, false, qB18), (105, false, (.rows 40 qY0))]⟩⟩ false [] (.reg [(6, { fn := 4 })])) (.two (.two (.reg [(1, { ids := [109], fn := 1 })]) (.leaf)) (.leaf))) (.two (.reg [(4, { fn := 3 })]) (.two (.reg [(1, { ids := [110, 999985], fn := 5 }), (2, { ids := [111] })]) (.two (.one (.two (.join ⟨[5, 6, 8, 10, 13, 21, 95], ⟨(.cons (.own 0 100 0 0) (.cons (.own 0 101 0 0) (.cons (.own 0 102 0 0) (.cons (.own 0 103 0 0) (.cons (.slf 8 105) (.cons (.own 0 111 0 0) (.cons (.p .bool) .nil))))))), [(100, false, qB9), (101, false, qB12), (102, false, qB12), (103, false, qB18), (105, false, (.rows 40 qY0)), (111, false, (.vars (.cons (.slf 8 110) qL3))), (110, false, (.rows 40 qY2)), (999985, false, qB13)]⟩⟩ false [] (.leaf)) (.two (.leaf) (.two (.leaf) (.two (.two (.leaf) (.two (.two (.reg [(7, { fn := 6 })]) (.two (.leaf) (.two (.leaf) (.leaf)))) (.two (.reg [(5, { ids := [112, 999984, 999986], fn := 7 })]) (.two (.leaf) (.two (.two (.reg [(1, { ids := [113], fn := 1 })]) (.leaf)) (.leaf)))))) (.two (.join ⟨[6, 8, 10, 21, 147], ⟨(.cons (.own 0 101 0 0) (.cons (.own 0 102 0 0) (.cons (.own 0 103 0 0) (.cons (.own 0 111 0 0) (.cons (.p .bool) .nil))))), [(101, false, qB12), (102, false, qB12), (103, false, qB18), (111, false, (.vars (.cons (.slf 8 110) qL3))), (110, false, (.rows 40 qY2)), (999985, false, qB13)]⟩⟩ false [] (.leaf)) (.two (.leaf) (.leaf)))))))) (.sel (.slot 5 (.own 0 100 0 0)) (.two (.reg [(3, { sh := [111, 112, 999984, 999986], fn := 8 })]) (.two (.reg [(4, { sh := [111, 112, 999984, 999986], fn := 9 })]) (.two (.leaf) (.leaf)))) (.two (.reg [(3, { sh := [111, 110, 999985], fn := 10 })]) (.two (.reg [(4, { sh := [111, 110, 999985], fn := 11 })]) (.two (.leaf) (.leaf)))))))))))))))), ⟨(.cons (.p qY21) (.cons (.p qY6) (.cons (.p .str) (.cons (.p qY6) (.cons (.p .str) .nil))))), []⟩, [⟨(.cons (.agg (.cons (.p (.sl qY0)) qL3)) (.cons (.p (.sl qY6)) qL3)), []⟩], [1, 1, 0]⟩
def tRen_ft (fu : Nat) : FnT := ⟨18, tRen_fa.i, tRen_fa.os, fun t => tRen fu t.1 t.2.1 t.2.2.1 t.2.2.2.1 t.2.2.2.2⟩
theorem tRen_eq (fu : Nat) : ∀ t, evF Go.Proofs.Try.prog [task_ft fu, tcop_ft fu, tNam_ft fu, tent_ft fu, tbel_ft fu, tcopE_ft fu, tmis_ft fu, twit2_ft fu, ttak2_ft fu, tput2_ft fu, ttak_ft fu, tput_ft fu] fu Go.Proofs.Try.f18 tRen_fa t = (tRen_ft fu).spec t := fun t => by kernel_rfl
theorem tRen_told (fu : Nat) : Told Go.Proofs.Try.prog (tRen_ft fu) := told_of (allT_cons (task_told fu) (allT_cons (tcop_told fu) (allT_cons (tNam_told fu) (allT_cons (tent_told fu) (allT_cons (tbel_told fu) (allT_cons (tcopE_told fu) (allT_cons (tmis_told fu) (allT_cons (twit2_told fu) (allT_cons (ttak2_told fu) (allT_cons (tput2_told fu) (allT_cons (ttak_told fu) (allT_cons (tput_told fu) allT_nil)))))))))))) mixed Go.Proofs.Try.func18 (by kernel_rfl) (by kernel_rfl) (tRen_eq fu)
def tLoo (fu : Nat) (t : (List (qT1) × Int)) (dir : (Int × Int)) (name : List UInt8) : Option ((Int × (Int × Int))) :=
  (task fu (t.1, t.2) [(dir.1, dir.2)]).bind fun r =>
  bif (!(r.1 == 0)) then
    some (0, (0, r.1))
  else
    (tNam fu name).bind fun r1 =>
    bif (!r1) then
      some (0, (0, 176))
    else
      (idx? 0 r.2.length).bind fun q =>
      (r.2)[q]?.bind fun r2 =>
      (tent fu r2 name).bind fun r3 =>
      bif (!r3.2) then
        some (0, (0, 171))
      else
        (idx? 0 r.2.length).bind fun q1 =>
        (r.2)[q1]?.bind fun r4 =>
        (idx? r3.1 r4.2.2.2.2.2.2.2.length).bind fun q2 =>
        (r4.2.2.2.2.2.2.2)[q2]?.bind fun r5 =>
        (idx? (IntKind.wrap .i64 (r5.2 - 1)) t.1.length).bind fun q3 =>
        (t.1)[q3]?.bind fun r6 =>
        some (r5.2, (r6.2.1, 0))
def tLoo_fa : FnA := ⟨.two (.reg [(0, { ids := [100] }), (1, { ids := [101] }), (2, { ids := [102] })]) (.two (.reg [(2, { ids := [103] }), (3, { ids := [104], md := [0, 1] })]) (.two (.two (.leaf) (.two (.leaf) (.leaf))) (.two (.two (.reg [(1, { fn := 1 })]) (.two (.leaf) (.leaf))) (.two (.reg [(4, { fn := 2 })]) (.two (.two (.leaf) (.two (.leaf) (.leaf))) (.two (.leaf) (.leaf))))))), ⟨(.cons (.p qY21) (.cons (.p qY6) (.cons (.p .str) .nil))), []⟩, [⟨(.cons (.agg (.cons (.p (.int .i64)) qL3)) qL3), []⟩], [0, 0]⟩
def tLoo_ft (fu : Nat) : FnT := ⟨13, tLoo_fa.i, tLoo_fa.os, fun t => tLoo fu t.1 t.2.1 t.2.2⟩
theorem tLoo_eq (fu : Nat) : ∀ t, evF Go.Proofs.Try.prog [task_ft fu, tNam_ft fu, tent_ft fu] fu Go.Proofs.Try.f13 tLoo_fa t = (tLoo_ft fu).spec t := fun t => by kernel_rfl
theorem tLoo_told (fu : Nat) : Told Go.Proofs.Try.prog (tLoo_ft fu) := told_of (allT_cons (task_told fu) (allT_cons (tNam_told fu) (allT_cons (tent_told fu) allT_nil))) mixed Go.Proofs.Try.func13 (by kernel_rfl) (by kernel_rfl) (tLoo_eq fu)
def icopPgo0R_l0 (fu : Nat) (r : List (qT1)) (t1 : Int) (x : Int) (h2 : List qT4) (h3 : Int) (h4 : List qT16) (h5 : Int) (h6 : List qT24) (h7 : List qT10) : Option ((Int × (Int × (List qT4 × (Int × (List qT16 × (Int × (List qT24 × List qT10))))))) ⊕ ((Int × (List qT4 × (Int × (List qT16 × (Int × (List qT24 × List qT10)))))))) :=
  bif (decide (x < ((r.length : Nat) : Int))) then
    (idx? x h4.length).bind fun q =>
    (h4)[q]?.bind fun r1 =>
    (lowD (.ref 0 qY6) r1.2.2.2.2.2.1).bind fun x1 =>
    (inode_own fu (r1.1, (r1.2.1, (r1.2.2.1, (r1.2.2.2.1, (r1.2.2.2.2.1, (x1, (r1.2.2.2.2.2.2.1, r1.2.2.2.2.2.2.2)))))))).bind fun r2 =>
    (idx? x h4.length).bind fun q1 =>
    (h4)[q1]?.bind fun r3 =>
    some (.inl (t1, ((IntKind.wrap .i64 (x + 1)), (h2, (h3, ((List.set h4 q1 (r2.1, (r2.2.1, (r2.2.2.1, (r2.2.2.2.1, (r2.2.2.2.2.1, ((.inr (some (h6.length, (0, r2.2.2.2.2.2.2.1.length)))), (r2.2.2.2.2.2.1, r2.2.2.2.2.2.2.2)))))))), (h5, ((h6 ++ [(1, r2.2.2.2.2.2.2.1)]), h7))))))))
  else
    some (.inr (t1, (h2, (h3, (h4, (h5, (h6, h7)))))))
def icopPgo0R_l0_it (fu : Nat) (r : List (qT1)) (tt : (Int × (Int × (List qT4 × (Int × (List qT16 × (Int × (List qT24 × List qT10)))))))) : Option ((Int × (List qT4 × (Int × (List qT16 × (Int × (List qT24 × List qT10))))))) :=
  iter fu (fun tt => icopPgo0R_l0 fu r tt.1 tt.2.1 tt.2.2.1 tt.2.2.2.1 tt.2.2.2.2.1 tt.2.2.2.2.2.1 tt.2.2.2.2.2.2.1 tt.2.2.2.2.2.2.2) tt
def icopPgo0R (fu : Nat) (t : Int) (h : List qT4) (h1 : List qT10) : Option ((Int × (List qT4 × (List qT16 × (List qT24 × List qT10))))) :=
  (unrefL (unrefD [⟨1, (.pair .str (.int .i64)), (List.map frz1 h1)⟩] qY2) h).bind fun l =>
  (sClo fu l).bind fun r =>
  (icopPgo0R_l0_it fu r (t, (0, (h, (t, ((List.map (liftT qY11) r), (0, ([], (List.map frz1 h1))))))))).bind fun o =>
  some (o.2.2.1, (o.2.1, (o.2.2.2.1, (o.2.2.2.2.2.1, o.2.2.2.2.2.2))))
def icopPgo0R_fa : FnA := ⟨.two (.reg [(0, { ids := [100] }), (1, { ids := [101] })]) (.two (.reg [(2, { ids := [102], md := [1] })]) (.two (.two (.leaf) (.one (.pre (.newFam 0 67 qY6) (.pre (.toRef 102 qY11) (.loop ⟨[0, 1, 2, 10, 12], ⟨(.cons (.agg (.cons (.slf 8 0) qL3)) (.cons (.own 0 100 0 0) (.cons (.own 0 101 0 0) (.cons (.slf 8 102) qL3)))), [(0, true, (.rows 40 qY2)), (100, false, qB28), (102, false, (.rows 40 qY11)), (101, false, qB18), (999984, false, (.fam 67 qY6)), (999985, false, qB13)]⟩⟩ false [(0, ⟨[0, 1, 2], ⟨(.cons (.agg (.cons (.slf 8 0) qL3)) (.cons (.own 0 100 0 0) (.cons (.own 0 101 0 0) .nil))), [(0, true, (.rows 40 qY2)), (100, false, qB28), (102, false, (.rows 40 qY11)), (101, false, qB18), (999984, false, (.fam 67 qY6)), (999985, false, qB13)]⟩⟩)] (.two (.leaf) (.two (.leaf) (.two (.one (.two (.reg [(3, { ids := [103] })]) (.reg [(4, { ids := [104, 105], md := [3], fn := 1 }), (6, { sh := [104, 999984] })]))) (.leaf))))))))) (.leaf))), ⟨(.cons (.agg (.cons (.slf 8 0) qL3)) .nil), [(0, false, (.rows 40 qY2)), (999985, false, qB13)]⟩, [⟨(.cons (.agg (.cons (.slf 8 1) qL3)) .nil), [(0, true, (.rows 40 qY2)), (1, false, (.rows 40 qY11)), (999984, false, (.fam 67 qY6)), (999985, false, qB13)]⟩], [0]⟩
def icopPgo0R_ft (fu : Nat) : FnT := ⟨47, icopPgo0R_fa.i, icopPgo0R_fa.os, fun t => icopPgo0R fu t.1 t.2.1 t.2.2⟩
theorem icopPgo0R_eq (fu : Nat) : ∀ t, evF Go.Proofs.Try.prog [sClo_ft fu, inode_own_ft fu] fu Go.Proofs.Try.f47 icopPgo0R_fa t = (icopPgo0R_ft fu).spec t := fun t => by kernel_rfl
theorem icopPgo0R_told (fu : Nat) : Told Go.Proofs.Try.prog (icopPgo0R_ft fu) := told_of (allT_cons (sClo_told fu) (allT_cons (inode_own_told fu) allT_nil)) mixed Go.Proofs.Try.func47 (by kernel_rfl) (by kernel_rfl) (icopPgo0R_eq fu)
end
end Go.Ab.D
