/- Functions of the program as plain Lean functions: each equation is checked by the kernel; what is told of a function follows from it. -/
import Derived.Test.YtdngccokjijgeaaE4
import Derived.Test.YtdngccokjijgeaaProg
import Derived.KernelRfl
set_option linter.all false
set_option maxRecDepth 100000
set_option maxHeartbeats 4000000
namespace Go.Ab.D
open Go Go.Ab
noncomputable section
theorem mixed : Go.Proofs.Try.prog.follows .mixedOrders = true := by kernel_rfl
def inode_New (fu : Nat)  : Option ((Int × List ((Int × (Int × (Bool × (Bool × (Int × (List ((Int × Int)) × (Int × List ((List UInt8 × Int)))))))))))) :=
  some (0, [(1, (1, (true, (true, (0, ([], (1, [])))))))])
def inode_New_fa : FnA := ⟨.two (.reg [(0, { ids := [100] })]) (.two (.reg [(1, { ids := [101] })]) (.leaf)), ⟨.nil, []⟩, [⟨(.cons (.agg (.cons (.slf 8 0) (.cons (.p (.int .i64)) .nil))) .nil), [(0, false, (.rows 30 (.pair (.int .i64) (.pair (.int .i64) (.pair .bool (.pair .bool (.pair (.int .i64) (.pair (.sl (.pair (.int .i64) (.int .i64))) (.pair (.int .i64) (.sl (.pair .str (.int .i64))))))))))))]⟩], [0]⟩
def inode_New_ft (fu : Nat) : FnT := ⟨8, ⟨.nil, []⟩, [⟨(.cons (.agg (.cons (.slf 8 0) (.cons (.p (.int .i64)) .nil))) .nil), [(0, false, (.rows 30 (.pair (.int .i64) (.pair (.int .i64) (.pair .bool (.pair .bool (.pair (.int .i64) (.pair (.sl (.pair (.int .i64) (.int .i64))) (.pair (.int .i64) (.sl (.pair .str (.int .i64))))))))))))]⟩], fun t => inode_New fu ⟩
theorem inode_New_eq (fu : Nat) : ∀ t, evF Go.Proofs.Try.prog [] fu Go.Proofs.Try.f8 inode_New_fa t = (inode_New_ft fu).spec t := fun t => by kernel_rfl
theorem inode_New_told (fu : Nat) : Told Go.Proofs.Try.prog (inode_New_ft fu) := told_of allT_nil mixed Go.Proofs.Try.func8 (by kernel_rfl) (by kernel_rfl) (inode_New_eq fu)

def slices_Clone__api_Inode_api_Inode (fu : Nat) (s : List ((Int × (Int × (Bool × (Bool × (Int × (List ((Int × Int)) × (Int × List ((List UInt8 × Int))))))))))) : Option (List ((Int × (Int × (Bool × (Bool × (Int × (List ((Int × Int)) × (Int × List ((List UInt8 × Int))))))))))) :=
  nilQ s.length fun isNil =>
  bif isNil then
    some []
  else
    need ((Nat.ble ((0 + s.length) * 88) room) && (Nat.ble (0 + s.length) room)) <|
    some s
def slices_Clone__api_Inode_api_Inode_fa : FnA := ⟨.two (.leaf) (.two (.two (.leaf) (.two (.leaf) (.leaf))) (.two (.reg [(0, { ids := [100] }), (2, { ids := [101] })]) (.leaf))), ⟨(.cons (.p (.sl (.pair (.int .i64) (.pair (.int .i64) (.pair .bool (.pair .bool (.pair (.int .i64) (.pair (.sl (.pair (.int .i64) (.int .i64))) (.pair (.int .i64) (.sl (.pair .str (.int .i64)))))))))))) .nil), []⟩, [⟨(.cons (.slf 8 0) .nil), [(0, false, (.rows 30 (.pair (.int .i64) (.pair (.int .i64) (.pair .bool (.pair .bool (.pair (.int .i64) (.pair (.sl (.pair (.int .i64) (.int .i64))) (.pair (.int .i64) (.sl (.pair .str (.int .i64))))))))))))]⟩], [40]⟩
def slices_Clone__api_Inode_api_Inode_ft (fu : Nat) : FnT := ⟨46, ⟨(.cons (.p (.sl (.pair (.int .i64) (.pair (.int .i64) (.pair .bool (.pair .bool (.pair (.int .i64) (.pair (.sl (.pair (.int .i64) (.int .i64))) (.pair (.int .i64) (.sl (.pair .str (.int .i64)))))))))))) .nil), []⟩, [⟨(.cons (.slf 8 0) .nil), [(0, false, (.rows 30 (.pair (.int .i64) (.pair (.int .i64) (.pair .bool (.pair .bool (.pair (.int .i64) (.pair (.sl (.pair (.int .i64) (.int .i64))) (.pair (.int .i64) (.sl (.pair .str (.int .i64))))))))))))]⟩], fun t => slices_Clone__api_Inode_api_Inode fu t⟩
theorem slices_Clone__api_Inode_api_Inode_eq (fu : Nat) : ∀ t, evF Go.Proofs.Try.prog [] fu Go.Proofs.Try.f46 slices_Clone__api_Inode_api_Inode_fa t = (slices_Clone__api_Inode_api_Inode_ft fu).spec t := fun t => by kernel_rfl
theorem slices_Clone__api_Inode_api_Inode_told (fu : Nat) : Told Go.Proofs.Try.prog (slices_Clone__api_Inode_api_Inode_ft fu) := told_of allT_nil mixed Go.Proofs.Try.func46 (by kernel_rfl) (by kernel_rfl) (slices_Clone__api_Inode_api_Inode_eq fu)

def slices_Clone__api_Part_api_Part (fu : Nat) (s : List ((Int × Int))) : Option (List ((Int × Int))) :=
  nilQ s.length fun isNil =>
  bif isNil then
    some []
  else
    need ((Nat.ble ((0 + s.length) * 16) room) && (Nat.ble (0 + s.length) room)) <|
    some s
def slices_Clone__api_Part_api_Part_fa : FnA := ⟨.two (.leaf) (.two (.two (.leaf) (.two (.leaf) (.leaf))) (.two (.reg [(0, { ids := [100] }), (2, { ids := [101] })]) (.leaf))), ⟨(.cons (.p (.sl (.pair (.int .i64) (.int .i64)))) .nil), []⟩, [⟨(.cons (.slf 2 0) .nil), [(0, false, (.rows 64 (.pair (.int .i64) (.int .i64))))]⟩], [74]⟩
def slices_Clone__api_Part_api_Part_ft (fu : Nat) : FnT := ⟨45, ⟨(.cons (.p (.sl (.pair (.int .i64) (.int .i64)))) .nil), []⟩, [⟨(.cons (.slf 2 0) .nil), [(0, false, (.rows 64 (.pair (.int .i64) (.int .i64))))]⟩], fun t => slices_Clone__api_Part_api_Part fu t⟩
theorem slices_Clone__api_Part_api_Part_eq (fu : Nat) : ∀ t, evF Go.Proofs.Try.prog [] fu Go.Proofs.Try.f45 slices_Clone__api_Part_api_Part_fa t = (slices_Clone__api_Part_api_Part_ft fu).spec t := fun t => by kernel_rfl
theorem slices_Clone__api_Part_api_Part_told (fu : Nat) : Told Go.Proofs.Try.prog (slices_Clone__api_Part_api_Part_ft fu) := told_of allT_nil mixed Go.Proofs.Try.func45 (by kernel_rfl) (by kernel_rfl) (slices_Clone__api_Part_api_Part_eq fu)

def slices_Clone__api_Entry_api_Entry (fu : Nat) (s : List ((List UInt8 × Int))) : Option (List ((List UInt8 × Int))) :=
  nilQ s.length fun isNil =>
  bif isNil then
    some []
  else
    need ((Nat.ble ((0 + s.length) * 24) room) && (Nat.ble (0 + s.length) room)) <|
    some s
def slices_Clone__api_Entry_api_Entry_fa : FnA := ⟨.two (.leaf) (.two (.two (.leaf) (.two (.leaf) (.leaf))) (.two (.reg [(0, { ids := [100] }), (2, { ids := [101] })]) (.leaf))), ⟨(.cons (.p (.sl (.pair .str (.int .i64)))) .nil), []⟩, [⟨(.cons (.slf 2 0) .nil), [(0, false, (.rows 76 (.pair .str (.int .i64))))]⟩], [86]⟩
def slices_Clone__api_Entry_api_Entry_ft (fu : Nat) : FnT := ⟨48, ⟨(.cons (.p (.sl (.pair .str (.int .i64)))) .nil), []⟩, [⟨(.cons (.slf 2 0) .nil), [(0, false, (.rows 76 (.pair .str (.int .i64))))]⟩], fun t => slices_Clone__api_Entry_api_Entry fu t⟩
theorem slices_Clone__api_Entry_api_Entry_eq (fu : Nat) : ∀ t, evF Go.Proofs.Try.prog [] fu Go.Proofs.Try.f48 slices_Clone__api_Entry_api_Entry_fa t = (slices_Clone__api_Entry_api_Entry_ft fu).spec t := fun t => by kernel_rfl
theorem slices_Clone__api_Entry_api_Entry_told (fu : Nat) : Told Go.Proofs.Try.prog (slices_Clone__api_Entry_api_Entry_ft fu) := told_of allT_nil mixed Go.Proofs.Try.func48 (by kernel_rfl) (by kernel_rfl) (slices_Clone__api_Entry_api_Entry_eq fu)

def inode_own (fu : Nat) (n : (Int × (Int × (Bool × (Bool × (Int × (List ((Int × Int)) × (Int × List ((List UInt8 × Int)))))))))) : Option ((Int × (Int × (Bool × (Bool × (Int × (Int × (List ((Int × Int)) × List ((List UInt8 × Int)))))))))) :=
  (slices_Clone__api_Part_api_Part fu n.2.2.2.2.2.1).bind fun r =>
  (slices_Clone__api_Entry_api_Entry fu n.2.2.2.2.2.2.2).bind fun r1 =>
  some (n.1, (n.2.1, (n.2.2.1, (n.2.2.2.1, (n.2.2.2.2.1, (n.2.2.2.2.2.2.1, (r, r1)))))))
def inode_own_fa : FnA := ⟨.two (.reg [(0, { ids := [100] }), (1, { ids := [101] })]) (.two (.reg [(2, { ids := [102] }), (5, { ids := [103], fn := 1 })]) (.leaf)), ⟨(.cons (.p (.pair (.int .i64) (.pair (.int .i64) (.pair .bool (.pair .bool (.pair (.int .i64) (.pair (.sl (.pair (.int .i64) (.int .i64))) (.pair (.int .i64) (.sl (.pair .str (.int .i64))))))))))) .nil), []⟩, [⟨(.cons (.agg (.cons (.p (.int .i64)) (.cons (.p (.int .i64)) (.cons (.p .bool) (.cons (.p .bool) (.cons (.p (.int .i64)) (.cons (.slf 2 0) (.cons (.p (.int .i64)) (.cons (.slf 2 1) .nil))))))))) .nil), [(0, false, (.rows 64 (.pair (.int .i64) (.int .i64)))), (1, false, (.rows 76 (.pair .str (.int .i64))))]⟩], [0]⟩
def inode_own_ft (fu : Nat) : FnT := ⟨36, ⟨(.cons (.p (.pair (.int .i64) (.pair (.int .i64) (.pair .bool (.pair .bool (.pair (.int .i64) (.pair (.sl (.pair (.int .i64) (.int .i64))) (.pair (.int .i64) (.sl (.pair .str (.int .i64))))))))))) .nil), []⟩, [⟨(.cons (.agg (.cons (.p (.int .i64)) (.cons (.p (.int .i64)) (.cons (.p .bool) (.cons (.p .bool) (.cons (.p (.int .i64)) (.cons (.slf 2 0) (.cons (.p (.int .i64)) (.cons (.slf 2 1) .nil))))))))) .nil), [(0, false, (.rows 64 (.pair (.int .i64) (.int .i64)))), (1, false, (.rows 76 (.pair .str (.int .i64))))]⟩], fun t => inode_own fu t⟩
theorem inode_own_eq (fu : Nat) : ∀ t, evF Go.Proofs.Try.prog [slices_Clone__api_Part_api_Part_ft fu, slices_Clone__api_Entry_api_Entry_ft fu] fu Go.Proofs.Try.f36 inode_own_fa t = (inode_own_ft fu).spec t := fun t => by kernel_rfl
theorem inode_own_told (fu : Nat) : Told Go.Proofs.Try.prog (inode_own_ft fu) := told_of (allT_cons (slices_Clone__api_Part_api_Part_told fu) (allT_cons (slices_Clone__api_Entry_api_Entry_told fu) allT_nil)) mixed Go.Proofs.Try.func36 (by kernel_rfl) (by kernel_rfl) (inode_own_eq fu)

def inode_copied_l0 (fu : Nat) (r : List ((Int × (Int × (Bool × (Bool × (Int × (List ((Int × Int)) × (Int × List ((List UInt8 × Int))))))))))) (x : Int) (h : Int) (h1 : List ((Int × (Int × (Bool × (Bool × (Int × (List ((Int × Int)) × (Int × List ((List UInt8 × Int))))))))))) (h2 : Int) : Option ((Int × (Int × (List ((Int × (Int × (Bool × (Bool × (Int × (List ((Int × Int)) × (Int × List ((List UInt8 × Int)))))))))) × Int))) ⊕ ((Int × (List ((Int × (Int × (Bool × (Bool × (Int × (List ((Int × Int)) × (Int × List ((List UInt8 × Int)))))))))) × Int)))) :=
  bif (decide (x < ((r.length : Nat) : Int))) then
    (idx? x h1.length).bind fun q =>
    (h1)[q]?.bind fun r1 =>
    (inode_own fu (r1.1, (r1.2.1, (r1.2.2.1, (r1.2.2.2.1, (r1.2.2.2.2.1, (r1.2.2.2.2.2.1, (r1.2.2.2.2.2.2.1, r1.2.2.2.2.2.2.2)))))))).bind fun r2 =>
    (idx? x h1.length).bind fun q1 =>
    (h1)[q1]?.bind fun r3 =>
    some (.inl ((IntKind.wrap .i64 (x + 1)), (h, ((List.set h1 q1 (r2.1, (r2.2.1, (r2.2.2.1, (r2.2.2.2.1, (r2.2.2.2.2.1, (r2.2.2.2.2.2.2.1, (r2.2.2.2.2.2.1, r2.2.2.2.2.2.2.2)))))))), h2))))
  else
    some (.inr (h, (h1, h2)))
def inode_copied_l0_it (fu : Nat) (r : List ((Int × (Int × (Bool × (Bool × (Int × (List ((Int × Int)) × (Int × List ((List UInt8 × Int))))))))))) (tt : (Int × (Int × (List ((Int × (Int × (Bool × (Bool × (Int × (List ((Int × Int)) × (Int × List ((List UInt8 × Int)))))))))) × Int)))) : Option ((Int × (List ((Int × (Int × (Bool × (Bool × (Int × (List ((Int × Int)) × (Int × List ((List UInt8 × Int)))))))))) × Int))) :=
  iter fu (fun tt => inode_copied_l0 fu r tt.1 tt.2.1 tt.2.2.1 tt.2.2.2) tt
def inode_copied (fu : Nat) (t : (List ((Int × (Int × (Bool × (Bool × (Int × (List ((Int × Int)) × (Int × List ((List UInt8 × Int)))))))))) × Int)) : Option ((Int × List ((Int × (Int × (Bool × (Bool × (Int × (List ((Int × Int)) × (Int × List ((List UInt8 × Int)))))))))))) :=
  (slices_Clone__api_Inode_api_Inode fu t.1).bind fun r =>
  (inode_copied_l0_it fu r (0, (t.2, (r, 0)))).bind fun o =>
  some (o.1, o.2.1)
def inode_copied_fa : FnA := ⟨.two (.reg [(0, { ids := [100] }), (1, { ids := [101] })]) (.two (.reg [(2, { ids := [102] })]) (.two (.two (.leaf) (.one (.loop ⟨[1, 2, 10, 12], ⟨(.cons (.own 0 100 0 0) (.cons (.own 0 101 0 0) (.cons (.slf 8 102) (.cons (.p (.int .i64)) .nil)))), [(100, false, (.vars (.cons (.slf 8 102) (.cons (.p (.int .i64)) .nil)))), (102, false, (.rows 30 (.pair (.int .i64) (.pair (.int .i64) (.pair .bool (.pair .bool (.pair (.int .i64) (.pair (.sl (.pair (.int .i64) (.int .i64))) (.pair (.int .i64) (.sl (.pair .str (.int .i64)))))))))))), (101, false, (.vars (.cons (.nilp (.slice none 0 0)) (.cons (.p (.int .i64)) .nil))))]⟩⟩ false [(0, ⟨[1, 2], ⟨(.cons (.own 0 100 0 0) (.cons (.own 0 101 0 0) .nil)), [(100, false, (.vars (.cons (.slf 8 102) (.cons (.p (.int .i64)) .nil)))), (102, false, (.rows 30 (.pair (.int .i64) (.pair (.int .i64) (.pair .bool (.pair .bool (.pair (.int .i64) (.pair (.sl (.pair (.int .i64) (.int .i64))) (.pair (.int .i64) (.sl (.pair .str (.int .i64)))))))))))), (101, false, (.vars (.cons (.nilp (.slice none 0 0)) (.cons (.p (.int .i64)) .nil))))]⟩⟩)] (.two (.leaf) (.two (.leaf) (.two (.one (.two (.reg [(3, { ids := [103] })]) (.reg [(4, { ids := [104, 105], fn := 1 })]))) (.leaf))))))) (.leaf))), ⟨(.cons (.p (.pair (.sl (.pair (.int .i64) (.pair (.int .i64) (.pair .bool (.pair .bool (.pair (.int .i64) (.pair (.sl (.pair (.int .i64) (.int .i64))) (.pair (.int .i64) (.sl (.pair .str (.int .i64))))))))))) (.int .i64))) .nil), []⟩, [⟨(.cons (.agg (.cons (.slf 8 0) (.cons (.p (.int .i64)) .nil))) .nil), [(0, false, (.rows 30 (.pair (.int .i64) (.pair (.int .i64) (.pair .bool (.pair .bool (.pair (.int .i64) (.pair (.sl (.pair (.int .i64) (.int .i64))) (.pair (.int .i64) (.sl (.pair .str (.int .i64))))))))))))]⟩], [0]⟩
def inode_copied_ft (fu : Nat) : FnT := ⟨30, ⟨(.cons (.p (.pair (.sl (.pair (.int .i64) (.pair (.int .i64) (.pair .bool (.pair .bool (.pair (.int .i64) (.pair (.sl (.pair (.int .i64) (.int .i64))) (.pair (.int .i64) (.sl (.pair .str (.int .i64))))))))))) (.int .i64))) .nil), []⟩, [⟨(.cons (.agg (.cons (.slf 8 0) (.cons (.p (.int .i64)) .nil))) .nil), [(0, false, (.rows 30 (.pair (.int .i64) (.pair (.int .i64) (.pair .bool (.pair .bool (.pair (.int .i64) (.pair (.sl (.pair (.int .i64) (.int .i64))) (.pair (.int .i64) (.sl (.pair .str (.int .i64))))))))))))]⟩], fun t => inode_copied fu t⟩
theorem inode_copied_eq (fu : Nat) : ∀ t, evF Go.Proofs.Try.prog [slices_Clone__api_Inode_api_Inode_ft fu, inode_own_ft fu] fu Go.Proofs.Try.f30 inode_copied_fa t = (inode_copied_ft fu).spec t := fun t => by kernel_rfl
theorem inode_copied_told (fu : Nat) : Told Go.Proofs.Try.prog (inode_copied_ft fu) := told_of (allT_cons (slices_Clone__api_Inode_api_Inode_told fu) (allT_cons (inode_own_told fu) allT_nil)) mixed Go.Proofs.Try.func30 (by kernel_rfl) (by kernel_rfl) (inode_copied_eq fu)

def inode_bare (fu : Nat) (n : (Int × (Int × (Bool × (Bool × (Int × (List ((Int × Int)) × (Int × List ((List UInt8 × Int)))))))))) : Option (Bool) :=
  bif (!n.2.2.1) then
    bif (!n.2.2.2.1) then
      bif (n.2.2.2.2.1 == 0) then
        bif (n.2.2.2.2.2.2.1 == 0) then
          some ((IntKind.wrap .i64 (((n.2.2.2.2.2.1.length : Nat) : Int) + ((n.2.2.2.2.2.2.2.length : Nat) : Int))) == 0)
        else
          some false
      else
        some false
    else
      some false
  else
    some false
def inode_bare_fa : FnA := ⟨.two (.reg [(0, { ids := [100] })]) (.leaf), ⟨(.cons (.p (.pair (.int .i64) (.pair (.int .i64) (.pair .bool (.pair .bool (.pair (.int .i64) (.pair (.sl (.pair (.int .i64) (.int .i64))) (.pair (.int .i64) (.sl (.pair .str (.int .i64))))))))))) .nil), []⟩, [⟨(.cons (.p .bool) .nil), []⟩], [0]⟩
def inode_bare_ft (fu : Nat) : FnT := ⟨41, ⟨(.cons (.p (.pair (.int .i64) (.pair (.int .i64) (.pair .bool (.pair .bool (.pair (.int .i64) (.pair (.sl (.pair (.int .i64) (.int .i64))) (.pair (.int .i64) (.sl (.pair .str (.int .i64))))))))))) .nil), []⟩, [⟨(.cons (.p .bool) .nil), []⟩], fun t => inode_bare fu t⟩
theorem inode_bare_eq (fu : Nat) : ∀ t, evF Go.Proofs.Try.prog [] fu Go.Proofs.Try.f41 inode_bare_fa t = (inode_bare_ft fu).spec t := fun t => by kernel_rfl
theorem inode_bare_told (fu : Nat) : Told Go.Proofs.Try.prog (inode_bare_ft fu) := told_of allT_nil mixed Go.Proofs.Try.func41 (by kernel_rfl) (by kernel_rfl) (inode_bare_eq fu)

def inode_directory_1 (fu : Nat) (e : (List UInt8 × Int)) (h : List UInt8) (h1 : Int) : Option ((Bool × (List UInt8 × Int))) :=
  bif (decide (((e.1.length : Nat) : Int) < 1)) then
    some (true, (e.1, h1))
  else
    bif (decide (((e.1.length : Nat) : Int) > 30)) then
      some (true, (e.1, h1))
    else
      bif ((Op.bytesLess e.1 h) || (e.1 == h)) then
        some (true, (e.1, h1))
      else
        bif (decide (e.2 < 1)) then
          some (true, (e.1, h1))
        else
          some ((decide (e.2 > h1)), (e.1, h1))
def inode_directory_1_fa : FnA := ⟨.two (.reg [(0, { ids := [100] })]) (.two (.leaf) (.two (.leaf) (.leaf))), ⟨(.cons (.p (.pair .str (.int .i64))) (.cons (.own 0 0 0 0) (.cons (.own 0 1 0 0) .nil))), [(0, false, (.vars (.cons (.p .str) .nil))), (1, false, (.vars (.cons (.p (.int .i64)) .nil)))]⟩, [⟨(.cons (.p .bool) .nil), [(0, false, (.vars (.cons (.p .str) .nil))), (1, false, (.vars (.cons (.p (.int .i64)) .nil)))]⟩], [0]⟩
def inode_directory_1_ft (fu : Nat) : FnT := ⟨49, ⟨(.cons (.p (.pair .str (.int .i64))) (.cons (.own 0 0 0 0) (.cons (.own 0 1 0 0) .nil))), [(0, false, (.vars (.cons (.p .str) .nil))), (1, false, (.vars (.cons (.p (.int .i64)) .nil)))]⟩, [⟨(.cons (.p .bool) .nil), [(0, false, (.vars (.cons (.p .str) .nil))), (1, false, (.vars (.cons (.p (.int .i64)) .nil)))]⟩], fun t => inode_directory_1 fu t.1 t.2.1 t.2.2⟩
theorem inode_directory_1_eq (fu : Nat) : ∀ t, evF Go.Proofs.Try.prog [] fu Go.Proofs.Try.f49 inode_directory_1_fa t = (inode_directory_1_ft fu).spec t := fun t => by kernel_rfl
theorem inode_directory_1_told (fu : Nat) : Told Go.Proofs.Try.prog (inode_directory_1_ft fu) := told_of allT_nil mixed Go.Proofs.Try.func49 (by kernel_rfl) (by kernel_rfl) (inode_directory_1_eq fu)

def slices_IndexFunc__api_Entry_api_Entry_f11_l0 (fu : Nat) (s : List ((List UInt8 × Int))) (x : Int) (h2 : List UInt8) (h3 : Int) : Option ((Int × (List UInt8 × Int)) ⊕ ((List UInt8 × Int) ⊕ (Int × (List UInt8 × Int)))) :=
  bif (decide (x < ((s.length : Nat) : Int))) then
    (idx? x s.length).bind fun q =>
    (s)[q]?.bind fun r =>
    (inode_directory_1 fu r h2 h3).bind fun r1 =>
    bif r1.1 then
      some (.inr (.inr (x, (r1.2.1, r1.2.2))))
    else
      some (.inl ((IntKind.wrap .i64 (x + 1)), (r1.2.1, r1.2.2)))
  else
    some (.inr (.inl (h2, h3)))
def slices_IndexFunc__api_Entry_api_Entry_f11_l0_it (fu : Nat) (s : List ((List UInt8 × Int))) (tt : (Int × (List UInt8 × Int))) : Option ((List UInt8 × Int) ⊕ (Int × (List UInt8 × Int))) :=
  iter fu (fun tt => slices_IndexFunc__api_Entry_api_Entry_f11_l0 fu s tt.1 tt.2.1 tt.2.2) tt
def slices_IndexFunc__api_Entry_api_Entry_f11 (fu : Nat) (s : List ((List UInt8 × Int))) (h : List UInt8) (h1 : Int) : Option ((Int × (List UInt8 × Int))) :=
  (slices_IndexFunc__api_Entry_api_Entry_f11_l0_it fu s (0, (h, h1))).bind fun o =>
  match o with
  | .inl s1 =>
    some ((-1), (s1.1, s1.2))
  | .inr o1 =>
    some o1
def slices_IndexFunc__api_Entry_api_Entry_f11_fa : FnA := ⟨.two (.leaf) (.two (.two (.leaf) (.one (.loop ⟨[1, 8], ⟨(.cons (.fn 49 .nil (.cons (.own 0 0 0 0) (.cons (.own 0 1 0 0) .nil))) (.cons (.p (.int .i64)) .nil)), [(0, false, (.vars (.cons (.p .str) .nil))), (1, false, (.vars (.cons (.p (.int .i64)) .nil)))]⟩⟩ true [(0, ⟨[1], ⟨(.cons (.fn 49 .nil (.cons (.own 0 0 0 0) (.cons (.own 0 1 0 0) .nil))) .nil), [(0, false, (.vars (.cons (.p .str) .nil))), (1, false, (.vars (.cons (.p (.int .i64)) .nil)))]⟩⟩)] (.two (.leaf) (.two (.leaf) (.two (.one (.two (.leaf) (.two (.reg [(5, { sh := [0, 1] })]) (.two (.leaf) (.leaf))))) (.leaf))))))) (.leaf)), ⟨(.cons (.p (.sl (.pair .str (.int .i64)))) (.cons (.fn 49 .nil (.cons (.own 0 0 0 0) (.cons (.own 0 1 0 0) .nil))) .nil)), [(0, false, (.vars (.cons (.p .str) .nil))), (1, false, (.vars (.cons (.p (.int .i64)) .nil)))]⟩, [⟨(.cons (.p (.int .i64)) .nil), [(0, false, (.vars (.cons (.p .str) .nil))), (1, false, (.vars (.cons (.p (.int .i64)) .nil)))]⟩], [0]⟩
def slices_IndexFunc__api_Entry_api_Entry_f11_ft (fu : Nat) : FnT := ⟨53, ⟨(.cons (.p (.sl (.pair .str (.int .i64)))) (.cons (.fn 49 .nil (.cons (.own 0 0 0 0) (.cons (.own 0 1 0 0) .nil))) .nil)), [(0, false, (.vars (.cons (.p .str) .nil))), (1, false, (.vars (.cons (.p (.int .i64)) .nil)))]⟩, [⟨(.cons (.p (.int .i64)) .nil), [(0, false, (.vars (.cons (.p .str) .nil))), (1, false, (.vars (.cons (.p (.int .i64)) .nil)))]⟩], fun t => slices_IndexFunc__api_Entry_api_Entry_f11 fu t.1 t.2.1 t.2.2⟩
theorem slices_IndexFunc__api_Entry_api_Entry_f11_eq (fu : Nat) : ∀ t, evF Go.Proofs.Try.prog [inode_directory_1_ft fu] fu Go.Proofs.Try.f53 slices_IndexFunc__api_Entry_api_Entry_f11_fa t = (slices_IndexFunc__api_Entry_api_Entry_f11_ft fu).spec t := fun t => by kernel_rfl
theorem slices_IndexFunc__api_Entry_api_Entry_f11_told (fu : Nat) : Told Go.Proofs.Try.prog (slices_IndexFunc__api_Entry_api_Entry_f11_ft fu) := told_of (allT_cons (inode_directory_1_told fu) allT_nil) mixed Go.Proofs.Try.func53 (by kernel_rfl) (by kernel_rfl) (slices_IndexFunc__api_Entry_api_Entry_f11_eq fu)

def slices_ContainsFunc__api_Entry_api_Entry_f11 (fu : Nat) (s : List ((List UInt8 × Int))) (h : List UInt8) (h1 : Int) : Option ((Bool × (List UInt8 × Int))) :=
  (slices_IndexFunc__api_Entry_api_Entry_f11 fu s h h1).bind fun r =>
  some ((decide (r.1 ≥ 0)), (r.2.1, r.2.2))
def slices_ContainsFunc__api_Entry_api_Entry_f11_fa : FnA := ⟨.two (.leaf) (.two (.reg [(2, { sh := [0, 1] })]) (.leaf)), ⟨(.cons (.p (.sl (.pair .str (.int .i64)))) (.cons (.fn 49 .nil (.cons (.own 0 0 0 0) (.cons (.own 0 1 0 0) .nil))) .nil)), [(0, false, (.vars (.cons (.p .str) .nil))), (1, false, (.vars (.cons (.p (.int .i64)) .nil)))]⟩, [⟨(.cons (.p .bool) .nil), [(0, false, (.vars (.cons (.p .str) .nil))), (1, false, (.vars (.cons (.p (.int .i64)) .nil)))]⟩], [0]⟩
def slices_ContainsFunc__api_Entry_api_Entry_f11_ft (fu : Nat) : FnT := ⟨50, ⟨(.cons (.p (.sl (.pair .str (.int .i64)))) (.cons (.fn 49 .nil (.cons (.own 0 0 0 0) (.cons (.own 0 1 0 0) .nil))) .nil)), [(0, false, (.vars (.cons (.p .str) .nil))), (1, false, (.vars (.cons (.p (.int .i64)) .nil)))]⟩, [⟨(.cons (.p .bool) .nil), [(0, false, (.vars (.cons (.p .str) .nil))), (1, false, (.vars (.cons (.p (.int .i64)) .nil)))]⟩], fun t => slices_ContainsFunc__api_Entry_api_Entry_f11 fu t.1 t.2.1 t.2.2⟩
theorem slices_ContainsFunc__api_Entry_api_Entry_f11_eq (fu : Nat) : ∀ t, evF Go.Proofs.Try.prog [slices_IndexFunc__api_Entry_api_Entry_f11_ft fu] fu Go.Proofs.Try.f50 slices_ContainsFunc__api_Entry_api_Entry_f11_fa t = (slices_ContainsFunc__api_Entry_api_Entry_f11_ft fu).spec t := fun t => by kernel_rfl
theorem slices_ContainsFunc__api_Entry_api_Entry_f11_told (fu : Nat) : Told Go.Proofs.Try.prog (slices_ContainsFunc__api_Entry_api_Entry_f11_ft fu) := told_of (allT_cons (slices_IndexFunc__api_Entry_api_Entry_f11_told fu) allT_nil) mixed Go.Proofs.Try.func50 (by kernel_rfl) (by kernel_rfl) (slices_ContainsFunc__api_Entry_api_Entry_f11_eq fu)

def inode_directory (fu : Nat) (n : (Int × (Int × (Bool × (Bool × (Int × (List ((Int × Int)) × (Int × List ((List UInt8 × Int)))))))))) (many : Int) : Option (Bool) :=
  bif (n.2.2.2.2.1 == 0) then
    bif (((n.2.2.2.2.2.1.length : Nat) : Int) == 0) then
      bif (decide (((n.2.2.2.2.2.2.2.length : Nat) : Int) ≤ 100)) then
        (slices_ContainsFunc__api_Entry_api_Entry_f11 fu n.2.2.2.2.2.2.2 [] many).bind fun r =>
        some (!r.1)
      else
        some false
    else
      some false
  else
    some false
def inode_directory_fa : FnA := ⟨.two (.reg [(0, { ids := [100] }), (1, { ids := [101] })]) (.two (.reg [(0, { ids := [102] })]) (.two (.leaf) (.two (.reg [(19, { sh := [102, 101] })]) (.leaf)))), ⟨(.cons (.p (.pair (.int .i64) (.pair (.int .i64) (.pair .bool (.pair .bool (.pair (.int .i64) (.pair (.sl (.pair (.int .i64) (.int .i64))) (.pair (.int .i64) (.sl (.pair .str (.int .i64))))))))))) (.cons (.p (.int .i64)) .nil)), []⟩, [⟨(.cons (.p .bool) .nil), []⟩], [0]⟩
def inode_directory_ft (fu : Nat) : FnT := ⟨42, ⟨(.cons (.p (.pair (.int .i64) (.pair (.int .i64) (.pair .bool (.pair .bool (.pair (.int .i64) (.pair (.sl (.pair (.int .i64) (.int .i64))) (.pair (.int .i64) (.sl (.pair .str (.int .i64))))))))))) (.cons (.p (.int .i64)) .nil)), []⟩, [⟨(.cons (.p .bool) .nil), []⟩], fun t => inode_directory fu t.1 t.2⟩
theorem inode_directory_eq (fu : Nat) : ∀ t, evF Go.Proofs.Try.prog [slices_ContainsFunc__api_Entry_api_Entry_f11_ft fu] fu Go.Proofs.Try.f42 inode_directory_fa t = (inode_directory_ft fu).spec t := fun t => by kernel_rfl
theorem inode_directory_told (fu : Nat) : Told Go.Proofs.Try.prog (inode_directory_ft fu) := told_of (allT_cons (slices_ContainsFunc__api_Entry_api_Entry_f11_told fu) allT_nil) mixed Go.Proofs.Try.func42 (by kernel_rfl) (by kernel_rfl) (inode_directory_eq fu)

def inode_file_1__cm (fu : Nat) (p : (Int × Int)) (h : (List (((Int × Int) × Nat)) × Nat)) (h1 : Int) : Option ((Bool × ((List (((Int × Int) × Nat)) × Nat) × Int))) :=
  bif ((p.1 == 0) && (p.2 == 0)) then
    some (false, (h, h1))
  else
    bif ((Option.getD (mget (k := (.int .i64)) (v := (.int .i64)) h p.1) 0) == 1) then
      some (true, ((mput (k := (.int .i64)) (v := (.int .i64)) h p.1 1), h1))
    else
      bif (decide (p.1 < 1)) then
        some (true, ((mput (k := (.int .i64)) (v := (.int .i64)) h p.1 1), h1))
      else
        bif (decide (p.1 > h1)) then
          some (true, ((mput (k := (.int .i64)) (v := (.int .i64)) h p.1 1), h1))
        else
          bif (decide (p.2 < 1)) then
            some (true, ((mput (k := (.int .i64)) (v := (.int .i64)) h p.1 1), h1))
          else
            some ((decide (p.2 > 1099511627776)), ((mput (k := (.int .i64)) (v := (.int .i64)) h p.1 1), h1))
def inode_file_1__cm_fa : FnA := ⟨.two (.reg [(0, { ids := [100] })]) (.two (.two (.leaf) (.two (.leaf) (.leaf))) (.two (.leaf) (.two (.leaf) (.leaf)))), ⟨(.cons (.p (.pair (.int .i64) (.int .i64))) (.cons (.own 0 0 0 0) (.cons (.own 0 2 0 0) .nil))), [(0, false, (.vars (.cons (.mp 1) .nil))), (1, false, (.map (.int .i64) (.int .i64))), (2, false, (.vars (.cons (.p (.int .i64)) .nil)))]⟩, [⟨(.cons (.p .bool) .nil), [(0, false, (.vars (.cons (.mp 1) .nil))), (1, false, (.map (.int .i64) (.int .i64))), (2, false, (.vars (.cons (.p (.int .i64)) .nil)))]⟩], [0]⟩
def inode_file_1__cm_ft (fu : Nat) : FnT := ⟨51, ⟨(.cons (.p (.pair (.int .i64) (.int .i64))) (.cons (.own 0 0 0 0) (.cons (.own 0 2 0 0) .nil))), [(0, false, (.vars (.cons (.mp 1) .nil))), (1, false, (.map (.int .i64) (.int .i64))), (2, false, (.vars (.cons (.p (.int .i64)) .nil)))]⟩, [⟨(.cons (.p .bool) .nil), [(0, false, (.vars (.cons (.mp 1) .nil))), (1, false, (.map (.int .i64) (.int .i64))), (2, false, (.vars (.cons (.p (.int .i64)) .nil)))]⟩], fun t => inode_file_1__cm fu t.1 t.2.1 t.2.2⟩
theorem inode_file_1__cm_eq (fu : Nat) : ∀ t, evF Go.Proofs.Try.prog [] fu Go.Proofs.Try.f51 inode_file_1__cm_fa t = (inode_file_1__cm_ft fu).spec t := fun t => by kernel_rfl
theorem inode_file_1__cm_told (fu : Nat) : Told Go.Proofs.Try.prog (inode_file_1__cm_ft fu) := told_of allT_nil mixed Go.Proofs.Try.func51 (by kernel_rfl) (by kernel_rfl) (inode_file_1__cm_eq fu)

def slices_IndexFunc__api_Part_api_Part_f11_cm_l0 (fu : Nat) (s : List ((Int × Int))) (x : Int) (h2 : (List (((Int × Int) × Nat)) × Nat)) (h3 : Int) : Option ((Int × ((List (((Int × Int) × Nat)) × Nat) × Int)) ⊕ (((List (((Int × Int) × Nat)) × Nat) × Int) ⊕ (Int × ((List (((Int × Int) × Nat)) × Nat) × Int)))) :=
  bif (decide (x < ((s.length : Nat) : Int))) then
    (idx? x s.length).bind fun q =>
    (s)[q]?.bind fun r =>
    (inode_file_1__cm fu r h2 h3).bind fun r1 =>
    bif r1.1 then
      some (.inr (.inr (x, (r1.2.1, r1.2.2))))
    else
      some (.inl ((IntKind.wrap .i64 (x + 1)), (r1.2.1, r1.2.2)))
  else
    some (.inr (.inl (h2, h3)))
def slices_IndexFunc__api_Part_api_Part_f11_cm_l0_it (fu : Nat) (s : List ((Int × Int))) (tt : (Int × ((List (((Int × Int) × Nat)) × Nat) × Int))) : Option (((List (((Int × Int) × Nat)) × Nat) × Int) ⊕ (Int × ((List (((Int × Int) × Nat)) × Nat) × Int))) :=
  iter fu (fun tt => slices_IndexFunc__api_Part_api_Part_f11_cm_l0 fu s tt.1 tt.2.1 tt.2.2) tt
def slices_IndexFunc__api_Part_api_Part_f11_cm (fu : Nat) (s : List ((Int × Int))) (h : (List (((Int × Int) × Nat)) × Nat)) (h1 : Int) : Option ((Int × ((List (((Int × Int) × Nat)) × Nat) × Int))) :=
  (slices_IndexFunc__api_Part_api_Part_f11_cm_l0_it fu s (0, (h, h1))).bind fun o =>
  match o with
  | .inl s1 =>
    some ((-1), (s1.1, s1.2))
  | .inr o1 =>
    some o1
def slices_IndexFunc__api_Part_api_Part_f11_cm_fa : FnA := ⟨.two (.leaf) (.two (.two (.leaf) (.one (.loop ⟨[1, 8], ⟨(.cons (.fn 51 .nil (.cons (.own 0 0 0 0) (.cons (.own 0 2 0 0) .nil))) (.cons (.p (.int .i64)) .nil)), [(0, false, (.vars (.cons (.mp 1) .nil))), (1, false, (.map (.int .i64) (.int .i64))), (2, false, (.vars (.cons (.p (.int .i64)) .nil)))]⟩⟩ true [(0, ⟨[1], ⟨(.cons (.fn 51 .nil (.cons (.own 0 0 0 0) (.cons (.own 0 2 0 0) .nil))) .nil), [(0, false, (.vars (.cons (.mp 1) .nil))), (1, false, (.map (.int .i64) (.int .i64))), (2, false, (.vars (.cons (.p (.int .i64)) .nil)))]⟩⟩)] (.two (.leaf) (.two (.leaf) (.two (.one (.two (.leaf) (.two (.reg [(5, { sh := [0, 1, 2] })]) (.two (.leaf) (.leaf))))) (.leaf))))))) (.leaf)), ⟨(.cons (.p (.sl (.pair (.int .i64) (.int .i64)))) (.cons (.fn 51 .nil (.cons (.own 0 0 0 0) (.cons (.own 0 2 0 0) .nil))) .nil)), [(0, false, (.vars (.cons (.mp 1) .nil))), (1, false, (.map (.int .i64) (.int .i64))), (2, false, (.vars (.cons (.p (.int .i64)) .nil)))]⟩, [⟨(.cons (.p (.int .i64)) .nil), [(0, false, (.vars (.cons (.mp 1) .nil))), (1, false, (.map (.int .i64) (.int .i64))), (2, false, (.vars (.cons (.p (.int .i64)) .nil)))]⟩], [0]⟩
def slices_IndexFunc__api_Part_api_Part_f11_cm_ft (fu : Nat) : FnT := ⟨47, ⟨(.cons (.p (.sl (.pair (.int .i64) (.int .i64)))) (.cons (.fn 51 .nil (.cons (.own 0 0 0 0) (.cons (.own 0 2 0 0) .nil))) .nil)), [(0, false, (.vars (.cons (.mp 1) .nil))), (1, false, (.map (.int .i64) (.int .i64))), (2, false, (.vars (.cons (.p (.int .i64)) .nil)))]⟩, [⟨(.cons (.p (.int .i64)) .nil), [(0, false, (.vars (.cons (.mp 1) .nil))), (1, false, (.map (.int .i64) (.int .i64))), (2, false, (.vars (.cons (.p (.int .i64)) .nil)))]⟩], fun t => slices_IndexFunc__api_Part_api_Part_f11_cm fu t.1 t.2.1 t.2.2⟩
theorem slices_IndexFunc__api_Part_api_Part_f11_cm_eq (fu : Nat) : ∀ t, evF Go.Proofs.Try.prog [inode_file_1__cm_ft fu] fu Go.Proofs.Try.f47 slices_IndexFunc__api_Part_api_Part_f11_cm_fa t = (slices_IndexFunc__api_Part_api_Part_f11_cm_ft fu).spec t := fun t => by kernel_rfl
theorem slices_IndexFunc__api_Part_api_Part_f11_cm_told (fu : Nat) : Told Go.Proofs.Try.prog (slices_IndexFunc__api_Part_api_Part_f11_cm_ft fu) := told_of (allT_cons (inode_file_1__cm_told fu) allT_nil) mixed Go.Proofs.Try.func47 (by kernel_rfl) (by kernel_rfl) (slices_IndexFunc__api_Part_api_Part_f11_cm_eq fu)

def slices_ContainsFunc__api_Part_api_Part_f11_cm (fu : Nat) (s : List ((Int × Int))) (h : (List (((Int × Int) × Nat)) × Nat)) (h1 : Int) : Option ((Bool × ((List (((Int × Int) × Nat)) × Nat) × Int))) :=
  (slices_IndexFunc__api_Part_api_Part_f11_cm fu s h h1).bind fun r =>
  some ((decide (r.1 ≥ 0)), (r.2.1, r.2.2))
def slices_ContainsFunc__api_Part_api_Part_f11_cm_fa : FnA := ⟨.two (.leaf) (.two (.reg [(2, { sh := [0, 1, 2] })]) (.leaf)), ⟨(.cons (.p (.sl (.pair (.int .i64) (.int .i64)))) (.cons (.fn 51 .nil (.cons (.own 0 0 0 0) (.cons (.own 0 2 0 0) .nil))) .nil)), [(0, false, (.vars (.cons (.mp 1) .nil))), (1, false, (.map (.int .i64) (.int .i64))), (2, false, (.vars (.cons (.p (.int .i64)) .nil)))]⟩, [⟨(.cons (.p .bool) .nil), [(0, false, (.vars (.cons (.mp 1) .nil))), (1, false, (.map (.int .i64) (.int .i64))), (2, false, (.vars (.cons (.p (.int .i64)) .nil)))]⟩], [0]⟩
def slices_ContainsFunc__api_Part_api_Part_f11_cm_ft (fu : Nat) : FnT := ⟨52, ⟨(.cons (.p (.sl (.pair (.int .i64) (.int .i64)))) (.cons (.fn 51 .nil (.cons (.own 0 0 0 0) (.cons (.own 0 2 0 0) .nil))) .nil)), [(0, false, (.vars (.cons (.mp 1) .nil))), (1, false, (.map (.int .i64) (.int .i64))), (2, false, (.vars (.cons (.p (.int .i64)) .nil)))]⟩, [⟨(.cons (.p .bool) .nil), [(0, false, (.vars (.cons (.mp 1) .nil))), (1, false, (.map (.int .i64) (.int .i64))), (2, false, (.vars (.cons (.p (.int .i64)) .nil)))]⟩], fun t => slices_ContainsFunc__api_Part_api_Part_f11_cm fu t.1 t.2.1 t.2.2⟩
theorem slices_ContainsFunc__api_Part_api_Part_f11_cm_eq (fu : Nat) : ∀ t, evF Go.Proofs.Try.prog [slices_IndexFunc__api_Part_api_Part_f11_cm_ft fu] fu Go.Proofs.Try.f52 slices_ContainsFunc__api_Part_api_Part_f11_cm_fa t = (slices_ContainsFunc__api_Part_api_Part_f11_cm_ft fu).spec t := fun t => by kernel_rfl
theorem slices_ContainsFunc__api_Part_api_Part_f11_cm_told (fu : Nat) : Told Go.Proofs.Try.prog (slices_ContainsFunc__api_Part_api_Part_f11_cm_ft fu) := told_of (allT_cons (slices_IndexFunc__api_Part_api_Part_f11_cm_told fu) allT_nil) mixed Go.Proofs.Try.func52 (by kernel_rfl) (by kernel_rfl) (slices_ContainsFunc__api_Part_api_Part_f11_cm_eq fu)

def inode_file_m2 (fu : Nat) (n : (Int × (Int × (Bool × (Bool × (Int × (List ((Int × Int)) × (Int × List ((List UInt8 × Int)))))))))) (stripe : Int) (h : (List (((Int × Int) × Nat)) × Nat)) : Option ((Bool × (List (((Int × Int) × Nat)) × Nat))) :=
  bif (decide (n.2.2.2.2.1 ≥ 0)) then
    bif (decide (n.2.2.2.2.1 ≤ 65536)) then
      bif (((n.2.2.2.2.2.2.2.length : Nat) : Int) == 0) then
        bif (decide (((n.2.2.2.2.2.1.length : Nat) : Int) ≤ 4096)) then
          (slices_ContainsFunc__api_Part_api_Part_f11_cm fu n.2.2.2.2.2.1 h stripe).bind fun r =>
          some ((!r.1), r.2.1)
        else
          some (false, h)
      else
        some (false, h)
    else
      some (false, h)
  else
    some (false, h)
def inode_file_m2_fa : FnA := ⟨.two (.reg [(0, { ids := [100] }), (1, { ids := [101] }), (2, { ids := [102] })]) (.two (.leaf) (.two (.reg [(24, { sh := [102, 0, 101] })]) (.leaf))), ⟨(.cons (.p (.pair (.int .i64) (.pair (.int .i64) (.pair .bool (.pair .bool (.pair (.int .i64) (.pair (.sl (.pair (.int .i64) (.int .i64))) (.pair (.int .i64) (.sl (.pair .str (.int .i64))))))))))) (.cons (.p (.int .i64)) (.cons (.mp 0) .nil))), [(0, false, (.map (.int .i64) (.int .i64)))]⟩, [⟨(.cons (.p .bool) .nil), [(0, false, (.map (.int .i64) (.int .i64)))]⟩], [0]⟩
def inode_file_m2_ft (fu : Nat) : FnT := ⟨43, ⟨(.cons (.p (.pair (.int .i64) (.pair (.int .i64) (.pair .bool (.pair .bool (.pair (.int .i64) (.pair (.sl (.pair (.int .i64) (.int .i64))) (.pair (.int .i64) (.sl (.pair .str (.int .i64))))))))))) (.cons (.p (.int .i64)) (.cons (.mp 0) .nil))), [(0, false, (.map (.int .i64) (.int .i64)))]⟩, [⟨(.cons (.p .bool) .nil), [(0, false, (.map (.int .i64) (.int .i64)))]⟩], fun t => inode_file_m2 fu t.1 t.2.1 t.2.2⟩
theorem inode_file_m2_eq (fu : Nat) : ∀ t, evF Go.Proofs.Try.prog [slices_ContainsFunc__api_Part_api_Part_f11_cm_ft fu] fu Go.Proofs.Try.f43 inode_file_m2_fa t = (inode_file_m2_ft fu).spec t := fun t => by kernel_rfl
theorem inode_file_m2_told (fu : Nat) : Told Go.Proofs.Try.prog (inode_file_m2_ft fu) := told_of (allT_cons (slices_ContainsFunc__api_Part_api_Part_f11_cm_told fu) allT_nil) mixed Go.Proofs.Try.func43 (by kernel_rfl) (by kernel_rfl) (inode_file_m2_eq fu)

def inode_Right_l0 (fu : Nat) (o : (Bool × (List ((Int × (Int × (Bool × (Bool × (Int × (List ((Int × Int)) × (Int × List ((List UInt8 × Int)))))))))) × Int))) (t : (List ((Int × (Int × (Bool × (Bool × (Int × (List ((Int × Int)) × (Int × List ((List UInt8 × Int)))))))))) × Int)) (x : Int) (h : List ((Int × (Int × (Bool × (Bool × (Int × (List ((Int × Int)) × (Int × List ((List UInt8 × Int))))))))))) (h1 : Int) (h2 : (List (((Int × Int) × Nat)) × Nat)) : Option ((Int × (List ((Int × (Int × (Bool × (Bool × (Int × (List ((Int × Int)) × (Int × List ((List UInt8 × Int)))))))))) × (Int × (List (((Int × Int) × Nat)) × Nat)))) ⊕ ((List ((Int × (Int × (Bool × (Bool × (Int × (List ((Int × Int)) × (Int × List ((List UInt8 × Int)))))))))) × Int) ⊕ Bool)) :=
  bif (decide (x < ((o.2.1.length : Nat) : Int))) then
    (idx? x o.2.1.length).bind fun q =>
    (o.2.1)[q]?.bind fun r =>
    (inode_bare fu (r.1, (r.2.1, (r.2.2.1, (r.2.2.2.1, (r.2.2.2.2.1, (r.2.2.2.2.2.1, (r.2.2.2.2.2.2.1, r.2.2.2.2.2.2.2)))))))).bind fun r1 =>
    Option.bind (α := ((Bool × (List ((Int × (Int × (Bool × (Bool × (Int × (List ((Int × Int)) × (Int × List ((List UInt8 × Int)))))))))) × (Int × ((List (((Int × Int) × Nat)) × Nat) × (Int × (Int × (Bool × (Bool × (Int × (List ((Int × Int)) × (Int × List ((List UInt8 × Int))))))))))))))) (
      bif r.2.2.1 then
        some (r.2.2.2.1, (h, (h1, (h2, (r.1, (r.2.1, (r.2.2.1, (r.2.2.2.1, (r.2.2.2.2.1, (r.2.2.2.2.2.1, (r.2.2.2.2.2.2.1, r.2.2.2.2.2.2.2)))))))))))
      else
        some (false, (h, (h1, (h2, (r.1, (r.2.1, (r.2.2.1, (r.2.2.2.1, (r.2.2.2.2.1, (r.2.2.2.2.2.1, (r.2.2.2.2.2.2.1, r.2.2.2.2.2.2.2)))))))))))) fun o1 =>
    Option.bind (α := ((Bool × (List ((Int × (Int × (Bool × (Bool × (Int × (List ((Int × Int)) × (Int × List ((List UInt8 × Int)))))))))) × (Int × ((List (((Int × Int) × Nat)) × Nat) × (Int × (Int × (Bool × (Bool × (Int × (List ((Int × Int)) × (Int × List ((List UInt8 × Int))))))))))))))) (
      bif o1.1 then
        (inode_directory fu (o1.2.2.2.2.1, (o1.2.2.2.2.2.1, (o1.2.2.2.2.2.2.1, (o1.2.2.2.2.2.2.2.1, (o1.2.2.2.2.2.2.2.2.1, (o1.2.2.2.2.2.2.2.2.2.1, (o1.2.2.2.2.2.2.2.2.2.2.1, o1.2.2.2.2.2.2.2.2.2.2.2))))))) ((t.1.length : Nat) : Int)).bind fun r2 =>
        some (r2, (o1.2.1, (o1.2.2.1, (o1.2.2.2.1, (o1.2.2.2.2.1, (o1.2.2.2.2.2.1, (o1.2.2.2.2.2.2.1, (o1.2.2.2.2.2.2.2.1, (o1.2.2.2.2.2.2.2.2.1, (o1.2.2.2.2.2.2.2.2.2.1, (o1.2.2.2.2.2.2.2.2.2.2.1, o1.2.2.2.2.2.2.2.2.2.2.2)))))))))))
      else
        Option.bind (α := ((Bool × (List ((Int × (Int × (Bool × (Bool × (Int × (List ((Int × Int)) × (Int × List ((List UInt8 × Int)))))))))) × (Int × ((List (((Int × Int) × Nat)) × Nat) × (Int × (Int × (Bool × (Bool × (Int × (List ((Int × Int)) × (Int × List ((List UInt8 × Int))))))))))))))) (
          bif o1.2.2.2.2.2.2.1 then
            (inode_file_m2 fu (o1.2.2.2.2.1, (o1.2.2.2.2.2.1, (o1.2.2.2.2.2.2.1, (o1.2.2.2.2.2.2.2.1, (o1.2.2.2.2.2.2.2.2.1, (o1.2.2.2.2.2.2.2.2.2.1, (o1.2.2.2.2.2.2.2.2.2.2.1, o1.2.2.2.2.2.2.2.2.2.2.2))))))) o1.2.2.1 o1.2.2.2.1).bind fun r3 =>
            some (r3.1, (o1.2.1, (o1.2.2.1, (r3.2, (o1.2.2.2.2.1, (o1.2.2.2.2.2.1, (o1.2.2.2.2.2.2.1, (o1.2.2.2.2.2.2.2.1, (o1.2.2.2.2.2.2.2.2.1, (o1.2.2.2.2.2.2.2.2.2.1, (o1.2.2.2.2.2.2.2.2.2.2.1, o1.2.2.2.2.2.2.2.2.2.2.2)))))))))))
          else
            some (r1, (o1.2.1, (o1.2.2.1, (o1.2.2.2.1, (o1.2.2.2.2.1, (o1.2.2.2.2.2.1, (o1.2.2.2.2.2.2.1, (o1.2.2.2.2.2.2.2.1, (o1.2.2.2.2.2.2.2.2.1, (o1.2.2.2.2.2.2.2.2.2.1, (o1.2.2.2.2.2.2.2.2.2.2.1, o1.2.2.2.2.2.2.2.2.2.2.2)))))))))))) fun o2 =>
        some (o2.1, (o2.2.1, (o2.2.2.1, (o2.2.2.2.1, (o2.2.2.2.2.1, (o2.2.2.2.2.2.1, (o2.2.2.2.2.2.2.1, (o2.2.2.2.2.2.2.2.1, (o2.2.2.2.2.2.2.2.2.1, (o2.2.2.2.2.2.2.2.2.2.1, (o2.2.2.2.2.2.2.2.2.2.2.1, o2.2.2.2.2.2.2.2.2.2.2.2)))))))))))) fun o3 =>
    Option.bind (α := ((Bool × (List ((Int × (Int × (Bool × (Bool × (Int × (List ((Int × Int)) × (Int × List ((List UInt8 × Int)))))))))) × (Int × (List (((Int × Int) × Nat)) × Nat)))))) (
      bif (!o3.1) then
        some (true, (o3.2.1, (o3.2.2.1, o3.2.2.2.1)))
      else
        bif (!(o3.2.2.2.2.1 == (IntKind.wrap .i64 (x + 1)))) then
          some (true, (o3.2.1, (o3.2.2.1, o3.2.2.2.1)))
        else
          bif (decide (o3.2.2.2.2.2.1 < 1)) then
            some (true, (o3.2.1, (o3.2.2.1, o3.2.2.2.1)))
          else
            bif (decide (o3.2.2.2.2.2.1 > 1099511627776)) then
              some (true, (o3.2.1, (o3.2.2.1, o3.2.2.2.1)))
            else
              bif o3.2.2.2.2.2.2.1 then
                bif (decide (o3.2.2.2.2.2.2.2.2.2.2.1 < 1)) then
                  some (true, (o3.2.1, (o3.2.2.1, o3.2.2.2.1)))
                else
                  some ((decide (o3.2.2.2.2.2.2.2.2.2.2.1 > ((t.1.length : Nat) : Int))), (o3.2.1, (o3.2.2.1, o3.2.2.2.1)))
              else
                some (false, (o3.2.1, (o3.2.2.1, o3.2.2.2.1)))) fun o4 =>
    bif o4.1 then
      some (.inr (.inr false))
    else
      some (.inl ((IntKind.wrap .i64 (x + 1)), (o4.2.1, (o4.2.2.1, o4.2.2.2))))
  else
    some (.inr (.inl (h, h1)))
def inode_Right_l0_it (fu : Nat) (o : (Bool × (List ((Int × (Int × (Bool × (Bool × (Int × (List ((Int × Int)) × (Int × List ((List UInt8 × Int)))))))))) × Int))) (t : (List ((Int × (Int × (Bool × (Bool × (Int × (List ((Int × Int)) × (Int × List ((List UInt8 × Int)))))))))) × Int)) (tt : (Int × (List ((Int × (Int × (Bool × (Bool × (Int × (List ((Int × Int)) × (Int × List ((List UInt8 × Int)))))))))) × (Int × (List (((Int × Int) × Nat)) × Nat))))) : Option ((List ((Int × (Int × (Bool × (Bool × (Int × (List ((Int × Int)) × (Int × List ((List UInt8 × Int)))))))))) × Int) ⊕ Bool) :=
  iter fu (fun tt => inode_Right_l0 fu o t tt.1 tt.2.1 tt.2.2.1 tt.2.2.2) tt
def inode_Right (fu : Nat) (t : (List ((Int × (Int × (Bool × (Bool × (Int × (List ((Int × Int)) × (Int × List ((List UInt8 × Int)))))))))) × Int)) : Option (Bool) :=
  Option.bind (α := ((Bool × (List ((Int × (Int × (Bool × (Bool × (Int × (List ((Int × Int)) × (Int × List ((List UInt8 × Int)))))))))) × Int)))) (
    bif (decide (((t.1.length : Nat) : Int) < 1)) then
      some (true, (t.1, t.2))
    else
      bif (decide (((t.1.length : Nat) : Int) > 500)) then
        some (true, (t.1, t.2))
      else
        bif (decide (t.2 < 0)) then
          some (true, (t.1, t.2))
        else
          some ((decide (t.2 > 1099511627776)), (t.1, t.2))) fun o =>
  bif o.1 then
    some false
  else
    (inode_Right_l0_it fu o t (0, (o.2.1, (o.2.2, ([], 0))))).bind fun o5 =>
    match o5 with
    | .inl s =>
      (idx? 0 s.1.length).bind fun q1 =>
      (s.1)[q1]?.bind fun r4 =>
      bif r4.2.2.1 then
        bif r4.2.2.2.1 then
          some (r4.2.2.2.2.2.2.1 == 1)
        else
          some false
      else
        some false
    | .inr o6 =>
      some o6
def inode_Right_fa : FnA := ⟨.two (.reg [(0, { ids := [100] })]) (.two (.leaf) (.two (.two (.join ⟨[1, 27], ⟨(.cons (.own 0 100 0 0) (.cons (.p .bool) .nil)), [(100, false, (.vars (.cons (.p (.sl (.pair (.int .i64) (.pair (.int .i64) (.pair .bool (.pair .bool (.pair (.int .i64) (.pair (.sl (.pair (.int .i64) (.int .i64))) (.pair (.int .i64) (.sl (.pair .str (.int .i64)))))))))))) (.cons (.p (.int .i64)) .nil))))]⟩⟩ false [] (.leaf)) (.two (.leaf) (.leaf))) (.two (.reg [(0, { ids := [101] })]) (.two (.two (.leaf) (.one (.loop ⟨[1, 4, 32], ⟨(.cons (.own 0 100 0 0) (.cons (.mp 101) (.cons (.p (.int .i64)) .nil))), [(100, false, (.vars (.cons (.p (.sl (.pair (.int .i64) (.pair (.int .i64) (.pair .bool (.pair .bool (.pair (.int .i64) (.pair (.sl (.pair (.int .i64) (.int .i64))) (.pair (.int .i64) (.sl (.pair .str (.int .i64)))))))))))) (.cons (.p (.int .i64)) .nil)))), (101, false, (.map (.int .i64) (.int .i64)))]⟩⟩ true [(0, ⟨[1], ⟨(.cons (.own 0 100 0 0) .nil), [(100, false, (.vars (.cons (.p (.sl (.pair (.int .i64) (.pair (.int .i64) (.pair .bool (.pair .bool (.pair (.int .i64) (.pair (.sl (.pair (.int .i64) (.int .i64))) (.pair (.int .i64) (.sl (.pair .str (.int .i64)))))))))))) (.cons (.p (.int .i64)) .nil))))]⟩⟩)] (.two (.leaf) (.two (.leaf) (.two (.one (.two (.reg [(3, { ids := [102] })]) (.two (.reg [(1, {  })]) (.two (.one (.two (.join ⟨[1, 4, 6, 39], ⟨(.cons (.own 0 100 0 0) (.cons (.mp 101) (.cons (.own 0 102 0 0) (.cons (.p .bool) .nil)))), [(100, false, (.vars (.cons (.p (.sl (.pair (.int .i64) (.pair (.int .i64) (.pair .bool (.pair .bool (.pair (.int .i64) (.pair (.sl (.pair (.int .i64) (.int .i64))) (.pair (.int .i64) (.sl (.pair .str (.int .i64)))))))))))) (.cons (.p (.int .i64)) .nil)))), (101, false, (.map (.int .i64) (.int .i64))), (102, false, (.vars (.cons (.p (.int .i64)) (.cons (.p (.int .i64)) (.cons (.p .bool) (.cons (.p .bool) (.cons (.p (.int .i64)) (.cons (.p (.sl (.pair (.int .i64) (.int .i64)))) (.cons (.p (.int .i64)) (.cons (.p (.sl (.pair .str (.int .i64)))) .nil))))))))))]⟩⟩ false [] (.leaf)) (.join ⟨[1, 4, 6, 7], ⟨(.cons (.own 0 100 0 0) (.cons (.mp 101) (.cons (.own 0 102 0 0) (.cons (.p .bool) .nil)))), [(100, false, (.vars (.cons (.p (.sl (.pair (.int .i64) (.pair (.int .i64) (.pair .bool (.pair .bool (.pair (.int .i64) (.pair (.sl (.pair (.int .i64) (.int .i64))) (.pair (.int .i64) (.sl (.pair .str (.int .i64)))))))))))) (.cons (.p (.int .i64)) .nil)))), (101, false, (.map (.int .i64) (.int .i64))), (102, false, (.vars (.cons (.p (.int .i64)) (.cons (.p (.int .i64)) (.cons (.p .bool) (.cons (.p .bool) (.cons (.p (.int .i64)) (.cons (.p (.sl (.pair (.int .i64) (.int .i64)))) (.cons (.p (.int .i64)) (.cons (.p (.sl (.pair .str (.int .i64)))) .nil))))))))))]⟩⟩ false [] (.two (.reg [(2, { fn := 1 })]) (.two (.leaf) (.join ⟨[1, 4, 6, 7], ⟨(.cons (.own 0 100 0 0) (.cons (.mp 101) (.cons (.own 0 102 0 0) (.cons (.p .bool) .nil)))), [(100, false, (.vars (.cons (.p (.sl (.pair (.int .i64) (.pair (.int .i64) (.pair .bool (.pair .bool (.pair (.int .i64) (.pair (.sl (.pair (.int .i64) (.int .i64))) (.pair (.int .i64) (.sl (.pair .str (.int .i64)))))))))))) (.cons (.p (.int .i64)) .nil)))), (101, false, (.map (.int .i64) (.int .i64))), (102, false, (.vars (.cons (.p (.int .i64)) (.cons (.p (.int .i64)) (.cons (.p .bool) (.cons (.p .bool) (.cons (.p (.int .i64)) (.cons (.p (.sl (.pair (.int .i64) (.int .i64)))) (.cons (.p (.int .i64)) (.cons (.p (.sl (.pair .str (.int .i64)))) .nil))))))))))]⟩⟩ false [] (.two (.reg [(4, { sh := [101], fn := 2 })]) (.leaf)))))))) (.two (.join ⟨[1, 4, 90], ⟨(.cons (.own 0 100 0 0) (.cons (.mp 101) (.cons (.p .bool) .nil))), [(100, false, (.vars (.cons (.p (.sl (.pair (.int .i64) (.pair (.int .i64) (.pair .bool (.pair .bool (.pair (.int .i64) (.pair (.sl (.pair (.int .i64) (.int .i64))) (.pair (.int .i64) (.sl (.pair .str (.int .i64)))))))))))) (.cons (.p (.int .i64)) .nil)))), (101, false, (.map (.int .i64) (.int .i64)))]⟩⟩ false [] (.leaf)) (.two (.leaf) (.leaf))))))) (.leaf))))))) (.two (.reg [(4, { ids := [103] })]) (.leaf)))))), ⟨(.cons (.p (.pair (.sl (.pair (.int .i64) (.pair (.int .i64) (.pair .bool (.pair .bool (.pair (.int .i64) (.pair (.sl (.pair (.int .i64) (.int .i64))) (.pair (.int .i64) (.sl (.pair .str (.int .i64))))))))))) (.int .i64))) .nil), []⟩, [⟨(.cons (.p .bool) .nil), []⟩], [0]⟩
def inode_Right_ft (fu : Nat) : FnT := ⟨18, ⟨(.cons (.p (.pair (.sl (.pair (.int .i64) (.pair (.int .i64) (.pair .bool (.pair .bool (.pair (.int .i64) (.pair (.sl (.pair (.int .i64) (.int .i64))) (.pair (.int .i64) (.sl (.pair .str (.int .i64))))))))))) (.int .i64))) .nil), []⟩, [⟨(.cons (.p .bool) .nil), []⟩], fun t => inode_Right fu t⟩
theorem inode_Right_eq (fu : Nat) : ∀ t, evF Go.Proofs.Try.prog [inode_bare_ft fu, inode_directory_ft fu, inode_file_m2_ft fu] fu Go.Proofs.Try.f18 inode_Right_fa t = (inode_Right_ft fu).spec t := fun t => by kernel_rfl
theorem inode_Right_told (fu : Nat) : Told Go.Proofs.Try.prog (inode_Right_ft fu) := told_of (allT_cons (inode_bare_told fu) (allT_cons (inode_directory_told fu) (allT_cons (inode_file_m2_told fu) allT_nil))) mixed Go.Proofs.Try.func18 (by kernel_rfl) (by kernel_rfl) (inode_Right_eq fu)

def inode_is (fu : Nat) (t : (List ((Int × (Int × (Bool × (Bool × (Int × (List ((Int × Int)) × (Int × List ((List UInt8 × Int)))))))))) × Int)) (id : Int) (dir : Bool) : Option (Bool) :=
  bif (decide (id ≥ 1)) then
    bif (decide (id ≤ ((t.1.length : Nat) : Int))) then
      (idx? (IntKind.wrap .i64 (id - 1)) t.1.length).bind fun q =>
      (t.1)[q]?.bind fun r =>
      bif r.2.2.1 then
        (idx? (IntKind.wrap .i64 (id - 1)) t.1.length).bind fun q1 =>
        (t.1)[q1]?.bind fun r1 =>
        some (r1.2.2.2.1 == dir)
      else
        some false
    else
      some false
  else
    some false
def inode_is_fa : FnA := ⟨.two (.reg [(0, { ids := [100] })]) (.leaf), ⟨(.cons (.p (.pair (.sl (.pair (.int .i64) (.pair (.int .i64) (.pair .bool (.pair .bool (.pair (.int .i64) (.pair (.sl (.pair (.int .i64) (.int .i64))) (.pair (.int .i64) (.sl (.pair .str (.int .i64))))))))))) (.int .i64))) (.cons (.p (.int .i64)) (.cons (.p .bool) .nil))), []⟩, [⟨(.cons (.p .bool) .nil), []⟩], [0]⟩
def inode_is_ft (fu : Nat) : FnT := ⟨31, ⟨(.cons (.p (.pair (.sl (.pair (.int .i64) (.pair (.int .i64) (.pair .bool (.pair .bool (.pair (.int .i64) (.pair (.sl (.pair (.int .i64) (.int .i64))) (.pair (.int .i64) (.sl (.pair .str (.int .i64))))))))))) (.int .i64))) (.cons (.p (.int .i64)) (.cons (.p .bool) .nil))), []⟩, [⟨(.cons (.p .bool) .nil), []⟩], fun t => inode_is fu t.1 t.2.1 t.2.2⟩
theorem inode_is_eq (fu : Nat) : ∀ t, evF Go.Proofs.Try.prog [] fu Go.Proofs.Try.f31 inode_is_fa t = (inode_is_ft fu).spec t := fun t => by kernel_rfl
theorem inode_is_told (fu : Nat) : Told Go.Proofs.Try.prog (inode_is_ft fu) := told_of allT_nil mixed Go.Proofs.Try.func31 (by kernel_rfl) (by kernel_rfl) (inode_is_eq fu)

def inode_Alloc_1 (fu : Nat) (n : (Int × (Int × (Bool × (Bool × (Int × (List ((Int × Int)) × (Int × List ((List UInt8 × Int)))))))))) : Option (Bool) :=
  some (!n.2.2.1)
def inode_Alloc_1_fa : FnA := ⟨.two (.reg [(0, { ids := [100] })]) (.leaf), ⟨(.cons (.p (.pair (.int .i64) (.pair (.int .i64) (.pair .bool (.pair .bool (.pair (.int .i64) (.pair (.sl (.pair (.int .i64) (.int .i64))) (.pair (.int .i64) (.sl (.pair .str (.int .i64))))))))))) .nil), []⟩, [⟨(.cons (.p .bool) .nil), []⟩], [0]⟩
def inode_Alloc_1_ft (fu : Nat) : FnT := ⟨32, ⟨(.cons (.p (.pair (.int .i64) (.pair (.int .i64) (.pair .bool (.pair .bool (.pair (.int .i64) (.pair (.sl (.pair (.int .i64) (.int .i64))) (.pair (.int .i64) (.sl (.pair .str (.int .i64))))))))))) .nil), []⟩, [⟨(.cons (.p .bool) .nil), []⟩], fun t => inode_Alloc_1 fu t⟩
theorem inode_Alloc_1_eq (fu : Nat) : ∀ t, evF Go.Proofs.Try.prog [] fu Go.Proofs.Try.f32 inode_Alloc_1_fa t = (inode_Alloc_1_ft fu).spec t := fun t => by kernel_rfl
theorem inode_Alloc_1_told (fu : Nat) : Told Go.Proofs.Try.prog (inode_Alloc_1_ft fu) := told_of allT_nil mixed Go.Proofs.Try.func32 (by kernel_rfl) (by kernel_rfl) (inode_Alloc_1_eq fu)

def slices_IndexFunc__api_Inode_api_Inode_f11_l0 (fu : Nat) (s : List ((Int × (Int × (Bool × (Bool × (Int × (List ((Int × Int)) × (Int × List ((List UInt8 × Int))))))))))) (x : Int) : Option (Int ⊕ (Unit ⊕ Int)) :=
  bif (decide (x < ((s.length : Nat) : Int))) then
    (idx? x s.length).bind fun q =>
    (s)[q]?.bind fun r =>
    (inode_Alloc_1 fu r).bind fun r1 =>
    bif r1 then
      some (.inr (.inr x))
    else
      some (.inl (IntKind.wrap .i64 (x + 1)))
  else
    some (.inr (.inl ()))
def slices_IndexFunc__api_Inode_api_Inode_f11_l0_it (fu : Nat) (s : List ((Int × (Int × (Bool × (Bool × (Int × (List ((Int × Int)) × (Int × List ((List UInt8 × Int))))))))))) (tt : Int) : Option (Unit ⊕ Int) :=
  iter fu (fun tt => slices_IndexFunc__api_Inode_api_Inode_f11_l0 fu s tt) tt
def slices_IndexFunc__api_Inode_api_Inode_f11 (fu : Nat) (s : List ((Int × (Int × (Bool × (Bool × (Int × (List ((Int × Int)) × (Int × List ((List UInt8 × Int))))))))))) : Option (Int) :=
  (slices_IndexFunc__api_Inode_api_Inode_f11_l0_it fu s 0).bind fun o =>
  match o with
  | .inl s1 =>
    some (-1)
  | .inr o1 =>
    some o1
def slices_IndexFunc__api_Inode_api_Inode_f11_fa : FnA := ⟨.two (.leaf) (.two (.two (.leaf) (.one (.loop ⟨[8], ⟨(.cons (.p (.int .i64)) .nil), []⟩⟩ true [(0, ⟨[], ⟨.nil, []⟩⟩)] (.two (.leaf) (.two (.leaf) (.two (.one (.two (.leaf) (.two (.reg [(5, {  })]) (.two (.leaf) (.leaf))))) (.leaf))))))) (.leaf)), ⟨(.cons (.p (.sl (.pair (.int .i64) (.pair (.int .i64) (.pair .bool (.pair .bool (.pair (.int .i64) (.pair (.sl (.pair (.int .i64) (.int .i64))) (.pair (.int .i64) (.sl (.pair .str (.int .i64)))))))))))) (.cons (.fn 32 .nil .nil) .nil)), []⟩, [⟨(.cons (.p (.int .i64)) .nil), []⟩], [0]⟩
def slices_IndexFunc__api_Inode_api_Inode_f11_ft (fu : Nat) : FnT := ⟨33, ⟨(.cons (.p (.sl (.pair (.int .i64) (.pair (.int .i64) (.pair .bool (.pair .bool (.pair (.int .i64) (.pair (.sl (.pair (.int .i64) (.int .i64))) (.pair (.int .i64) (.sl (.pair .str (.int .i64)))))))))))) (.cons (.fn 32 .nil .nil) .nil)), []⟩, [⟨(.cons (.p (.int .i64)) .nil), []⟩], fun t => slices_IndexFunc__api_Inode_api_Inode_f11 fu t⟩
theorem slices_IndexFunc__api_Inode_api_Inode_f11_eq (fu : Nat) : ∀ t, evF Go.Proofs.Try.prog [inode_Alloc_1_ft fu] fu Go.Proofs.Try.f33 slices_IndexFunc__api_Inode_api_Inode_f11_fa t = (slices_IndexFunc__api_Inode_api_Inode_f11_ft fu).spec t := fun t => by kernel_rfl
theorem slices_IndexFunc__api_Inode_api_Inode_f11_told (fu : Nat) : Told Go.Proofs.Try.prog (slices_IndexFunc__api_Inode_api_Inode_f11_ft fu) := told_of (allT_cons (inode_Alloc_1_told fu) allT_nil) mixed Go.Proofs.Try.func33 (by kernel_rfl) (by kernel_rfl) (slices_IndexFunc__api_Inode_api_Inode_f11_eq fu)

def inode_Alloc (fu : Nat) (t : (List ((Int × (Int × (Bool × (Bool × (Int × (List ((Int × Int)) × (Int × List ((List UInt8 × Int)))))))))) × Int)) (dir : Bool) (parent : Int) : Option ((Int × (Int × (Int × (Int × List ((Int × (Int × (Bool × (Bool × (Int × (List ((Int × Int)) × (Int × List ((List UInt8 × Int))))))))))))))) :=
  (inode_copied fu (t.1, t.2)).bind fun r =>
  (inode_Right fu (t.1, t.2)).bind fun r1 =>
  bif (!r1) then
    some (r.1, (0, (0, (180, r.2))))
  else
    (inode_is fu (t.1, t.2) parent true).bind fun r2 =>
    bif (!r2) then
      some (r.1, (0, (0, (2, r.2))))
    else
      (slices_IndexFunc__api_Inode_api_Inode_f11 fu r.2).bind fun r3 =>
      Option.bind (α := ((Bool × (Int × (Int × (Int × (Int × List ((Int × (Int × (Bool × (Bool × (Int × (List ((Int × Int)) × (Int × List ((List UInt8 × Int))))))))))))))))) (
        bif (decide (r3 < 0)) then
          some ((decide (((r.2.length : Nat) : Int) ≥ 500)), (0, (0, (0, (r.1, r.2)))))
        else
          some (false, (0, (0, (0, (r.1, r.2)))))) fun o =>
      bif o.1 then
        some (o.2.2.2.2.1, (0, (0, (5, o.2.2.2.2.2))))
      else
        Option.bind (α := ((Int × (Int × (Int × (Int × (Int × List ((Int × (Int × (Bool × (Bool × (Int × (List ((Int × Int)) × (Int × List ((List UInt8 × Int))))))))))))))) ⊕ (Int × (Int × (Int × (Int × List ((Int × (Int × (Bool × (Bool × (Int × (List ((Int × Int)) × (Int × List ((List UInt8 × Int)))))))))))))))) (
          bif (decide (r3 < 0)) then
            need ((Nat.ble ((o.2.2.2.2.2.length + 1) * 88) room) && (Nat.ble (o.2.2.2.2.2.length + 1) room)) <|
            some (.inl (((o.2.2.2.2.2.length : Nat) : Int), (o.2.1, (o.2.2.1, (o.2.2.2.1, (o.2.2.2.2.1, (o.2.2.2.2.2 ++ [((IntKind.wrap .i64 (((o.2.2.2.2.2.length : Nat) : Int) + 1)), (0, (false, (false, (0, ([], (0, [])))))))])))))))
          else
            (idx? r3 o.2.2.2.2.2.length).bind fun q =>
            (o.2.2.2.2.2)[q]?.bind fun r4 =>
            bif (decide (r4.2.1 ≥ 1099511627776)) then
              some (.inr (o.2.2.2.2.1, (0, (0, (5, o.2.2.2.2.2)))))
            else
              some (.inl (r3, (o.2.1, (o.2.2.1, (o.2.2.2.1, (o.2.2.2.2.1, o.2.2.2.2.2))))))) fun o1 =>
        match o1 with
        | .inl s =>
          (idx? s.1 s.2.2.2.2.2.length).bind fun q1 =>
          (s.2.2.2.2.2)[q1]?.bind fun r5 =>
          (s.2.2.2.2.2)[q1]?.bind fun r6 =>
          ((List.set s.2.2.2.2.2 q1 (r6.1, ((IntKind.wrap .i64 (r5.2.1 + 1)), r6.2.2))))[q1]?.bind fun r7 =>
          ((List.set (List.set s.2.2.2.2.2 q1 (r6.1, ((IntKind.wrap .i64 (r5.2.1 + 1)), r6.2.2))) q1 (r7.1, (r7.2.1, (true, r7.2.2.2)))))[q1]?.bind fun r8 =>
          ((List.set (List.set (List.set s.2.2.2.2.2 q1 (r6.1, ((IntKind.wrap .i64 (r5.2.1 + 1)), r6.2.2))) q1 (r7.1, (r7.2.1, (true, r7.2.2.2)))) q1 (r8.1, (r8.2.1, (r8.2.2.1, (dir, r8.2.2.2.2))))))[q1]?.bind fun r9 =>
          ((List.set (List.set (List.set (List.set s.2.2.2.2.2 q1 (r6.1, ((IntKind.wrap .i64 (r5.2.1 + 1)), r6.2.2))) q1 (r7.1, (r7.2.1, (true, r7.2.2.2)))) q1 (r8.1, (r8.2.1, (r8.2.2.1, (dir, r8.2.2.2.2))))) q1 (r9.1, (r9.2.1, (r9.2.2.1, (r9.2.2.2.1, (r9.2.2.2.2.1, (r9.2.2.2.2.2.1, (parent, r9.2.2.2.2.2.2.2)))))))))[q1]?.bind fun r10 =>
          ((List.set (List.set (List.set (List.set s.2.2.2.2.2 q1 (r6.1, ((IntKind.wrap .i64 (r5.2.1 + 1)), r6.2.2))) q1 (r7.1, (r7.2.1, (true, r7.2.2.2)))) q1 (r8.1, (r8.2.1, (r8.2.2.1, (dir, r8.2.2.2.2))))) q1 (r9.1, (r9.2.1, (r9.2.2.1, (r9.2.2.2.1, (r9.2.2.2.2.1, (r9.2.2.2.2.2.1, (parent, r9.2.2.2.2.2.2.2)))))))))[q1]?.bind fun r11 =>
          some (s.2.2.2.2.1, (r10.1, (r11.2.1, (0, (List.set (List.set (List.set (List.set s.2.2.2.2.2 q1 (r6.1, ((IntKind.wrap .i64 (r5.2.1 + 1)), r6.2.2))) q1 (r7.1, (r7.2.1, (true, r7.2.2.2)))) q1 (r8.1, (r8.2.1, (r8.2.2.1, (dir, r8.2.2.2.2))))) q1 (r9.1, (r9.2.1, (r9.2.2.1, (r9.2.2.2.1, (r9.2.2.2.2.1, (r9.2.2.2.2.2.1, (parent, r9.2.2.2.2.2.2.2))))))))))))
        | .inr o2 =>
          some o2
def inode_Alloc_fa : FnA := ⟨.two (.reg [(0, { ids := [100] }), (1, { ids := [101] }), (2, { ids := [102] })]) (.two (.reg [(1, { ids := [103] }), (2, { ids := [104] })]) (.two (.one (.two (.reg [(1, { fn := 1 })]) (.two (.leaf) (.two (.reg [(2, { fn := 2 })]) (.two (.leaf) (.leaf)))))) (.two (.leaf) (.two (.reg [(3, { md := [2, 0], fn := 3 })]) (.two (.one (.two (.join ⟨[6, 7, 9, 32], ⟨(.cons (.own 0 101 0 0) (.cons (.own 0 102 0 0) (.cons (.own 0 104 0 0) (.cons (.p .bool) .nil)))), [(101, false, (.vars (.cons (.nilp (.slice none 0 0)) (.cons (.p (.int .i64)) .nil)))), (102, false, (.vars (.cons (.p (.int .i64)) (.cons (.p (.int .i64)) .nil)))), (104, false, (.vars (.cons (.slf 8 103) (.cons (.p (.int .i64)) .nil)))), (103, false, (.rows 30 (.pair (.int .i64) (.pair (.int .i64) (.pair .bool (.pair .bool (.pair (.int .i64) (.pair (.sl (.pair (.int .i64) (.int .i64))) (.pair (.int .i64) (.sl (.pair .str (.int .i64))))))))))))]⟩⟩ false [] (.leaf)) (.two (.leaf) (.two (.leaf) (.join ⟨[6, 7, 9, 11], ⟨(.cons (.own 0 101 0 0) (.cons (.own 0 102 0 0) (.cons (.own 0 104 0 0) (.cons (.p (.int .i64)) .nil)))), [(101, false, (.vars (.cons (.nilp (.slice none 0 0)) (.cons (.p (.int .i64)) .nil)))), (102, false, (.vars (.cons (.p (.int .i64)) (.cons (.p (.int .i64)) .nil)))), (104, false, (.vars (.cons (.slf 8 106) (.cons (.p (.int .i64)) .nil)))), (106, false, (.rows 30 (.pair (.int .i64) (.pair (.int .i64) (.pair .bool (.pair .bool (.pair (.int .i64) (.pair (.sl (.pair (.int .i64) (.int .i64))) (.pair (.int .i64) (.sl (.pair .str (.int .i64))))))))))))]⟩⟩ true [] (.two (.two (.leaf) (.reg [(5, { ids := [105] }), (6, { ids := [106] })])) (.two (.leaf) (.two (.leaf) (.leaf))))))))) (.two (.leaf) (.two (.leaf) (.leaf)))))))), ⟨(.cons (.p (.pair (.sl (.pair (.int .i64) (.pair (.int .i64) (.pair .bool (.pair .bool (.pair (.int .i64) (.pair (.sl (.pair (.int .i64) (.int .i64))) (.pair (.int .i64) (.sl (.pair .str (.int .i64))))))))))) (.int .i64))) (.cons (.p .bool) (.cons (.p (.int .i64)) .nil))), []⟩, [⟨(.cons (.agg (.cons (.slf 8 0) (.cons (.p (.int .i64)) .nil))) (.cons (.agg (.cons (.p (.int .i64)) (.cons (.p (.int .i64)) .nil))) (.cons (.p (.int .i64)) .nil))), [(0, false, (.rows 30 (.pair (.int .i64) (.pair (.int .i64) (.pair .bool (.pair .bool (.pair (.int .i64) (.pair (.sl (.pair (.int .i64) (.int .i64))) (.pair (.int .i64) (.sl (.pair .str (.int .i64))))))))))))]⟩], [0, 0, 0]⟩
def inode_Alloc_ft (fu : Nat) : FnT := ⟨9, ⟨(.cons (.p (.pair (.sl (.pair (.int .i64) (.pair (.int .i64) (.pair .bool (.pair .bool (.pair (.int .i64) (.pair (.sl (.pair (.int .i64) (.int .i64))) (.pair (.int .i64) (.sl (.pair .str (.int .i64))))))))))) (.int .i64))) (.cons (.p .bool) (.cons (.p (.int .i64)) .nil))), []⟩, [⟨(.cons (.agg (.cons (.slf 8 0) (.cons (.p (.int .i64)) .nil))) (.cons (.agg (.cons (.p (.int .i64)) (.cons (.p (.int .i64)) .nil))) (.cons (.p (.int .i64)) .nil))), [(0, false, (.rows 30 (.pair (.int .i64) (.pair (.int .i64) (.pair .bool (.pair .bool (.pair (.int .i64) (.pair (.sl (.pair (.int .i64) (.int .i64))) (.pair (.int .i64) (.sl (.pair .str (.int .i64))))))))))))]⟩], fun t => inode_Alloc fu t.1 t.2.1 t.2.2⟩
theorem inode_Alloc_eq (fu : Nat) : ∀ t, evF Go.Proofs.Try.prog [inode_copied_ft fu, inode_Right_ft fu, inode_is_ft fu, slices_IndexFunc__api_Inode_api_Inode_f11_ft fu] fu Go.Proofs.Try.f9 inode_Alloc_fa t = (inode_Alloc_ft fu).spec t := fun t => by kernel_rfl
theorem inode_Alloc_told (fu : Nat) : Told Go.Proofs.Try.prog (inode_Alloc_ft fu) := told_of (allT_cons (inode_copied_told fu) (allT_cons (inode_Right_told fu) (allT_cons (inode_is_told fu) (allT_cons (slices_IndexFunc__api_Inode_api_Inode_f11_told fu) allT_nil)))) mixed Go.Proofs.Try.func9 (by kernel_rfl) (by kernel_rfl) (inode_Alloc_eq fu)

def inode_Fresh_l0 (fu : Nat) (n : Int) (x : Int) (h : Int) (h1 : Int) (h2 : List ((Int × (Int × (Bool × (Bool × (Int × (List ((Int × Int)) × (Int × List ((List UInt8 × Int))))))))))) (h3 : List (Int)) : Option ((Int × (Int × (Int × (List ((Int × (Int × (Bool × (Bool × (Int × (List ((Int × Int)) × (Int × List ((List UInt8 × Int)))))))))) × List (Int))))) ⊕ ((Int × (Int × (List ((Int × (Int × (Bool × (Bool × (Int × (List ((Int × Int)) × (Int × List ((List UInt8 × Int)))))))))) × List (Int)))))) :=
  bif (decide (x < n)) then
    need ((Nat.ble ((h3.length + 1) * 8) room) && (Nat.ble (h3.length + 1) room)) <|
    some (.inl ((IntKind.wrap .i64 (x + 1)), (h, ((IntKind.wrap .i64 (h1 + 1)), (h2, (h3 ++ [(IntKind.wrap .i64 (h1 + 1))]))))))
  else
    some (.inr (h, (h1, (h2, h3))))
def inode_Fresh_l0_it (fu : Nat) (n : Int) (tt : (Int × (Int × (Int × (List ((Int × (Int × (Bool × (Bool × (Int × (List ((Int × Int)) × (Int × List ((List UInt8 × Int)))))))))) × List (Int)))))) : Option ((Int × (Int × (List ((Int × (Int × (Bool × (Bool × (Int × (List ((Int × Int)) × (Int × List ((List UInt8 × Int)))))))))) × List (Int))))) :=
  iter fu (fun tt => inode_Fresh_l0 fu n tt.1 tt.2.1 tt.2.2.1 tt.2.2.2.1 tt.2.2.2.2) tt
def inode_Fresh (fu : Nat) (t : (List ((Int × (Int × (Bool × (Bool × (Int × (List ((Int × Int)) × (Int × List ((List UInt8 × Int)))))))))) × Int)) (n : Int) : Option ((Int × (Int × (List ((Int × (Int × (Bool × (Bool × (Int × (List ((Int × Int)) × (Int × List ((List UInt8 × Int)))))))))) × List (Int))))) :=
  (inode_copied fu (t.1, t.2)).bind fun r =>
  (inode_Right fu (t.1, t.2)).bind fun r1 =>
  bif (!r1) then
    some (r.1, (180, (r.2, [])))
  else
    Option.bind (α := ((Bool × (List ((Int × (Int × (Bool × (Bool × (Int × (List ((Int × Int)) × (Int × List ((List UInt8 × Int)))))))))) × (Int × (Int × (Int × List ((Int × (Int × (Bool × (Bool × (Int × (List ((Int × Int)) × (Int × List ((List UInt8 × Int))))))))))))))))) (
      bif (decide (n < 0)) then
        some (true, (t.1, (t.2, (0, (r.1, r.2)))))
      else
        some ((decide (n > 4096)), (t.1, (t.2, (0, (r.1, r.2)))))) fun o =>
    bif o.1 then
      some (o.2.2.2.2.1, (2, (o.2.2.2.2.2, [])))
    else
      bif (decide (n > (IntKind.wrap .i64 (1099511627776 - o.2.2.1)))) then
        some (o.2.2.2.2.1, (5, (o.2.2.2.2.2, [])))
      else
        (inode_Fresh_l0_it fu n (0, (o.2.2.2.1, (o.2.2.2.2.1, (o.2.2.2.2.2, []))))).bind fun o1 =>
        some (o1.2.1, (0, (o1.2.2.1, o1.2.2.2)))
def inode_Fresh_fa : FnA := ⟨.two (.reg [(0, { ids := [100] }), (1, { ids := [101] })]) (.two (.reg [(1, { ids := [102] }), (2, { ids := [103] })]) (.two (.one (.two (.reg [(1, { fn := 1 })]) (.two (.leaf) (.two (.join ⟨[2, 4, 7, 16], ⟨(.cons (.own 0 100 0 0) (.cons (.own 0 101 0 0) (.cons (.own 0 103 0 0) (.cons (.p .bool) .nil)))), [(100, false, (.vars (.cons (.p (.sl (.pair (.int .i64) (.pair (.int .i64) (.pair .bool (.pair .bool (.pair (.int .i64) (.pair (.sl (.pair (.int .i64) (.int .i64))) (.pair (.int .i64) (.sl (.pair .str (.int .i64)))))))))))) (.cons (.p (.int .i64)) .nil)))), (101, false, (.vars (.cons (.nilp (.slice none 0 0)) (.cons (.p (.int .i64)) .nil)))), (103, false, (.vars (.cons (.slf 8 102) (.cons (.p (.int .i64)) .nil)))), (102, false, (.rows 30 (.pair (.int .i64) (.pair (.int .i64) (.pair .bool (.pair .bool (.pair (.int .i64) (.pair (.sl (.pair (.int .i64) (.int .i64))) (.pair (.int .i64) (.sl (.pair .str (.int .i64))))))))))))]⟩⟩ false [] (.leaf)) (.two (.leaf) (.two (.leaf) (.two (.leaf) (.leaf)))))))) (.two (.leaf) (.two (.two (.leaf) (.one (.pre (.ownNil 8 3 104) (.loop ⟨[4, 7, 8, 32], ⟨(.cons (.own 0 101 0 0) (.cons (.own 0 103 0 0) (.cons (.slf 1 104) (.cons (.p (.int .i64)) .nil)))), [(101, false, (.vars (.cons (.nilp (.slice none 0 0)) (.cons (.p (.int .i64)) .nil)))), (103, false, (.vars (.cons (.slf 8 102) (.cons (.p (.int .i64)) .nil)))), (102, false, (.rows 30 (.pair (.int .i64) (.pair (.int .i64) (.pair .bool (.pair .bool (.pair (.int .i64) (.pair (.sl (.pair (.int .i64) (.int .i64))) (.pair (.int .i64) (.sl (.pair .str (.int .i64)))))))))))), (104, false, (.rows 3 (.int .i64)))]⟩⟩ false [(1, ⟨[4, 7, 8], ⟨(.cons (.own 0 101 0 0) (.cons (.own 0 103 0 0) (.cons (.slf 1 104) .nil))), [(101, false, (.vars (.cons (.nilp (.slice none 0 0)) (.cons (.p (.int .i64)) .nil)))), (103, false, (.vars (.cons (.slf 8 102) (.cons (.p (.int .i64)) .nil)))), (102, false, (.rows 30 (.pair (.int .i64) (.pair (.int .i64) (.pair .bool (.pair .bool (.pair (.int .i64) (.pair (.sl (.pair (.int .i64) (.int .i64))) (.pair (.int .i64) (.sl (.pair .str (.int .i64)))))))))))), (104, false, (.rows 3 (.int .i64)))]⟩⟩)] (.two (.leaf) (.two (.leaf) (.two (.one (.two (.leaf) (.reg [(3, { ids := [105] }), (4, { ids := [106] })]))) (.leaf)))))))) (.leaf))))), ⟨(.cons (.p (.pair (.sl (.pair (.int .i64) (.pair (.int .i64) (.pair .bool (.pair .bool (.pair (.int .i64) (.pair (.sl (.pair (.int .i64) (.int .i64))) (.pair (.int .i64) (.sl (.pair .str (.int .i64))))))))))) (.int .i64))) (.cons (.p (.int .i64)) .nil)), []⟩, [⟨(.cons (.agg (.cons (.slf 8 0) (.cons (.p (.int .i64)) .nil))) (.cons (.slf 1 1) (.cons (.p (.int .i64)) .nil))), [(0, false, (.rows 30 (.pair (.int .i64) (.pair (.int .i64) (.pair .bool (.pair .bool (.pair (.int .i64) (.pair (.sl (.pair (.int .i64) (.int .i64))) (.pair (.int .i64) (.sl (.pair .str (.int .i64)))))))))))), (1, false, (.rows 3 (.int .i64)))]⟩], [0, 13, 0]⟩
def inode_Fresh_ft (fu : Nat) : FnT := ⟨25, ⟨(.cons (.p (.pair (.sl (.pair (.int .i64) (.pair (.int .i64) (.pair .bool (.pair .bool (.pair (.int .i64) (.pair (.sl (.pair (.int .i64) (.int .i64))) (.pair (.int .i64) (.sl (.pair .str (.int .i64))))))))))) (.int .i64))) (.cons (.p (.int .i64)) .nil)), []⟩, [⟨(.cons (.agg (.cons (.slf 8 0) (.cons (.p (.int .i64)) .nil))) (.cons (.slf 1 1) (.cons (.p (.int .i64)) .nil))), [(0, false, (.rows 30 (.pair (.int .i64) (.pair (.int .i64) (.pair .bool (.pair .bool (.pair (.int .i64) (.pair (.sl (.pair (.int .i64) (.int .i64))) (.pair (.int .i64) (.sl (.pair .str (.int .i64)))))))))))), (1, false, (.rows 3 (.int .i64)))]⟩], fun t => inode_Fresh fu t.1 t.2⟩
theorem inode_Fresh_eq (fu : Nat) : ∀ t, evF Go.Proofs.Try.prog [inode_copied_ft fu, inode_Right_ft fu] fu Go.Proofs.Try.f25 inode_Fresh_fa t = (inode_Fresh_ft fu).spec t := fun t => by kernel_rfl
theorem inode_Fresh_told (fu : Nat) : Told Go.Proofs.Try.prog (inode_Fresh_ft fu) := told_of (allT_cons (inode_copied_told fu) (allT_cons (inode_Right_told fu) allT_nil)) mixed Go.Proofs.Try.func25 (by kernel_rfl) (by kernel_rfl) (inode_Fresh_eq fu)

def inode_Set (fu : Nat) (t : (List ((Int × (Int × (Bool × (Bool × (Int × (List ((Int × Int)) × (Int × List ((List UInt8 × Int)))))))))) × Int)) (id : Int) (size : Int) (parts : List ((Int × Int))) : Option ((Int × (Int × List ((Int × (Int × (Bool × (Bool × (Int × (List ((Int × Int)) × (Int × List ((List UInt8 × Int))))))))))))) :=
  (inode_copied fu (t.1, t.2)).bind fun r =>
  (inode_Right fu (t.1, t.2)).bind fun r1 =>
  bif (!r1) then
    some (r.1, (180, r.2))
  else
    (inode_is fu (t.1, t.2) id false).bind fun r2 =>
    bif (!r2) then
      some (r.1, (2, r.2))
    else
      (slices_Clone__api_Part_api_Part fu parts).bind fun r3 =>
      (idx? (IntKind.wrap .i64 (id - 1)) r.2.length).bind fun q =>
      (r.2)[q]?.bind fun r4 =>
      (idx? (IntKind.wrap .i64 (id - 1)) (List.set r.2 q (r4.1, (r4.2.1, (r4.2.2.1, (r4.2.2.2.1, (size, r4.2.2.2.2.2)))))).length).bind fun q1 =>
      ((List.set r.2 q (r4.1, (r4.2.1, (r4.2.2.1, (r4.2.2.2.1, (size, r4.2.2.2.2.2)))))))[q1]?.bind fun r5 =>
      (inode_Right fu ((List.set (List.set r.2 q (r4.1, (r4.2.1, (r4.2.2.1, (r4.2.2.2.1, (size, r4.2.2.2.2.2)))))) q1 (r5.1, (r5.2.1, (r5.2.2.1, (r5.2.2.2.1, (r5.2.2.2.2.1, (r3, r5.2.2.2.2.2.2))))))), r.1)).bind fun r6 =>
      bif (!r6) then
        (inode_copied fu (t.1, t.2)).bind fun r7 =>
        some (r7.1, (177, r7.2))
      else
        some (r.1, (0, (List.set (List.set r.2 q (r4.1, (r4.2.1, (r4.2.2.1, (r4.2.2.2.1, (size, r4.2.2.2.2.2)))))) q1 (r5.1, (r5.2.1, (r5.2.2.1, (r5.2.2.2.1, (r5.2.2.2.2.1, (r3, r5.2.2.2.2.2.2)))))))))
def inode_Set_fa : FnA := ⟨.two (.reg [(0, { ids := [100] }), (1, { ids := [101] })]) (.two (.reg [(1, { ids := [102] }), (2, { ids := [103] })]) (.two (.one (.two (.reg [(1, { fn := 1 })]) (.two (.leaf) (.two (.reg [(2, { fn := 2 })]) (.two (.leaf) (.leaf)))))) (.two (.reg [(10, { ids := [104], fn := 3 })]) (.two (.two (.reg [(1, { md := [2], fn := 1 })]) (.two (.two (.reg [(1, { ids := [105] })]) (.leaf)) (.leaf))) (.leaf))))), ⟨(.cons (.p (.pair (.sl (.pair (.int .i64) (.pair (.int .i64) (.pair .bool (.pair .bool (.pair (.int .i64) (.pair (.sl (.pair (.int .i64) (.int .i64))) (.pair (.int .i64) (.sl (.pair .str (.int .i64))))))))))) (.int .i64))) (.cons (.p (.int .i64)) (.cons (.p (.int .i64)) (.cons (.p (.sl (.pair (.int .i64) (.int .i64)))) .nil)))), []⟩, [⟨(.cons (.agg (.cons (.slf 8 0) (.cons (.p (.int .i64)) .nil))) (.cons (.p (.int .i64)) .nil)), [(0, false, (.rows 30 (.pair (.int .i64) (.pair (.int .i64) (.pair .bool (.pair .bool (.pair (.int .i64) (.pair (.sl (.pair (.int .i64) (.int .i64))) (.pair (.int .i64) (.sl (.pair .str (.int .i64))))))))))))]⟩], [0, 0]⟩
def inode_Set_ft (fu : Nat) : FnT := ⟨22, ⟨(.cons (.p (.pair (.sl (.pair (.int .i64) (.pair (.int .i64) (.pair .bool (.pair .bool (.pair (.int .i64) (.pair (.sl (.pair (.int .i64) (.int .i64))) (.pair (.int .i64) (.sl (.pair .str (.int .i64))))))))))) (.int .i64))) (.cons (.p (.int .i64)) (.cons (.p (.int .i64)) (.cons (.p (.sl (.pair (.int .i64) (.int .i64)))) .nil)))), []⟩, [⟨(.cons (.agg (.cons (.slf 8 0) (.cons (.p (.int .i64)) .nil))) (.cons (.p (.int .i64)) .nil)), [(0, false, (.rows 30 (.pair (.int .i64) (.pair (.int .i64) (.pair .bool (.pair .bool (.pair (.int .i64) (.pair (.sl (.pair (.int .i64) (.int .i64))) (.pair (.int .i64) (.sl (.pair .str (.int .i64))))))))))))]⟩], fun t => inode_Set fu t.1 t.2.1 t.2.2.1 t.2.2.2⟩
theorem inode_Set_eq (fu : Nat) : ∀ t, evF Go.Proofs.Try.prog [inode_copied_ft fu, inode_Right_ft fu, inode_is_ft fu, slices_Clone__api_Part_api_Part_ft fu] fu Go.Proofs.Try.f22 inode_Set_fa t = (inode_Set_ft fu).spec t := fun t => by kernel_rfl
theorem inode_Set_told (fu : Nat) : Told Go.Proofs.Try.prog (inode_Set_ft fu) := told_of (allT_cons (inode_copied_told fu) (allT_cons (inode_Right_told fu) (allT_cons (inode_is_told fu) (allT_cons (slices_Clone__api_Part_api_Part_told fu) allT_nil)))) mixed Go.Proofs.Try.func22 (by kernel_rfl) (by kernel_rfl) (inode_Set_eq fu)

def inode_copied_P_l0 (fu : Nat) (r : List ((Int × (Int × (Bool × (Bool × (Int × (List ((Int × Int)) × (Int × List ((List UInt8 × Int))))))))))) (x : Int) (h : Int) (h1 : List ((Int × (Int × (Bool × (Bool × (Int × ((List ((Int × Int)) ⊕ Option (Nat × (Nat × Nat))) × (Int × List ((List UInt8 × Int))))))))))) (h2 : Int) (h3 : List ((Nat × List ((Int × Int))))) : Option ((Int × (Int × (List ((Int × (Int × (Bool × (Bool × (Int × ((List ((Int × Int)) ⊕ Option (Nat × (Nat × Nat))) × (Int × List ((List UInt8 × Int)))))))))) × (Int × List ((Nat × List ((Int × Int)))))))) ⊕ ((Int × (List ((Int × (Int × (Bool × (Bool × (Int × ((List ((Int × Int)) ⊕ Option (Nat × (Nat × Nat))) × (Int × List ((List UInt8 × Int)))))))))) × (Int × List ((Nat × List ((Int × Int))))))))) :=
  bif (decide (x < ((r.length : Nat) : Int))) then
    (idx? x h1.length).bind fun q =>
    (h1)[q]?.bind fun r1 =>
    (lowD (.ref 0 (.pair (.int .i64) (.int .i64))) r1.2.2.2.2.2.1).bind fun x1 =>
    (inode_own fu (r1.1, (r1.2.1, (r1.2.2.1, (r1.2.2.2.1, (r1.2.2.2.2.1, (x1, (r1.2.2.2.2.2.2.1, r1.2.2.2.2.2.2.2)))))))).bind fun r2 =>
    (idx? x h1.length).bind fun q1 =>
    (h1)[q1]?.bind fun r3 =>
    some (.inl ((IntKind.wrap .i64 (x + 1)), (h, ((List.set h1 q1 (r2.1, (r2.2.1, (r2.2.2.1, (r2.2.2.2.1, (r2.2.2.2.2.1, ((.inr (some (h3.length, (0, r2.2.2.2.2.2.2.1.length)))), (r2.2.2.2.2.2.1, r2.2.2.2.2.2.2.2)))))))), (h2, (h3 ++ [(1, r2.2.2.2.2.2.2.1)]))))))
  else
    some (.inr (h, (h1, (h2, h3))))
def inode_copied_P_l0_it (fu : Nat) (r : List ((Int × (Int × (Bool × (Bool × (Int × (List ((Int × Int)) × (Int × List ((List UInt8 × Int))))))))))) (tt : (Int × (Int × (List ((Int × (Int × (Bool × (Bool × (Int × ((List ((Int × Int)) ⊕ Option (Nat × (Nat × Nat))) × (Int × List ((List UInt8 × Int)))))))))) × (Int × List ((Nat × List ((Int × Int))))))))) : Option ((Int × (List ((Int × (Int × (Bool × (Bool × (Int × ((List ((Int × Int)) ⊕ Option (Nat × (Nat × Nat))) × (Int × List ((List UInt8 × Int)))))))))) × (Int × List ((Nat × List ((Int × Int)))))))) :=
  iter fu (fun tt => inode_copied_P_l0 fu r tt.1 tt.2.1 tt.2.2.1 tt.2.2.2.1 tt.2.2.2.2) tt
def inode_copied_P (fu : Nat) (t : (List ((Int × (Int × (Bool × (Bool × (Int × (List ((Int × Int)) × (Int × List ((List UInt8 × Int)))))))))) × Int)) : Option ((Int × (List ((Int × (Int × (Bool × (Bool × (Int × ((List ((Int × Int)) ⊕ Option (Nat × (Nat × Nat))) × (Int × List ((List UInt8 × Int)))))))))) × List ((Nat × List ((Int × Int))))))) :=
  (slices_Clone__api_Inode_api_Inode fu t.1).bind fun r =>
  (inode_copied_P_l0_it fu r (0, (t.2, ((List.map (liftT (.pair (.int .i64) (.pair (.int .i64) (.pair .bool (.pair .bool (.pair (.int .i64) (.pair (.ref 0 (.pair (.int .i64) (.int .i64))) (.pair (.int .i64) (.sl (.pair .str (.int .i64))))))))))) r), (0, []))))).bind fun o =>
  some (o.1, (o.2.1, o.2.2.2))
def inode_copied_P_fa : FnA := ⟨.two (.reg [(0, { ids := [100] }), (1, { ids := [101] })]) (.two (.reg [(2, { ids := [102] })]) (.two (.two (.leaf) (.one (.pre (.newFam 0 64 (.pair (.int .i64) (.int .i64))) (.pre (.toRef 102 (.pair (.int .i64) (.pair (.int .i64) (.pair .bool (.pair .bool (.pair (.int .i64) (.pair (.ref 0 (.pair (.int .i64) (.int .i64))) (.pair (.int .i64) (.sl (.pair .str (.int .i64))))))))))) (.loop ⟨[1, 2, 10, 12], ⟨(.cons (.own 0 100 0 0) (.cons (.own 0 101 0 0) (.cons (.slf 8 102) (.cons (.p (.int .i64)) .nil)))), [(100, false, (.vars (.cons (.slf 8 102) (.cons (.p (.int .i64)) .nil)))), (102, false, (.rows 30 (.pair (.int .i64) (.pair (.int .i64) (.pair .bool (.pair .bool (.pair (.int .i64) (.pair (.ref 0 (.pair (.int .i64) (.int .i64))) (.pair (.int .i64) (.sl (.pair .str (.int .i64)))))))))))), (101, false, (.vars (.cons (.nilp (.slice none 0 0)) (.cons (.p (.int .i64)) .nil)))), (999984, false, (.fam 64 (.pair (.int .i64) (.int .i64))))]⟩⟩ false [(0, ⟨[1, 2], ⟨(.cons (.own 0 100 0 0) (.cons (.own 0 101 0 0) .nil)), [(100, false, (.vars (.cons (.slf 8 102) (.cons (.p (.int .i64)) .nil)))), (102, false, (.rows 30 (.pair (.int .i64) (.pair (.int .i64) (.pair .bool (.pair .bool (.pair (.int .i64) (.pair (.ref 0 (.pair (.int .i64) (.int .i64))) (.pair (.int .i64) (.sl (.pair .str (.int .i64)))))))))))), (101, false, (.vars (.cons (.nilp (.slice none 0 0)) (.cons (.p (.int .i64)) .nil)))), (999984, false, (.fam 64 (.pair (.int .i64) (.int .i64))))]⟩⟩)] (.two (.leaf) (.two (.leaf) (.two (.one (.two (.reg [(3, { ids := [103] })]) (.reg [(4, { ids := [104, 105], md := [3], fn := 1 }), (6, { sh := [104, 999984] })]))) (.leaf))))))))) (.leaf))), ⟨(.cons (.p (.pair (.sl (.pair (.int .i64) (.pair (.int .i64) (.pair .bool (.pair .bool (.pair (.int .i64) (.pair (.sl (.pair (.int .i64) (.int .i64))) (.pair (.int .i64) (.sl (.pair .str (.int .i64))))))))))) (.int .i64))) .nil), []⟩, [⟨(.cons (.agg (.cons (.slf 8 0) (.cons (.p (.int .i64)) .nil))) .nil), [(0, false, (.rows 30 (.pair (.int .i64) (.pair (.int .i64) (.pair .bool (.pair .bool (.pair (.int .i64) (.pair (.ref 0 (.pair (.int .i64) (.int .i64))) (.pair (.int .i64) (.sl (.pair .str (.int .i64)))))))))))), (999984, false, (.fam 64 (.pair (.int .i64) (.int .i64))))]⟩], [0]⟩
def inode_copied_P_ft (fu : Nat) : FnT := ⟨30, ⟨(.cons (.p (.pair (.sl (.pair (.int .i64) (.pair (.int .i64) (.pair .bool (.pair .bool (.pair (.int .i64) (.pair (.sl (.pair (.int .i64) (.int .i64))) (.pair (.int .i64) (.sl (.pair .str (.int .i64))))))))))) (.int .i64))) .nil), []⟩, [⟨(.cons (.agg (.cons (.slf 8 0) (.cons (.p (.int .i64)) .nil))) .nil), [(0, false, (.rows 30 (.pair (.int .i64) (.pair (.int .i64) (.pair .bool (.pair .bool (.pair (.int .i64) (.pair (.ref 0 (.pair (.int .i64) (.int .i64))) (.pair (.int .i64) (.sl (.pair .str (.int .i64)))))))))))), (999984, false, (.fam 64 (.pair (.int .i64) (.int .i64))))]⟩], fun t => inode_copied_P fu t⟩
theorem inode_copied_P_eq (fu : Nat) : ∀ t, evF Go.Proofs.Try.prog [slices_Clone__api_Inode_api_Inode_ft fu, inode_own_ft fu] fu Go.Proofs.Try.f30 inode_copied_P_fa t = (inode_copied_P_ft fu).spec t := fun t => by kernel_rfl
theorem inode_copied_P_told (fu : Nat) : Told Go.Proofs.Try.prog (inode_copied_P_ft fu) := told_of (allT_cons (slices_Clone__api_Inode_api_Inode_told fu) (allT_cons (inode_own_told fu) allT_nil)) mixed Go.Proofs.Try.func30 (by kernel_rfl) (by kernel_rfl) (inode_copied_P_eq fu)

def inode_Drop_1 (fu : Nat) (p : (Int × Int)) : Option (Bool) :=
  some ((p.1 == 0) && (p.2 == 0))
def inode_Drop_1_fa : FnA := ⟨.two (.reg [(0, { ids := [100] })]) (.leaf), ⟨(.cons (.p (.pair (.int .i64) (.int .i64))) .nil), []⟩, [⟨(.cons (.p .bool) .nil), []⟩], [0]⟩
def inode_Drop_1_ft (fu : Nat) : FnT := ⟨35, ⟨(.cons (.p (.pair (.int .i64) (.int .i64))) .nil), []⟩, [⟨(.cons (.p .bool) .nil), []⟩], fun t => inode_Drop_1 fu t⟩
theorem inode_Drop_1_eq (fu : Nat) : ∀ t, evF Go.Proofs.Try.prog [] fu Go.Proofs.Try.f35 inode_Drop_1_fa t = (inode_Drop_1_ft fu).spec t := fun t => by kernel_rfl
theorem inode_Drop_1_told (fu : Nat) : Told Go.Proofs.Try.prog (inode_Drop_1_ft fu) := told_of allT_nil mixed Go.Proofs.Try.func35 (by kernel_rfl) (by kernel_rfl) (inode_Drop_1_eq fu)

def slices_IndexFunc__api_Part_api_Part_f11_l0 (fu : Nat) (s : List ((Int × Int))) (x : Int) : Option (Int ⊕ (Unit ⊕ Int)) :=
  bif (decide (x < ((s.length : Nat) : Int))) then
    (idx? x s.length).bind fun q =>
    (s)[q]?.bind fun r =>
    (inode_Drop_1 fu r).bind fun r1 =>
    bif r1 then
      some (.inr (.inr x))
    else
      some (.inl (IntKind.wrap .i64 (x + 1)))
  else
    some (.inr (.inl ()))
def slices_IndexFunc__api_Part_api_Part_f11_l0_it (fu : Nat) (s : List ((Int × Int))) (tt : Int) : Option (Unit ⊕ Int) :=
  iter fu (fun tt => slices_IndexFunc__api_Part_api_Part_f11_l0 fu s tt) tt
def slices_IndexFunc__api_Part_api_Part_f11 (fu : Nat) (s : List ((Int × Int))) : Option (Int) :=
  (slices_IndexFunc__api_Part_api_Part_f11_l0_it fu s 0).bind fun o =>
  match o with
  | .inl s1 =>
    some (-1)
  | .inr o1 =>
    some o1
def slices_IndexFunc__api_Part_api_Part_f11_fa : FnA := ⟨.two (.leaf) (.two (.two (.leaf) (.one (.loop ⟨[8], ⟨(.cons (.p (.int .i64)) .nil), []⟩⟩ true [(0, ⟨[], ⟨.nil, []⟩⟩)] (.two (.leaf) (.two (.leaf) (.two (.one (.two (.leaf) (.two (.reg [(5, {  })]) (.two (.leaf) (.leaf))))) (.leaf))))))) (.leaf)), ⟨(.cons (.p (.sl (.pair (.int .i64) (.int .i64)))) (.cons (.fn 35 .nil .nil) .nil)), []⟩, [⟨(.cons (.p (.int .i64)) .nil), []⟩], [0]⟩
def slices_IndexFunc__api_Part_api_Part_f11_ft (fu : Nat) : FnT := ⟨47, ⟨(.cons (.p (.sl (.pair (.int .i64) (.int .i64)))) (.cons (.fn 35 .nil .nil) .nil)), []⟩, [⟨(.cons (.p (.int .i64)) .nil), []⟩], fun t => slices_IndexFunc__api_Part_api_Part_f11 fu t⟩
theorem slices_IndexFunc__api_Part_api_Part_f11_eq (fu : Nat) : ∀ t, evF Go.Proofs.Try.prog [inode_Drop_1_ft fu] fu Go.Proofs.Try.f47 slices_IndexFunc__api_Part_api_Part_f11_fa t = (slices_IndexFunc__api_Part_api_Part_f11_ft fu).spec t := fun t => by kernel_rfl
theorem slices_IndexFunc__api_Part_api_Part_f11_told (fu : Nat) : Told Go.Proofs.Try.prog (slices_IndexFunc__api_Part_api_Part_f11_ft fu) := told_of (allT_cons (inode_Drop_1_told fu) allT_nil) mixed Go.Proofs.Try.func47 (by kernel_rfl) (by kernel_rfl) (slices_IndexFunc__api_Part_api_Part_f11_eq fu)

def slices_DeleteFunc__api_Part_api_Part_o0f11_l0 (fu : Nat) (i : Int) (j : Int) (h1 : List ((Int × Int))) : Option ((Int × (Int × List ((Int × Int)))) ⊕ ((Int × List ((Int × Int))))) :=
  bif (decide (j < ((h1.length : Nat) : Int))) then
    (idx? j h1.length).bind fun q =>
    (h1)[q]?.bind fun r1 =>
    (inode_Drop_1 fu (r1.1, r1.2)).bind fun r2 =>
    Option.bind (α := ((Int × List ((Int × Int))))) (
      bif (!r2) then
        (idx? i h1.length).bind fun q1 =>
        (h1)[q1]?.bind fun r3 =>
        some ((IntKind.wrap .i64 (i + 1)), (List.set h1 q1 (r1.1, r1.2)))
      else
        some (i, h1)) fun o =>
    some (.inl (o.1, ((IntKind.wrap .i64 (j + 1)), o.2)))
  else
    some (.inr (i, h1))
def slices_DeleteFunc__api_Part_api_Part_o0f11_l0_it (fu : Nat)  (tt : (Int × (Int × List ((Int × Int))))) : Option ((Int × List ((Int × Int)))) :=
  iter fu (fun tt => slices_DeleteFunc__api_Part_api_Part_o0f11_l0 fu tt.1 tt.2.1 tt.2.2) tt
def slices_DeleteFunc__api_Part_api_Part_o0f11 (fu : Nat) (h : List ((Int × Int))) : Option (List ((Int × Int)) ⊕ List ((Int × Int))) :=
  (slices_IndexFunc__api_Part_api_Part_f11 fu h).bind fun r =>
  bif (r == (-1)) then
    some (.inl h)
  else
    (slices_DeleteFunc__api_Part_api_Part_o0f11_l0_it fu  (r, ((IntKind.wrap .i64 (r + 1)), h))).bind fun o1 =>
    (upto? o1.1 o1.2.length).bind fun q2 =>
    need (Nat.ble (q2 + (o1.2.length - q2)) o1.2.length) <|
    (upto? o1.1 (splice o1.2 q2 (List.replicate (α := (Int × Int)) (o1.2.length - q2) (0, 0))).length).bind fun q3 =>
    need (Nat.ble q3 (splice o1.2 q2 (List.replicate (α := (Int × Int)) (o1.2.length - q2) (0, 0))).length) <|
    some (.inr (List.take q3 (splice o1.2 q2 (List.replicate (α := (Int × Int)) (o1.2.length - q2) (0, 0)))))
def slices_DeleteFunc__api_Part_api_Part_o0f11_fa : FnA := ⟨.two (.leaf) (.two (.reg [(2, { md := [2, 0] })]) (.two (.two (.leaf) (.two (.leaf) (.leaf))) (.two (.two (.leaf) (.one (.loop ⟨[0, 5, 6], ⟨(.cons (.slf 2 0) (.cons (.p (.int .i64)) (.cons (.p (.int .i64)) .nil))), [(0, false, (.rows 64 (.pair (.int .i64) (.int .i64))))]⟩⟩ false [(0, ⟨[0, 5], ⟨(.cons (.slf 2 0) (.cons (.p (.int .i64)) .nil)), [(0, false, (.rows 64 (.pair (.int .i64) (.int .i64))))]⟩⟩)] (.two (.two (.leaf) (.leaf)) (.two (.one (.two (.reg [(4, { ids := [100] })]) (.two (.reg [(2, { fn := 1 })]) (.join ⟨[0, 5], ⟨(.cons (.slf 2 0) (.cons (.p (.int .i64)) .nil)), [(0, false, (.rows 64 (.pair (.int .i64) (.int .i64))))]⟩⟩ false [] (.two (.leaf) (.leaf)))))) (.leaf)))))) (.two (.leaf) (.leaf))))), ⟨(.cons (.slf 2 0) (.cons (.fn 35 .nil .nil) .nil)), [(0, false, (.rows 64 (.pair (.int .i64) (.int .i64))))]⟩, [⟨(.cons (.slf 2 0) .nil), [(0, false, (.rows 64 (.pair (.int .i64) (.int .i64))))]⟩, ⟨(.cons (.slf 2 1) .nil), [(1, false, (.rows 64 (.pair (.int .i64) (.int .i64))))]⟩], [74]⟩
def slices_DeleteFunc__api_Part_api_Part_o0f11_ft (fu : Nat) : FnT := ⟨34, ⟨(.cons (.slf 2 0) (.cons (.fn 35 .nil .nil) .nil)), [(0, false, (.rows 64 (.pair (.int .i64) (.int .i64))))]⟩, [⟨(.cons (.slf 2 0) .nil), [(0, false, (.rows 64 (.pair (.int .i64) (.int .i64))))]⟩, ⟨(.cons (.slf 2 1) .nil), [(1, false, (.rows 64 (.pair (.int .i64) (.int .i64))))]⟩], fun t => slices_DeleteFunc__api_Part_api_Part_o0f11 fu t⟩
theorem slices_DeleteFunc__api_Part_api_Part_o0f11_eq (fu : Nat) : ∀ t, evF Go.Proofs.Try.prog [slices_IndexFunc__api_Part_api_Part_f11_ft fu, inode_Drop_1_ft fu] fu Go.Proofs.Try.f34 slices_DeleteFunc__api_Part_api_Part_o0f11_fa t = (slices_DeleteFunc__api_Part_api_Part_o0f11_ft fu).spec t := fun t => by kernel_rfl
theorem slices_DeleteFunc__api_Part_api_Part_o0f11_told (fu : Nat) : Told Go.Proofs.Try.prog (slices_DeleteFunc__api_Part_api_Part_o0f11_ft fu) := told_of (allT_cons (slices_IndexFunc__api_Part_api_Part_f11_told fu) (allT_cons (inode_Drop_1_told fu) allT_nil)) mixed Go.Proofs.Try.func34 (by kernel_rfl) (by kernel_rfl) (slices_DeleteFunc__api_Part_api_Part_o0f11_eq fu)

def inode_Drop (fu : Nat) (t : (List ((Int × (Int × (Bool × (Bool × (Int × (List ((Int × Int)) × (Int × List ((List UInt8 × Int)))))))))) × Int)) (id : Int) : Option ((List ((Int × (Int × (Bool × (Bool × (Int × (List ((Int × Int)) × (Int × List ((List UInt8 × Int)))))))))) × (Int × (List ((Int × Int)) × Int)))) :=
  (inode_copied_P fu (t.1, t.2)).bind fun r =>
  (inode_Right fu (t.1, t.2)).bind fun r1 =>
  bif (!r1) then
    (unrefL (unrefD [⟨0, (.pair (.int .i64) (.int .i64)), (List.map frz1 r.2.2)⟩] (.pair (.int .i64) (.pair (.int .i64) (.pair .bool (.pair .bool (.pair (.int .i64) (.pair (.ref 0 (.pair (.int .i64) (.int .i64))) (.pair (.int .i64) (.sl (.pair .str (.int .i64))))))))))) r.2.1).bind fun l3 =>
    some (l3, (r.1, ([], 180)))
  else
    Option.bind (α := ((Bool × (Int × (Int × (List ((Int × (Int × (Bool × (Bool × (Int × ((List ((Int × Int)) ⊕ Option (Nat × (Nat × Nat))) × (Int × List ((List UInt8 × Int)))))))))) × List ((Nat × List ((Int × Int)))))))))) (
      bif (id == 1) then
        some (true, (0, (r.1, (r.2.1, r.2.2))))
      else
        (inode_is fu (t.1, t.2) id true).bind fun r2 =>
        bif (!r2) then
          (inode_is fu (t.1, t.2) id false).bind fun r3 =>
          some ((!r3), (0, (r.1, (r.2.1, r.2.2))))
        else
          some (false, (0, (r.1, (r.2.1, r.2.2))))) fun o =>
    bif o.1 then
      (unrefL (unrefD [⟨0, (.pair (.int .i64) (.int .i64)), (List.map frz1 o.2.2.2.2)⟩] (.pair (.int .i64) (.pair (.int .i64) (.pair .bool (.pair .bool (.pair (.int .i64) (.pair (.ref 0 (.pair (.int .i64) (.int .i64))) (.pair (.int .i64) (.sl (.pair .str (.int .i64))))))))))) o.2.2.2.1).bind fun l4 =>
      some (l4, (o.2.2.1, ([], 2)))
    else
      (idx? (IntKind.wrap .i64 (id - 1)) o.2.2.2.1.length).bind fun q =>
      Option.bind (α := ((Nat × (Int × (Int × (List ((Int × (Int × (Bool × (Bool × (Int × ((List ((Int × Int)) ⊕ Option (Nat × (Nat × Nat))) × (Int × List ((List UInt8 × Int)))))))))) × (List ((Int × Int)) × List ((Nat × List ((Int × Int))))))))))) (
        (o.2.2.2.1)[q]?.bind fun r4 =>
        (openM o.2.2.2.2 r4.2.2.2.2.2.1).bind fun m =>
        (slices_DeleteFunc__api_Part_api_Part_o0f11 fu m.1).bind fun r5 =>
        match r5 with
        | .inl r6 =>
          some (q, (o.2.1, (o.2.2.1, (o.2.2.2.1, (r6, m.2)))))
        | .inr r7 =>
          some (q, (o.2.1, (o.2.2.1, (o.2.2.2.1, (r7, m.2)))))) fun o1 =>
      (o1.2.2.2.1)[o1.1]?.bind fun r8 =>
      (o1.2.2.2.1)[o1.1]?.bind fun r9 =>
      (unrefL (unrefD [⟨0, (.pair (.int .i64) (.int .i64)), (List.map frz1 o1.2.2.2.2.2)⟩] (.pair (.int .i64) (.pair (.int .i64) (.pair .bool (.pair .bool (.pair (.int .i64) (.pair (.ref 0 (.pair (.int .i64) (.int .i64))) (.pair (.int .i64) (.sl (.pair .str (.int .i64))))))))))) (List.set o1.2.2.2.1 o1.1 (id, (r8.2.1, (false, (false, (0, ((.inr none), (0, []))))))))).bind fun l5 =>
      some (l5, (o1.2.2.1, (o1.2.2.2.2.1, 0)))
def inode_Drop_fa : FnA := ⟨.two (.reg [(0, { ids := [100] }), (1, { ids := [101] })]) (.two (.reg [(1, { ids := [102, 999984] }), (2, { ids := [103] })]) (.two (.one (.two (.reg [(1, { fn := 1 })]) (.two (.leaf) (.two (.join ⟨[4, 7, 17], ⟨(.cons (.own 0 101 0 0) (.cons (.own 0 103 0 0) (.cons (.p .bool) .nil))), [(101, false, (.vars (.cons (.nilp (.slice none 0 0)) (.cons (.p (.int .i64)) .nil)))), (103, false, (.vars (.cons (.slf 8 102) (.cons (.p (.int .i64)) .nil)))), (102, false, (.rows 30 (.pair (.int .i64) (.pair (.int .i64) (.pair .bool (.pair .bool (.pair (.int .i64) (.pair (.ref 0 (.pair (.int .i64) (.int .i64))) (.pair (.int .i64) (.sl (.pair .str (.int .i64)))))))))))), (999984, false, (.fam 64 (.pair (.int .i64) (.int .i64))))]⟩⟩ false [] (.reg [(5, { fn := 2 }), (10, { fn := 2 })])) (.two (.leaf) (.leaf)))))) (.two (.leaf) (.two (.join ⟨[4, 7, 8, 9], ⟨(.cons (.own 0 101 0 0) (.cons (.own 0 103 0 0) (.cons (.ownx 8 102 0) (.cons (.slf 2 100074) .nil)))), [(101, false, (.vars (.cons (.nilp (.slice none 0 0)) (.cons (.p (.int .i64)) .nil)))), (103, false, (.vars (.cons (.slf 8 102) (.cons (.p (.int .i64)) .nil)))), (102, false, (.rows 30 (.pair (.int .i64) (.pair (.int .i64) (.pair .bool (.pair .bool (.pair (.int .i64) (.pair (.ref 0 (.pair (.int .i64) (.int .i64))) (.pair (.int .i64) (.sl (.pair .str (.int .i64)))))))))))), (100074, false, (.rows 64 (.pair (.int .i64) (.int .i64)))), (999984, false, (.fam 64 (.pair (.int .i64) (.int .i64))))]⟩⟩ false [] (.reg [(4, { ids := [104], sh := [100074], md := [74, 0], fn := 3 })])) (.two (.leaf) (.leaf)))))), ⟨(.cons (.p (.pair (.sl (.pair (.int .i64) (.pair (.int .i64) (.pair .bool (.pair .bool (.pair (.int .i64) (.pair (.sl (.pair (.int .i64) (.int .i64))) (.pair (.int .i64) (.sl (.pair .str (.int .i64))))))))))) (.int .i64))) (.cons (.p (.int .i64)) .nil)), []⟩, [⟨(.cons (.agg (.cons (.p (.sl (.pair (.int .i64) (.pair (.int .i64) (.pair .bool (.pair .bool (.pair (.int .i64) (.pair (.sl (.pair (.int .i64) (.int .i64))) (.pair (.int .i64) (.sl (.pair .str (.int .i64)))))))))))) (.cons (.p (.int .i64)) .nil))) (.cons (.p (.sl (.pair (.int .i64) (.int .i64)))) (.cons (.p (.int .i64)) .nil))), []⟩], [1, 1, 0]⟩
def inode_Drop_ft (fu : Nat) : FnT := ⟨10, ⟨(.cons (.p (.pair (.sl (.pair (.int .i64) (.pair (.int .i64) (.pair .bool (.pair .bool (.pair (.int .i64) (.pair (.sl (.pair (.int .i64) (.int .i64))) (.pair (.int .i64) (.sl (.pair .str (.int .i64))))))))))) (.int .i64))) (.cons (.p (.int .i64)) .nil)), []⟩, [⟨(.cons (.agg (.cons (.p (.sl (.pair (.int .i64) (.pair (.int .i64) (.pair .bool (.pair .bool (.pair (.int .i64) (.pair (.sl (.pair (.int .i64) (.int .i64))) (.pair (.int .i64) (.sl (.pair .str (.int .i64)))))))))))) (.cons (.p (.int .i64)) .nil))) (.cons (.p (.sl (.pair (.int .i64) (.int .i64)))) (.cons (.p (.int .i64)) .nil))), []⟩], fun t => inode_Drop fu t.1 t.2⟩
theorem inode_Drop_eq (fu : Nat) : ∀ t, evF Go.Proofs.Try.prog [inode_copied_P_ft fu, inode_Right_ft fu, inode_is_ft fu, slices_DeleteFunc__api_Part_api_Part_o0f11_ft fu] fu Go.Proofs.Try.f10 inode_Drop_fa t = (inode_Drop_ft fu).spec t := fun t => by kernel_rfl
theorem inode_Drop_told (fu : Nat) : Told Go.Proofs.Try.prog (inode_Drop_ft fu) := told_of (allT_cons (inode_copied_P_told fu) (allT_cons (inode_Right_told fu) (allT_cons (inode_is_told fu) (allT_cons (slices_DeleteFunc__api_Part_api_Part_o0f11_told fu) allT_nil)))) mixed Go.Proofs.Try.func10 (by kernel_rfl) (by kernel_rfl) (inode_Drop_eq fu)

def inode_Get (fu : Nat) (t : (List ((Int × (Int × (Bool × (Bool × (Int × (List ((Int × Int)) × (Int × List ((List UInt8 × Int)))))))))) × Int)) (h : (Int × Int)) : Option ((Int × (Int × (Bool × (Bool × (Int × (List ((Int × Int)) × (Int × (List ((List UInt8 × Int)) × Int))))))))) :=
  Option.bind (α := ((Bool × (List ((Int × (Int × (Bool × (Bool × (Int × (List ((Int × Int)) × (Int × List ((List UInt8 × Int)))))))))) × (Int × (Int × (Int × (Int × (Int × (Bool × (Bool × (Int × Int)))))))))))) (
    bif (decide (h.1 < 1)) then
      some (true, (t.1, (t.2, (h.1, (h.2, (0, (0, (false, (false, (0, 0))))))))))
    else
      some ((decide (h.1 > ((t.1.length : Nat) : Int))), (t.1, (t.2, (h.1, (h.2, (0, (0, (false, (false, (0, 0))))))))))) fun o =>
  bif o.1 then
    some (0, (0, (false, (false, (0, ([], (0, ([], 170))))))))
  else
    (idx? (IntKind.wrap .i64 (o.2.2.2.1 - 1)) o.2.1.length).bind fun q =>
    (o.2.1)[q]?.bind fun r =>
    Option.bind (α := ((Bool × (Int × (Int × (Bool × (Bool × (Int × (Int × (Int × (Int × (Bool × (Bool × (Int × (List ((Int × Int)) × (Int × List ((List UInt8 × Int)))))))))))))))))) (
      bif (!r.2.2.1) then
        some (true, (o.2.2.2.2.2.1, (o.2.2.2.2.2.2.1, (o.2.2.2.2.2.2.2.1, (o.2.2.2.2.2.2.2.2.1, (o.2.2.2.2.2.2.2.2.2.1, (o.2.2.2.2.2.2.2.2.2.2, (r.1, (r.2.1, (r.2.2.1, (r.2.2.2.1, (r.2.2.2.2.1, (r.2.2.2.2.2.1, (r.2.2.2.2.2.2.1, r.2.2.2.2.2.2.2))))))))))))))
      else
        some ((!(r.2.1 == o.2.2.2.2.1)), (o.2.2.2.2.2.1, (o.2.2.2.2.2.2.1, (o.2.2.2.2.2.2.2.1, (o.2.2.2.2.2.2.2.2.1, (o.2.2.2.2.2.2.2.2.2.1, (o.2.2.2.2.2.2.2.2.2.2, (r.1, (r.2.1, (r.2.2.1, (r.2.2.2.1, (r.2.2.2.2.1, (r.2.2.2.2.2.1, (r.2.2.2.2.2.2.1, r.2.2.2.2.2.2.2))))))))))))))) fun o1 =>
    bif o1.1 then
      some (0, (0, (false, (false, (0, ([], (0, ([], 170))))))))
    else
      (inode_own fu (o1.2.2.2.2.2.2.2.1, (o1.2.2.2.2.2.2.2.2.1, (o1.2.2.2.2.2.2.2.2.2.1, (o1.2.2.2.2.2.2.2.2.2.2.1, (o1.2.2.2.2.2.2.2.2.2.2.2.1, (o1.2.2.2.2.2.2.2.2.2.2.2.2.1, (o1.2.2.2.2.2.2.2.2.2.2.2.2.2.1, o1.2.2.2.2.2.2.2.2.2.2.2.2.2.2)))))))).bind fun r1 =>
      some (r1.1, (r1.2.1, (r1.2.2.1, (r1.2.2.2.1, (r1.2.2.2.2.1, (r1.2.2.2.2.2.2.1, (r1.2.2.2.2.2.1, (r1.2.2.2.2.2.2.2, 0))))))))
def inode_Get_fa : FnA := ⟨.two (.reg [(0, { ids := [100] }), (1, { ids := [101] }), (2, { ids := [102] })]) (.two (.two (.join ⟨[2, 3, 4, 17], ⟨(.cons (.own 0 100 0 0) (.cons (.own 0 101 0 0) (.cons (.own 0 102 0 0) (.cons (.p .bool) .nil)))), [(100, false, (.vars (.cons (.p (.sl (.pair (.int .i64) (.pair (.int .i64) (.pair .bool (.pair .bool (.pair (.int .i64) (.pair (.sl (.pair (.int .i64) (.int .i64))) (.pair (.int .i64) (.sl (.pair .str (.int .i64)))))))))))) (.cons (.p (.int .i64)) .nil)))), (101, false, (.vars (.cons (.p (.int .i64)) (.cons (.p (.int .i64)) .nil)))), (102, false, (.vars (.cons (.p (.int .i64)) (.cons (.p (.int .i64)) (.cons (.p .bool) (.cons (.p .bool) (.cons (.p (.int .i64)) (.cons (.nilp (.slice none 0 0)) (.cons (.p (.int .i64)) (.cons (.nilp (.slice none 0 0)) .nil))))))))))]⟩⟩ false [] (.leaf)) (.two (.leaf) (.leaf))) (.two (.reg [(7, { ids := [103] })]) (.two (.two (.join ⟨[4, 6, 35], ⟨(.cons (.own 0 102 0 0) (.cons (.own 0 103 0 0) (.cons (.p .bool) .nil))), [(102, false, (.vars (.cons (.p (.int .i64)) (.cons (.p (.int .i64)) (.cons (.p .bool) (.cons (.p .bool) (.cons (.p (.int .i64)) (.cons (.nilp (.slice none 0 0)) (.cons (.p (.int .i64)) (.cons (.nilp (.slice none 0 0)) .nil)))))))))), (103, false, (.vars (.cons (.p (.int .i64)) (.cons (.p (.int .i64)) (.cons (.p .bool) (.cons (.p .bool) (.cons (.p (.int .i64)) (.cons (.p (.sl (.pair (.int .i64) (.int .i64)))) (.cons (.p (.int .i64)) (.cons (.p (.sl (.pair .str (.int .i64)))) .nil))))))))))]⟩⟩ false [] (.leaf)) (.two (.leaf) (.leaf))) (.two (.reg [(1, { ids := [104, 105] })]) (.leaf))))), ⟨(.cons (.p (.pair (.sl (.pair (.int .i64) (.pair (.int .i64) (.pair .bool (.pair .bool (.pair (.int .i64) (.pair (.sl (.pair (.int .i64) (.int .i64))) (.pair (.int .i64) (.sl (.pair .str (.int .i64))))))))))) (.int .i64))) (.cons (.p (.pair (.int .i64) (.int .i64))) .nil)), []⟩, [⟨(.cons (.agg (.cons (.p (.int .i64)) (.cons (.p (.int .i64)) (.cons (.p .bool) (.cons (.p .bool) (.cons (.p (.int .i64)) (.cons (.p (.sl (.pair (.int .i64) (.int .i64)))) (.cons (.p (.int .i64)) (.cons (.p (.sl (.pair .str (.int .i64)))) .nil))))))))) (.cons (.p (.int .i64)) .nil)), []⟩], [1, 0]⟩
def inode_Get_ft (fu : Nat) : FnT := ⟨13, ⟨(.cons (.p (.pair (.sl (.pair (.int .i64) (.pair (.int .i64) (.pair .bool (.pair .bool (.pair (.int .i64) (.pair (.sl (.pair (.int .i64) (.int .i64))) (.pair (.int .i64) (.sl (.pair .str (.int .i64))))))))))) (.int .i64))) (.cons (.p (.pair (.int .i64) (.int .i64))) .nil)), []⟩, [⟨(.cons (.agg (.cons (.p (.int .i64)) (.cons (.p (.int .i64)) (.cons (.p .bool) (.cons (.p .bool) (.cons (.p (.int .i64)) (.cons (.p (.sl (.pair (.int .i64) (.int .i64)))) (.cons (.p (.int .i64)) (.cons (.p (.sl (.pair .str (.int .i64)))) .nil))))))))) (.cons (.p (.int .i64)) .nil)), []⟩], fun t => inode_Get fu t.1 t.2⟩
theorem inode_Get_eq (fu : Nat) : ∀ t, evF Go.Proofs.Try.prog [inode_own_ft fu] fu Go.Proofs.Try.f13 inode_Get_fa t = (inode_Get_ft fu).spec t := fun t => by kernel_rfl
theorem inode_Get_told (fu : Nat) : Told Go.Proofs.Try.prog (inode_Get_ft fu) := told_of (allT_cons (inode_own_told fu) allT_nil) mixed Go.Proofs.Try.func13 (by kernel_rfl) (by kernel_rfl) (inode_Get_eq fu)

def low_SameInts_l0 (fu : Nat) (a : List (Int)) (b : List (Int)) (i : Int) : Option (Int ⊕ (Unit ⊕ Bool)) :=
  bif (decide (i < ((a.length : Nat) : Int))) then
    (idx? i a.length).bind fun q =>
    (a)[q]?.bind fun r =>
    (idx? i b.length).bind fun q1 =>
    (b)[q1]?.bind fun r1 =>
    bif (!(r == r1)) then
      some (.inr (.inr false))
    else
      some (.inl (IntKind.wrap .i64 (i + 1)))
  else
    some (.inr (.inl ()))
def low_SameInts_l0_it (fu : Nat) (a : List (Int)) (b : List (Int)) (tt : Int) : Option (Unit ⊕ Bool) :=
  iter fu (fun tt => low_SameInts_l0 fu a b tt) tt
def low_SameInts (fu : Nat) (a : List (Int)) (b : List (Int)) : Option (Bool) :=
  bif (!(((a.length : Nat) : Int) == ((b.length : Nat) : Int))) then
    some false
  else
    (low_SameInts_l0_it fu a b 0).bind fun o =>
    match o with
    | .inl s =>
      some true
    | .inr o1 =>
      some o1
def low_SameInts_fa : FnA := ⟨.two (.leaf) (.two (.two (.leaf) (.two (.leaf) (.leaf))) (.two (.two (.leaf) (.one (.loop ⟨[5], ⟨(.cons (.p (.int .i64)) .nil), []⟩⟩ true [(0, ⟨[], ⟨.nil, []⟩⟩)] (.two (.two (.leaf) (.leaf)) (.two (.one (.two (.leaf) (.two (.leaf) (.leaf)))) (.leaf)))))) (.leaf))), ⟨(.cons (.p (.sl (.int .i64))) (.cons (.p (.sl (.int .i64))) .nil)), []⟩, [⟨(.cons (.p .bool) .nil), []⟩], [0]⟩
def low_SameInts_ft (fu : Nat) : FnT := ⟨27, ⟨(.cons (.p (.sl (.int .i64))) (.cons (.p (.sl (.int .i64))) .nil)), []⟩, [⟨(.cons (.p .bool) .nil), []⟩], fun t => low_SameInts fu t.1 t.2⟩
theorem low_SameInts_eq (fu : Nat) : ∀ t, evF Go.Proofs.Try.prog [] fu Go.Proofs.Try.f27 low_SameInts_fa t = (low_SameInts_ft fu).spec t := fun t => by kernel_rfl
theorem low_SameInts_told (fu : Nat) : Told Go.Proofs.Try.prog (low_SameInts_ft fu) := told_of allT_nil mixed Go.Proofs.Try.func27 (by kernel_rfl) (by kernel_rfl) (low_SameInts_eq fu)

def law18_awake (fu : Nat)  : Option (Bool) :=
  (inode_New fu).bind fun r =>
  (inode_Alloc fu (r.2, r.1) false 1).bind fun r1 =>
  (inode_Drop fu (r1.2.2.2.2, r1.1) 2).bind fun r2 =>
  (inode_Get fu (r2.1, r2.2.1) (r1.2.1, r1.2.2.1)).bind fun r3 =>
  (inode_Alloc fu (r2.1, r2.2.1) false 1).bind fun r4 =>
  (inode_Fresh fu (r4.2.2.2.2, r4.1) 3).bind fun r5 =>
  (inode_Fresh fu (r5.2.2.1, r5.1) 1).bind fun r6 =>
  bif ((IntKind.wrap .i64 ((IntKind.wrap .i64 ((IntKind.wrap .i64 ((IntKind.wrap .i64 (r1.2.2.2.1 + r2.2.2.2)) + r4.2.2.2.1)) + r5.2.1)) + r6.2.1)) == 0) then
    bif ((r1.2.1 == 2) && (r1.2.2.1 == 1)) then
      bif (r3.2.2.2.2.2.2.2.2 == 170) then
        bif ((r4.2.1 == 2) && (r4.2.2.1 == 2)) then
          (low_SameInts fu r5.2.2.2 [1, 2, 3]).bind fun r7 =>
          bif r7 then
            (low_SameInts fu r6.2.2.2 [4]).bind fun r8 =>
            some r8
          else
            some false
        else
          some false
      else
        some false
    else
      some false
  else
    some false
def law18_awake_fa : FnA := ⟨.two (.leaf) (.two (.reg [(0, { ids := [100] }), (1, { ids := [101], md := [1, 0, 0], fn := 1 }), (6, { ids := [102] }), (7, { ids := [103] })]) (.two (.reg [(1, { md := [1, 0], fn := 2 }), (6, { ids := [104] })]) (.two (.reg [(2, { fn := 3 }), (6, { ids := [105] })]) (.two (.reg [(1, { ids := [106], fn := 1 }), (6, { ids := [107] }), (7, { ids := [108] })]) (.two (.reg [(1, { ids := [109, 110], md := [1, 0], fn := 4 })]) (.two (.reg [(1, { ids := [111, 112], md := [1, 0], fn := 4 }), (6, { ids := [113] })]) (.two (.reg [(26, { ids := [114] }), (27, { md := [2, 2], fn := 5 }), (31, { ids := [115] }), (32, { md := [2, 2], fn := 5 })]) (.leaf)))))))), ⟨.nil, []⟩, [⟨(.cons (.p .bool) .nil), []⟩], [0]⟩
def law18_awake_ft (fu : Nat) : FnT := ⟨11, ⟨.nil, []⟩, [⟨(.cons (.p .bool) .nil), []⟩], fun t => law18_awake fu ⟩
theorem law18_awake_eq (fu : Nat) : ∀ t, evF Go.Proofs.Try.prog [inode_New_ft fu, inode_Alloc_ft fu, inode_Drop_ft fu, inode_Get_ft fu, inode_Fresh_ft fu, low_SameInts_ft fu] fu Go.Proofs.Try.f11 law18_awake_fa t = (law18_awake_ft fu).spec t := fun t => by kernel_rfl
theorem law18_awake_told (fu : Nat) : Told Go.Proofs.Try.prog (law18_awake_ft fu) := told_of (allT_cons (inode_New_told fu) (allT_cons (inode_Alloc_told fu) (allT_cons (inode_Drop_told fu) (allT_cons (inode_Get_told fu) (allT_cons (inode_Fresh_told fu) (allT_cons (low_SameInts_told fu) allT_nil)))))) mixed Go.Proofs.Try.func11 (by kernel_rfl) (by kernel_rfl) (law18_awake_eq fu)

def law18_InodeFresh_l0 (fu : Nat) (o2 : (Bool × (Int × (List ((Int × (Int × (Bool × (Bool × (Int × (List ((Int × Int)) × (Int × List ((List UInt8 × Int)))))))))) × (Int × (Int × (Int × (Int × (Int × (List ((Int × (Int × (Bool × (Bool × (Int × (List ((Int × Int)) × (Int × List ((List UInt8 × Int)))))))))) × List (Int))))))))))) (last1 : Int) (x : Int) (h6 : Int) (h7 : List ((Int × (Int × (Bool × (Bool × (Int × (List ((Int × Int)) × (Int × List ((List UInt8 × Int))))))))))) (h8 : Int) (h9 : Int) (h10 : Int) (h11 : Int) (h12 : Int) (h13 : List ((Int × (Int × (Bool × (Bool × (Int × (List ((Int × Int)) × (Int × List ((List UInt8 × Int))))))))))) (h14 : List (Int)) : Option ((Int × (Int × (Int × (List ((Int × (Int × (Bool × (Bool × (Int × (List ((Int × Int)) × (Int × List ((List UInt8 × Int)))))))))) × (Int × (Int × (Int × (Int × (Int × (List ((Int × (Int × (Bool × (Bool × (Int × (List ((Int × Int)) × (Int × List ((List UInt8 × Int)))))))))) × List (Int))))))))))) ⊕ ((Int × (Int × (List ((Int × (Int × (Bool × (Bool × (Int × (List ((Int × Int)) × (Int × List ((List UInt8 × Int)))))))))) × (Int × (Int × (Int × (Int × (Int × List ((Int × (Int × (Bool × (Bool × (Int × (List ((Int × Int)) × (Int × List ((List UInt8 × Int)))))))))))))))))) ⊕ ((Int × (Int × (Int × (List ((Int × (Int × (Bool × (Bool × (Int × (List ((Int × Int)) × (Int × List ((List UInt8 × Int)))))))))) × (Int × (Int × (Int × Int))))))) ⊕ ((Int × (Int × (List ((Int × (Int × (Bool × (Bool × (Int × (List ((Int × Int)) × (Int × List ((List UInt8 × Int)))))))))) × (Int × (Int × (Int × Int)))))) ⊕ Bool)))) :=
  bif (decide (x < ((o2.2.2.2.2.2.2.2.2.2.length : Nat) : Int))) then
    (idx? x h14.length).bind fun q2 =>
    (h14)[q2]?.bind fun r6 =>
    bif (!(r6 == (IntKind.wrap .i64 (last1 + 1)))) then
      some (.inr (.inr (.inr (.inr false))))
    else
      some (.inl (r6, ((IntKind.wrap .i64 (x + 1)), (h6, (h7, (h8, (h9, (h10, (h11, (h12, (h13, h14)))))))))))
  else
    some (.inr (.inl (last1, (h6, (h7, (h8, (h9, (h10, (h11, (h12, h13))))))))))
def law18_InodeFresh_l0_it (fu : Nat) (o2 : (Bool × (Int × (List ((Int × (Int × (Bool × (Bool × (Int × (List ((Int × Int)) × (Int × List ((List UInt8 × Int)))))))))) × (Int × (Int × (Int × (Int × (Int × (List ((Int × (Int × (Bool × (Bool × (Int × (List ((Int × Int)) × (Int × List ((List UInt8 × Int)))))))))) × List (Int))))))))))) (tt : (Int × (Int × (Int × (List ((Int × (Int × (Bool × (Bool × (Int × (List ((Int × Int)) × (Int × List ((List UInt8 × Int)))))))))) × (Int × (Int × (Int × (Int × (Int × (List ((Int × (Int × (Bool × (Bool × (Int × (List ((Int × Int)) × (Int × List ((List UInt8 × Int)))))))))) × List (Int)))))))))))) : Option ((Int × (Int × (List ((Int × (Int × (Bool × (Bool × (Int × (List ((Int × Int)) × (Int × List ((List UInt8 × Int)))))))))) × (Int × (Int × (Int × (Int × (Int × List ((Int × (Int × (Bool × (Bool × (Int × (List ((Int × Int)) × (Int × List ((List UInt8 × Int)))))))))))))))))) ⊕ ((Int × (Int × (Int × (List ((Int × (Int × (Bool × (Bool × (Int × (List ((Int × Int)) × (Int × List ((List UInt8 × Int)))))))))) × (Int × (Int × (Int × Int))))))) ⊕ ((Int × (Int × (List ((Int × (Int × (Bool × (Bool × (Int × (List ((Int × Int)) × (Int × List ((List UInt8 × Int)))))))))) × (Int × (Int × (Int × Int)))))) ⊕ Bool))) :=
  iter fu (fun tt => law18_InodeFresh_l0 fu o2 tt.1 tt.2.1 tt.2.2.1 tt.2.2.2.1 tt.2.2.2.2.1 tt.2.2.2.2.2.1 tt.2.2.2.2.2.2.1 tt.2.2.2.2.2.2.2.1 tt.2.2.2.2.2.2.2.2.1 tt.2.2.2.2.2.2.2.2.2.1 tt.2.2.2.2.2.2.2.2.2.2) tt
def law18_InodeFresh_l1 (fu : Nat) (l : List (UInt8)) (last : Int) (i : Int) (h : Int) (h1 : List ((Int × (Int × (Bool × (Bool × (Int × (List ((Int × Int)) × (Int × List ((List UInt8 × Int))))))))))) (h2 : Int) (h3 : Int) (h4 : Int) (h5 : Int) : Option ((Int × (Int × (Int × (List ((Int × (Int × (Bool × (Bool × (Int × (List ((Int × Int)) × (Int × List ((List UInt8 × Int)))))))))) × (Int × (Int × (Int × Int))))))) ⊕ ((Int × (Int × (List ((Int × (Int × (Bool × (Bool × (Int × (List ((Int × Int)) × (Int × List ((List UInt8 × Int)))))))))) × (Int × (Int × (Int × Int)))))) ⊕ Bool)) :=
  Option.bind (α := ((Bool × (Int × (List ((Int × (Int × (Bool × (Bool × (Int × (List ((Int × Int)) × (Int × List ((List UInt8 × Int)))))))))) × (Int × (Int × (Int × Int)))))))) (
    bif (decide (i < ((l.length : Nat) : Int))) then
      some ((decide (i < 20)), (h, (h1, (h2, (h3, (h4, h5))))))
    else
      some (false, (h, (h1, (h2, (h3, (h4, h5))))))) fun o1 =>
  bif o1.1 then
    (idx? i l.length).bind fun q =>
    (l)[q]?.bind fun r3 =>
    (inode_Fresh fu (o1.2.2.1, o1.2.1) (IntKind.wrap .i64 (Int.tmod ((r3.toNat : Nat) : Int) 10))).bind fun r4 =>
    Option.bind (α := ((Bool × (Int × (List ((Int × (Int × (Bool × (Bool × (Int × (List ((Int × Int)) × (Int × List ((List UInt8 × Int)))))))))) × (Int × (Int × (Int × (Int × (Int × (List ((Int × (Int × (Bool × (Bool × (Int × (List ((Int × Int)) × (Int × List ((List UInt8 × Int)))))))))) × List (Int)))))))))))) (
      bif (!(r4.2.1 == 0)) then
        some (true, (o1.2.1, (o1.2.2.1, (o1.2.2.2.1, (o1.2.2.2.2.1, (o1.2.2.2.2.2.1, (o1.2.2.2.2.2.2, (r4.1, (r4.2.2.1, r4.2.2.2)))))))))
      else
        (idx? i l.length).bind fun q1 =>
        (l)[q1]?.bind fun r5 =>
        some ((!(((r4.2.2.2.length : Nat) : Int) == (IntKind.wrap .i64 (Int.tmod ((r5.toNat : Nat) : Int) 10)))), (o1.2.1, (o1.2.2.1, (o1.2.2.2.1, (o1.2.2.2.2.1, (o1.2.2.2.2.2.1, (o1.2.2.2.2.2.2, (r4.1, (r4.2.2.1, r4.2.2.2)))))))))) fun o2 =>
    bif o2.1 then
      some (.inr (.inr false))
    else
      (law18_InodeFresh_l0_it fu o2 (last, (0, (o2.2.1, (o2.2.2.1, (o2.2.2.2.1, (o2.2.2.2.2.1, (o2.2.2.2.2.2.1, (o2.2.2.2.2.2.2.1, (o2.2.2.2.2.2.2.2.1, (o2.2.2.2.2.2.2.2.2.1, o2.2.2.2.2.2.2.2.2.2))))))))))).bind fun o3 =>
      match o3 with
      | .inl s =>
        some (.inl (s.1, ((IntKind.wrap .i64 (i + 1)), (s.2.2.2.2.2.2.2.1, (s.2.2.2.2.2.2.2.2, (s.2.2.2.1, (s.2.2.2.2.1, (s.2.2.2.2.2.1, s.2.2.2.2.2.2.1))))))))
      | .inr o4 =>
        some o4
  else
    some (.inr (.inl (last, (o1.2.1, (o1.2.2.1, (o1.2.2.2.1, (o1.2.2.2.2.1, (o1.2.2.2.2.2.1, o1.2.2.2.2.2.2))))))))
def law18_InodeFresh_l1_it (fu : Nat) (l : List (UInt8)) (tt : (Int × (Int × (Int × (List ((Int × (Int × (Bool × (Bool × (Int × (List ((Int × Int)) × (Int × List ((List UInt8 × Int)))))))))) × (Int × (Int × (Int × Int)))))))) : Option ((Int × (Int × (List ((Int × (Int × (Bool × (Bool × (Int × (List ((Int × Int)) × (Int × List ((List UInt8 × Int)))))))))) × (Int × (Int × (Int × Int)))))) ⊕ Bool) :=
  iter fu (fun tt => law18_InodeFresh_l1 fu l tt.1 tt.2.1 tt.2.2.1 tt.2.2.2.1 tt.2.2.2.2.1 tt.2.2.2.2.2.1 tt.2.2.2.2.2.2.1 tt.2.2.2.2.2.2.2) tt
def law18_InodeFresh (fu : Nat) (l : List (UInt8)) : Option (Bool) :=
  (inode_New fu).bind fun r =>
  (inode_Alloc fu (r.2, r.1) false 1).bind fun r1 =>
  (inode_Alloc fu (r1.2.2.2.2, r1.1) false 1).bind fun r2 =>
  Option.bind (α := ((Bool × (Int × (List ((Int × (Int × (Bool × (Bool × (Int × (List ((Int × Int)) × (Int × List ((List UInt8 × Int)))))))))) × (Int × (Int × (Int × Int)))))))) (
    bif (!(r1.2.2.2.1 == 0)) then
      some (true, (r2.1, (r2.2.2.2.2, (r1.2.1, (r1.2.2.1, (r2.2.1, r2.2.2.1))))))
    else
      some ((!(r2.2.2.2.1 == 0)), (r2.1, (r2.2.2.2.2, (r1.2.1, (r1.2.2.1, (r2.2.1, r2.2.2.1))))))) fun o =>
  bif o.1 then
    some false
  else
    (law18_InodeFresh_l1_it fu l (0, (0, (o.2.1, (o.2.2.1, (o.2.2.2.1, (o.2.2.2.2.1, (o.2.2.2.2.2.1, o.2.2.2.2.2.2)))))))).bind fun o5 =>
    match o5 with
    | .inl s1 =>
      (inode_Set fu (s1.2.2.1, s1.2.1) s1.2.2.2.1 5 [((IntKind.wrap .i64 (s1.1 + 1)), 1)]).bind fun r7 =>
      bif (s1.1 == 0) then
        Option.bind (α := (Bool)) (
          bif (r7.2.1 == 177) then
            (law18_awake fu).bind fun r8 =>
            some r8
          else
            some false) fun o7 =>
        some o7
      else
        (inode_Set fu (s1.2.2.1, s1.2.1) s1.2.2.2.1 5 [(s1.1, 1)]).bind fun r9 =>
        (inode_Set fu (r9.2.2, r9.1) s1.2.2.2.2.2.1 5 [(s1.1, 1)]).bind fun r10 =>
        (inode_Set fu (r9.2.2, r9.1) s1.2.2.2.2.2.1 5 [(0, 0), (0, 0)]).bind fun r11 =>
        bif (r7.2.1 == 177) then
          bif (r9.2.1 == 0) then
            bif (r10.2.1 == 177) then
              bif (r11.2.1 == 0) then
                (law18_awake fu).bind fun r12 =>
                some r12
              else
                some false
            else
              some false
          else
            some false
        else
          some false
    | .inr o6 =>
      some o6
def law18_InodeFresh_fa : FnA := ⟨.two (.leaf) (.two (.reg [(0, { ids := [100] }), (1, { ids := [101], md := [1, 0, 0], fn := 1 }), (6, { ids := [102] }), (7, { ids := [103] })]) (.two (.reg [(1, { ids := [104], md := [1, 0, 0], fn := 1 }), (6, { ids := [105] })]) (.two (.two (.join ⟨[3, 4, 6, 40], ⟨(.cons (.own 0 102 0 0) (.cons (.own 0 103 0 0) (.cons (.own 0 105 0 0) (.cons (.p .bool) .nil)))), [(102, false, (.vars (.cons (.slf 8 104) (.cons (.p (.int .i64)) .nil)))), (104, false, (.rows 30 (.pair (.int .i64) (.pair (.int .i64) (.pair .bool (.pair .bool (.pair (.int .i64) (.pair (.sl (.pair (.int .i64) (.int .i64))) (.pair (.int .i64) (.sl (.pair .str (.int .i64)))))))))))), (103, false, (.vars (.cons (.p (.int .i64)) (.cons (.p (.int .i64)) .nil)))), (105, false, (.vars (.cons (.p (.int .i64)) (.cons (.p (.int .i64)) .nil))))]⟩⟩ false [] (.leaf)) (.two (.leaf) (.leaf))) (.two (.leaf) (.two (.two (.leaf) (.one (.loop ⟨[3, 4, 6, 8, 9], ⟨(.cons (.own 0 102 0 0) (.cons (.own 0 103 0 0) (.cons (.own 0 105 0 0) (.cons (.p (.int .i64)) (.cons (.p (.int .i64)) .nil))))), [(102, false, (.vars (.cons (.slf 8 104) (.cons (.p (.int .i64)) .nil)))), (104, false, (.rows 30 (.pair (.int .i64) (.pair (.int .i64) (.pair .bool (.pair .bool (.pair (.int .i64) (.pair (.sl (.pair (.int .i64) (.int .i64))) (.pair (.int .i64) (.sl (.pair .str (.int .i64)))))))))))), (103, false, (.vars (.cons (.p (.int .i64)) (.cons (.p (.int .i64)) .nil)))), (105, false, (.vars (.cons (.p (.int .i64)) (.cons (.p (.int .i64)) .nil))))]⟩⟩ true [(0, ⟨[3, 4, 6, 8], ⟨(.cons (.own 0 102 0 0) (.cons (.own 0 103 0 0) (.cons (.own 0 105 0 0) (.cons (.p (.int .i64)) .nil)))), [(102, false, (.vars (.cons (.slf 8 104) (.cons (.p (.int .i64)) .nil)))), (104, false, (.rows 30 (.pair (.int .i64) (.pair (.int .i64) (.pair .bool (.pair .bool (.pair (.int .i64) (.pair (.sl (.pair (.int .i64) (.int .i64))) (.pair (.int .i64) (.sl (.pair .str (.int .i64)))))))))))), (103, false, (.vars (.cons (.p (.int .i64)) (.cons (.p (.int .i64)) .nil)))), (105, false, (.vars (.cons (.p (.int .i64)) (.cons (.p (.int .i64)) .nil))))]⟩⟩)] (.two (.two (.join ⟨[3, 4, 6, 48], ⟨(.cons (.own 0 102 0 0) (.cons (.own 0 103 0 0) (.cons (.own 0 105 0 0) (.cons (.p .bool) .nil)))), [(102, false, (.vars (.cons (.slf 8 104) (.cons (.p (.int .i64)) .nil)))), (104, false, (.rows 30 (.pair (.int .i64) (.pair (.int .i64) (.pair .bool (.pair .bool (.pair (.int .i64) (.pair (.sl (.pair (.int .i64) (.int .i64))) (.pair (.int .i64) (.sl (.pair .str (.int .i64)))))))))))), (103, false, (.vars (.cons (.p (.int .i64)) (.cons (.p (.int .i64)) .nil)))), (105, false, (.vars (.cons (.p (.int .i64)) (.cons (.p (.int .i64)) .nil))))]⟩⟩ false [] (.leaf)) (.leaf)) (.two (.one (.two (.reg [(7, { ids := [106, 107], md := [1, 0], fn := 2 }), (12, { ids := [108] })]) (.two (.two (.join ⟨[3, 4, 6, 10, 11, 75], ⟨(.cons (.own 0 102 0 0) (.cons (.own 0 103 0 0) (.cons (.own 0 105 0 0) (.cons (.own 0 108 0 0) (.cons (.slf 1 107) (.cons (.p .bool) .nil)))))), [(102, false, (.vars (.cons (.slf 8 104) (.cons (.p (.int .i64)) .nil)))), (104, true, (.rows 30 (.pair (.int .i64) (.pair (.int .i64) (.pair .bool (.pair .bool (.pair (.int .i64) (.pair (.sl (.pair (.int .i64) (.int .i64))) (.pair (.int .i64) (.sl (.pair .str (.int .i64)))))))))))), (103, false, (.vars (.cons (.p (.int .i64)) (.cons (.p (.int .i64)) .nil)))), (105, false, (.vars (.cons (.p (.int .i64)) (.cons (.p (.int .i64)) .nil)))), (108, false, (.vars (.cons (.slf 8 106) (.cons (.p (.int .i64)) .nil)))), (106, false, (.rows 30 (.pair (.int .i64) (.pair (.int .i64) (.pair .bool (.pair .bool (.pair (.int .i64) (.pair (.sl (.pair (.int .i64) (.int .i64))) (.pair (.int .i64) (.sl (.pair .str (.int .i64)))))))))))), (107, false, (.rows 3 (.int .i64)))]⟩⟩ false [] (.leaf)) (.two (.leaf) (.leaf))) (.two (.two (.leaf) (.one (.loop ⟨[3, 4, 6, 8, 10, 76, 78], ⟨(.cons (.own 0 102 0 0) (.cons (.own 0 103 0 0) (.cons (.own 0 105 0 0) (.cons (.p (.int .i64)) (.cons (.own 0 108 0 0) (.cons (.slf 1 107) (.cons (.p (.int .i64)) .nil))))))), [(102, false, (.vars (.cons (.slf 8 104) (.cons (.p (.int .i64)) .nil)))), (104, true, (.rows 30 (.pair (.int .i64) (.pair (.int .i64) (.pair .bool (.pair .bool (.pair (.int .i64) (.pair (.sl (.pair (.int .i64) (.int .i64))) (.pair (.int .i64) (.sl (.pair .str (.int .i64)))))))))))), (103, false, (.vars (.cons (.p (.int .i64)) (.cons (.p (.int .i64)) .nil)))), (105, false, (.vars (.cons (.p (.int .i64)) (.cons (.p (.int .i64)) .nil)))), (108, false, (.vars (.cons (.slf 8 106) (.cons (.p (.int .i64)) .nil)))), (106, false, (.rows 30 (.pair (.int .i64) (.pair (.int .i64) (.pair .bool (.pair .bool (.pair (.int .i64) (.pair (.sl (.pair (.int .i64) (.int .i64))) (.pair (.int .i64) (.sl (.pair .str (.int .i64)))))))))))), (107, false, (.rows 3 (.int .i64)))]⟩⟩ true [(2, ⟨[3, 4, 6, 8, 10], ⟨(.cons (.own 0 102 0 0) (.cons (.own 0 103 0 0) (.cons (.own 0 105 0 0) (.cons (.p (.int .i64)) (.cons (.own 0 108 0 0) .nil))))), [(102, false, (.vars (.cons (.slf 8 104) (.cons (.p (.int .i64)) .nil)))), (104, true, (.rows 30 (.pair (.int .i64) (.pair (.int .i64) (.pair .bool (.pair .bool (.pair (.int .i64) (.pair (.sl (.pair (.int .i64) (.int .i64))) (.pair (.int .i64) (.sl (.pair .str (.int .i64)))))))))))), (103, false, (.vars (.cons (.p (.int .i64)) (.cons (.p (.int .i64)) .nil)))), (105, false, (.vars (.cons (.p (.int .i64)) (.cons (.p (.int .i64)) .nil)))), (108, false, (.vars (.cons (.slf 8 106) (.cons (.p (.int .i64)) .nil)))), (106, false, (.rows 30 (.pair (.int .i64) (.pair (.int .i64) (.pair .bool (.pair .bool (.pair (.int .i64) (.pair (.sl (.pair (.int .i64) (.int .i64))) (.pair (.int .i64) (.sl (.pair .str (.int .i64))))))))))))]⟩⟩)] (.two (.leaf) (.two (.leaf) (.two (.one (.two (.leaf) (.two (.two (.leaf) (.two (.leaf) (.leaf))) (.leaf)))) (.leaf))))))) (.leaf))))) (.leaf)))))) (.two (.reg [(2, { ids := [109] })]) (.two (.reg [(6, { ids := [110] }), (7, { ids := [111], md := [1, 0, 0, 1], fn := 3 }), (11, { ids := [112] })]) (.two (.two (.leaf) (.two (.two (.join ⟨[2], ⟨(.cons (.p .bool) .nil), []⟩⟩ false [] (.reg [(3, { fn := 4 })])) (.leaf)) (.leaf))) (.two (.reg [(4, { ids := [113], md := [1, 0, 0, 1], fn := 3 })]) (.two (.reg [(4, { ids := [114], md := [1, 0, 0, 1], fn := 3 }), (8, { ids := [115] })]) (.two (.reg [(5, { ids := [116] }), (6, { ids := [117], md := [1, 0, 0, 1], fn := 3 }), (10, { ids := [118] })]) (.two (.reg [(15, { fn := 4 })]) (.leaf))))))))))))), ⟨(.cons (.p (.sl .byte)) .nil), []⟩, [⟨(.cons (.p .bool) .nil), []⟩], [0]⟩
def law18_InodeFresh_ft (fu : Nat) : FnT := ⟨6, ⟨(.cons (.p (.sl .byte)) .nil), []⟩, [⟨(.cons (.p .bool) .nil), []⟩], fun t => law18_InodeFresh fu t⟩
theorem law18_InodeFresh_eq (fu : Nat) : ∀ t, evF Go.Proofs.Try.prog [inode_New_ft fu, inode_Alloc_ft fu, inode_Fresh_ft fu, inode_Set_ft fu, law18_awake_ft fu] fu Go.Proofs.Try.f6 law18_InodeFresh_fa t = (law18_InodeFresh_ft fu).spec t := fun t => by kernel_rfl
theorem law18_InodeFresh_told (fu : Nat) : Told Go.Proofs.Try.prog (law18_InodeFresh_ft fu) := told_of (allT_cons (inode_New_told fu) (allT_cons (inode_Alloc_told fu) (allT_cons (inode_Fresh_told fu) (allT_cons (inode_Set_told fu) (allT_cons (law18_awake_told fu) allT_nil))))) mixed Go.Proofs.Try.func6 (by kernel_rfl) (by kernel_rfl) (law18_InodeFresh_eq fu)

def kit_Great_l0 (fu : Nat) (r2 : (Int × (Int × (Bool × (Bool × (Int × (List ((Int × Int)) × (Int × List ((List UInt8 × Int)))))))))) (x : Int) (x1 : Int) (h2 : List ((Int × (Int × (Bool × (Bool × (Int × (List ((Int × Int)) × (Int × List ((List UInt8 × Int))))))))))) (h3 : Int) : Option ((Int × (List ((Int × (Int × (Bool × (Bool × (Int × (List ((Int × Int)) × (Int × List ((List UInt8 × Int)))))))))) × Int)) ⊕ ((List ((Int × (Int × (Bool × (Bool × (Int × (List ((Int × Int)) × (Int × List ((List UInt8 × Int)))))))))) × Int) ⊕ ((Int × (List ((Int × (Int × (Bool × (Bool × (Int × (List ((Int × Int)) × (Int × List ((List UInt8 × Int)))))))))) × Int)) ⊕ (Unit ⊕ Bool)))) :=
  bif (decide (x1 < ((r2.2.2.2.2.2.2.2.length : Nat) : Int))) then
    (idx? x h2.length).bind fun q3 =>
    (h2)[q3]?.bind fun r3 =>
    (idx? x1 r3.2.2.2.2.2.2.2.length).bind fun q4 =>
    (r3.2.2.2.2.2.2.2)[q4]?.bind fun r4 =>
    bif (decide (((r4.1.length : Nat) : Int) > 3000)) then
      some (.inr (.inr (.inr (.inr true))))
    else
      some (.inl ((IntKind.wrap .i64 (x1 + 1)), (h2, h3)))
  else
    some (.inr (.inl (h2, h3)))
def kit_Great_l0_it (fu : Nat) (r2 : (Int × (Int × (Bool × (Bool × (Int × (List ((Int × Int)) × (Int × List ((List UInt8 × Int)))))))))) (x : Int) (tt : (Int × (List ((Int × (Int × (Bool × (Bool × (Int × (List ((Int × Int)) × (Int × List ((List UInt8 × Int)))))))))) × Int))) : Option ((List ((Int × (Int × (Bool × (Bool × (Int × (List ((Int × Int)) × (Int × List ((List UInt8 × Int)))))))))) × Int) ⊕ ((Int × (List ((Int × (Int × (Bool × (Bool × (Int × (List ((Int × Int)) × (Int × List ((List UInt8 × Int)))))))))) × Int)) ⊕ (Unit ⊕ Bool))) :=
  iter fu (fun tt => kit_Great_l0 fu r2 x tt.1 tt.2.1 tt.2.2) tt
def kit_Great_l1 (fu : Nat) (t : (List ((Int × (Int × (Bool × (Bool × (Int × (List ((Int × Int)) × (Int × List ((List UInt8 × Int)))))))))) × Int)) (x : Int) (h : List ((Int × (Int × (Bool × (Bool × (Int × (List ((Int × Int)) × (Int × List ((List UInt8 × Int))))))))))) (h1 : Int) : Option ((Int × (List ((Int × (Int × (Bool × (Bool × (Int × (List ((Int × Int)) × (Int × List ((List UInt8 × Int)))))))))) × Int)) ⊕ (Unit ⊕ Bool)) :=
  bif (decide (x < ((t.1.length : Nat) : Int))) then
    Option.bind (α := ((Bool × (List ((Int × (Int × (Bool × (Bool × (Int × (List ((Int × Int)) × (Int × List ((List UInt8 × Int)))))))))) × Int)))) (
      (idx? x h.length).bind fun q =>
      (h)[q]?.bind fun r =>
      bif (decide (((r.2.2.2.2.2.1.length : Nat) : Int) > 120)) then
        some (true, (h, h1))
      else
        (idx? x h.length).bind fun q1 =>
        (h)[q1]?.bind fun r1 =>
        some ((decide (((r1.2.2.2.2.2.2.2.length : Nat) : Int) > 120)), (h, h1))) fun o =>
    bif o.1 then
      some (.inr (.inr true))
    else
      (idx? x o.2.1.length).bind fun q2 =>
      (o.2.1)[q2]?.bind fun r2 =>
      (kit_Great_l0_it fu r2 x (0, (o.2.1, o.2.2))).bind fun o1 =>
      match o1 with
      | .inl s =>
        some (.inl ((IntKind.wrap .i64 (x + 1)), (s.1, s.2)))
      | .inr o2 =>
        some o2
  else
    some (.inr (.inl ()))
def kit_Great_l1_it (fu : Nat) (t : (List ((Int × (Int × (Bool × (Bool × (Int × (List ((Int × Int)) × (Int × List ((List UInt8 × Int)))))))))) × Int)) (tt : (Int × (List ((Int × (Int × (Bool × (Bool × (Int × (List ((Int × Int)) × (Int × List ((List UInt8 × Int)))))))))) × Int))) : Option (Unit ⊕ Bool) :=
  iter fu (fun tt => kit_Great_l1 fu t tt.1 tt.2.1 tt.2.2) tt
def kit_Great (fu : Nat) (t : (List ((Int × (Int × (Bool × (Bool × (Int × (List ((Int × Int)) × (Int × List ((List UInt8 × Int)))))))))) × Int)) : Option (Bool) :=
  bif (decide (((t.1.length : Nat) : Int) > 40)) then
    some true
  else
    (kit_Great_l1_it fu t (0, (t.1, t.2))).bind fun o3 =>
    match o3 with
    | .inl s1 =>
      some false
    | .inr o4 =>
      some o4
def kit_Great_fa : FnA := ⟨.two (.reg [(0, { ids := [100] })]) (.two (.two (.leaf) (.two (.leaf) (.leaf))) (.two (.two (.leaf) (.one (.loop ⟨[1, 12], ⟨(.cons (.own 0 100 0 0) (.cons (.p (.int .i64)) .nil)), [(100, false, (.vars (.cons (.p (.sl (.pair (.int .i64) (.pair (.int .i64) (.pair .bool (.pair .bool (.pair (.int .i64) (.pair (.sl (.pair (.int .i64) (.int .i64))) (.pair (.int .i64) (.sl (.pair .str (.int .i64)))))))))))) (.cons (.p (.int .i64)) .nil))))]⟩⟩ true [(0, ⟨[], ⟨.nil, []⟩⟩)] (.two (.leaf) (.two (.leaf) (.two (.one (.two (.leaf) (.two (.two (.join ⟨[1, 32], ⟨(.cons (.own 0 100 0 0) (.cons (.p .bool) .nil)), [(100, false, (.vars (.cons (.p (.sl (.pair (.int .i64) (.pair (.int .i64) (.pair .bool (.pair .bool (.pair (.int .i64) (.pair (.sl (.pair (.int .i64) (.int .i64))) (.pair (.int .i64) (.sl (.pair .str (.int .i64)))))))))))) (.cons (.p (.int .i64)) .nil))))]⟩⟩ false [] (.leaf)) (.two (.leaf) (.leaf))) (.two (.leaf) (.one (.loop ⟨[1, 40], ⟨(.cons (.own 0 100 0 0) (.cons (.p (.int .i64)) .nil)), [(100, false, (.vars (.cons (.p (.sl (.pair (.int .i64) (.pair (.int .i64) (.pair .bool (.pair .bool (.pair (.int .i64) (.pair (.sl (.pair (.int .i64) (.int .i64))) (.pair (.int .i64) (.sl (.pair .str (.int .i64)))))))))))) (.cons (.p (.int .i64)) .nil))))]⟩⟩ true [(2, ⟨[1], ⟨(.cons (.own 0 100 0 0) .nil), [(100, false, (.vars (.cons (.p (.sl (.pair (.int .i64) (.pair (.int .i64) (.pair .bool (.pair .bool (.pair (.int .i64) (.pair (.sl (.pair (.int .i64) (.int .i64))) (.pair (.int .i64) (.sl (.pair .str (.int .i64)))))))))))) (.cons (.p (.int .i64)) .nil))))]⟩⟩)] (.two (.leaf) (.two (.leaf) (.two (.one (.two (.leaf) (.two (.leaf) (.two (.leaf) (.leaf))))) (.leaf)))))))))) (.leaf))))))) (.leaf))), ⟨(.cons (.p (.pair (.sl (.pair (.int .i64) (.pair (.int .i64) (.pair .bool (.pair .bool (.pair (.int .i64) (.pair (.sl (.pair (.int .i64) (.int .i64))) (.pair (.int .i64) (.sl (.pair .str (.int .i64))))))))))) (.int .i64))) .nil), []⟩, [⟨(.cons (.p .bool) .nil), []⟩], [0]⟩
def kit_Great_ft (fu : Nat) : FnT := ⟨12, ⟨(.cons (.p (.pair (.sl (.pair (.int .i64) (.pair (.int .i64) (.pair .bool (.pair .bool (.pair (.int .i64) (.pair (.sl (.pair (.int .i64) (.int .i64))) (.pair (.int .i64) (.sl (.pair .str (.int .i64))))))))))) (.int .i64))) .nil), []⟩, [⟨(.cons (.p .bool) .nil), []⟩], fun t => kit_Great fu t⟩
theorem kit_Great_eq (fu : Nat) : ∀ t, evF Go.Proofs.Try.prog [] fu Go.Proofs.Try.f12 kit_Great_fa t = (kit_Great_ft fu).spec t := fun t => by kernel_rfl
theorem kit_Great_told (fu : Nat) : Told Go.Proofs.Try.prog (kit_Great_ft fu) := told_of allT_nil mixed Go.Proofs.Try.func12 (by kernel_rfl) (by kernel_rfl) (kit_Great_eq fu)

def ref18_own (fu : Nat) (n : (Int × (Int × (Bool × (Bool × (Int × (List ((Int × Int)) × (Int × List ((List UInt8 × Int)))))))))) : Option ((Int × (Int × (Bool × (Bool × (Int × (Int × (List ((Int × Int)) × List ((List UInt8 × Int)))))))))) :=
  need ((Nat.ble ((0 + n.2.2.2.2.2.1.length) * 16) room) && (Nat.ble (0 + n.2.2.2.2.2.1.length) room)) <|
  need ((Nat.ble ((0 + n.2.2.2.2.2.2.2.length) * 24) room) && (Nat.ble (0 + n.2.2.2.2.2.2.2.length) room)) <|
  some (n.1, (n.2.1, (n.2.2.1, (n.2.2.2.1, (n.2.2.2.2.1, (n.2.2.2.2.2.2.1, (n.2.2.2.2.2.1, n.2.2.2.2.2.2.2)))))))
def ref18_own_fa : FnA := ⟨.two (.reg [(0, { ids := [100] }), (1, { ids := [101] })]) (.two (.reg [(0, { ids := [102] }), (3, { ids := [103] })]) (.two (.reg [(0, { ids := [104] }), (3, { ids := [105] })]) (.leaf))), ⟨(.cons (.p (.pair (.int .i64) (.pair (.int .i64) (.pair .bool (.pair .bool (.pair (.int .i64) (.pair (.sl (.pair (.int .i64) (.int .i64))) (.pair (.int .i64) (.sl (.pair .str (.int .i64))))))))))) .nil), []⟩, [⟨(.cons (.agg (.cons (.p (.int .i64)) (.cons (.p (.int .i64)) (.cons (.p .bool) (.cons (.p .bool) (.cons (.p (.int .i64)) (.cons (.slf 2 0) (.cons (.p (.int .i64)) (.cons (.slf 2 1) .nil))))))))) .nil), [(0, false, (.rows 64 (.pair (.int .i64) (.int .i64)))), (1, false, (.rows 76 (.pair .str (.int .i64))))]⟩], [0]⟩
def ref18_own_ft (fu : Nat) : FnT := ⟨37, ⟨(.cons (.p (.pair (.int .i64) (.pair (.int .i64) (.pair .bool (.pair .bool (.pair (.int .i64) (.pair (.sl (.pair (.int .i64) (.int .i64))) (.pair (.int .i64) (.sl (.pair .str (.int .i64))))))))))) .nil), []⟩, [⟨(.cons (.agg (.cons (.p (.int .i64)) (.cons (.p (.int .i64)) (.cons (.p .bool) (.cons (.p .bool) (.cons (.p (.int .i64)) (.cons (.slf 2 0) (.cons (.p (.int .i64)) (.cons (.slf 2 1) .nil))))))))) .nil), [(0, false, (.rows 64 (.pair (.int .i64) (.int .i64)))), (1, false, (.rows 76 (.pair .str (.int .i64))))]⟩], fun t => ref18_own fu t⟩
theorem ref18_own_eq (fu : Nat) : ∀ t, evF Go.Proofs.Try.prog [] fu Go.Proofs.Try.f37 ref18_own_fa t = (ref18_own_ft fu).spec t := fun t => by kernel_rfl
theorem ref18_own_told (fu : Nat) : Told Go.Proofs.Try.prog (ref18_own_ft fu) := told_of allT_nil mixed Go.Proofs.Try.func37 (by kernel_rfl) (by kernel_rfl) (ref18_own_eq fu)

def ref18_Get_l0 (fu : Nat) (i : Int) (h1 : List ((Int × (Int × (Bool × (Bool × (Int × (List ((Int × Int)) × (Int × List ((List UInt8 × Int))))))))))) (h2 : Int) (h3 : Int) (h4 : Int) (h5 : Int) (h6 : Int) (h7 : Bool) (h8 : Bool) (h9 : Int) (h10 : Int) : Option ((Int × (List ((Int × (Int × (Bool × (Bool × (Int × (List ((Int × Int)) × (Int × List ((List UInt8 × Int)))))))))) × (Int × (Int × (Int × (Int × (Int × (Bool × (Bool × (Int × Int)))))))))) ⊕ ((Int × (Int × (Bool × (Bool × (Int × Int))))) ⊕ (Int × (Int × (Bool × (Bool × (Int × (List ((Int × Int)) × (Int × (List ((List UInt8 × Int)) × Int)))))))))) :=
  bif (decide (i < ((h1.length : Nat) : Int))) then
    (idx? i h1.length).bind fun q =>
    (h1)[q]?.bind fun r =>
    Option.bind (α := ((Bool × (List ((Int × (Int × (Bool × (Bool × (Int × (List ((Int × Int)) × (Int × List ((List UInt8 × Int)))))))))) × (Int × (Int × (Int × (Int × (Int × (Bool × (Bool × (Int × (Int × (Int × (Int × (Bool × (Bool × (Int × (List ((Int × Int)) × (Int × List ((List UInt8 × Int)))))))))))))))))))))) (
      bif (i == (IntKind.wrap .i64 (h3 - 1))) then
        bif r.2.2.1 then
          some ((r.2.1 == h4), (h1, (h2, (h3, (h4, (h5, (h6, (h7, (h8, (h9, (h10, (r.1, (r.2.1, (r.2.2.1, (r.2.2.2.1, (r.2.2.2.2.1, (r.2.2.2.2.2.1, (r.2.2.2.2.2.2.1, r.2.2.2.2.2.2.2))))))))))))))))))
        else
          some (false, (h1, (h2, (h3, (h4, (h5, (h6, (h7, (h8, (h9, (h10, (r.1, (r.2.1, (r.2.2.1, (r.2.2.2.1, (r.2.2.2.2.1, (r.2.2.2.2.2.1, (r.2.2.2.2.2.2.1, r.2.2.2.2.2.2.2))))))))))))))))))
      else
        some (false, (h1, (h2, (h3, (h4, (h5, (h6, (h7, (h8, (h9, (h10, (r.1, (r.2.1, (r.2.2.1, (r.2.2.2.1, (r.2.2.2.2.1, (r.2.2.2.2.2.1, (r.2.2.2.2.2.2.1, r.2.2.2.2.2.2.2))))))))))))))))))) fun o =>
    bif o.1 then
      (ref18_own fu (o.2.2.2.2.2.2.2.2.2.2.2.1, (o.2.2.2.2.2.2.2.2.2.2.2.2.1, (o.2.2.2.2.2.2.2.2.2.2.2.2.2.1, (o.2.2.2.2.2.2.2.2.2.2.2.2.2.2.1, (o.2.2.2.2.2.2.2.2.2.2.2.2.2.2.2.1, (o.2.2.2.2.2.2.2.2.2.2.2.2.2.2.2.2.1, (o.2.2.2.2.2.2.2.2.2.2.2.2.2.2.2.2.2.1, o.2.2.2.2.2.2.2.2.2.2.2.2.2.2.2.2.2.2)))))))).bind fun r1 =>
      some (.inr (.inr (r1.1, (r1.2.1, (r1.2.2.1, (r1.2.2.2.1, (r1.2.2.2.2.1, (r1.2.2.2.2.2.2.1, (r1.2.2.2.2.2.1, (r1.2.2.2.2.2.2.2, 0))))))))))
    else
      some (.inl ((IntKind.wrap .i64 (i + 1)), (o.2.1, (o.2.2.1, (o.2.2.2.1, (o.2.2.2.2.1, (o.2.2.2.2.2.1, (o.2.2.2.2.2.2.1, (o.2.2.2.2.2.2.2.1, (o.2.2.2.2.2.2.2.2.1, (o.2.2.2.2.2.2.2.2.2.1, o.2.2.2.2.2.2.2.2.2.2.1)))))))))))
  else
    some (.inr (.inl (h5, (h6, (h7, (h8, (h9, h10)))))))
def ref18_Get_l0_it (fu : Nat)  (tt : (Int × (List ((Int × (Int × (Bool × (Bool × (Int × (List ((Int × Int)) × (Int × List ((List UInt8 × Int)))))))))) × (Int × (Int × (Int × (Int × (Int × (Bool × (Bool × (Int × Int))))))))))) : Option ((Int × (Int × (Bool × (Bool × (Int × Int))))) ⊕ (Int × (Int × (Bool × (Bool × (Int × (List ((Int × Int)) × (Int × (List ((List UInt8 × Int)) × Int))))))))) :=
  iter fu (fun tt => ref18_Get_l0 fu tt.1 tt.2.1 tt.2.2.1 tt.2.2.2.1 tt.2.2.2.2.1 tt.2.2.2.2.2.1 tt.2.2.2.2.2.2.1 tt.2.2.2.2.2.2.2.1 tt.2.2.2.2.2.2.2.2.1 tt.2.2.2.2.2.2.2.2.2.1 tt.2.2.2.2.2.2.2.2.2.2) tt
def ref18_Get (fu : Nat) (t : (List ((Int × (Int × (Bool × (Bool × (Int × (List ((Int × Int)) × (Int × List ((List UInt8 × Int)))))))))) × Int)) (h : (Int × Int)) : Option ((Int × (Int × (Bool × (Bool × (Int × (List ((Int × Int)) × (Int × (List ((List UInt8 × Int)) × Int))))))))) :=
  (ref18_Get_l0_it fu  (0, (t.1, (t.2, (h.1, (h.2, (0, (0, (false, (false, (0, 0))))))))))).bind fun o1 =>
  match o1 with
  | .inl s =>
    some (0, (0, (false, (false, (0, ([], (0, ([], 170))))))))
  | .inr o2 =>
    some o2
def ref18_Get_fa : FnA := ⟨.two (.reg [(0, { ids := [100] }), (1, { ids := [101] }), (2, { ids := [102] })]) (.two (.two (.leaf) (.one (.loop ⟨[2, 3, 4, 6], ⟨(.cons (.own 0 100 0 0) (.cons (.own 0 101 0 0) (.cons (.own 0 102 0 0) (.cons (.p (.int .i64)) .nil)))), [(100, false, (.vars (.cons (.p (.sl (.pair (.int .i64) (.pair (.int .i64) (.pair .bool (.pair .bool (.pair (.int .i64) (.pair (.sl (.pair (.int .i64) (.int .i64))) (.pair (.int .i64) (.sl (.pair .str (.int .i64)))))))))))) (.cons (.p (.int .i64)) .nil)))), (101, false, (.vars (.cons (.p (.int .i64)) (.cons (.p (.int .i64)) .nil)))), (102, false, (.vars (.cons (.p (.int .i64)) (.cons (.p (.int .i64)) (.cons (.p .bool) (.cons (.p .bool) (.cons (.p (.int .i64)) (.cons (.nilp (.slice none 0 0)) (.cons (.p (.int .i64)) (.cons (.nilp (.slice none 0 0)) .nil))))))))))]⟩⟩ true [(0, ⟨[4], ⟨(.cons (.own 0 102 0 0) .nil), [(102, false, (.vars (.cons (.p (.int .i64)) (.cons (.p (.int .i64)) (.cons (.p .bool) (.cons (.p .bool) (.cons (.p (.int .i64)) (.cons (.nilp (.slice none 0 0)) (.cons (.p (.int .i64)) (.cons (.nilp (.slice none 0 0)) .nil))))))))))]⟩⟩)] (.two (.two (.leaf) (.leaf)) (.two (.one (.two (.reg [(5, { ids := [103] })]) (.two (.join ⟨[2, 3, 4, 7, 35], ⟨(.cons (.own 0 100 0 0) (.cons (.own 0 101 0 0) (.cons (.own 0 102 0 0) (.cons (.own 0 103 0 0) (.cons (.p .bool) .nil))))), [(100, false, (.vars (.cons (.p (.sl (.pair (.int .i64) (.pair (.int .i64) (.pair .bool (.pair .bool (.pair (.int .i64) (.pair (.sl (.pair (.int .i64) (.int .i64))) (.pair (.int .i64) (.sl (.pair .str (.int .i64)))))))))))) (.cons (.p (.int .i64)) .nil)))), (101, false, (.vars (.cons (.p (.int .i64)) (.cons (.p (.int .i64)) .nil)))), (102, false, (.vars (.cons (.p (.int .i64)) (.cons (.p (.int .i64)) (.cons (.p .bool) (.cons (.p .bool) (.cons (.p (.int .i64)) (.cons (.nilp (.slice none 0 0)) (.cons (.p (.int .i64)) (.cons (.nilp (.slice none 0 0)) .nil)))))))))), (103, false, (.vars (.cons (.p (.int .i64)) (.cons (.p (.int .i64)) (.cons (.p .bool) (.cons (.p .bool) (.cons (.p (.int .i64)) (.cons (.p (.sl (.pair (.int .i64) (.int .i64)))) (.cons (.p (.int .i64)) (.cons (.p (.sl (.pair .str (.int .i64)))) .nil))))))))))]⟩⟩ false [] (.leaf)) (.two (.two (.reg [(1, { ids := [104, 105] })]) (.leaf)) (.leaf))))) (.leaf)))))) (.leaf)), ⟨(.cons (.p (.pair (.sl (.pair (.int .i64) (.pair (.int .i64) (.pair .bool (.pair .bool (.pair (.int .i64) (.pair (.sl (.pair (.int .i64) (.int .i64))) (.pair (.int .i64) (.sl (.pair .str (.int .i64))))))))))) (.int .i64))) (.cons (.p (.pair (.int .i64) (.int .i64))) .nil)), []⟩, [⟨(.cons (.agg (.cons (.p (.int .i64)) (.cons (.p (.int .i64)) (.cons (.p .bool) (.cons (.p .bool) (.cons (.p (.int .i64)) (.cons (.p (.sl (.pair (.int .i64) (.int .i64)))) (.cons (.p (.int .i64)) (.cons (.p (.sl (.pair .str (.int .i64)))) .nil))))))))) (.cons (.p (.int .i64)) .nil)), []⟩], [1, 0]⟩
def ref18_Get_ft (fu : Nat) : FnT := ⟨14, ⟨(.cons (.p (.pair (.sl (.pair (.int .i64) (.pair (.int .i64) (.pair .bool (.pair .bool (.pair (.int .i64) (.pair (.sl (.pair (.int .i64) (.int .i64))) (.pair (.int .i64) (.sl (.pair .str (.int .i64))))))))))) (.int .i64))) (.cons (.p (.pair (.int .i64) (.int .i64))) .nil)), []⟩, [⟨(.cons (.agg (.cons (.p (.int .i64)) (.cons (.p (.int .i64)) (.cons (.p .bool) (.cons (.p .bool) (.cons (.p (.int .i64)) (.cons (.p (.sl (.pair (.int .i64) (.int .i64)))) (.cons (.p (.int .i64)) (.cons (.p (.sl (.pair .str (.int .i64)))) .nil))))))))) (.cons (.p (.int .i64)) .nil)), []⟩], fun t => ref18_Get fu t.1 t.2⟩
theorem ref18_Get_eq (fu : Nat) : ∀ t, evF Go.Proofs.Try.prog [ref18_own_ft fu] fu Go.Proofs.Try.f14 ref18_Get_fa t = (ref18_Get_ft fu).spec t := fun t => by kernel_rfl
theorem ref18_Get_told (fu : Nat) : Told Go.Proofs.Try.prog (ref18_Get_ft fu) := told_of (allT_cons (ref18_own_told fu) allT_nil) mixed Go.Proofs.Try.func14 (by kernel_rfl) (by kernel_rfl) (ref18_Get_eq fu)

def ref18_Copied_l0 (fu : Nat) (i : Int) (h : List ((Int × (Int × (Bool × (Bool × (Int × (List ((Int × Int)) × (Int × List ((List UInt8 × Int))))))))))) (h1 : Int) (h2 : Int) (h3 : List ((Int × (Int × (Bool × (Bool × (Int × (List ((Int × Int)) × (Int × List ((List UInt8 × Int))))))))))) : Option ((Int × (List ((Int × (Int × (Bool × (Bool × (Int × (List ((Int × Int)) × (Int × List ((List UInt8 × Int)))))))))) × (Int × (Int × List ((Int × (Int × (Bool × (Bool × (Int × (List ((Int × Int)) × (Int × List ((List UInt8 × Int)))))))))))))) ⊕ ((List ((Int × (Int × (Bool × (Bool × (Int × (List ((Int × Int)) × (Int × List ((List UInt8 × Int)))))))))) × (Int × (Int × List ((Int × (Int × (Bool × (Bool × (Int × (List ((Int × Int)) × (Int × List ((List UInt8 × Int))))))))))))))) :=
  bif (decide (i < ((h.length : Nat) : Int))) then
    (idx? i h.length).bind fun q =>
    (h)[q]?.bind fun r =>
    (ref18_own fu r).bind fun r1 =>
    need ((Nat.ble ((h3.length + 1) * 88) room) && (Nat.ble (h3.length + 1) room)) <|
    some (.inl ((IntKind.wrap .i64 (i + 1)), (h, (h1, (h2, (h3 ++ [(r1.1, (r1.2.1, (r1.2.2.1, (r1.2.2.2.1, (r1.2.2.2.2.1, (r1.2.2.2.2.2.2.1, (r1.2.2.2.2.2.1, r1.2.2.2.2.2.2.2)))))))]))))))
  else
    some (.inr (h, (h1, (h2, h3))))
def ref18_Copied_l0_it (fu : Nat)  (tt : (Int × (List ((Int × (Int × (Bool × (Bool × (Int × (List ((Int × Int)) × (Int × List ((List UInt8 × Int)))))))))) × (Int × (Int × List ((Int × (Int × (Bool × (Bool × (Int × (List ((Int × Int)) × (Int × List ((List UInt8 × Int))))))))))))))) : Option ((List ((Int × (Int × (Bool × (Bool × (Int × (List ((Int × Int)) × (Int × List ((List UInt8 × Int)))))))))) × (Int × (Int × List ((Int × (Int × (Bool × (Bool × (Int × (List ((Int × Int)) × (Int × List ((List UInt8 × Int)))))))))))))) :=
  iter fu (fun tt => ref18_Copied_l0 fu tt.1 tt.2.1 tt.2.2.1 tt.2.2.2.1 tt.2.2.2.2) tt
def ref18_Copied (fu : Nat) (t : (List ((Int × (Int × (Bool × (Bool × (Int × (List ((Int × Int)) × (Int × List ((List UInt8 × Int)))))))))) × Int)) : Option ((Int × List ((Int × (Int × (Bool × (Bool × (Int × (List ((Int × Int)) × (Int × List ((List UInt8 × Int)))))))))))) :=
  (ref18_Copied_l0_it fu  (0, (t.1, (t.2, (0, []))))).bind fun o =>
  some (o.2.1, o.2.2.2)
def ref18_Copied_fa : FnA := ⟨.two (.reg [(0, { ids := [100] }), (1, { ids := [101] })]) (.two (.leaf) (.two (.two (.leaf) (.one (.pre (.ownNil 3 30 102) (.loop ⟨[1, 2, 3, 4], ⟨(.cons (.own 0 100 0 0) (.cons (.own 0 101 0 0) (.cons (.slf 8 102) (.cons (.p (.int .i64)) .nil)))), [(100, false, (.vars (.cons (.p (.sl (.pair (.int .i64) (.pair (.int .i64) (.pair .bool (.pair .bool (.pair (.int .i64) (.pair (.sl (.pair (.int .i64) (.int .i64))) (.pair (.int .i64) (.sl (.pair .str (.int .i64)))))))))))) (.cons (.p (.int .i64)) .nil)))), (101, false, (.vars (.cons (.nilp (.slice none 0 0)) (.cons (.p (.int .i64)) .nil)))), (102, false, (.rows 30 (.pair (.int .i64) (.pair (.int .i64) (.pair .bool (.pair .bool (.pair (.int .i64) (.pair (.sl (.pair (.int .i64) (.int .i64))) (.pair (.int .i64) (.sl (.pair .str (.int .i64))))))))))))]⟩⟩ false [(0, ⟨[1, 2, 3], ⟨(.cons (.own 0 100 0 0) (.cons (.own 0 101 0 0) (.cons (.slf 8 102) .nil))), [(100, false, (.vars (.cons (.p (.sl (.pair (.int .i64) (.pair (.int .i64) (.pair .bool (.pair .bool (.pair (.int .i64) (.pair (.sl (.pair (.int .i64) (.int .i64))) (.pair (.int .i64) (.sl (.pair .str (.int .i64)))))))))))) (.cons (.p (.int .i64)) .nil)))), (101, false, (.vars (.cons (.nilp (.slice none 0 0)) (.cons (.p (.int .i64)) .nil)))), (102, false, (.rows 30 (.pair (.int .i64) (.pair (.int .i64) (.pair .bool (.pair .bool (.pair (.int .i64) (.pair (.sl (.pair (.int .i64) (.int .i64))) (.pair (.int .i64) (.sl (.pair .str (.int .i64))))))))))))]⟩⟩)] (.two (.two (.leaf) (.leaf)) (.two (.one (.reg [(6, { ids := [103, 104] }), (7, { ids := [105] }), (8, { ids := [106] })])) (.leaf))))))) (.two (.leaf) (.leaf)))), ⟨(.cons (.p (.pair (.sl (.pair (.int .i64) (.pair (.int .i64) (.pair .bool (.pair .bool (.pair (.int .i64) (.pair (.sl (.pair (.int .i64) (.int .i64))) (.pair (.int .i64) (.sl (.pair .str (.int .i64))))))))))) (.int .i64))) .nil), []⟩, [⟨(.cons (.agg (.cons (.slf 8 0) (.cons (.p (.int .i64)) .nil))) .nil), [(0, false, (.rows 30 (.pair (.int .i64) (.pair (.int .i64) (.pair .bool (.pair .bool (.pair (.int .i64) (.pair (.sl (.pair (.int .i64) (.int .i64))) (.pair (.int .i64) (.sl (.pair .str (.int .i64))))))))))))]⟩], [0]⟩
def ref18_Copied_ft (fu : Nat) : FnT := ⟨38, ⟨(.cons (.p (.pair (.sl (.pair (.int .i64) (.pair (.int .i64) (.pair .bool (.pair .bool (.pair (.int .i64) (.pair (.sl (.pair (.int .i64) (.int .i64))) (.pair (.int .i64) (.sl (.pair .str (.int .i64))))))))))) (.int .i64))) .nil), []⟩, [⟨(.cons (.agg (.cons (.slf 8 0) (.cons (.p (.int .i64)) .nil))) .nil), [(0, false, (.rows 30 (.pair (.int .i64) (.pair (.int .i64) (.pair .bool (.pair .bool (.pair (.int .i64) (.pair (.sl (.pair (.int .i64) (.int .i64))) (.pair (.int .i64) (.sl (.pair .str (.int .i64))))))))))))]⟩], fun t => ref18_Copied fu t⟩
theorem ref18_Copied_eq (fu : Nat) : ∀ t, evF Go.Proofs.Try.prog [ref18_own_ft fu] fu Go.Proofs.Try.f38 ref18_Copied_fa t = (ref18_Copied_ft fu).spec t := fun t => by kernel_rfl
theorem ref18_Copied_told (fu : Nat) : Told Go.Proofs.Try.prog (ref18_Copied_ft fu) := told_of (allT_cons (ref18_own_told fu) allT_nil) mixed Go.Proofs.Try.func38 (by kernel_rfl) (by kernel_rfl) (ref18_Copied_eq fu)

def ref18_one_l0 (fu : Nat) (t : (List ((Int × (Int × (Bool × (Bool × (Int × (List ((Int × Int)) × (Int × List ((List UInt8 × Int)))))))))) × Int)) (i : Int) (h : Int) (h1 : Int) (h2 : Bool) (h3 : Bool) (h4 : Int) (h5 : List ((Int × Int))) (h6 : Int) (h7 : List ((List UInt8 × Int))) : Option ((Int × (Int × (Int × (Bool × (Bool × (Int × (List ((Int × Int)) × (Int × List ((List UInt8 × Int)))))))))) ⊕ (Unit ⊕ Bool)) :=
  bif (decide (i < ((h7.length : Nat) : Int))) then
    (idx? i h7.length).bind fun q =>
    (h7)[q]?.bind fun r =>
    Option.bind (α := ((Bool × (Int × (Int × (Bool × (Bool × (Int × (List ((Int × Int)) × (Int × List ((List UInt8 × Int)))))))))))) (
      bif (decide (((r.1.length : Nat) : Int) < 1)) then
        some (true, (h, (h1, (h2, (h3, (h4, (h5, (h6, h7))))))))
      else
        bif (decide (((r.1.length : Nat) : Int) > 30)) then
          some (true, (h, (h1, (h2, (h3, (h4, (h5, (h6, h7))))))))
        else
          bif (decide (i > 0)) then
            (idx? (IntKind.wrap .i64 (i - 1)) h7.length).bind fun q1 =>
            (h7)[q1]?.bind fun r1 =>
            bif (!(Op.bytesLess r1.1 r.1)) then
              some (true, (h, (h1, (h2, (h3, (h4, (h5, (h6, h7))))))))
            else
              bif (decide (r.2 < 1)) then
                some (true, (h, (h1, (h2, (h3, (h4, (h5, (h6, h7))))))))
              else
                some ((decide (r.2 > ((t.1.length : Nat) : Int))), (h, (h1, (h2, (h3, (h4, (h5, (h6, h7))))))))
          else
            bif (decide (r.2 < 1)) then
              some (true, (h, (h1, (h2, (h3, (h4, (h5, (h6, h7))))))))
            else
              some ((decide (r.2 > ((t.1.length : Nat) : Int))), (h, (h1, (h2, (h3, (h4, (h5, (h6, h7))))))))) fun o4 =>
    bif o4.1 then
      some (.inr (.inr false))
    else
      some (.inl ((IntKind.wrap .i64 (i + 1)), (o4.2.1, (o4.2.2.1, (o4.2.2.2.1, (o4.2.2.2.2.1, (o4.2.2.2.2.2.1, (o4.2.2.2.2.2.2.1, (o4.2.2.2.2.2.2.2.1, o4.2.2.2.2.2.2.2.2)))))))))
  else
    some (.inr (.inl ()))
def ref18_one_l0_it (fu : Nat) (t : (List ((Int × (Int × (Bool × (Bool × (Int × (List ((Int × Int)) × (Int × List ((List UInt8 × Int)))))))))) × Int)) (tt : (Int × (Int × (Int × (Bool × (Bool × (Int × (List ((Int × Int)) × (Int × List ((List UInt8 × Int))))))))))) : Option (Unit ⊕ Bool) :=
  iter fu (fun tt => ref18_one_l0 fu t tt.1 tt.2.1 tt.2.2.1 tt.2.2.2.1 tt.2.2.2.2.1 tt.2.2.2.2.2.1 tt.2.2.2.2.2.2.1 tt.2.2.2.2.2.2.2.1 tt.2.2.2.2.2.2.2.2) tt
def ref18_one_l1 (fu : Nat) (i1 : Int) (h8 : List ((Int × (Int × (Bool × (Bool × (Int × (List ((Int × Int)) × (Int × List ((List UInt8 × Int))))))))))) (h9 : Int) (h10 : Int) (h11 : Int) (h12 : Bool) (h13 : Bool) (h14 : Int) (h15 : List ((Int × Int))) (h16 : Int) (h17 : List ((List UInt8 × Int))) : Option ((Int × (List ((Int × (Int × (Bool × (Bool × (Int × (List ((Int × Int)) × (Int × List ((List UInt8 × Int)))))))))) × (Int × (Int × (Int × (Bool × (Bool × (Int × (List ((Int × Int)) × (Int × List ((List UInt8 × Int)))))))))))) ⊕ (Unit ⊕ Bool)) :=
  bif (decide (i1 < ((h15.length : Nat) : Int))) then
    Option.bind (α := ((List ((Int × (Int × (Bool × (Bool × (Int × (List ((Int × Int)) × (Int × List ((List UInt8 × Int)))))))))) × (Int × (Int × (Int × (Bool × (Bool × (Int × (List ((Int × Int)) × (Int × List ((List UInt8 × Int))))))))))) ⊕ ((Int × (List ((Int × (Int × (Bool × (Bool × (Int × (List ((Int × Int)) × (Int × List ((List UInt8 × Int)))))))))) × (Int × (Int × (Int × (Bool × (Bool × (Int × (List ((Int × Int)) × (Int × List ((List UInt8 × Int)))))))))))) ⊕ (Unit ⊕ Bool)))) (
      (idx? i1 h15.length).bind fun q2 =>
      (h15)[q2]?.bind fun r2 =>
      bif ((r2.1 == 0) && (r2.2 == 0)) then
        some (.inl (h8, (h9, (h10, (h11, (h12, (h13, (h14, (h15, (h16, h17))))))))))
      else
        Option.bind (α := ((Bool × (List ((Int × (Int × (Bool × (Bool × (Int × (List ((Int × Int)) × (Int × List ((List UInt8 × Int)))))))))) × (Int × (Int × (Int × (Bool × (Bool × (Int × (List ((Int × Int)) × (Int × List ((List UInt8 × Int)))))))))))))) (
          bif (decide (r2.1 < 1)) then
            some (true, (h8, (h9, (h10, (h11, (h12, (h13, (h14, (h15, (h16, h17))))))))))
          else
            bif (decide (r2.1 > h9)) then
              some (true, (h8, (h9, (h10, (h11, (h12, (h13, (h14, (h15, (h16, h17))))))))))
            else
              bif (decide (r2.2 < 1)) then
                some (true, (h8, (h9, (h10, (h11, (h12, (h13, (h14, (h15, (h16, h17))))))))))
              else
                some ((decide (r2.2 > 1099511627776)), (h8, (h9, (h10, (h11, (h12, (h13, (h14, (h15, (h16, h17))))))))))) fun o8 =>
        bif o8.1 then
          some (.inr (.inr (.inr false)))
        else
          some (.inl (o8.2.1, (o8.2.2.1, (o8.2.2.2.1, (o8.2.2.2.2.1, (o8.2.2.2.2.2.1, (o8.2.2.2.2.2.2.1, (o8.2.2.2.2.2.2.2.1, (o8.2.2.2.2.2.2.2.2.1, (o8.2.2.2.2.2.2.2.2.2.1, o8.2.2.2.2.2.2.2.2.2.2))))))))))) fun o9 =>
    match o9 with
    | .inl s1 =>
      some (.inl ((IntKind.wrap .i64 (i1 + 1)), (s1.1, (s1.2.1, (s1.2.2.1, (s1.2.2.2.1, (s1.2.2.2.2.1, (s1.2.2.2.2.2.1, (s1.2.2.2.2.2.2.1, (s1.2.2.2.2.2.2.2.1, (s1.2.2.2.2.2.2.2.2.1, s1.2.2.2.2.2.2.2.2.2)))))))))))
    | .inr o10 =>
      some o10
  else
    some (.inr (.inl ()))
def ref18_one_l1_it (fu : Nat)  (tt : (Int × (List ((Int × (Int × (Bool × (Bool × (Int × (List ((Int × Int)) × (Int × List ((List UInt8 × Int)))))))))) × (Int × (Int × (Int × (Bool × (Bool × (Int × (List ((Int × Int)) × (Int × List ((List UInt8 × Int))))))))))))) : Option (Unit ⊕ Bool) :=
  iter fu (fun tt => ref18_one_l1 fu tt.1 tt.2.1 tt.2.2.1 tt.2.2.2.1 tt.2.2.2.2.1 tt.2.2.2.2.2.1 tt.2.2.2.2.2.2.1 tt.2.2.2.2.2.2.2.1 tt.2.2.2.2.2.2.2.2.1 tt.2.2.2.2.2.2.2.2.2.1 tt.2.2.2.2.2.2.2.2.2.2) tt
def ref18_one (fu : Nat) (t : (List ((Int × (Int × (Bool × (Bool × (Int × (List ((Int × Int)) × (Int × List ((List UInt8 × Int)))))))))) × Int)) (n : (Int × (Int × (Bool × (Bool × (Int × (List ((Int × Int)) × (Int × List ((List UInt8 × Int)))))))))) : Option (Bool) :=
  Option.bind (α := ((Bool × (List ((Int × (Int × (Bool × (Bool × (Int × (List ((Int × Int)) × (Int × List ((List UInt8 × Int)))))))))) × (Int × (Int × (Int × (Bool × (Bool × (Int × (List ((Int × Int)) × (Int × List ((List UInt8 × Int)))))))))))))) (
    bif (decide (n.2.1 < 1)) then
      some (true, (t.1, (t.2, (n.1, (n.2.1, (n.2.2.1, (n.2.2.2.1, (n.2.2.2.2.1, (n.2.2.2.2.2.1, (n.2.2.2.2.2.2.1, n.2.2.2.2.2.2.2))))))))))
    else
      some ((decide (n.2.1 > 1099511627776)), (t.1, (t.2, (n.1, (n.2.1, (n.2.2.1, (n.2.2.2.1, (n.2.2.2.2.1, (n.2.2.2.2.2.1, (n.2.2.2.2.2.2.1, n.2.2.2.2.2.2.2))))))))))) fun o =>
  bif o.1 then
    some false
  else
    bif (!o.2.2.2.2.2.1) then
      Option.bind (α := (Bool)) (
        bif (!o.2.2.2.2.2.2.1) then
          bif (o.2.2.2.2.2.2.2.1 == 0) then
            bif (((o.2.2.2.2.2.2.2.2.1.length : Nat) : Int) == 0) then
              bif (o.2.2.2.2.2.2.2.2.2.1 == 0) then
                some (((o.2.2.2.2.2.2.2.2.2.2.length : Nat) : Int) == 0)
              else
                some false
            else
              some false
          else
            some false
        else
          some false) fun o1 =>
      some o1
    else
      Option.bind (α := ((Bool × (List ((Int × (Int × (Bool × (Bool × (Int × (List ((Int × Int)) × (Int × List ((List UInt8 × Int)))))))))) × (Int × (Int × (Int × (Bool × (Bool × (Int × (List ((Int × Int)) × (Int × List ((List UInt8 × Int)))))))))))))) (
        bif (decide (o.2.2.2.2.2.2.2.2.2.1 < 1)) then
          some (true, (o.2.1, (o.2.2.1, (o.2.2.2.1, (o.2.2.2.2.1, (o.2.2.2.2.2.1, (o.2.2.2.2.2.2.1, (o.2.2.2.2.2.2.2.1, (o.2.2.2.2.2.2.2.2.1, (o.2.2.2.2.2.2.2.2.2.1, o.2.2.2.2.2.2.2.2.2.2))))))))))
        else
          some ((decide (o.2.2.2.2.2.2.2.2.2.1 > ((t.1.length : Nat) : Int))), (o.2.1, (o.2.2.1, (o.2.2.2.1, (o.2.2.2.2.1, (o.2.2.2.2.2.1, (o.2.2.2.2.2.2.1, (o.2.2.2.2.2.2.2.1, (o.2.2.2.2.2.2.2.2.1, (o.2.2.2.2.2.2.2.2.2.1, o.2.2.2.2.2.2.2.2.2.2))))))))))) fun o2 =>
      bif o2.1 then
        some false
      else
        bif o2.2.2.2.2.2.2.1 then
          Option.bind (α := ((Bool × (Int × (Int × (Bool × (Bool × (Int × (List ((Int × Int)) × (Int × List ((List UInt8 × Int)))))))))))) (
            bif (!(o2.2.2.2.2.2.2.2.1 == 0)) then
              some (true, (o2.2.2.2.1, (o2.2.2.2.2.1, (o2.2.2.2.2.2.1, (o2.2.2.2.2.2.2.1, (o2.2.2.2.2.2.2.2.1, (o2.2.2.2.2.2.2.2.2.1, (o2.2.2.2.2.2.2.2.2.2.1, o2.2.2.2.2.2.2.2.2.2.2))))))))
            else
              bif (!(((o2.2.2.2.2.2.2.2.2.1.length : Nat) : Int) == 0)) then
                some (true, (o2.2.2.2.1, (o2.2.2.2.2.1, (o2.2.2.2.2.2.1, (o2.2.2.2.2.2.2.1, (o2.2.2.2.2.2.2.2.1, (o2.2.2.2.2.2.2.2.2.1, (o2.2.2.2.2.2.2.2.2.2.1, o2.2.2.2.2.2.2.2.2.2.2))))))))
              else
                some ((decide (((o2.2.2.2.2.2.2.2.2.2.2.length : Nat) : Int) > 100)), (o2.2.2.2.1, (o2.2.2.2.2.1, (o2.2.2.2.2.2.1, (o2.2.2.2.2.2.2.1, (o2.2.2.2.2.2.2.2.1, (o2.2.2.2.2.2.2.2.2.1, (o2.2.2.2.2.2.2.2.2.2.1, o2.2.2.2.2.2.2.2.2.2.2))))))))) fun o3 =>
          bif o3.1 then
            some false
          else
            (ref18_one_l0_it fu t (0, (o3.2.1, (o3.2.2.1, (o3.2.2.2.1, (o3.2.2.2.2.1, (o3.2.2.2.2.2.1, (o3.2.2.2.2.2.2.1, (o3.2.2.2.2.2.2.2.1, o3.2.2.2.2.2.2.2.2))))))))).bind fun o5 =>
            match o5 with
            | .inl s =>
              some true
            | .inr o6 =>
              some o6
        else
          Option.bind (α := ((Bool × (List ((Int × (Int × (Bool × (Bool × (Int × (List ((Int × Int)) × (Int × List ((List UInt8 × Int)))))))))) × (Int × (Int × (Int × (Bool × (Bool × (Int × (List ((Int × Int)) × (Int × List ((List UInt8 × Int)))))))))))))) (
            bif (decide (o2.2.2.2.2.2.2.2.1 < 0)) then
              some (true, (o2.2.1, (o2.2.2.1, (o2.2.2.2.1, (o2.2.2.2.2.1, (o2.2.2.2.2.2.1, (o2.2.2.2.2.2.2.1, (o2.2.2.2.2.2.2.2.1, (o2.2.2.2.2.2.2.2.2.1, (o2.2.2.2.2.2.2.2.2.2.1, o2.2.2.2.2.2.2.2.2.2.2))))))))))
            else
              bif (decide (o2.2.2.2.2.2.2.2.1 > 65536)) then
                some (true, (o2.2.1, (o2.2.2.1, (o2.2.2.2.1, (o2.2.2.2.2.1, (o2.2.2.2.2.2.1, (o2.2.2.2.2.2.2.1, (o2.2.2.2.2.2.2.2.1, (o2.2.2.2.2.2.2.2.2.1, (o2.2.2.2.2.2.2.2.2.2.1, o2.2.2.2.2.2.2.2.2.2.2))))))))))
              else
                bif (decide (((o2.2.2.2.2.2.2.2.2.1.length : Nat) : Int) > 4096)) then
                  some (true, (o2.2.1, (o2.2.2.1, (o2.2.2.2.1, (o2.2.2.2.2.1, (o2.2.2.2.2.2.1, (o2.2.2.2.2.2.2.1, (o2.2.2.2.2.2.2.2.1, (o2.2.2.2.2.2.2.2.2.1, (o2.2.2.2.2.2.2.2.2.2.1, o2.2.2.2.2.2.2.2.2.2.2))))))))))
                else
                  some ((!(((o2.2.2.2.2.2.2.2.2.2.2.length : Nat) : Int) == 0)), (o2.2.1, (o2.2.2.1, (o2.2.2.2.1, (o2.2.2.2.2.1, (o2.2.2.2.2.2.1, (o2.2.2.2.2.2.2.1, (o2.2.2.2.2.2.2.2.1, (o2.2.2.2.2.2.2.2.2.1, (o2.2.2.2.2.2.2.2.2.2.1, o2.2.2.2.2.2.2.2.2.2.2))))))))))) fun o7 =>
          bif o7.1 then
            some false
          else
            (ref18_one_l1_it fu  (0, (o7.2.1, (o7.2.2.1, (o7.2.2.2.1, (o7.2.2.2.2.1, (o7.2.2.2.2.2.1, (o7.2.2.2.2.2.2.1, (o7.2.2.2.2.2.2.2.1, (o7.2.2.2.2.2.2.2.2.1, (o7.2.2.2.2.2.2.2.2.2.1, o7.2.2.2.2.2.2.2.2.2.2))))))))))).bind fun o11 =>
            match o11 with
            | .inl s2 =>
              some true
            | .inr o12 =>
              some o12
def ref18_one_fa : FnA := ⟨.two (.reg [(0, { ids := [100] }), (1, { ids := [101] })]) (.two (.leaf) (.two (.two (.join ⟨[2, 3, 20], ⟨(.cons (.own 0 100 0 0) (.cons (.own 0 101 0 0) (.cons (.p .bool) .nil))), [(100, false, (.vars (.cons (.p (.sl (.pair (.int .i64) (.pair (.int .i64) (.pair .bool (.pair .bool (.pair (.int .i64) (.pair (.sl (.pair (.int .i64) (.int .i64))) (.pair (.int .i64) (.sl (.pair .str (.int .i64)))))))))))) (.cons (.p (.int .i64)) .nil)))), (101, false, (.vars (.cons (.p (.int .i64)) (.cons (.p (.int .i64)) (.cons (.p .bool) (.cons (.p .bool) (.cons (.p (.int .i64)) (.cons (.p (.sl (.pair (.int .i64) (.int .i64)))) (.cons (.p (.int .i64)) (.cons (.p (.sl (.pair .str (.int .i64)))) .nil))))))))))]⟩⟩ false [] (.leaf)) (.two (.leaf) (.leaf))) (.two (.two (.leaf) (.two (.two (.join ⟨[4], ⟨(.cons (.p .bool) .nil), []⟩⟩ false [] (.leaf)) (.leaf)) (.leaf))) (.two (.two (.join ⟨[2, 3, 57], ⟨(.cons (.own 0 100 0 0) (.cons (.own 0 101 0 0) (.cons (.p .bool) .nil))), [(100, false, (.vars (.cons (.p (.sl (.pair (.int .i64) (.pair (.int .i64) (.pair .bool (.pair .bool (.pair (.int .i64) (.pair (.sl (.pair (.int .i64) (.int .i64))) (.pair (.int .i64) (.sl (.pair .str (.int .i64)))))))))))) (.cons (.p (.int .i64)) .nil)))), (101, false, (.vars (.cons (.p (.int .i64)) (.cons (.p (.int .i64)) (.cons (.p .bool) (.cons (.p .bool) (.cons (.p (.int .i64)) (.cons (.p (.sl (.pair (.int .i64) (.int .i64)))) (.cons (.p (.int .i64)) (.cons (.p (.sl (.pair .str (.int .i64)))) .nil))))))))))]⟩⟩ false [] (.leaf)) (.two (.leaf) (.leaf))) (.two (.two (.leaf) (.two (.two (.two (.join ⟨[3, 74], ⟨(.cons (.own 0 101 0 0) (.cons (.p .bool) .nil)), [(101, false, (.vars (.cons (.p (.int .i64)) (.cons (.p (.int .i64)) (.cons (.p .bool) (.cons (.p .bool) (.cons (.p (.int .i64)) (.cons (.p (.sl (.pair (.int .i64) (.int .i64)))) (.cons (.p (.int .i64)) (.cons (.p (.sl (.pair .str (.int .i64)))) .nil))))))))))]⟩⟩ false [] (.leaf)) (.two (.leaf) (.leaf))) (.two (.two (.leaf) (.one (.loop ⟨[3, 6], ⟨(.cons (.own 0 101 0 0) (.cons (.p (.int .i64)) .nil)), [(101, false, (.vars (.cons (.p (.int .i64)) (.cons (.p (.int .i64)) (.cons (.p .bool) (.cons (.p .bool) (.cons (.p (.int .i64)) (.cons (.p (.sl (.pair (.int .i64) (.int .i64)))) (.cons (.p (.int .i64)) (.cons (.p (.sl (.pair .str (.int .i64)))) .nil))))))))))]⟩⟩ true [(0, ⟨[], ⟨.nil, []⟩⟩)] (.two (.two (.leaf) (.leaf)) (.two (.one (.two (.reg [(5, { ids := [102] })]) (.two (.join ⟨[3, 123], ⟨(.cons (.own 0 101 0 0) (.cons (.p .bool) .nil)), [(101, false, (.vars (.cons (.p (.int .i64)) (.cons (.p (.int .i64)) (.cons (.p .bool) (.cons (.p .bool) (.cons (.p (.int .i64)) (.cons (.p (.sl (.pair (.int .i64) (.int .i64)))) (.cons (.p (.int .i64)) (.cons (.p (.sl (.pair .str (.int .i64)))) .nil))))))))))]⟩⟩ false [] (.leaf)) (.two (.leaf) (.leaf))))) (.leaf)))))) (.leaf))) (.leaf))) (.two (.two (.join ⟨[2, 3, 143], ⟨(.cons (.own 0 100 0 0) (.cons (.own 0 101 0 0) (.cons (.p .bool) .nil))), [(100, false, (.vars (.cons (.p (.sl (.pair (.int .i64) (.pair (.int .i64) (.pair .bool (.pair .bool (.pair (.int .i64) (.pair (.sl (.pair (.int .i64) (.int .i64))) (.pair (.int .i64) (.sl (.pair .str (.int .i64)))))))))))) (.cons (.p (.int .i64)) .nil)))), (101, false, (.vars (.cons (.p (.int .i64)) (.cons (.p (.int .i64)) (.cons (.p .bool) (.cons (.p .bool) (.cons (.p (.int .i64)) (.cons (.p (.sl (.pair (.int .i64) (.int .i64)))) (.cons (.p (.int .i64)) (.cons (.p (.sl (.pair .str (.int .i64)))) .nil))))))))))]⟩⟩ false [] (.leaf)) (.two (.leaf) (.leaf))) (.two (.two (.leaf) (.one (.loop ⟨[2, 3, 8], ⟨(.cons (.own 0 100 0 0) (.cons (.own 0 101 0 0) (.cons (.p (.int .i64)) .nil))), [(100, false, (.vars (.cons (.p (.sl (.pair (.int .i64) (.pair (.int .i64) (.pair .bool (.pair .bool (.pair (.int .i64) (.pair (.sl (.pair (.int .i64) (.int .i64))) (.pair (.int .i64) (.sl (.pair .str (.int .i64)))))))))))) (.cons (.p (.int .i64)) .nil)))), (101, false, (.vars (.cons (.p (.int .i64)) (.cons (.p (.int .i64)) (.cons (.p .bool) (.cons (.p .bool) (.cons (.p (.int .i64)) (.cons (.p (.sl (.pair (.int .i64) (.int .i64)))) (.cons (.p (.int .i64)) (.cons (.p (.sl (.pair .str (.int .i64)))) .nil))))))))))]⟩⟩ true [(2, ⟨[], ⟨.nil, []⟩⟩)] (.two (.two (.leaf) (.leaf)) (.two (.join ⟨[2, 3], ⟨(.cons (.own 0 100 0 0) (.cons (.own 0 101 0 0) .nil)), [(100, false, (.vars (.cons (.p (.sl (.pair (.int .i64) (.pair (.int .i64) (.pair .bool (.pair .bool (.pair (.int .i64) (.pair (.sl (.pair (.int .i64) (.int .i64))) (.pair (.int .i64) (.sl (.pair .str (.int .i64)))))))))))) (.cons (.p (.int .i64)) .nil)))), (101, false, (.vars (.cons (.p (.int .i64)) (.cons (.p (.int .i64)) (.cons (.p .bool) (.cons (.p .bool) (.cons (.p (.int .i64)) (.cons (.p (.sl (.pair (.int .i64) (.int .i64)))) (.cons (.p (.int .i64)) (.cons (.p (.sl (.pair .str (.int .i64)))) .nil))))))))))]⟩⟩ true [] (.one (.two (.reg [(5, { ids := [103] })]) (.two (.two (.leaf) (.leaf)) (.two (.join ⟨[2, 3, 178], ⟨(.cons (.own 0 100 0 0) (.cons (.own 0 101 0 0) (.cons (.p .bool) .nil))), [(100, false, (.vars (.cons (.p (.sl (.pair (.int .i64) (.pair (.int .i64) (.pair .bool (.pair .bool (.pair (.int .i64) (.pair (.sl (.pair (.int .i64) (.int .i64))) (.pair (.int .i64) (.sl (.pair .str (.int .i64)))))))))))) (.cons (.p (.int .i64)) .nil)))), (101, false, (.vars (.cons (.p (.int .i64)) (.cons (.p (.int .i64)) (.cons (.p .bool) (.cons (.p .bool) (.cons (.p (.int .i64)) (.cons (.p (.sl (.pair (.int .i64) (.int .i64)))) (.cons (.p (.int .i64)) (.cons (.p (.sl (.pair .str (.int .i64)))) .nil))))))))))]⟩⟩ false [] (.leaf)) (.two (.leaf) (.leaf))))))) (.leaf)))))) (.leaf)))))))), ⟨(.cons (.p (.pair (.sl (.pair (.int .i64) (.pair (.int .i64) (.pair .bool (.pair .bool (.pair (.int .i64) (.pair (.sl (.pair (.int .i64) (.int .i64))) (.pair (.int .i64) (.sl (.pair .str (.int .i64))))))))))) (.int .i64))) (.cons (.p (.pair (.int .i64) (.pair (.int .i64) (.pair .bool (.pair .bool (.pair (.int .i64) (.pair (.sl (.pair (.int .i64) (.int .i64))) (.pair (.int .i64) (.sl (.pair .str (.int .i64))))))))))) .nil)), []⟩, [⟨(.cons (.p .bool) .nil), []⟩], [0]⟩
def ref18_one_ft (fu : Nat) : FnT := ⟨44, ⟨(.cons (.p (.pair (.sl (.pair (.int .i64) (.pair (.int .i64) (.pair .bool (.pair .bool (.pair (.int .i64) (.pair (.sl (.pair (.int .i64) (.int .i64))) (.pair (.int .i64) (.sl (.pair .str (.int .i64))))))))))) (.int .i64))) (.cons (.p (.pair (.int .i64) (.pair (.int .i64) (.pair .bool (.pair .bool (.pair (.int .i64) (.pair (.sl (.pair (.int .i64) (.int .i64))) (.pair (.int .i64) (.sl (.pair .str (.int .i64))))))))))) .nil)), []⟩, [⟨(.cons (.p .bool) .nil), []⟩], fun t => ref18_one fu t.1 t.2⟩
theorem ref18_one_eq (fu : Nat) : ∀ t, evF Go.Proofs.Try.prog [] fu Go.Proofs.Try.f44 ref18_one_fa t = (ref18_one_ft fu).spec t := fun t => by kernel_rfl
theorem ref18_one_told (fu : Nat) : Told Go.Proofs.Try.prog (ref18_one_ft fu) := told_of allT_nil mixed Go.Proofs.Try.func44 (by kernel_rfl) (by kernel_rfl) (ref18_one_eq fu)

def ref18_Right_l0 (fu : Nat) (k : Int) (x : Int) (h14 : List ((Int × (Int × (Bool × (Bool × (Int × (List ((Int × Int)) × (Int × List ((List UInt8 × Int))))))))))) (h15 : Int) (h16 : List (Int)) (h17 : Int) (h18 : Int) (h19 : Bool) (h20 : Bool) (h21 : Int) (h22 : List ((Int × Int))) (h23 : Int) (h24 : List ((List UInt8 × Int))) : Option ((Int × (List ((Int × (Int × (Bool × (Bool × (Int × (List ((Int × Int)) × (Int × List ((List UInt8 × Int)))))))))) × (Int × (List (Int) × (Int × (Int × (Bool × (Bool × (Int × (List ((Int × Int)) × (Int × List ((List UInt8 × Int))))))))))))) ⊕ ((List ((Int × (Int × (Bool × (Bool × (Int × (List ((Int × Int)) × (Int × List ((List UInt8 × Int)))))))))) × (Int × (List (Int) × (Int × (Int × (Bool × (Bool × (Int × (List ((Int × Int)) × (Int × List ((List UInt8 × Int)))))))))))) ⊕ ((List ((Int × (Int × (Bool × (Bool × (Int × (List ((Int × Int)) × (Int × List ((List UInt8 × Int)))))))))) × (Int × (List (Int) × (Int × (Int × (Bool × (Bool × (Int × (List ((Int × Int)) × (Int × List ((List UInt8 × Int)))))))))))) ⊕ ((Int × (List ((Int × (Int × (Bool × (Bool × (Int × (List ((Int × Int)) × (Int × List ((List UInt8 × Int)))))))))) × (Int × (List (Int) × (Int × (Int × (Bool × (Bool × (Int × (List ((Int × Int)) × (Int × List ((List UInt8 × Int))))))))))))) ⊕ ((List ((Int × (Int × (Bool × (Bool × (Int × (List ((Int × Int)) × (Int × List ((List UInt8 × Int)))))))))) × (Int × List (Int))) ⊕ ((Int × (List ((Int × (Int × (Bool × (Bool × (Int × (List ((Int × Int)) × (Int × List ((List UInt8 × Int)))))))))) × (Int × List (Int)))) ⊕ ((List ((Int × (Int × (Bool × (Bool × (Int × (List ((Int × Int)) × (Int × List ((List UInt8 × Int)))))))))) × Int) ⊕ Bool))))))) :=
  bif (decide (x < ((h16.length : Nat) : Int))) then
    (idx? x h16.length).bind fun q2 =>
    (h16)[q2]?.bind fun r3 =>
    (idx? k h22.length).bind fun q3 =>
    (h22)[q3]?.bind fun r4 =>
    bif (r3 == r4.1) then
      some (.inr (.inr (.inr (.inr (.inr (.inr (.inr false)))))))
    else
      some (.inl ((IntKind.wrap .i64 (x + 1)), (h14, (h15, (h16, (h17, (h18, (h19, (h20, (h21, (h22, (h23, h24))))))))))))
  else
    some (.inr (.inl (h14, (h15, (h16, (h17, (h18, (h19, (h20, (h21, (h22, (h23, h24))))))))))))
def ref18_Right_l0_it (fu : Nat) (k : Int) (tt : (Int × (List ((Int × (Int × (Bool × (Bool × (Int × (List ((Int × Int)) × (Int × List ((List UInt8 × Int)))))))))) × (Int × (List (Int) × (Int × (Int × (Bool × (Bool × (Int × (List ((Int × Int)) × (Int × List ((List UInt8 × Int)))))))))))))) : Option ((List ((Int × (Int × (Bool × (Bool × (Int × (List ((Int × Int)) × (Int × List ((List UInt8 × Int)))))))))) × (Int × (List (Int) × (Int × (Int × (Bool × (Bool × (Int × (List ((Int × Int)) × (Int × List ((List UInt8 × Int)))))))))))) ⊕ ((List ((Int × (Int × (Bool × (Bool × (Int × (List ((Int × Int)) × (Int × List ((List UInt8 × Int)))))))))) × (Int × (List (Int) × (Int × (Int × (Bool × (Bool × (Int × (List ((Int × Int)) × (Int × List ((List UInt8 × Int)))))))))))) ⊕ ((Int × (List ((Int × (Int × (Bool × (Bool × (Int × (List ((Int × Int)) × (Int × List ((List UInt8 × Int)))))))))) × (Int × (List (Int) × (Int × (Int × (Bool × (Bool × (Int × (List ((Int × Int)) × (Int × List ((List UInt8 × Int))))))))))))) ⊕ ((List ((Int × (Int × (Bool × (Bool × (Int × (List ((Int × Int)) × (Int × List ((List UInt8 × Int)))))))))) × (Int × List (Int))) ⊕ ((Int × (List ((Int × (Int × (Bool × (Bool × (Int × (List ((Int × Int)) × (Int × List ((List UInt8 × Int)))))))))) × (Int × List (Int)))) ⊕ ((List ((Int × (Int × (Bool × (Bool × (Int × (List ((Int × Int)) × (Int × List ((List UInt8 × Int)))))))))) × Int) ⊕ Bool)))))) :=
  iter fu (fun tt => ref18_Right_l0 fu k tt.1 tt.2.1 tt.2.2.1 tt.2.2.2.1 tt.2.2.2.2.1 tt.2.2.2.2.2.1 tt.2.2.2.2.2.2.1 tt.2.2.2.2.2.2.2.1 tt.2.2.2.2.2.2.2.2.1 tt.2.2.2.2.2.2.2.2.2.1 tt.2.2.2.2.2.2.2.2.2.2.1 tt.2.2.2.2.2.2.2.2.2.2.2) tt
def ref18_Right_l1 (fu : Nat) (k : Int) (h3 : List ((Int × (Int × (Bool × (Bool × (Int × (List ((Int × Int)) × (Int × List ((List UInt8 × Int))))))))))) (h4 : Int) (h5 : List (Int)) (h6 : Int) (h7 : Int) (h8 : Bool) (h9 : Bool) (h10 : Int) (h11 : List ((Int × Int))) (h12 : Int) (h13 : List ((List UInt8 × Int))) : Option ((Int × (List ((Int × (Int × (Bool × (Bool × (Int × (List ((Int × Int)) × (Int × List ((List UInt8 × Int)))))))))) × (Int × (List (Int) × (Int × (Int × (Bool × (Bool × (Int × (List ((Int × Int)) × (Int × List ((List UInt8 × Int))))))))))))) ⊕ ((List ((Int × (Int × (Bool × (Bool × (Int × (List ((Int × Int)) × (Int × List ((List UInt8 × Int)))))))))) × (Int × List (Int))) ⊕ ((Int × (List ((Int × (Int × (Bool × (Bool × (Int × (List ((Int × Int)) × (Int × List ((List UInt8 × Int)))))))))) × (Int × List (Int)))) ⊕ ((List ((Int × (Int × (Bool × (Bool × (Int × (List ((Int × Int)) × (Int × List ((List UInt8 × Int)))))))))) × Int) ⊕ Bool)))) :=
  bif (decide (k < ((h11.length : Nat) : Int))) then
    Option.bind (α := ((List ((Int × (Int × (Bool × (Bool × (Int × (List ((Int × Int)) × (Int × List ((List UInt8 × Int)))))))))) × (Int × (List (Int) × (Int × (Int × (Bool × (Bool × (Int × (List ((Int × Int)) × (Int × List ((List UInt8 × Int)))))))))))) ⊕ ((Int × (List ((Int × (Int × (Bool × (Bool × (Int × (List ((Int × Int)) × (Int × List ((List UInt8 × Int)))))))))) × (Int × (List (Int) × (Int × (Int × (Bool × (Bool × (Int × (List ((Int × Int)) × (Int × List ((List UInt8 × Int))))))))))))) ⊕ ((List ((Int × (Int × (Bool × (Bool × (Int × (List ((Int × Int)) × (Int × List ((List UInt8 × Int)))))))))) × (Int × List (Int))) ⊕ ((Int × (List ((Int × (Int × (Bool × (Bool × (Int × (List ((Int × Int)) × (Int × List ((List UInt8 × Int)))))))))) × (Int × List (Int)))) ⊕ ((List ((Int × (Int × (Bool × (Bool × (Int × (List ((Int × Int)) × (Int × List ((List UInt8 × Int)))))))))) × Int) ⊕ Bool)))))) (
      (idx? k h11.length).bind fun q1 =>
      (h11)[q1]?.bind fun r2 =>
      bif (r2.1 == 0) then
        some (.inl (h3, (h4, (h5, (h6, (h7, (h8, (h9, (h10, (h11, (h12, h13)))))))))))
      else
        (ref18_Right_l0_it fu k (0, (h3, (h4, (h5, (h6, (h7, (h8, (h9, (h10, (h11, (h12, h13)))))))))))).bind fun o2 =>
        match o2 with
        | .inl s =>
          (idx? k s.2.2.2.2.2.2.2.2.1.length).bind fun q4 =>
          (s.2.2.2.2.2.2.2.2.1)[q4]?.bind fun r5 =>
          need ((Nat.ble ((s.2.2.1.length + 1) * 8) room) && (Nat.ble (s.2.2.1.length + 1) room)) <|
          some (.inl (s.1, (s.2.1, ((s.2.2.1 ++ [r5.1]), (s.2.2.2.1, (s.2.2.2.2.1, (s.2.2.2.2.2.1, (s.2.2.2.2.2.2.1, (s.2.2.2.2.2.2.2.1, (s.2.2.2.2.2.2.2.2.1, (s.2.2.2.2.2.2.2.2.2.1, s.2.2.2.2.2.2.2.2.2.2)))))))))))
        | .inr o3 =>
          some o3) fun o4 =>
    match o4 with
    | .inl s1 =>
      some (.inl ((IntKind.wrap .i64 (k + 1)), (s1.1, (s1.2.1, (s1.2.2.1, (s1.2.2.2.1, (s1.2.2.2.2.1, (s1.2.2.2.2.2.1, (s1.2.2.2.2.2.2.1, (s1.2.2.2.2.2.2.2.1, (s1.2.2.2.2.2.2.2.2.1, (s1.2.2.2.2.2.2.2.2.2.1, s1.2.2.2.2.2.2.2.2.2.2))))))))))))
    | .inr o5 =>
      some o5
  else
    some (.inr (.inl (h3, (h4, h5))))
def ref18_Right_l1_it (fu : Nat)  (tt : (Int × (List ((Int × (Int × (Bool × (Bool × (Int × (List ((Int × Int)) × (Int × List ((List UInt8 × Int)))))))))) × (Int × (List (Int) × (Int × (Int × (Bool × (Bool × (Int × (List ((Int × Int)) × (Int × List ((List UInt8 × Int)))))))))))))) : Option ((List ((Int × (Int × (Bool × (Bool × (Int × (List ((Int × Int)) × (Int × List ((List UInt8 × Int)))))))))) × (Int × List (Int))) ⊕ ((Int × (List ((Int × (Int × (Bool × (Bool × (Int × (List ((Int × Int)) × (Int × List ((List UInt8 × Int)))))))))) × (Int × List (Int)))) ⊕ ((List ((Int × (Int × (Bool × (Bool × (Int × (List ((Int × Int)) × (Int × List ((List UInt8 × Int)))))))))) × Int) ⊕ Bool))) :=
  iter fu (fun tt => ref18_Right_l1 fu tt.1 tt.2.1 tt.2.2.1 tt.2.2.2.1 tt.2.2.2.2.1 tt.2.2.2.2.2.1 tt.2.2.2.2.2.2.1 tt.2.2.2.2.2.2.2.1 tt.2.2.2.2.2.2.2.2.1 tt.2.2.2.2.2.2.2.2.2.1 tt.2.2.2.2.2.2.2.2.2.2.1 tt.2.2.2.2.2.2.2.2.2.2.2) tt
def ref18_Right_l2 (fu : Nat) (i : Int) (h : List ((Int × (Int × (Bool × (Bool × (Int × (List ((Int × Int)) × (Int × List ((List UInt8 × Int))))))))))) (h1 : Int) (h2 : List (Int)) : Option ((Int × (List ((Int × (Int × (Bool × (Bool × (Int × (List ((Int × Int)) × (Int × List ((List UInt8 × Int)))))))))) × (Int × List (Int)))) ⊕ ((List ((Int × (Int × (Bool × (Bool × (Int × (List ((Int × Int)) × (Int × List ((List UInt8 × Int)))))))))) × Int) ⊕ Bool)) :=
  bif (decide (i < ((h.length : Nat) : Int))) then
    (idx? i h.length).bind fun q =>
    (h)[q]?.bind fun r =>
    Option.bind (α := ((Bool × (List ((Int × (Int × (Bool × (Bool × (Int × (List ((Int × Int)) × (Int × List ((List UInt8 × Int)))))))))) × (Int × (List (Int) × (Int × (Int × (Bool × (Bool × (Int × (List ((Int × Int)) × (Int × List ((List UInt8 × Int))))))))))))))) (
      bif (!(r.1 == (IntKind.wrap .i64 (i + 1)))) then
        some (true, (h, (h1, (h2, (r.1, (r.2.1, (r.2.2.1, (r.2.2.2.1, (r.2.2.2.2.1, (r.2.2.2.2.2.1, (r.2.2.2.2.2.2.1, r.2.2.2.2.2.2.2)))))))))))
      else
        (ref18_one fu (h, h1) (r.1, (r.2.1, (r.2.2.1, (r.2.2.2.1, (r.2.2.2.2.1, (r.2.2.2.2.2.1, (r.2.2.2.2.2.2.1, r.2.2.2.2.2.2.2)))))))).bind fun r1 =>
        some ((!r1), (h, (h1, (h2, (r.1, (r.2.1, (r.2.2.1, (r.2.2.2.1, (r.2.2.2.2.1, (r.2.2.2.2.2.1, (r.2.2.2.2.2.2.1, r.2.2.2.2.2.2.2)))))))))))) fun o1 =>
    bif o1.1 then
      some (.inr (.inr false))
    else
      (ref18_Right_l1_it fu  (0, (o1.2.1, (o1.2.2.1, (o1.2.2.2.1, (o1.2.2.2.2.1, (o1.2.2.2.2.2.1, (o1.2.2.2.2.2.2.1, (o1.2.2.2.2.2.2.2.1, (o1.2.2.2.2.2.2.2.2.1, (o1.2.2.2.2.2.2.2.2.2.1, (o1.2.2.2.2.2.2.2.2.2.2.1, o1.2.2.2.2.2.2.2.2.2.2.2)))))))))))).bind fun o6 =>
      match o6 with
      | .inl s2 =>
        some (.inl ((IntKind.wrap .i64 (i + 1)), (s2.1, (s2.2.1, s2.2.2))))
      | .inr o7 =>
        some o7
  else
    some (.inr (.inl (h, h1)))
def ref18_Right_l2_it (fu : Nat)  (tt : (Int × (List ((Int × (Int × (Bool × (Bool × (Int × (List ((Int × Int)) × (Int × List ((List UInt8 × Int)))))))))) × (Int × List (Int))))) : Option ((List ((Int × (Int × (Bool × (Bool × (Int × (List ((Int × Int)) × (Int × List ((List UInt8 × Int)))))))))) × Int) ⊕ Bool) :=
  iter fu (fun tt => ref18_Right_l2 fu tt.1 tt.2.1 tt.2.2.1 tt.2.2.2) tt
def ref18_Right (fu : Nat) (t : (List ((Int × (Int × (Bool × (Bool × (Int × (List ((Int × Int)) × (Int × List ((List UInt8 × Int)))))))))) × Int)) : Option (Bool) :=
  Option.bind (α := ((Bool × (List ((Int × (Int × (Bool × (Bool × (Int × (List ((Int × Int)) × (Int × List ((List UInt8 × Int)))))))))) × Int)))) (
    bif (decide (((t.1.length : Nat) : Int) < 1)) then
      some (true, (t.1, t.2))
    else
      bif (decide (((t.1.length : Nat) : Int) > 500)) then
        some (true, (t.1, t.2))
      else
        bif (decide (t.2 < 0)) then
          some (true, (t.1, t.2))
        else
          some ((decide (t.2 > 1099511627776)), (t.1, t.2))) fun o =>
  bif o.1 then
    some false
  else
    (ref18_Right_l2_it fu  (0, (o.2.1, (o.2.2, [])))).bind fun o8 =>
    match o8 with
    | .inl s3 =>
      (idx? 0 s3.1.length).bind fun q5 =>
      (s3.1)[q5]?.bind fun r6 =>
      bif r6.2.2.1 then
        bif r6.2.2.2.1 then
          some (r6.2.2.2.2.2.2.1 == 1)
        else
          some false
      else
        some false
    | .inr o9 =>
      some o9
def ref18_Right_fa : FnA := ⟨.two (.reg [(0, { ids := [100] })]) (.two (.two (.join ⟨[1, 28], ⟨(.cons (.own 0 100 0 0) (.cons (.p .bool) .nil)), [(100, false, (.vars (.cons (.p (.sl (.pair (.int .i64) (.pair (.int .i64) (.pair .bool (.pair .bool (.pair (.int .i64) (.pair (.sl (.pair (.int .i64) (.int .i64))) (.pair (.int .i64) (.sl (.pair .str (.int .i64)))))))))))) (.cons (.p (.int .i64)) .nil))))]⟩⟩ false [] (.leaf)) (.two (.leaf) (.leaf))) (.two (.leaf) (.two (.two (.leaf) (.one (.pre (.ownNil 3 3 101) (.loop ⟨[1, 3, 4], ⟨(.cons (.own 0 100 0 0) (.cons (.slf 1 101) (.cons (.p (.int .i64)) .nil))), [(100, false, (.vars (.cons (.p (.sl (.pair (.int .i64) (.pair (.int .i64) (.pair .bool (.pair .bool (.pair (.int .i64) (.pair (.sl (.pair (.int .i64) (.int .i64))) (.pair (.int .i64) (.sl (.pair .str (.int .i64)))))))))))) (.cons (.p (.int .i64)) .nil)))), (101, false, (.rows 3 (.int .i64)))]⟩⟩ true [(0, ⟨[1], ⟨(.cons (.own 0 100 0 0) .nil), [(100, false, (.vars (.cons (.p (.sl (.pair (.int .i64) (.pair (.int .i64) (.pair .bool (.pair .bool (.pair (.int .i64) (.pair (.sl (.pair (.int .i64) (.int .i64))) (.pair (.int .i64) (.sl (.pair .str (.int .i64)))))))))))) (.cons (.p (.int .i64)) .nil))))]⟩⟩)] (.two (.two (.leaf) (.leaf)) (.two (.one (.two (.reg [(5, { ids := [102] })]) (.two (.two (.join ⟨[1, 3, 5, 51], ⟨(.cons (.own 0 100 0 0) (.cons (.slf 1 101) (.cons (.own 0 102 0 0) (.cons (.p .bool) .nil)))), [(100, false, (.vars (.cons (.p (.sl (.pair (.int .i64) (.pair (.int .i64) (.pair .bool (.pair .bool (.pair (.int .i64) (.pair (.sl (.pair (.int .i64) (.int .i64))) (.pair (.int .i64) (.sl (.pair .str (.int .i64)))))))))))) (.cons (.p (.int .i64)) .nil)))), (101, false, (.rows 3 (.int .i64))), (102, false, (.vars (.cons (.p (.int .i64)) (.cons (.p (.int .i64)) (.cons (.p .bool) (.cons (.p .bool) (.cons (.p (.int .i64)) (.cons (.p (.sl (.pair (.int .i64) (.int .i64)))) (.cons (.p (.int .i64)) (.cons (.p (.sl (.pair .str (.int .i64)))) .nil))))))))))]⟩⟩ false [] (.reg [(8, {  })])) (.two (.leaf) (.leaf))) (.two (.leaf) (.one (.loop ⟨[1, 3, 5, 6], ⟨(.cons (.own 0 100 0 0) (.cons (.slf 1 101) (.cons (.own 0 102 0 0) (.cons (.p (.int .i64)) .nil)))), [(100, false, (.vars (.cons (.p (.sl (.pair (.int .i64) (.pair (.int .i64) (.pair .bool (.pair .bool (.pair (.int .i64) (.pair (.sl (.pair (.int .i64) (.int .i64))) (.pair (.int .i64) (.sl (.pair .str (.int .i64)))))))))))) (.cons (.p (.int .i64)) .nil)))), (101, false, (.rows 3 (.int .i64))), (102, false, (.vars (.cons (.p (.int .i64)) (.cons (.p (.int .i64)) (.cons (.p .bool) (.cons (.p .bool) (.cons (.p (.int .i64)) (.cons (.p (.sl (.pair (.int .i64) (.int .i64)))) (.cons (.p (.int .i64)) (.cons (.p (.sl (.pair .str (.int .i64)))) .nil))))))))))]⟩⟩ true [(2, ⟨[1, 3], ⟨(.cons (.own 0 100 0 0) (.cons (.slf 1 101) .nil)), [(100, false, (.vars (.cons (.p (.sl (.pair (.int .i64) (.pair (.int .i64) (.pair .bool (.pair .bool (.pair (.int .i64) (.pair (.sl (.pair (.int .i64) (.int .i64))) (.pair (.int .i64) (.sl (.pair .str (.int .i64)))))))))))) (.cons (.p (.int .i64)) .nil)))), (101, false, (.rows 3 (.int .i64)))]⟩⟩)] (.two (.two (.leaf) (.leaf)) (.two (.join ⟨[1, 3, 5], ⟨(.cons (.own 0 100 0 0) (.cons (.slf 1 101) (.cons (.own 0 102 0 0) .nil))), [(100, false, (.vars (.cons (.p (.sl (.pair (.int .i64) (.pair (.int .i64) (.pair .bool (.pair .bool (.pair (.int .i64) (.pair (.sl (.pair (.int .i64) (.int .i64))) (.pair (.int .i64) (.sl (.pair .str (.int .i64)))))))))))) (.cons (.p (.int .i64)) .nil)))), (101, false, (.rows 3 (.int .i64))), (102, false, (.vars (.cons (.p (.int .i64)) (.cons (.p (.int .i64)) (.cons (.p .bool) (.cons (.p .bool) (.cons (.p (.int .i64)) (.cons (.p (.sl (.pair (.int .i64) (.int .i64)))) (.cons (.p (.int .i64)) (.cons (.p (.sl (.pair .str (.int .i64)))) .nil))))))))))]⟩⟩ true [] (.one (.two (.two (.leaf) (.leaf)) (.two (.two (.leaf) (.one (.loop ⟨[1, 3, 5, 7], ⟨(.cons (.own 0 100 0 0) (.cons (.slf 1 101) (.cons (.own 0 102 0 0) (.cons (.p (.int .i64)) .nil)))), [(100, false, (.vars (.cons (.p (.sl (.pair (.int .i64) (.pair (.int .i64) (.pair .bool (.pair .bool (.pair (.int .i64) (.pair (.sl (.pair (.int .i64) (.int .i64))) (.pair (.int .i64) (.sl (.pair .str (.int .i64)))))))))))) (.cons (.p (.int .i64)) .nil)))), (101, false, (.rows 3 (.int .i64))), (102, false, (.vars (.cons (.p (.int .i64)) (.cons (.p (.int .i64)) (.cons (.p .bool) (.cons (.p .bool) (.cons (.p (.int .i64)) (.cons (.p (.sl (.pair (.int .i64) (.int .i64)))) (.cons (.p (.int .i64)) (.cons (.p (.sl (.pair .str (.int .i64)))) .nil))))))))))]⟩⟩ true [(4, ⟨[1, 3, 5], ⟨(.cons (.own 0 100 0 0) (.cons (.slf 1 101) (.cons (.own 0 102 0 0) .nil))), [(100, false, (.vars (.cons (.p (.sl (.pair (.int .i64) (.pair (.int .i64) (.pair .bool (.pair .bool (.pair (.int .i64) (.pair (.sl (.pair (.int .i64) (.int .i64))) (.pair (.int .i64) (.sl (.pair .str (.int .i64)))))))))))) (.cons (.p (.int .i64)) .nil)))), (101, false, (.rows 3 (.int .i64))), (102, false, (.vars (.cons (.p (.int .i64)) (.cons (.p (.int .i64)) (.cons (.p .bool) (.cons (.p .bool) (.cons (.p (.int .i64)) (.cons (.p (.sl (.pair (.int .i64) (.int .i64)))) (.cons (.p (.int .i64)) (.cons (.p (.sl (.pair .str (.int .i64)))) .nil))))))))))]⟩⟩)] (.two (.two (.leaf) (.leaf)) (.two (.one (.two (.leaf) (.two (.leaf) (.leaf)))) (.leaf)))))) (.reg [(7, { ids := [103] }), (8, { ids := [104] })]))))) (.leaf))))))))) (.leaf))))))) (.two (.reg [(4, { ids := [105] })]) (.leaf))))), ⟨(.cons (.p (.pair (.sl (.pair (.int .i64) (.pair (.int .i64) (.pair .bool (.pair .bool (.pair (.int .i64) (.pair (.sl (.pair (.int .i64) (.int .i64))) (.pair (.int .i64) (.sl (.pair .str (.int .i64))))))))))) (.int .i64))) .nil), []⟩, [⟨(.cons (.p .bool) .nil), []⟩], [0]⟩
def ref18_Right_ft (fu : Nat) : FnT := ⟨19, ⟨(.cons (.p (.pair (.sl (.pair (.int .i64) (.pair (.int .i64) (.pair .bool (.pair .bool (.pair (.int .i64) (.pair (.sl (.pair (.int .i64) (.int .i64))) (.pair (.int .i64) (.sl (.pair .str (.int .i64))))))))))) (.int .i64))) .nil), []⟩, [⟨(.cons (.p .bool) .nil), []⟩], fun t => ref18_Right fu t⟩
theorem ref18_Right_eq (fu : Nat) : ∀ t, evF Go.Proofs.Try.prog [ref18_one_ft fu] fu Go.Proofs.Try.f19 ref18_Right_fa t = (ref18_Right_ft fu).spec t := fun t => by kernel_rfl
theorem ref18_Right_told (fu : Nat) : Told Go.Proofs.Try.prog (ref18_Right_ft fu) := told_of (allT_cons (ref18_one_told fu) allT_nil) mixed Go.Proofs.Try.func19 (by kernel_rfl) (by kernel_rfl) (ref18_Right_eq fu)

def ref18_is (fu : Nat) (t : (List ((Int × (Int × (Bool × (Bool × (Int × (List ((Int × Int)) × (Int × List ((List UInt8 × Int)))))))))) × Int)) (id : Int) (dir : Bool) : Option (Bool) :=
  bif (decide (id ≥ 1)) then
    bif (decide (id ≤ ((t.1.length : Nat) : Int))) then
      (idx? (IntKind.wrap .i64 (id - 1)) t.1.length).bind fun q =>
      (t.1)[q]?.bind fun r =>
      bif r.2.2.1 then
        (idx? (IntKind.wrap .i64 (id - 1)) t.1.length).bind fun q1 =>
        (t.1)[q1]?.bind fun r1 =>
        some (r1.2.2.2.1 == dir)
      else
        some false
    else
      some false
  else
    some false
def ref18_is_fa : FnA := ⟨.two (.reg [(0, { ids := [100] })]) (.leaf), ⟨(.cons (.p (.pair (.sl (.pair (.int .i64) (.pair (.int .i64) (.pair .bool (.pair .bool (.pair (.int .i64) (.pair (.sl (.pair (.int .i64) (.int .i64))) (.pair (.int .i64) (.sl (.pair .str (.int .i64))))))))))) (.int .i64))) (.cons (.p (.int .i64)) (.cons (.p .bool) .nil))), []⟩, [⟨(.cons (.p .bool) .nil), []⟩], [0]⟩
def ref18_is_ft (fu : Nat) : FnT := ⟨39, ⟨(.cons (.p (.pair (.sl (.pair (.int .i64) (.pair (.int .i64) (.pair .bool (.pair .bool (.pair (.int .i64) (.pair (.sl (.pair (.int .i64) (.int .i64))) (.pair (.int .i64) (.sl (.pair .str (.int .i64))))))))))) (.int .i64))) (.cons (.p (.int .i64)) (.cons (.p .bool) .nil))), []⟩, [⟨(.cons (.p .bool) .nil), []⟩], fun t => ref18_is fu t.1 t.2.1 t.2.2⟩
theorem ref18_is_eq (fu : Nat) : ∀ t, evF Go.Proofs.Try.prog [] fu Go.Proofs.Try.f39 ref18_is_fa t = (ref18_is_ft fu).spec t := fun t => by kernel_rfl
theorem ref18_is_told (fu : Nat) : Told Go.Proofs.Try.prog (ref18_is_ft fu) := told_of allT_nil mixed Go.Proofs.Try.func39 (by kernel_rfl) (by kernel_rfl) (ref18_is_eq fu)

def ref18_Alloc_l0 (fu : Nat) (at_ : Int) (h : List ((Int × (Int × (Bool × (Bool × (Int × (List ((Int × Int)) × (Int × List ((List UInt8 × Int))))))))))) (h1 : Int) (h2 : Int) (h3 : Int) (h4 : Int) (h5 : Int) (h6 : List ((Int × (Int × (Bool × (Bool × (Int × (List ((Int × Int)) × (Int × List ((List UInt8 × Int))))))))))) : Option ((Int × (List ((Int × (Int × (Bool × (Bool × (Int × (List ((Int × Int)) × (Int × List ((List UInt8 × Int)))))))))) × (Int × (Int × (Int × (Int × (Int × List ((Int × (Int × (Bool × (Bool × (Int × (List ((Int × Int)) × (Int × List ((List UInt8 × Int))))))))))))))))) ⊕ ((Int × (List ((Int × (Int × (Bool × (Bool × (Int × (List ((Int × Int)) × (Int × List ((List UInt8 × Int)))))))))) × (Int × (Int × (Int × (Int × (Int × List ((Int × (Int × (Bool × (Bool × (Int × (List ((Int × Int)) × (Int × List ((List UInt8 × Int))))))))))))))))))) :=
  Option.bind (α := ((Bool × (List ((Int × (Int × (Bool × (Bool × (Int × (List ((Int × Int)) × (Int × List ((List UInt8 × Int)))))))))) × (Int × (Int × (Int × (Int × (Int × List ((Int × (Int × (Bool × (Bool × (Int × (List ((Int × Int)) × (Int × List ((List UInt8 × Int))))))))))))))))))) (
    bif (decide (at_ < ((h6.length : Nat) : Int))) then
      (idx? at_ h6.length).bind fun q =>
      (h6)[q]?.bind fun r3 =>
      some (r3.2.2.1, (h, (h1, (h2, (h3, (h4, (h5, h6)))))))
    else
      some (false, (h, (h1, (h2, (h3, (h4, (h5, h6)))))))) fun o =>
  bif o.1 then
    some (.inl ((IntKind.wrap .i64 (at_ + 1)), (o.2.1, (o.2.2.1, (o.2.2.2.1, (o.2.2.2.2.1, (o.2.2.2.2.2.1, (o.2.2.2.2.2.2.1, o.2.2.2.2.2.2.2))))))))
  else
    some (.inr (at_, (o.2.1, (o.2.2.1, (o.2.2.2.1, (o.2.2.2.2.1, (o.2.2.2.2.2.1, (o.2.2.2.2.2.2.1, o.2.2.2.2.2.2.2))))))))
def ref18_Alloc_l0_it (fu : Nat)  (tt : (Int × (List ((Int × (Int × (Bool × (Bool × (Int × (List ((Int × Int)) × (Int × List ((List UInt8 × Int)))))))))) × (Int × (Int × (Int × (Int × (Int × List ((Int × (Int × (Bool × (Bool × (Int × (List ((Int × Int)) × (Int × List ((List UInt8 × Int)))))))))))))))))) : Option ((Int × (List ((Int × (Int × (Bool × (Bool × (Int × (List ((Int × Int)) × (Int × List ((List UInt8 × Int)))))))))) × (Int × (Int × (Int × (Int × (Int × List ((Int × (Int × (Bool × (Bool × (Int × (List ((Int × Int)) × (Int × List ((List UInt8 × Int)))))))))))))))))) :=
  iter fu (fun tt => ref18_Alloc_l0 fu tt.1 tt.2.1 tt.2.2.1 tt.2.2.2.1 tt.2.2.2.2.1 tt.2.2.2.2.2.1 tt.2.2.2.2.2.2.1 tt.2.2.2.2.2.2.2) tt
def ref18_Alloc (fu : Nat) (was : (List ((Int × (Int × (Bool × (Bool × (Int × (List ((Int × Int)) × (Int × List ((List UInt8 × Int)))))))))) × Int)) (dir : Bool) (parent : Int) : Option ((Int × (Int × (Int × (Int × List ((Int × (Int × (Bool × (Bool × (Int × (List ((Int × Int)) × (Int × List ((List UInt8 × Int))))))))))))))) :=
  (ref18_Copied fu (was.1, was.2)).bind fun r =>
  (ref18_Right fu (was.1, was.2)).bind fun r1 =>
  bif (!r1) then
    some (r.1, (0, (0, (180, r.2))))
  else
    (ref18_is fu (r.2, r.1) parent true).bind fun r2 =>
    bif (!r2) then
      some (r.1, (0, (0, (2, r.2))))
    else
      (ref18_Alloc_l0_it fu  (0, (was.1, (was.2, (0, (0, (0, (r.1, r.2)))))))).bind fun o1 =>
      Option.bind (α := ((List ((Int × (Int × (Bool × (Bool × (Int × (List ((Int × Int)) × (Int × List ((List UInt8 × Int)))))))))) × (Int × (Int × (Int × (Int × (Int × List ((Int × (Int × (Bool × (Bool × (Int × (List ((Int × Int)) × (Int × List ((List UInt8 × Int)))))))))))))))) ⊕ (Int × (Int × (Int × (Int × List ((Int × (Int × (Bool × (Bool × (Int × (List ((Int × Int)) × (Int × List ((List UInt8 × Int)))))))))))))))) (
        bif (o1.1 == ((o1.2.2.2.2.2.2.2.length : Nat) : Int)) then
          bif (decide (o1.1 ≥ 500)) then
            some (.inr (o1.2.2.2.2.2.2.1, (0, (0, (5, o1.2.2.2.2.2.2.2)))))
          else
            need ((Nat.ble ((o1.2.2.2.2.2.2.2.length + 1) * 88) room) && (Nat.ble (o1.2.2.2.2.2.2.2.length + 1) room)) <|
            some (.inl (o1.2.1, (o1.2.2.1, (o1.2.2.2.1, (o1.2.2.2.2.1, (o1.2.2.2.2.2.1, (o1.2.2.2.2.2.2.1, (o1.2.2.2.2.2.2.2 ++ [((IntKind.wrap .i64 (o1.1 + 1)), (0, (false, (false, (0, ([], (0, [])))))))]))))))))
        else
          some (.inl (o1.2.1, (o1.2.2.1, (o1.2.2.2.1, (o1.2.2.2.2.1, (o1.2.2.2.2.2.1, (o1.2.2.2.2.2.2.1, o1.2.2.2.2.2.2.2)))))))) fun o2 =>
      match o2 with
      | .inl s =>
        (idx? o1.1 s.2.2.2.2.2.2.length).bind fun q1 =>
        (s.2.2.2.2.2.2)[q1]?.bind fun r4 =>
        bif (decide (r4.2.1 ≥ 1099511627776)) then
          (ref18_Copied fu (s.1, s.2.1)).bind fun r5 =>
          some (r5.1, (0, (0, (5, r5.2))))
        else
          (s.2.2.2.2.2.2)[q1]?.bind fun r6 =>
          (s.2.2.2.2.2.2)[q1]?.bind fun r7 =>
          ((List.set s.2.2.2.2.2.2 q1 (r7.1, ((IntKind.wrap .i64 (r6.2.1 + 1)), r7.2.2))))[q1]?.bind fun r8 =>
          ((List.set (List.set s.2.2.2.2.2.2 q1 (r7.1, ((IntKind.wrap .i64 (r6.2.1 + 1)), r7.2.2))) q1 (r8.1, (r8.2.1, (true, r8.2.2.2)))))[q1]?.bind fun r9 =>
          ((List.set (List.set (List.set s.2.2.2.2.2.2 q1 (r7.1, ((IntKind.wrap .i64 (r6.2.1 + 1)), r7.2.2))) q1 (r8.1, (r8.2.1, (true, r8.2.2.2)))) q1 (r9.1, (r9.2.1, (r9.2.2.1, (dir, r9.2.2.2.2))))))[q1]?.bind fun r10 =>
          ((List.set (List.set (List.set (List.set s.2.2.2.2.2.2 q1 (r7.1, ((IntKind.wrap .i64 (r6.2.1 + 1)), r7.2.2))) q1 (r8.1, (r8.2.1, (true, r8.2.2.2)))) q1 (r9.1, (r9.2.1, (r9.2.2.1, (dir, r9.2.2.2.2))))) q1 (r10.1, (r10.2.1, (r10.2.2.1, (r10.2.2.2.1, (r10.2.2.2.2.1, (r10.2.2.2.2.2.1, (parent, r10.2.2.2.2.2.2.2)))))))))[q1]?.bind fun r11 =>
          ((List.set (List.set (List.set (List.set s.2.2.2.2.2.2 q1 (r7.1, ((IntKind.wrap .i64 (r6.2.1 + 1)), r7.2.2))) q1 (r8.1, (r8.2.1, (true, r8.2.2.2)))) q1 (r9.1, (r9.2.1, (r9.2.2.1, (dir, r9.2.2.2.2))))) q1 (r10.1, (r10.2.1, (r10.2.2.1, (r10.2.2.2.1, (r10.2.2.2.2.1, (r10.2.2.2.2.2.1, (parent, r10.2.2.2.2.2.2.2)))))))))[q1]?.bind fun r12 =>
          some (s.2.2.2.2.2.1, (r11.1, (r12.2.1, (0, (List.set (List.set (List.set (List.set s.2.2.2.2.2.2 q1 (r7.1, ((IntKind.wrap .i64 (r6.2.1 + 1)), r7.2.2))) q1 (r8.1, (r8.2.1, (true, r8.2.2.2)))) q1 (r9.1, (r9.2.1, (r9.2.2.1, (dir, r9.2.2.2.2))))) q1 (r10.1, (r10.2.1, (r10.2.2.1, (r10.2.2.2.1, (r10.2.2.2.2.1, (r10.2.2.2.2.2.1, (parent, r10.2.2.2.2.2.2.2))))))))))))
      | .inr o3 =>
        some o3
def ref18_Alloc_fa : FnA := ⟨.two (.reg [(0, { ids := [100] }), (1, { ids := [101] }), (2, { ids := [102] })]) (.two (.reg [(1, { ids := [103] }), (2, { ids := [104] })]) (.two (.two (.reg [(1, { fn := 1 })]) (.two (.leaf) (.leaf))) (.two (.two (.reg [(2, { md := [2, 0, 0], fn := 2 })]) (.two (.leaf) (.leaf))) (.two (.leaf) (.two (.one (.loop ⟨[3, 6, 7, 9, 10], ⟨(.cons (.own 0 100 0 0) (.cons (.own 0 101 0 0) (.cons (.own 0 102 0 0) (.cons (.own 0 104 0 0) (.cons (.p (.int .i64)) .nil))))), [(100, false, (.vars (.cons (.p (.sl (.pair (.int .i64) (.pair (.int .i64) (.pair .bool (.pair .bool (.pair (.int .i64) (.pair (.sl (.pair (.int .i64) (.int .i64))) (.pair (.int .i64) (.sl (.pair .str (.int .i64)))))))))))) (.cons (.p (.int .i64)) .nil)))), (101, false, (.vars (.cons (.nilp (.slice none 0 0)) (.cons (.p (.int .i64)) .nil)))), (102, false, (.vars (.cons (.p (.int .i64)) (.cons (.p (.int .i64)) .nil)))), (104, false, (.vars (.cons (.slf 8 103) (.cons (.p (.int .i64)) .nil)))), (103, false, (.rows 30 (.pair (.int .i64) (.pair (.int .i64) (.pair .bool (.pair .bool (.pair (.int .i64) (.pair (.sl (.pair (.int .i64) (.int .i64))) (.pair (.int .i64) (.sl (.pair .str (.int .i64))))))))))))]⟩⟩ false [(0, ⟨[3, 6, 7, 9, 10], ⟨(.cons (.own 0 100 0 0) (.cons (.own 0 101 0 0) (.cons (.own 0 102 0 0) (.cons (.own 0 104 0 0) (.cons (.p (.int .i64)) .nil))))), [(100, false, (.vars (.cons (.p (.sl (.pair (.int .i64) (.pair (.int .i64) (.pair .bool (.pair .bool (.pair (.int .i64) (.pair (.sl (.pair (.int .i64) (.int .i64))) (.pair (.int .i64) (.sl (.pair .str (.int .i64)))))))))))) (.cons (.p (.int .i64)) .nil)))), (101, false, (.vars (.cons (.nilp (.slice none 0 0)) (.cons (.p (.int .i64)) .nil)))), (102, false, (.vars (.cons (.p (.int .i64)) (.cons (.p (.int .i64)) .nil)))), (104, false, (.vars (.cons (.slf 8 103) (.cons (.p (.int .i64)) .nil)))), (103, false, (.rows 30 (.pair (.int .i64) (.pair (.int .i64) (.pair .bool (.pair .bool (.pair (.int .i64) (.pair (.sl (.pair (.int .i64) (.int .i64))) (.pair (.int .i64) (.sl (.pair .str (.int .i64))))))))))))]⟩⟩)] (.two (.two (.join ⟨[3, 6, 7, 9, 37], ⟨(.cons (.own 0 100 0 0) (.cons (.own 0 101 0 0) (.cons (.own 0 102 0 0) (.cons (.own 0 104 0 0) (.cons (.p .bool) .nil))))), [(100, false, (.vars (.cons (.p (.sl (.pair (.int .i64) (.pair (.int .i64) (.pair .bool (.pair .bool (.pair (.int .i64) (.pair (.sl (.pair (.int .i64) (.int .i64))) (.pair (.int .i64) (.sl (.pair .str (.int .i64)))))))))))) (.cons (.p (.int .i64)) .nil)))), (101, false, (.vars (.cons (.nilp (.slice none 0 0)) (.cons (.p (.int .i64)) .nil)))), (102, false, (.vars (.cons (.p (.int .i64)) (.cons (.p (.int .i64)) .nil)))), (104, false, (.vars (.cons (.slf 8 103) (.cons (.p (.int .i64)) .nil)))), (103, false, (.rows 30 (.pair (.int .i64) (.pair (.int .i64) (.pair .bool (.pair .bool (.pair (.int .i64) (.pair (.sl (.pair (.int .i64) (.int .i64))) (.pair (.int .i64) (.sl (.pair .str (.int .i64))))))))))))]⟩⟩ false [] (.leaf)) (.leaf)) (.leaf)))) (.two (.two (.leaf) (.join ⟨[3, 6, 7, 9], ⟨(.cons (.own 0 100 0 0) (.cons (.own 0 101 0 0) (.cons (.own 0 102 0 0) (.cons (.own 0 104 0 0) .nil)))), [(100, false, (.vars (.cons (.p (.sl (.pair (.int .i64) (.pair (.int .i64) (.pair .bool (.pair .bool (.pair (.int .i64) (.pair (.sl (.pair (.int .i64) (.int .i64))) (.pair (.int .i64) (.sl (.pair .str (.int .i64)))))))))))) (.cons (.p (.int .i64)) .nil)))), (101, false, (.vars (.cons (.nilp (.slice none 0 0)) (.cons (.p (.int .i64)) .nil)))), (102, false, (.vars (.cons (.p (.int .i64)) (.cons (.p (.int .i64)) .nil)))), (104, false, (.vars (.cons (.slf 8 106) (.cons (.p (.int .i64)) .nil)))), (106, false, (.rows 30 (.pair (.int .i64) (.pair (.int .i64) (.pair .bool (.pair .bool (.pair (.int .i64) (.pair (.sl (.pair (.int .i64) (.int .i64))) (.pair (.int .i64) (.sl (.pair .str (.int .i64))))))))))))]⟩⟩ true [] (.two (.two (.two (.leaf) (.two (.leaf) (.leaf))) (.reg [(5, { ids := [105] }), (6, { ids := [106] })])) (.leaf)))) (.two (.leaf) (.two (.two (.leaf) (.two (.two (.reg [(1, { ids := [107] })]) (.leaf)) (.leaf))) (.two (.leaf) (.two (.leaf) (.leaf))))))))))), ⟨(.cons (.p (.pair (.sl (.pair (.int .i64) (.pair (.int .i64) (.pair .bool (.pair .bool (.pair (.int .i64) (.pair (.sl (.pair (.int .i64) (.int .i64))) (.pair (.int .i64) (.sl (.pair .str (.int .i64))))))))))) (.int .i64))) (.cons (.p .bool) (.cons (.p (.int .i64)) .nil))), []⟩, [⟨(.cons (.agg (.cons (.slf 8 0) (.cons (.p (.int .i64)) .nil))) (.cons (.agg (.cons (.p (.int .i64)) (.cons (.p (.int .i64)) .nil))) (.cons (.p (.int .i64)) .nil))), [(0, false, (.rows 30 (.pair (.int .i64) (.pair (.int .i64) (.pair .bool (.pair .bool (.pair (.int .i64) (.pair (.sl (.pair (.int .i64) (.int .i64))) (.pair (.int .i64) (.sl (.pair .str (.int .i64))))))))))))]⟩], [0, 0, 0]⟩
def ref18_Alloc_ft (fu : Nat) : FnT := ⟨15, ⟨(.cons (.p (.pair (.sl (.pair (.int .i64) (.pair (.int .i64) (.pair .bool (.pair .bool (.pair (.int .i64) (.pair (.sl (.pair (.int .i64) (.int .i64))) (.pair (.int .i64) (.sl (.pair .str (.int .i64))))))))))) (.int .i64))) (.cons (.p .bool) (.cons (.p (.int .i64)) .nil))), []⟩, [⟨(.cons (.agg (.cons (.slf 8 0) (.cons (.p (.int .i64)) .nil))) (.cons (.agg (.cons (.p (.int .i64)) (.cons (.p (.int .i64)) .nil))) (.cons (.p (.int .i64)) .nil))), [(0, false, (.rows 30 (.pair (.int .i64) (.pair (.int .i64) (.pair .bool (.pair .bool (.pair (.int .i64) (.pair (.sl (.pair (.int .i64) (.int .i64))) (.pair (.int .i64) (.sl (.pair .str (.int .i64))))))))))))]⟩], fun t => ref18_Alloc fu t.1 t.2.1 t.2.2⟩
theorem ref18_Alloc_eq (fu : Nat) : ∀ t, evF Go.Proofs.Try.prog [ref18_Copied_ft fu, ref18_Right_ft fu, ref18_is_ft fu] fu Go.Proofs.Try.f15 ref18_Alloc_fa t = (ref18_Alloc_ft fu).spec t := fun t => by kernel_rfl
theorem ref18_Alloc_told (fu : Nat) : Told Go.Proofs.Try.prog (ref18_Alloc_ft fu) := told_of (allT_cons (ref18_Copied_told fu) (allT_cons (ref18_Right_told fu) (allT_cons (ref18_is_told fu) allT_nil))) mixed Go.Proofs.Try.func15 (by kernel_rfl) (by kernel_rfl) (ref18_Alloc_eq fu)

def kit_SameParts_l0 (fu : Nat) (a : List ((Int × Int))) (b : List ((Int × Int))) (i : Int) : Option (Int ⊕ (Unit ⊕ Bool)) :=
  bif (decide (i < ((a.length : Nat) : Int))) then
    (idx? i a.length).bind fun q =>
    (a)[q]?.bind fun r =>
    (idx? i b.length).bind fun q1 =>
    (b)[q1]?.bind fun r1 =>
    bif (!((r.1 == r1.1) && (r.2 == r1.2))) then
      some (.inr (.inr false))
    else
      some (.inl (IntKind.wrap .i64 (i + 1)))
  else
    some (.inr (.inl ()))
def kit_SameParts_l0_it (fu : Nat) (a : List ((Int × Int))) (b : List ((Int × Int))) (tt : Int) : Option (Unit ⊕ Bool) :=
  iter fu (fun tt => kit_SameParts_l0 fu a b tt) tt
def kit_SameParts (fu : Nat) (a : List ((Int × Int))) (b : List ((Int × Int))) : Option (Bool) :=
  bif (!(((a.length : Nat) : Int) == ((b.length : Nat) : Int))) then
    some false
  else
    (kit_SameParts_l0_it fu a b 0).bind fun o =>
    match o with
    | .inl s =>
      some true
    | .inr o1 =>
      some o1
def kit_SameParts_fa : FnA := ⟨.two (.leaf) (.two (.two (.leaf) (.two (.leaf) (.leaf))) (.two (.two (.leaf) (.one (.loop ⟨[5], ⟨(.cons (.p (.int .i64)) .nil), []⟩⟩ true [(0, ⟨[], ⟨.nil, []⟩⟩)] (.two (.two (.leaf) (.leaf)) (.two (.one (.two (.leaf) (.two (.leaf) (.leaf)))) (.leaf)))))) (.leaf))), ⟨(.cons (.p (.sl (.pair (.int .i64) (.int .i64)))) (.cons (.p (.sl (.pair (.int .i64) (.int .i64)))) .nil)), []⟩, [⟨(.cons (.p .bool) .nil), []⟩], [0]⟩
def kit_SameParts_ft (fu : Nat) : FnT := ⟨24, ⟨(.cons (.p (.sl (.pair (.int .i64) (.int .i64)))) (.cons (.p (.sl (.pair (.int .i64) (.int .i64)))) .nil)), []⟩, [⟨(.cons (.p .bool) .nil), []⟩], fun t => kit_SameParts fu t.1 t.2⟩
theorem kit_SameParts_eq (fu : Nat) : ∀ t, evF Go.Proofs.Try.prog [] fu Go.Proofs.Try.f24 kit_SameParts_fa t = (kit_SameParts_ft fu).spec t := fun t => by kernel_rfl
theorem kit_SameParts_told (fu : Nat) : Told Go.Proofs.Try.prog (kit_SameParts_ft fu) := told_of allT_nil mixed Go.Proofs.Try.func24 (by kernel_rfl) (by kernel_rfl) (kit_SameParts_eq fu)

def kit_SameEntries_l0 (fu : Nat) (a : List ((List UInt8 × Int))) (b : List ((List UInt8 × Int))) (i : Int) : Option (Int ⊕ (Unit ⊕ Bool)) :=
  bif (decide (i < ((a.length : Nat) : Int))) then
    (idx? i a.length).bind fun q =>
    (a)[q]?.bind fun r =>
    (idx? i b.length).bind fun q1 =>
    (b)[q1]?.bind fun r1 =>
    bif (!((r.1 == r1.1) && (r.2 == r1.2))) then
      some (.inr (.inr false))
    else
      some (.inl (IntKind.wrap .i64 (i + 1)))
  else
    some (.inr (.inl ()))
def kit_SameEntries_l0_it (fu : Nat) (a : List ((List UInt8 × Int))) (b : List ((List UInt8 × Int))) (tt : Int) : Option (Unit ⊕ Bool) :=
  iter fu (fun tt => kit_SameEntries_l0 fu a b tt) tt
def kit_SameEntries (fu : Nat) (a : List ((List UInt8 × Int))) (b : List ((List UInt8 × Int))) : Option (Bool) :=
  bif (!(((a.length : Nat) : Int) == ((b.length : Nat) : Int))) then
    some false
  else
    (kit_SameEntries_l0_it fu a b 0).bind fun o =>
    match o with
    | .inl s =>
      some true
    | .inr o1 =>
      some o1
def kit_SameEntries_fa : FnA := ⟨.two (.leaf) (.two (.two (.leaf) (.two (.leaf) (.leaf))) (.two (.two (.leaf) (.one (.loop ⟨[5], ⟨(.cons (.p (.int .i64)) .nil), []⟩⟩ true [(0, ⟨[], ⟨.nil, []⟩⟩)] (.two (.two (.leaf) (.leaf)) (.two (.one (.two (.leaf) (.two (.leaf) (.leaf)))) (.leaf)))))) (.leaf))), ⟨(.cons (.p (.sl (.pair .str (.int .i64)))) (.cons (.p (.sl (.pair .str (.int .i64)))) .nil)), []⟩, [⟨(.cons (.p .bool) .nil), []⟩], [0]⟩
def kit_SameEntries_ft (fu : Nat) : FnT := ⟨40, ⟨(.cons (.p (.sl (.pair .str (.int .i64)))) (.cons (.p (.sl (.pair .str (.int .i64)))) .nil)), []⟩, [⟨(.cons (.p .bool) .nil), []⟩], fun t => kit_SameEntries fu t.1 t.2⟩
theorem kit_SameEntries_eq (fu : Nat) : ∀ t, evF Go.Proofs.Try.prog [] fu Go.Proofs.Try.f40 kit_SameEntries_fa t = (kit_SameEntries_ft fu).spec t := fun t => by kernel_rfl
theorem kit_SameEntries_told (fu : Nat) : Told Go.Proofs.Try.prog (kit_SameEntries_ft fu) := told_of allT_nil mixed Go.Proofs.Try.func40 (by kernel_rfl) (by kernel_rfl) (kit_SameEntries_eq fu)

def kit_SameInode (fu : Nat) (a : (Int × (Int × (Bool × (Bool × (Int × (List ((Int × Int)) × (Int × List ((List UInt8 × Int)))))))))) (b : (Int × (Int × (Bool × (Bool × (Int × (List ((Int × Int)) × (Int × List ((List UInt8 × Int)))))))))) : Option (Bool) :=
  bif (a.1 == b.1) then
    bif (a.2.1 == b.2.1) then
      bif (a.2.2.1 == b.2.2.1) then
        bif (a.2.2.2.1 == b.2.2.2.1) then
          bif (a.2.2.2.2.1 == b.2.2.2.2.1) then
            bif (a.2.2.2.2.2.2.1 == b.2.2.2.2.2.2.1) then
              (kit_SameParts fu a.2.2.2.2.2.1 b.2.2.2.2.2.1).bind fun r =>
              bif r then
                (kit_SameEntries fu a.2.2.2.2.2.2.2 b.2.2.2.2.2.2.2).bind fun r1 =>
                some r1
              else
                some false
            else
              some false
          else
            some false
        else
          some false
      else
        some false
    else
      some false
  else
    some false
def kit_SameInode_fa : FnA := ⟨.two (.reg [(0, { ids := [100] }), (1, { ids := [101] })]) (.two (.reg [(45, {  }), (52, { fn := 1 })]) (.leaf)), ⟨(.cons (.p (.pair (.int .i64) (.pair (.int .i64) (.pair .bool (.pair .bool (.pair (.int .i64) (.pair (.sl (.pair (.int .i64) (.int .i64))) (.pair (.int .i64) (.sl (.pair .str (.int .i64))))))))))) (.cons (.p (.pair (.int .i64) (.pair (.int .i64) (.pair .bool (.pair .bool (.pair (.int .i64) (.pair (.sl (.pair (.int .i64) (.int .i64))) (.pair (.int .i64) (.sl (.pair .str (.int .i64))))))))))) .nil)), []⟩, [⟨(.cons (.p .bool) .nil), []⟩], [0]⟩
def kit_SameInode_ft (fu : Nat) : FnT := ⟨16, ⟨(.cons (.p (.pair (.int .i64) (.pair (.int .i64) (.pair .bool (.pair .bool (.pair (.int .i64) (.pair (.sl (.pair (.int .i64) (.int .i64))) (.pair (.int .i64) (.sl (.pair .str (.int .i64))))))))))) (.cons (.p (.pair (.int .i64) (.pair (.int .i64) (.pair .bool (.pair .bool (.pair (.int .i64) (.pair (.sl (.pair (.int .i64) (.int .i64))) (.pair (.int .i64) (.sl (.pair .str (.int .i64))))))))))) .nil)), []⟩, [⟨(.cons (.p .bool) .nil), []⟩], fun t => kit_SameInode fu t.1 t.2⟩
theorem kit_SameInode_eq (fu : Nat) : ∀ t, evF Go.Proofs.Try.prog [kit_SameParts_ft fu, kit_SameEntries_ft fu] fu Go.Proofs.Try.f16 kit_SameInode_fa t = (kit_SameInode_ft fu).spec t := fun t => by kernel_rfl
theorem kit_SameInode_told (fu : Nat) : Told Go.Proofs.Try.prog (kit_SameInode_ft fu) := told_of (allT_cons (kit_SameParts_told fu) (allT_cons (kit_SameEntries_told fu) allT_nil)) mixed Go.Proofs.Try.func16 (by kernel_rfl) (by kernel_rfl) (kit_SameInode_eq fu)

def kit_SameTree_l0 (fu : Nat) (o : (Bool × (List ((Int × (Int × (Bool × (Bool × (Int × (List ((Int × Int)) × (Int × List ((List UInt8 × Int)))))))))) × (Int × (List ((Int × (Int × (Bool × (Bool × (Int × (List ((Int × Int)) × (Int × List ((List UInt8 × Int)))))))))) × Int))))) (x : Int) (h : List ((Int × (Int × (Bool × (Bool × (Int × (List ((Int × Int)) × (Int × List ((List UInt8 × Int))))))))))) (h1 : Int) (h2 : List ((Int × (Int × (Bool × (Bool × (Int × (List ((Int × Int)) × (Int × List ((List UInt8 × Int))))))))))) (h3 : Int) : Option ((Int × (List ((Int × (Int × (Bool × (Bool × (Int × (List ((Int × Int)) × (Int × List ((List UInt8 × Int)))))))))) × (Int × (List ((Int × (Int × (Bool × (Bool × (Int × (List ((Int × Int)) × (Int × List ((List UInt8 × Int)))))))))) × Int)))) ⊕ (Unit ⊕ Bool)) :=
  bif (decide (x < ((o.2.1.length : Nat) : Int))) then
    (idx? x h.length).bind fun q =>
    (h)[q]?.bind fun r =>
    (idx? x h2.length).bind fun q1 =>
    (h2)[q1]?.bind fun r1 =>
    (kit_SameInode fu r r1).bind fun r2 =>
    bif (!r2) then
      some (.inr (.inr false))
    else
      some (.inl ((IntKind.wrap .i64 (x + 1)), (h, (h1, (h2, h3)))))
  else
    some (.inr (.inl ()))
def kit_SameTree_l0_it (fu : Nat) (o : (Bool × (List ((Int × (Int × (Bool × (Bool × (Int × (List ((Int × Int)) × (Int × List ((List UInt8 × Int)))))))))) × (Int × (List ((Int × (Int × (Bool × (Bool × (Int × (List ((Int × Int)) × (Int × List ((List UInt8 × Int)))))))))) × Int))))) (tt : (Int × (List ((Int × (Int × (Bool × (Bool × (Int × (List ((Int × Int)) × (Int × List ((List UInt8 × Int)))))))))) × (Int × (List ((Int × (Int × (Bool × (Bool × (Int × (List ((Int × Int)) × (Int × List ((List UInt8 × Int)))))))))) × Int))))) : Option (Unit ⊕ Bool) :=
  iter fu (fun tt => kit_SameTree_l0 fu o tt.1 tt.2.1 tt.2.2.1 tt.2.2.2.1 tt.2.2.2.2) tt
def kit_SameTree (fu : Nat) (a : (List ((Int × (Int × (Bool × (Bool × (Int × (List ((Int × Int)) × (Int × List ((List UInt8 × Int)))))))))) × Int)) (b : (List ((Int × (Int × (Bool × (Bool × (Int × (List ((Int × Int)) × (Int × List ((List UInt8 × Int)))))))))) × Int)) : Option (Bool) :=
  Option.bind (α := ((Bool × (List ((Int × (Int × (Bool × (Bool × (Int × (List ((Int × Int)) × (Int × List ((List UInt8 × Int)))))))))) × (Int × (List ((Int × (Int × (Bool × (Bool × (Int × (List ((Int × Int)) × (Int × List ((List UInt8 × Int)))))))))) × Int)))))) (
    bif (!(a.2 == b.2)) then
      some (true, (a.1, (a.2, (b.1, b.2))))
    else
      some ((!(((a.1.length : Nat) : Int) == ((b.1.length : Nat) : Int))), (a.1, (a.2, (b.1, b.2))))) fun o =>
  bif o.1 then
    some false
  else
    (kit_SameTree_l0_it fu o (0, (o.2.1, (o.2.2.1, (o.2.2.2.1, o.2.2.2.2))))).bind fun o1 =>
    match o1 with
    | .inl s =>
      some true
    | .inr o2 =>
      some o2
def kit_SameTree_fa : FnA := ⟨.two (.reg [(0, { ids := [100] }), (1, { ids := [101] })]) (.two (.two (.join ⟨[2, 3, 19], ⟨(.cons (.own 0 100 0 0) (.cons (.own 0 101 0 0) (.cons (.p .bool) .nil))), [(100, false, (.vars (.cons (.p (.sl (.pair (.int .i64) (.pair (.int .i64) (.pair .bool (.pair .bool (.pair (.int .i64) (.pair (.sl (.pair (.int .i64) (.int .i64))) (.pair (.int .i64) (.sl (.pair .str (.int .i64)))))))))))) (.cons (.p (.int .i64)) .nil)))), (101, false, (.vars (.cons (.p (.sl (.pair (.int .i64) (.pair (.int .i64) (.pair .bool (.pair .bool (.pair (.int .i64) (.pair (.sl (.pair (.int .i64) (.int .i64))) (.pair (.int .i64) (.sl (.pair .str (.int .i64)))))))))))) (.cons (.p (.int .i64)) .nil))))]⟩⟩ false [] (.leaf)) (.two (.leaf) (.leaf))) (.two (.two (.leaf) (.one (.loop ⟨[2, 3, 23], ⟨(.cons (.own 0 100 0 0) (.cons (.own 0 101 0 0) (.cons (.p (.int .i64)) .nil))), [(100, false, (.vars (.cons (.p (.sl (.pair (.int .i64) (.pair (.int .i64) (.pair .bool (.pair .bool (.pair (.int .i64) (.pair (.sl (.pair (.int .i64) (.int .i64))) (.pair (.int .i64) (.sl (.pair .str (.int .i64)))))))))))) (.cons (.p (.int .i64)) .nil)))), (101, false, (.vars (.cons (.p (.sl (.pair (.int .i64) (.pair (.int .i64) (.pair .bool (.pair .bool (.pair (.int .i64) (.pair (.sl (.pair (.int .i64) (.int .i64))) (.pair (.int .i64) (.sl (.pair .str (.int .i64)))))))))))) (.cons (.p (.int .i64)) .nil))))]⟩⟩ true [(0, ⟨[], ⟨.nil, []⟩⟩)] (.two (.leaf) (.two (.leaf) (.two (.one (.two (.leaf) (.two (.reg [(10, {  })]) (.two (.leaf) (.leaf))))) (.leaf))))))) (.leaf))), ⟨(.cons (.p (.pair (.sl (.pair (.int .i64) (.pair (.int .i64) (.pair .bool (.pair .bool (.pair (.int .i64) (.pair (.sl (.pair (.int .i64) (.int .i64))) (.pair (.int .i64) (.sl (.pair .str (.int .i64))))))))))) (.int .i64))) (.cons (.p (.pair (.sl (.pair (.int .i64) (.pair (.int .i64) (.pair .bool (.pair .bool (.pair (.int .i64) (.pair (.sl (.pair (.int .i64) (.int .i64))) (.pair (.int .i64) (.sl (.pair .str (.int .i64))))))))))) (.int .i64))) .nil)), []⟩, [⟨(.cons (.p .bool) .nil), []⟩], [0]⟩
def kit_SameTree_ft (fu : Nat) : FnT := ⟨17, ⟨(.cons (.p (.pair (.sl (.pair (.int .i64) (.pair (.int .i64) (.pair .bool (.pair .bool (.pair (.int .i64) (.pair (.sl (.pair (.int .i64) (.int .i64))) (.pair (.int .i64) (.sl (.pair .str (.int .i64))))))))))) (.int .i64))) (.cons (.p (.pair (.sl (.pair (.int .i64) (.pair (.int .i64) (.pair .bool (.pair .bool (.pair (.int .i64) (.pair (.sl (.pair (.int .i64) (.int .i64))) (.pair (.int .i64) (.sl (.pair .str (.int .i64))))))))))) (.int .i64))) .nil)), []⟩, [⟨(.cons (.p .bool) .nil), []⟩], fun t => kit_SameTree fu t.1 t.2⟩
theorem kit_SameTree_eq (fu : Nat) : ∀ t, evF Go.Proofs.Try.prog [kit_SameInode_ft fu] fu Go.Proofs.Try.f17 kit_SameTree_fa t = (kit_SameTree_ft fu).spec t := fun t => by kernel_rfl
theorem kit_SameTree_told (fu : Nat) : Told Go.Proofs.Try.prog (kit_SameTree_ft fu) := told_of (allT_cons (kit_SameInode_told fu) allT_nil) mixed Go.Proofs.Try.func17 (by kernel_rfl) (by kernel_rfl) (kit_SameTree_eq fu)

def ref18_New (fu : Nat)  : Option ((Int × List ((Int × (Int × (Bool × (Bool × (Int × (List ((Int × Int)) × (Int × List ((List UInt8 × Int)))))))))))) :=
  some (0, [(1, (1, (true, (true, (0, ([], (1, [])))))))])
def ref18_New_fa : FnA := ⟨.two (.reg [(0, { ids := [100] })]) (.two (.reg [(1, { ids := [101] })]) (.leaf)), ⟨.nil, []⟩, [⟨(.cons (.agg (.cons (.slf 8 0) (.cons (.p (.int .i64)) .nil))) .nil), [(0, false, (.rows 30 (.pair (.int .i64) (.pair (.int .i64) (.pair .bool (.pair .bool (.pair (.int .i64) (.pair (.sl (.pair (.int .i64) (.int .i64))) (.pair (.int .i64) (.sl (.pair .str (.int .i64))))))))))))]⟩], [0]⟩
def ref18_New_ft (fu : Nat) : FnT := ⟨20, ⟨.nil, []⟩, [⟨(.cons (.agg (.cons (.slf 8 0) (.cons (.p (.int .i64)) .nil))) .nil), [(0, false, (.rows 30 (.pair (.int .i64) (.pair (.int .i64) (.pair .bool (.pair .bool (.pair (.int .i64) (.pair (.sl (.pair (.int .i64) (.int .i64))) (.pair (.int .i64) (.sl (.pair .str (.int .i64))))))))))))]⟩], fun t => ref18_New fu ⟩
theorem ref18_New_eq (fu : Nat) : ∀ t, evF Go.Proofs.Try.prog [] fu Go.Proofs.Try.f20 ref18_New_fa t = (ref18_New_ft fu).spec t := fun t => by kernel_rfl
theorem ref18_New_told (fu : Nat) : Told Go.Proofs.Try.prog (ref18_New_ft fu) := told_of allT_nil mixed Go.Proofs.Try.func20 (by kernel_rfl) (by kernel_rfl) (ref18_New_eq fu)

def ref18_Drop_l0 (fu : Nat) (id : Int) (i : Int) (h : Int) (h1 : Int) (h2 : List ((Int × (Int × (Bool × (Bool × (Int × (List ((Int × Int)) × (Int × List ((List UInt8 × Int))))))))))) (h3 : List ((Int × Int))) : Option ((Int × (Int × (Int × (List ((Int × (Int × (Bool × (Bool × (Int × (List ((Int × Int)) × (Int × List ((List UInt8 × Int)))))))))) × List ((Int × Int)))))) ⊕ ((Int × (Int × (List ((Int × (Int × (Bool × (Bool × (Int × (List ((Int × Int)) × (Int × List ((List UInt8 × Int)))))))))) × List ((Int × Int))))))) :=
  (idx? (IntKind.wrap .i64 (id - 1)) h2.length).bind fun q =>
  (h2)[q]?.bind fun r4 =>
  bif (decide (i < ((r4.2.2.2.2.2.1.length : Nat) : Int))) then
    (idx? (IntKind.wrap .i64 (id - 1)) h2.length).bind fun q1 =>
    (h2)[q1]?.bind fun r5 =>
    (idx? i r5.2.2.2.2.2.1.length).bind fun q2 =>
    (r5.2.2.2.2.2.1)[q2]?.bind fun r6 =>
    Option.bind (α := ((Int × (Int × (List ((Int × (Int × (Bool × (Bool × (Int × (List ((Int × Int)) × (Int × List ((List UInt8 × Int)))))))))) × List ((Int × Int))))))) (
      bif (!((r6.1 == 0) && (r6.2 == 0))) then
        need ((Nat.ble ((h3.length + 1) * 16) room) && (Nat.ble (h3.length + 1) room)) <|
        some (h, (h1, (h2, (h3 ++ [(r6.1, r6.2)]))))
      else
        some (h, (h1, (h2, h3)))) fun o1 =>
    some (.inl ((IntKind.wrap .i64 (i + 1)), (o1.1, (o1.2.1, (o1.2.2.1, o1.2.2.2)))))
  else
    some (.inr (h, (h1, (h2, h3))))
def ref18_Drop_l0_it (fu : Nat) (id : Int) (tt : (Int × (Int × (Int × (List ((Int × (Int × (Bool × (Bool × (Int × (List ((Int × Int)) × (Int × List ((List UInt8 × Int)))))))))) × List ((Int × Int))))))) : Option ((Int × (Int × (List ((Int × (Int × (Bool × (Bool × (Int × (List ((Int × Int)) × (Int × List ((List UInt8 × Int)))))))))) × List ((Int × Int)))))) :=
  iter fu (fun tt => ref18_Drop_l0 fu id tt.1 tt.2.1 tt.2.2.1 tt.2.2.2.1 tt.2.2.2.2) tt
def ref18_Drop (fu : Nat) (was : (List ((Int × (Int × (Bool × (Bool × (Int × (List ((Int × Int)) × (Int × List ((List UInt8 × Int)))))))))) × Int)) (id : Int) : Option ((Int × (Int × (List ((Int × (Int × (Bool × (Bool × (Int × (List ((Int × Int)) × (Int × List ((List UInt8 × Int)))))))))) × List ((Int × Int)))))) :=
  (ref18_Copied fu (was.1, was.2)).bind fun r =>
  (ref18_Right fu (was.1, was.2)).bind fun r1 =>
  bif (!r1) then
    some (r.1, (180, (r.2, [])))
  else
    Option.bind (α := ((Bool × (Int × (Int × List ((Int × (Int × (Bool × (Bool × (Int × (List ((Int × Int)) × (Int × List ((List UInt8 × Int))))))))))))))) (
      bif (id == 1) then
        some (true, (0, (r.1, r.2)))
      else
        (ref18_is fu (r.2, r.1) id true).bind fun r2 =>
        bif (!r2) then
          (ref18_is fu (r.2, r.1) id false).bind fun r3 =>
          some ((!r3), (0, (r.1, r.2)))
        else
          some (false, (0, (r.1, r.2)))) fun o =>
    bif o.1 then
      some (o.2.2.1, (2, (o.2.2.2, [])))
    else
      (ref18_Drop_l0_it fu id (0, (o.2.1, (o.2.2.1, (o.2.2.2, []))))).bind fun o2 =>
      (idx? (IntKind.wrap .i64 (id - 1)) o2.2.2.1.length).bind fun q3 =>
      (o2.2.2.1)[q3]?.bind fun r7 =>
      (idx? (IntKind.wrap .i64 (id - 1)) o2.2.2.1.length).bind fun q4 =>
      (o2.2.2.1)[q4]?.bind fun r8 =>
      some (o2.2.1, (0, ((List.set o2.2.2.1 q4 (id, (r7.2.1, (false, (false, (0, ([], (0, [])))))))), o2.2.2.2)))
def ref18_Drop_fa : FnA := ⟨.two (.reg [(0, { ids := [100] }), (1, { ids := [101] })]) (.two (.reg [(1, { ids := [102] }), (2, { ids := [103] })]) (.two (.two (.reg [(1, { fn := 1 })]) (.two (.leaf) (.leaf))) (.two (.two (.join ⟨[4, 7, 30], ⟨(.cons (.own 0 101 0 0) (.cons (.own 0 103 0 0) (.cons (.p .bool) .nil))), [(101, false, (.vars (.cons (.nilp (.slice none 0 0)) (.cons (.p (.int .i64)) .nil)))), (103, false, (.vars (.cons (.slf 8 102) (.cons (.p (.int .i64)) .nil)))), (102, false, (.rows 30 (.pair (.int .i64) (.pair (.int .i64) (.pair .bool (.pair .bool (.pair (.int .i64) (.pair (.sl (.pair (.int .i64) (.int .i64))) (.pair (.int .i64) (.sl (.pair .str (.int .i64))))))))))))]⟩⟩ false [] (.reg [(5, { md := [2, 0, 0], fn := 2 }), (10, { md := [2, 0, 0], fn := 2 })])) (.two (.leaf) (.leaf))) (.two (.leaf) (.two (.two (.leaf) (.one (.pre (.ownNil 8 64 104) (.loop ⟨[4, 7, 8, 9], ⟨(.cons (.own 0 101 0 0) (.cons (.own 0 103 0 0) (.cons (.slf 2 104) (.cons (.p (.int .i64)) .nil)))), [(101, false, (.vars (.cons (.nilp (.slice none 0 0)) (.cons (.p (.int .i64)) .nil)))), (103, false, (.vars (.cons (.slf 8 102) (.cons (.p (.int .i64)) .nil)))), (102, false, (.rows 30 (.pair (.int .i64) (.pair (.int .i64) (.pair .bool (.pair .bool (.pair (.int .i64) (.pair (.sl (.pair (.int .i64) (.int .i64))) (.pair (.int .i64) (.sl (.pair .str (.int .i64)))))))))))), (104, false, (.rows 64 (.pair (.int .i64) (.int .i64))))]⟩⟩ false [(0, ⟨[4, 7, 8], ⟨(.cons (.own 0 101 0 0) (.cons (.own 0 103 0 0) (.cons (.slf 2 104) .nil))), [(101, false, (.vars (.cons (.nilp (.slice none 0 0)) (.cons (.p (.int .i64)) .nil)))), (103, false, (.vars (.cons (.slf 8 102) (.cons (.p (.int .i64)) .nil)))), (102, false, (.rows 30 (.pair (.int .i64) (.pair (.int .i64) (.pair .bool (.pair .bool (.pair (.int .i64) (.pair (.sl (.pair (.int .i64) (.int .i64))) (.pair (.int .i64) (.sl (.pair .str (.int .i64)))))))))))), (104, false, (.rows 64 (.pair (.int .i64) (.int .i64))))]⟩⟩)] (.two (.two (.leaf) (.leaf)) (.two (.one (.two (.reg [(10, { ids := [105] })]) (.two (.leaf) (.join ⟨[4, 7, 8], ⟨(.cons (.own 0 101 0 0) (.cons (.own 0 103 0 0) (.cons (.slf 2 107) .nil))), [(101, false, (.vars (.cons (.nilp (.slice none 0 0)) (.cons (.p (.int .i64)) .nil)))), (103, false, (.vars (.cons (.slf 8 102) (.cons (.p (.int .i64)) .nil)))), (102, false, (.rows 30 (.pair (.int .i64) (.pair (.int .i64) (.pair .bool (.pair .bool (.pair (.int .i64) (.pair (.sl (.pair (.int .i64) (.int .i64))) (.pair (.int .i64) (.sl (.pair .str (.int .i64)))))))))))), (107, false, (.rows 64 (.pair (.int .i64) (.int .i64))))]⟩⟩ false [] (.two (.reg [(2, { ids := [106] }), (3, { ids := [107] })]) (.leaf)))))) (.leaf))))))) (.two (.leaf) (.leaf))))))), ⟨(.cons (.p (.pair (.sl (.pair (.int .i64) (.pair (.int .i64) (.pair .bool (.pair .bool (.pair (.int .i64) (.pair (.sl (.pair (.int .i64) (.int .i64))) (.pair (.int .i64) (.sl (.pair .str (.int .i64))))))))))) (.int .i64))) (.cons (.p (.int .i64)) .nil)), []⟩, [⟨(.cons (.agg (.cons (.slf 8 0) (.cons (.p (.int .i64)) .nil))) (.cons (.slf 2 1) (.cons (.p (.int .i64)) .nil))), [(0, false, (.rows 30 (.pair (.int .i64) (.pair (.int .i64) (.pair .bool (.pair .bool (.pair (.int .i64) (.pair (.sl (.pair (.int .i64) (.int .i64))) (.pair (.int .i64) (.sl (.pair .str (.int .i64)))))))))))), (1, false, (.rows 64 (.pair (.int .i64) (.int .i64))))]⟩], [0, 74, 0]⟩
def ref18_Drop_ft (fu : Nat) : FnT := ⟨21, ⟨(.cons (.p (.pair (.sl (.pair (.int .i64) (.pair (.int .i64) (.pair .bool (.pair .bool (.pair (.int .i64) (.pair (.sl (.pair (.int .i64) (.int .i64))) (.pair (.int .i64) (.sl (.pair .str (.int .i64))))))))))) (.int .i64))) (.cons (.p (.int .i64)) .nil)), []⟩, [⟨(.cons (.agg (.cons (.slf 8 0) (.cons (.p (.int .i64)) .nil))) (.cons (.slf 2 1) (.cons (.p (.int .i64)) .nil))), [(0, false, (.rows 30 (.pair (.int .i64) (.pair (.int .i64) (.pair .bool (.pair .bool (.pair (.int .i64) (.pair (.sl (.pair (.int .i64) (.int .i64))) (.pair (.int .i64) (.sl (.pair .str (.int .i64)))))))))))), (1, false, (.rows 64 (.pair (.int .i64) (.int .i64))))]⟩], fun t => ref18_Drop fu t.1 t.2⟩
theorem ref18_Drop_eq (fu : Nat) : ∀ t, evF Go.Proofs.Try.prog [ref18_Copied_ft fu, ref18_Right_ft fu, ref18_is_ft fu] fu Go.Proofs.Try.f21 ref18_Drop_fa t = (ref18_Drop_ft fu).spec t := fun t => by kernel_rfl
theorem ref18_Drop_told (fu : Nat) : Told Go.Proofs.Try.prog (ref18_Drop_ft fu) := told_of (allT_cons (ref18_Copied_told fu) (allT_cons (ref18_Right_told fu) (allT_cons (ref18_is_told fu) allT_nil))) mixed Go.Proofs.Try.func21 (by kernel_rfl) (by kernel_rfl) (ref18_Drop_eq fu)

def ref18_Set (fu : Nat) (was : (List ((Int × (Int × (Bool × (Bool × (Int × (List ((Int × Int)) × (Int × List ((List UInt8 × Int)))))))))) × Int)) (id : Int) (size : Int) (parts : List ((Int × Int))) : Option ((Int × (Int × List ((Int × (Int × (Bool × (Bool × (Int × (List ((Int × Int)) × (Int × List ((List UInt8 × Int))))))))))))) :=
  (ref18_Copied fu (was.1, was.2)).bind fun r =>
  (ref18_Right fu (was.1, was.2)).bind fun r1 =>
  bif (!r1) then
    some (r.1, (180, r.2))
  else
    (ref18_is fu (r.2, r.1) id false).bind fun r2 =>
    bif (!r2) then
      some (r.1, (2, r.2))
    else
      (idx? (IntKind.wrap .i64 (id - 1)) r.2.length).bind fun q =>
      (r.2)[q]?.bind fun r3 =>
      need ((Nat.ble ((0 + parts.length) * 16) room) && (Nat.ble (0 + parts.length) room)) <|
      (idx? (IntKind.wrap .i64 (id - 1)) (List.set r.2 q (r3.1, (r3.2.1, (r3.2.2.1, (r3.2.2.2.1, (size, r3.2.2.2.2.2)))))).length).bind fun q1 =>
      ((List.set r.2 q (r3.1, (r3.2.1, (r3.2.2.1, (r3.2.2.2.1, (size, r3.2.2.2.2.2)))))))[q1]?.bind fun r4 =>
      (ref18_Right fu ((List.set (List.set r.2 q (r3.1, (r3.2.1, (r3.2.2.1, (r3.2.2.2.1, (size, r3.2.2.2.2.2)))))) q1 (r4.1, (r4.2.1, (r4.2.2.1, (r4.2.2.2.1, (r4.2.2.2.2.1, (parts, r4.2.2.2.2.2.2))))))), r.1)).bind fun r5 =>
      bif (!r5) then
        (ref18_Copied fu (was.1, was.2)).bind fun r6 =>
        some (r6.1, (177, r6.2))
      else
        some (r.1, (0, (List.set (List.set r.2 q (r3.1, (r3.2.1, (r3.2.2.1, (r3.2.2.2.1, (size, r3.2.2.2.2.2)))))) q1 (r4.1, (r4.2.1, (r4.2.2.1, (r4.2.2.2.1, (r4.2.2.2.2.1, (parts, r4.2.2.2.2.2.2)))))))))
def ref18_Set_fa : FnA := ⟨.two (.reg [(0, { ids := [100] }), (1, { ids := [101] })]) (.two (.reg [(1, { ids := [102] }), (2, { ids := [103] })]) (.two (.two (.reg [(1, { fn := 1 })]) (.two (.leaf) (.leaf))) (.two (.two (.reg [(2, { md := [2, 0, 0], fn := 2 })]) (.two (.leaf) (.leaf))) (.two (.leaf) (.two (.reg [(4, { ids := [104] }), (6, { ids := [105] })]) (.two (.two (.reg [(1, { md := [2], fn := 1 })]) (.two (.two (.reg [(1, { ids := [106] })]) (.leaf)) (.leaf))) (.leaf))))))), ⟨(.cons (.p (.pair (.sl (.pair (.int .i64) (.pair (.int .i64) (.pair .bool (.pair .bool (.pair (.int .i64) (.pair (.sl (.pair (.int .i64) (.int .i64))) (.pair (.int .i64) (.sl (.pair .str (.int .i64))))))))))) (.int .i64))) (.cons (.p (.int .i64)) (.cons (.p (.int .i64)) (.cons (.p (.sl (.pair (.int .i64) (.int .i64)))) .nil)))), []⟩, [⟨(.cons (.agg (.cons (.slf 8 0) (.cons (.p (.int .i64)) .nil))) (.cons (.p (.int .i64)) .nil)), [(0, false, (.rows 30 (.pair (.int .i64) (.pair (.int .i64) (.pair .bool (.pair .bool (.pair (.int .i64) (.pair (.sl (.pair (.int .i64) (.int .i64))) (.pair (.int .i64) (.sl (.pair .str (.int .i64))))))))))))]⟩], [0, 0]⟩
def ref18_Set_ft (fu : Nat) : FnT := ⟨23, ⟨(.cons (.p (.pair (.sl (.pair (.int .i64) (.pair (.int .i64) (.pair .bool (.pair .bool (.pair (.int .i64) (.pair (.sl (.pair (.int .i64) (.int .i64))) (.pair (.int .i64) (.sl (.pair .str (.int .i64))))))))))) (.int .i64))) (.cons (.p (.int .i64)) (.cons (.p (.int .i64)) (.cons (.p (.sl (.pair (.int .i64) (.int .i64)))) .nil)))), []⟩, [⟨(.cons (.agg (.cons (.slf 8 0) (.cons (.p (.int .i64)) .nil))) (.cons (.p (.int .i64)) .nil)), [(0, false, (.rows 30 (.pair (.int .i64) (.pair (.int .i64) (.pair .bool (.pair .bool (.pair (.int .i64) (.pair (.sl (.pair (.int .i64) (.int .i64))) (.pair (.int .i64) (.sl (.pair .str (.int .i64))))))))))))]⟩], fun t => ref18_Set fu t.1 t.2.1 t.2.2.1 t.2.2.2⟩
theorem ref18_Set_eq (fu : Nat) : ∀ t, evF Go.Proofs.Try.prog [ref18_Copied_ft fu, ref18_Right_ft fu, ref18_is_ft fu] fu Go.Proofs.Try.f23 ref18_Set_fa t = (ref18_Set_ft fu).spec t := fun t => by kernel_rfl
theorem ref18_Set_told (fu : Nat) : Told Go.Proofs.Try.prog (ref18_Set_ft fu) := told_of (allT_cons (ref18_Copied_told fu) (allT_cons (ref18_Right_told fu) (allT_cons (ref18_is_told fu) allT_nil))) mixed Go.Proofs.Try.func23 (by kernel_rfl) (by kernel_rfl) (ref18_Set_eq fu)

def ref18_Fresh_l0 (fu : Nat) (n : Int) (i : Int) (h : Int) (h1 : Int) (h2 : List ((Int × (Int × (Bool × (Bool × (Int × (List ((Int × Int)) × (Int × List ((List UInt8 × Int))))))))))) (h3 : List (Int)) : Option ((Int × (Int × (Int × (List ((Int × (Int × (Bool × (Bool × (Int × (List ((Int × Int)) × (Int × List ((List UInt8 × Int)))))))))) × List (Int))))) ⊕ ((Int × (Int × (List ((Int × (Int × (Bool × (Bool × (Int × (List ((Int × Int)) × (Int × List ((List UInt8 × Int)))))))))) × List (Int)))))) :=
  bif (decide (i < n)) then
    need ((Nat.ble ((h3.length + 1) * 8) room) && (Nat.ble (h3.length + 1) room)) <|
    some (.inl ((IntKind.wrap .i64 (i + 1)), (h, ((IntKind.wrap .i64 (h1 + 1)), (h2, (h3 ++ [(IntKind.wrap .i64 (h1 + 1))]))))))
  else
    some (.inr (h, (h1, (h2, h3))))
def ref18_Fresh_l0_it (fu : Nat) (n : Int) (tt : (Int × (Int × (Int × (List ((Int × (Int × (Bool × (Bool × (Int × (List ((Int × Int)) × (Int × List ((List UInt8 × Int)))))))))) × List (Int)))))) : Option ((Int × (Int × (List ((Int × (Int × (Bool × (Bool × (Int × (List ((Int × Int)) × (Int × List ((List UInt8 × Int)))))))))) × List (Int))))) :=
  iter fu (fun tt => ref18_Fresh_l0 fu n tt.1 tt.2.1 tt.2.2.1 tt.2.2.2.1 tt.2.2.2.2) tt
def ref18_Fresh (fu : Nat) (was : (List ((Int × (Int × (Bool × (Bool × (Int × (List ((Int × Int)) × (Int × List ((List UInt8 × Int)))))))))) × Int)) (n : Int) : Option ((Int × (Int × (List ((Int × (Int × (Bool × (Bool × (Int × (List ((Int × Int)) × (Int × List ((List UInt8 × Int)))))))))) × List (Int))))) :=
  (ref18_Copied fu (was.1, was.2)).bind fun r =>
  (ref18_Right fu (was.1, was.2)).bind fun r1 =>
  bif (!r1) then
    some (r.1, (180, (r.2, [])))
  else
    Option.bind (α := ((Bool × (Int × (Int × List ((Int × (Int × (Bool × (Bool × (Int × (List ((Int × Int)) × (Int × List ((List UInt8 × Int))))))))))))))) (
      bif (decide (n < 0)) then
        some (true, (0, (r.1, r.2)))
      else
        some ((decide (n > 4096)), (0, (r.1, r.2)))) fun o =>
    bif o.1 then
      some (o.2.2.1, (2, (o.2.2.2, [])))
    else
      bif (decide (n > (IntKind.wrap .i64 (1099511627776 - o.2.2.1)))) then
        some (o.2.2.1, (5, (o.2.2.2, [])))
      else
        (ref18_Fresh_l0_it fu n (0, (o.2.1, (o.2.2.1, (o.2.2.2, []))))).bind fun o1 =>
        some (o1.2.1, (0, (o1.2.2.1, o1.2.2.2)))
def ref18_Fresh_fa : FnA := ⟨.two (.reg [(0, { ids := [100] }), (1, { ids := [101] })]) (.two (.reg [(1, { ids := [102] }), (2, { ids := [103] })]) (.two (.two (.reg [(1, { fn := 1 })]) (.two (.leaf) (.leaf))) (.two (.two (.join ⟨[4, 7, 21], ⟨(.cons (.own 0 101 0 0) (.cons (.own 0 103 0 0) (.cons (.p .bool) .nil))), [(101, false, (.vars (.cons (.nilp (.slice none 0 0)) (.cons (.p (.int .i64)) .nil)))), (103, false, (.vars (.cons (.slf 8 102) (.cons (.p (.int .i64)) .nil)))), (102, false, (.rows 30 (.pair (.int .i64) (.pair (.int .i64) (.pair .bool (.pair .bool (.pair (.int .i64) (.pair (.sl (.pair (.int .i64) (.int .i64))) (.pair (.int .i64) (.sl (.pair .str (.int .i64))))))))))))]⟩⟩ false [] (.leaf)) (.two (.leaf) (.leaf))) (.two (.two (.leaf) (.two (.leaf) (.leaf))) (.two (.leaf) (.two (.two (.leaf) (.one (.pre (.ownNil 8 3 104) (.loop ⟨[4, 7, 8, 9], ⟨(.cons (.own 0 101 0 0) (.cons (.own 0 103 0 0) (.cons (.slf 1 104) (.cons (.p (.int .i64)) .nil)))), [(101, false, (.vars (.cons (.nilp (.slice none 0 0)) (.cons (.p (.int .i64)) .nil)))), (103, false, (.vars (.cons (.slf 8 102) (.cons (.p (.int .i64)) .nil)))), (102, false, (.rows 30 (.pair (.int .i64) (.pair (.int .i64) (.pair .bool (.pair .bool (.pair (.int .i64) (.pair (.sl (.pair (.int .i64) (.int .i64))) (.pair (.int .i64) (.sl (.pair .str (.int .i64)))))))))))), (104, false, (.rows 3 (.int .i64)))]⟩⟩ false [(0, ⟨[4, 7, 8], ⟨(.cons (.own 0 101 0 0) (.cons (.own 0 103 0 0) (.cons (.slf 1 104) .nil))), [(101, false, (.vars (.cons (.nilp (.slice none 0 0)) (.cons (.p (.int .i64)) .nil)))), (103, false, (.vars (.cons (.slf 8 102) (.cons (.p (.int .i64)) .nil)))), (102, false, (.rows 30 (.pair (.int .i64) (.pair (.int .i64) (.pair .bool (.pair .bool (.pair (.int .i64) (.pair (.sl (.pair (.int .i64) (.int .i64))) (.pair (.int .i64) (.sl (.pair .str (.int .i64)))))))))))), (104, false, (.rows 3 (.int .i64)))]⟩⟩)] (.two (.two (.leaf) (.leaf)) (.two (.one (.two (.leaf) (.reg [(3, { ids := [105] }), (4, { ids := [106] })]))) (.leaf))))))) (.leaf))))))), ⟨(.cons (.p (.pair (.sl (.pair (.int .i64) (.pair (.int .i64) (.pair .bool (.pair .bool (.pair (.int .i64) (.pair (.sl (.pair (.int .i64) (.int .i64))) (.pair (.int .i64) (.sl (.pair .str (.int .i64))))))))))) (.int .i64))) (.cons (.p (.int .i64)) .nil)), []⟩, [⟨(.cons (.agg (.cons (.slf 8 0) (.cons (.p (.int .i64)) .nil))) (.cons (.slf 1 1) (.cons (.p (.int .i64)) .nil))), [(0, false, (.rows 30 (.pair (.int .i64) (.pair (.int .i64) (.pair .bool (.pair .bool (.pair (.int .i64) (.pair (.sl (.pair (.int .i64) (.int .i64))) (.pair (.int .i64) (.sl (.pair .str (.int .i64)))))))))))), (1, false, (.rows 3 (.int .i64)))]⟩], [0, 13, 0]⟩
def ref18_Fresh_ft (fu : Nat) : FnT := ⟨26, ⟨(.cons (.p (.pair (.sl (.pair (.int .i64) (.pair (.int .i64) (.pair .bool (.pair .bool (.pair (.int .i64) (.pair (.sl (.pair (.int .i64) (.int .i64))) (.pair (.int .i64) (.sl (.pair .str (.int .i64))))))))))) (.int .i64))) (.cons (.p (.int .i64)) .nil)), []⟩, [⟨(.cons (.agg (.cons (.slf 8 0) (.cons (.p (.int .i64)) .nil))) (.cons (.slf 1 1) (.cons (.p (.int .i64)) .nil))), [(0, false, (.rows 30 (.pair (.int .i64) (.pair (.int .i64) (.pair .bool (.pair .bool (.pair (.int .i64) (.pair (.sl (.pair (.int .i64) (.int .i64))) (.pair (.int .i64) (.sl (.pair .str (.int .i64)))))))))))), (1, false, (.rows 3 (.int .i64)))]⟩], fun t => ref18_Fresh fu t.1 t.2⟩
theorem ref18_Fresh_eq (fu : Nat) : ∀ t, evF Go.Proofs.Try.prog [ref18_Copied_ft fu, ref18_Right_ft fu] fu Go.Proofs.Try.f26 ref18_Fresh_fa t = (ref18_Fresh_ft fu).spec t := fun t => by kernel_rfl
theorem ref18_Fresh_told (fu : Nat) : Told Go.Proofs.Try.prog (ref18_Fresh_ft fu) := told_of (allT_cons (ref18_Copied_told fu) (allT_cons (ref18_Right_told fu) allT_nil)) mixed Go.Proofs.Try.func26 (by kernel_rfl) (by kernel_rfl) (ref18_Fresh_eq fu)

def law18_InodeTells (fu : Nat) (t : (List ((Int × (Int × (Bool × (Bool × (Int × (List ((Int × Int)) × (Int × List ((List UInt8 × Int)))))))))) × Int)) (x : ((Int × Int) × (Int × (Bool × (Int × (List ((Int × Int)) × Int)))))) : Option (Bool) :=
  Option.bind (α := ((Bool × (List ((Int × (Int × (Bool × (Bool × (Int × (List ((Int × Int)) × (Int × List ((List UInt8 × Int)))))))))) × (Int × (Int × (Int × (Int × (Bool × (Int × (List ((Int × Int)) × Int))))))))))) (
    (kit_Great fu (t.1, t.2)).bind fun r =>
    bif r then
      some (true, (t.1, (t.2, (x.1.1, (x.1.2, (x.2.1, (x.2.2.1, (x.2.2.2.1, (x.2.2.2.2.1, x.2.2.2.2.2)))))))))
    else
      some ((decide (x.2.2.2.2.2 > 8192)), (t.1, (t.2, (x.1.1, (x.1.2, (x.2.1, (x.2.2.1, (x.2.2.2.1, (x.2.2.2.2.1, x.2.2.2.2.2)))))))))) fun o =>
  bif o.1 then
    (law18_awake fu).bind fun r1 =>
    some r1
  else
    (upto? (if 120 < ((o.2.2.2.2.2.2.2.2.1.length : Nat) : Int) then 120 else ((o.2.2.2.2.2.2.2.2.1.length : Nat) : Int)) o.2.2.2.2.2.2.2.2.1.length).bind fun q =>
    (inode_Get fu (o.2.1, o.2.2.1) (o.2.2.2.1, o.2.2.2.2.1)).bind fun r2 =>
    (ref18_Get fu (o.2.1, o.2.2.1) (o.2.2.2.1, o.2.2.2.2.1)).bind fun r3 =>
    (inode_Alloc fu (o.2.1, o.2.2.1) o.2.2.2.2.2.2.1 o.2.2.2.2.2.1).bind fun r4 =>
    (ref18_Alloc fu (o.2.1, o.2.2.1) o.2.2.2.2.2.2.1 o.2.2.2.2.2.1).bind fun r5 =>
    Option.bind (α := ((Bool × (List ((Int × (Int × (Bool × (Bool × (Int × (List ((Int × Int)) × (Int × List ((List UInt8 × Int)))))))))) × (Int × (Int × (Int × (Int × (Bool × (Int × (List ((Int × Int)) × Int))))))))))) (
      (kit_SameInode fu (r2.1, (r2.2.1, (r2.2.2.1, (r2.2.2.2.1, (r2.2.2.2.2.1, (r2.2.2.2.2.2.1, (r2.2.2.2.2.2.2.1, r2.2.2.2.2.2.2.2.1))))))) (r3.1, (r3.2.1, (r3.2.2.1, (r3.2.2.2.1, (r3.2.2.2.2.1, (r3.2.2.2.2.2.1, (r3.2.2.2.2.2.2.1, r3.2.2.2.2.2.2.2.1)))))))).bind fun r6 =>
      bif (!r6) then
        some (true, (o.2.1, (o.2.2.1, (o.2.2.2.1, (o.2.2.2.2.1, (o.2.2.2.2.2.1, (o.2.2.2.2.2.2.1, (o.2.2.2.2.2.2.2.1, (o.2.2.2.2.2.2.2.2.1, o.2.2.2.2.2.2.2.2.2)))))))))
      else
        bif (!(r2.2.2.2.2.2.2.2.2 == r3.2.2.2.2.2.2.2.2)) then
          some (true, (o.2.1, (o.2.2.1, (o.2.2.2.1, (o.2.2.2.2.1, (o.2.2.2.2.2.1, (o.2.2.2.2.2.2.1, (o.2.2.2.2.2.2.2.1, (o.2.2.2.2.2.2.2.2.1, o.2.2.2.2.2.2.2.2.2)))))))))
        else
          (kit_SameTree fu (r4.2.2.2.2, r4.1) (r5.2.2.2.2, r5.1)).bind fun r7 =>
          bif (!r7) then
            some (true, (o.2.1, (o.2.2.1, (o.2.2.2.1, (o.2.2.2.2.1, (o.2.2.2.2.2.1, (o.2.2.2.2.2.2.1, (o.2.2.2.2.2.2.2.1, (o.2.2.2.2.2.2.2.2.1, o.2.2.2.2.2.2.2.2.2)))))))))
          else
            bif (!((r4.2.1 == r5.2.1) && (r4.2.2.1 == r5.2.2.1))) then
              some (true, (o.2.1, (o.2.2.1, (o.2.2.2.1, (o.2.2.2.2.1, (o.2.2.2.2.2.1, (o.2.2.2.2.2.2.1, (o.2.2.2.2.2.2.2.1, (o.2.2.2.2.2.2.2.2.1, o.2.2.2.2.2.2.2.2.2)))))))))
            else
              bif (!(r4.2.2.2.1 == r5.2.2.2.1)) then
                some (true, (o.2.1, (o.2.2.1, (o.2.2.2.1, (o.2.2.2.2.1, (o.2.2.2.2.2.1, (o.2.2.2.2.2.2.1, (o.2.2.2.2.2.2.2.1, (o.2.2.2.2.2.2.2.2.1, o.2.2.2.2.2.2.2.2.2)))))))))
              else
                (inode_Right fu (o.2.1, o.2.2.1)).bind fun r8 =>
                (ref18_Right fu (o.2.1, o.2.2.1)).bind fun r9 =>
                bif (!(r8 == r9)) then
                  some (true, (o.2.1, (o.2.2.1, (o.2.2.2.1, (o.2.2.2.2.1, (o.2.2.2.2.2.1, (o.2.2.2.2.2.2.1, (o.2.2.2.2.2.2.2.1, (o.2.2.2.2.2.2.2.2.1, o.2.2.2.2.2.2.2.2.2)))))))))
                else
                  (inode_New fu).bind fun r10 =>
                  (ref18_New fu).bind fun r11 =>
                  (kit_SameTree fu (r10.2, r10.1) (r11.2, r11.1)).bind fun r12 =>
                  some ((!r12), (o.2.1, (o.2.2.1, (o.2.2.2.1, (o.2.2.2.2.1, (o.2.2.2.2.2.1, (o.2.2.2.2.2.2.1, (o.2.2.2.2.2.2.2.1, (o.2.2.2.2.2.2.2.2.1, o.2.2.2.2.2.2.2.2.2)))))))))) fun o1 =>
    bif o1.1 then
      some false
    else
      (inode_Drop fu (o1.2.1, o1.2.2.1) o1.2.2.2.2.2.1).bind fun r13 =>
      (ref18_Drop fu (o1.2.1, o1.2.2.1) o1.2.2.2.2.2.1).bind fun r14 =>
      (inode_Set fu (o1.2.1, o1.2.2.1) o1.2.2.2.2.2.1 o1.2.2.2.2.2.2.2.1 (List.take q o.2.2.2.2.2.2.2.2.1)).bind fun r15 =>
      (ref18_Set fu (o1.2.1, o1.2.2.1) o1.2.2.2.2.2.1 o1.2.2.2.2.2.2.2.1 (List.take q o.2.2.2.2.2.2.2.2.1)).bind fun r16 =>
      Option.bind (α := ((Bool × (List ((Int × (Int × (Bool × (Bool × (Int × (List ((Int × Int)) × (Int × List ((List UInt8 × Int)))))))))) × (Int × (Int × (Int × (Int × (Bool × (Int × (List ((Int × Int)) × Int))))))))))) (
        (kit_SameTree fu (r13.1, r13.2.1) (r14.2.2.1, r14.1)).bind fun r17 =>
        bif (!r17) then
          some (true, (o1.2.1, (o1.2.2.1, (o1.2.2.2.1, (o1.2.2.2.2.1, (o1.2.2.2.2.2.1, (o1.2.2.2.2.2.2.1, (o1.2.2.2.2.2.2.2.1, (o1.2.2.2.2.2.2.2.2.1, o1.2.2.2.2.2.2.2.2.2)))))))))
        else
          (kit_SameParts fu r13.2.2.1 r14.2.2.2).bind fun r18 =>
          bif (!r18) then
            some (true, (o1.2.1, (o1.2.2.1, (o1.2.2.2.1, (o1.2.2.2.2.1, (o1.2.2.2.2.2.1, (o1.2.2.2.2.2.2.1, (o1.2.2.2.2.2.2.2.1, (o1.2.2.2.2.2.2.2.2.1, o1.2.2.2.2.2.2.2.2.2)))))))))
          else
            bif (!(r13.2.2.2 == r14.2.1)) then
              some (true, (o1.2.1, (o1.2.2.1, (o1.2.2.2.1, (o1.2.2.2.2.1, (o1.2.2.2.2.2.1, (o1.2.2.2.2.2.2.1, (o1.2.2.2.2.2.2.2.1, (o1.2.2.2.2.2.2.2.2.1, o1.2.2.2.2.2.2.2.2.2)))))))))
            else
              (kit_SameTree fu (r15.2.2, r15.1) (r16.2.2, r16.1)).bind fun r19 =>
              bif (!r19) then
                some (true, (o1.2.1, (o1.2.2.1, (o1.2.2.2.1, (o1.2.2.2.2.1, (o1.2.2.2.2.2.1, (o1.2.2.2.2.2.2.1, (o1.2.2.2.2.2.2.2.1, (o1.2.2.2.2.2.2.2.2.1, o1.2.2.2.2.2.2.2.2.2)))))))))
              else
                some ((!(r15.2.1 == r16.2.1)), (o1.2.1, (o1.2.2.1, (o1.2.2.2.1, (o1.2.2.2.2.1, (o1.2.2.2.2.2.1, (o1.2.2.2.2.2.2.1, (o1.2.2.2.2.2.2.2.1, (o1.2.2.2.2.2.2.2.2.1, o1.2.2.2.2.2.2.2.2.2)))))))))) fun o2 =>
      bif o2.1 then
        some false
      else
        (inode_Fresh fu (o2.2.1, o2.2.2.1) o2.2.2.2.2.2.2.2.2.2).bind fun r20 =>
        (ref18_Fresh fu (o2.2.1, o2.2.2.1) o2.2.2.2.2.2.2.2.2.2).bind fun r21 =>
        (kit_SameTree fu (r20.2.2.1, r20.1) (r21.2.2.1, r21.1)).bind fun r22 =>
        bif r22 then
          (low_SameInts fu r20.2.2.2 r21.2.2.2).bind fun r23 =>
          bif r23 then
            bif (r20.2.1 == r21.2.1) then
              (law18_awake fu).bind fun r24 =>
              some r24
            else
              some false
          else
            some false
        else
          some false
def law18_InodeTells_fa : FnA := ⟨.two (.reg [(0, { ids := [100] }), (1, { ids := [101] })]) (.two (.two (.join ⟨[2, 3, 38], ⟨(.cons (.own 0 100 0 0) (.cons (.own 0 101 0 0) (.cons (.p .bool) .nil))), [(100, false, (.vars (.cons (.p (.sl (.pair (.int .i64) (.pair (.int .i64) (.pair .bool (.pair .bool (.pair (.int .i64) (.pair (.sl (.pair (.int .i64) (.int .i64))) (.pair (.int .i64) (.sl (.pair .str (.int .i64)))))))))))) (.cons (.p (.int .i64)) .nil)))), (101, false, (.vars (.cons (.p (.int .i64)) (.cons (.p (.int .i64)) (.cons (.p (.int .i64)) (.cons (.p .bool) (.cons (.p (.int .i64)) (.cons (.p (.sl (.pair (.int .i64) (.int .i64)))) (.cons (.p (.int .i64)) .nil)))))))))]⟩⟩ false [] (.reg [(1, {  })])) (.two (.two (.reg [(0, { fn := 1 })]) (.leaf)) (.leaf))) (.two (.leaf) (.two (.reg [(3, { fn := 2 }), (7, { ids := [102] })]) (.two (.reg [(3, { fn := 3 }), (7, { ids := [103] })]) (.two (.reg [(5, { ids := [104], fn := 4 }), (10, { ids := [105] }), (11, { ids := [106] })]) (.two (.reg [(5, { ids := [107], fn := 5 }), (10, { ids := [108] }), (11, { ids := [109] })]) (.two (.two (.join ⟨[2, 3, 118], ⟨(.cons (.own 0 100 0 0) (.cons (.own 0 101 0 0) (.cons (.p .bool) .nil))), [(100, false, (.vars (.cons (.p (.sl (.pair (.int .i64) (.pair (.int .i64) (.pair .bool (.pair .bool (.pair (.int .i64) (.pair (.sl (.pair (.int .i64) (.int .i64))) (.pair (.int .i64) (.sl (.pair .str (.int .i64)))))))))))) (.cons (.p (.int .i64)) .nil)))), (101, false, (.vars (.cons (.p (.int .i64)) (.cons (.p (.int .i64)) (.cons (.p (.int .i64)) (.cons (.p .bool) (.cons (.p (.int .i64)) (.cons (.p (.sl (.pair (.int .i64) (.int .i64)))) (.cons (.p (.int .i64)) .nil)))))))))]⟩⟩ false [] (.reg [(2, { fn := 6 }), (12, { md := [2, 2], fn := 7 }), (27, { fn := 8 }), (29, { fn := 9 }), (33, { ids := [110], fn := 10 }), (34, { ids := [111], fn := 11 }), (35, { md := [2, 2], fn := 7 })])) (.two (.leaf) (.leaf))) (.two (.reg [(3, { fn := 12 }), (8, { ids := [112] })]) (.two (.reg [(3, { ids := [113, 114], fn := 13 }), (8, { ids := [115] })]) (.two (.reg [(6, { ids := [116], fn := 14 }), (10, { ids := [117] })]) (.two (.reg [(6, { ids := [118], fn := 15 }), (10, { ids := [119] })]) (.two (.two (.join ⟨[2, 3, 180], ⟨(.cons (.own 0 100 0 0) (.cons (.own 0 101 0 0) (.cons (.p .bool) .nil))), [(100, false, (.vars (.cons (.p (.sl (.pair (.int .i64) (.pair (.int .i64) (.pair .bool (.pair .bool (.pair (.int .i64) (.pair (.sl (.pair (.int .i64) (.int .i64))) (.pair (.int .i64) (.sl (.pair .str (.int .i64)))))))))))) (.cons (.p (.int .i64)) .nil)))), (101, false, (.vars (.cons (.p (.int .i64)) (.cons (.p (.int .i64)) (.cons (.p (.int .i64)) (.cons (.p .bool) (.cons (.p (.int .i64)) (.cons (.p (.sl (.pair (.int .i64) (.int .i64)))) (.cons (.p (.int .i64)) .nil)))))))))]⟩⟩ false [] (.reg [(2, { md := [0, 2], fn := 7 }), (7, { md := [0, 2], fn := 16 }), (18, { md := [2, 2], fn := 7 })])) (.two (.leaf) (.leaf))) (.two (.reg [(3, { ids := [120, 121], fn := 17 }), (8, { ids := [122] })]) (.two (.reg [(3, { ids := [123, 124], fn := 18 }), (8, { ids := [125] })]) (.two (.reg [(2, { md := [2, 2], fn := 7 }), (6, { md := [2, 2], fn := 19 }), (14, { fn := 1 })]) (.leaf)))))))))))))))), ⟨(.cons (.p (.pair (.sl (.pair (.int .i64) (.pair (.int .i64) (.pair .bool (.pair .bool (.pair (.int .i64) (.pair (.sl (.pair (.int .i64) (.int .i64))) (.pair (.int .i64) (.sl (.pair .str (.int .i64))))))))))) (.int .i64))) (.cons (.p (.pair (.pair (.int .i64) (.int .i64)) (.pair (.int .i64) (.pair .bool (.pair (.int .i64) (.pair (.sl (.pair (.int .i64) (.int .i64))) (.int .i64))))))) .nil)), []⟩, [⟨(.cons (.p .bool) .nil), []⟩], [0]⟩
def law18_InodeTells_ft (fu : Nat) : FnT := ⟨4, ⟨(.cons (.p (.pair (.sl (.pair (.int .i64) (.pair (.int .i64) (.pair .bool (.pair .bool (.pair (.int .i64) (.pair (.sl (.pair (.int .i64) (.int .i64))) (.pair (.int .i64) (.sl (.pair .str (.int .i64))))))))))) (.int .i64))) (.cons (.p (.pair (.pair (.int .i64) (.int .i64)) (.pair (.int .i64) (.pair .bool (.pair (.int .i64) (.pair (.sl (.pair (.int .i64) (.int .i64))) (.int .i64))))))) .nil)), []⟩, [⟨(.cons (.p .bool) .nil), []⟩], fun t => law18_InodeTells fu t.1 t.2⟩
theorem law18_InodeTells_eq (fu : Nat) : ∀ t, evF Go.Proofs.Try.prog [kit_Great_ft fu, law18_awake_ft fu, inode_Get_ft fu, ref18_Get_ft fu, inode_Alloc_ft fu, ref18_Alloc_ft fu, kit_SameInode_ft fu, kit_SameTree_ft fu, inode_Right_ft fu, ref18_Right_ft fu, inode_New_ft fu, ref18_New_ft fu, inode_Drop_ft fu, ref18_Drop_ft fu, inode_Set_ft fu, ref18_Set_ft fu, kit_SameParts_ft fu, inode_Fresh_ft fu, ref18_Fresh_ft fu, low_SameInts_ft fu] fu Go.Proofs.Try.f4 law18_InodeTells_fa t = (law18_InodeTells_ft fu).spec t := fun t => by kernel_rfl
theorem law18_InodeTells_told (fu : Nat) : Told Go.Proofs.Try.prog (law18_InodeTells_ft fu) := told_of (allT_cons (kit_Great_told fu) (allT_cons (law18_awake_told fu) (allT_cons (inode_Get_told fu) (allT_cons (ref18_Get_told fu) (allT_cons (inode_Alloc_told fu) (allT_cons (ref18_Alloc_told fu) (allT_cons (kit_SameInode_told fu) (allT_cons (kit_SameTree_told fu) (allT_cons (inode_Right_told fu) (allT_cons (ref18_Right_told fu) (allT_cons (inode_New_told fu) (allT_cons (ref18_New_told fu) (allT_cons (inode_Drop_told fu) (allT_cons (ref18_Drop_told fu) (allT_cons (inode_Set_told fu) (allT_cons (ref18_Set_told fu) (allT_cons (kit_SameParts_told fu) (allT_cons (inode_Fresh_told fu) (allT_cons (ref18_Fresh_told fu) (allT_cons (low_SameInts_told fu) allT_nil)))))))))))))))))))) mixed Go.Proofs.Try.func4 (by kernel_rfl) (by kernel_rfl) (law18_InodeTells_eq fu)

def kit_Pick (fu : Nat) (x : Int) (n : Int) : Option (Int) :=
  bif (decide (n < 1)) then
    some 0
  else
    need (!(decide (n = 0))) <|
    bif (decide ((Int.tmod x n) < 0)) then
      some (IntKind.wrap .i64 ((Int.tmod x n) + n))
    else
      some (Int.tmod x n)
def kit_Pick_fa : FnA := ⟨.two (.leaf) (.two (.two (.leaf) (.two (.leaf) (.leaf))) (.two (.leaf) (.two (.two (.leaf) (.leaf)) (.leaf)))), ⟨(.cons (.p (.int .i64)) (.cons (.p (.int .i64)) .nil)), []⟩, [⟨(.cons (.p (.int .i64)) .nil), []⟩], [0]⟩
def kit_Pick_ft (fu : Nat) : FnT := ⟨28, ⟨(.cons (.p (.int .i64)) (.cons (.p (.int .i64)) .nil)), []⟩, [⟨(.cons (.p (.int .i64)) .nil), []⟩], fun t => kit_Pick fu t.1 t.2⟩
theorem kit_Pick_eq (fu : Nat) : ∀ t, evF Go.Proofs.Try.prog [] fu Go.Proofs.Try.f28 kit_Pick_fa t = (kit_Pick_ft fu).spec t := fun t => by kernel_rfl
theorem kit_Pick_told (fu : Nat) : Told Go.Proofs.Try.prog (kit_Pick_ft fu) := told_of allT_nil mixed Go.Proofs.Try.func28 (by kernel_rfl) (by kernel_rfl) (kit_Pick_eq fu)
end
end Go.Ab.D
