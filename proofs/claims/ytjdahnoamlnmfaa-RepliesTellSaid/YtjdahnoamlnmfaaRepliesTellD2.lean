/- Functions of the program as plain Lean functions: each equation is checked by the kernel; what is told of a function follows from it. -/
import Derived.Test.YtjdahnoamlnmfaaRepliesTellD1
set_option linter.all false
set_option maxRecDepth 100000
set_option maxHeartbeats 4000000
namespace Go.Ab.D
open Go Go.Ab
noncomputable section
def law23_Same_l0 (fu : Nat) (o1 : (Bool × (Int × (List ((Int × (Int × List ((Int × (Int × (Int × ((Int × Int) × (Bool × (Int × (List (UInt8) × (List ((List UInt8 × Int)) × (Bool × Int))))))))))))) × (Int × (List ((Int × (Int × List ((Int × (Int × (Int × ((Int × Int) × (Bool × (Int × (List (UInt8) × (List ((List UInt8 × Int)) × (Bool × Int))))))))))))) × (Int × (Int × (List ((Int × (Int × (Int × ((Int × Int) × (Bool × (Int × (List (UInt8) × (List ((List UInt8 × Int)) × (Bool × Int)))))))))) × (Int × (Int × List ((Int × (Int × (Int × ((Int × Int) × (Bool × (Int × (List (UInt8) × (List ((List UInt8 × Int)) × (Bool × Int))))))))))))))))))))) (x1 : Int) (h4 : Int) (h5 : List ((Int × (Int × List ((Int × (Int × (Int × ((Int × Int) × (Bool × (Int × (List (UInt8) × (List ((List UInt8 × Int)) × (Bool × Int)))))))))))))) (h6 : Int) (h7 : List ((Int × (Int × List ((Int × (Int × (Int × ((Int × Int) × (Bool × (Int × (List (UInt8) × (List ((List UInt8 × Int)) × (Bool × Int)))))))))))))) (h8 : Int) (h9 : Int) (h10 : List ((Int × (Int × (Int × ((Int × Int) × (Bool × (Int × (List (UInt8) × (List ((List UInt8 × Int)) × (Bool × Int))))))))))) (h11 : Int) (h12 : Int) (h13 : List ((Int × (Int × (Int × ((Int × Int) × (Bool × (Int × (List (UInt8) × (List ((List UInt8 × Int)) × (Bool × Int))))))))))) : Option ((Int × (Int × (List ((Int × (Int × List ((Int × (Int × (Int × ((Int × Int) × (Bool × (Int × (List (UInt8) × (List ((List UInt8 × Int)) × (Bool × Int))))))))))))) × (Int × (List ((Int × (Int × List ((Int × (Int × (Int × ((Int × Int) × (Bool × (Int × (List (UInt8) × (List ((List UInt8 × Int)) × (Bool × Int))))))))))))) × (Int × (Int × (List ((Int × (Int × (Int × ((Int × Int) × (Bool × (Int × (List (UInt8) × (List ((List UInt8 × Int)) × (Bool × Int)))))))))) × (Int × (Int × List ((Int × (Int × (Int × ((Int × Int) × (Bool × (Int × (List (UInt8) × (List ((List UInt8 × Int)) × (Bool × Int)))))))))))))))))))) ⊕ ((Int × (List ((Int × (Int × List ((Int × (Int × (Int × ((Int × Int) × (Bool × (Int × (List (UInt8) × (List ((List UInt8 × Int)) × (Bool × Int))))))))))))) × (Int × List ((Int × (Int × List ((Int × (Int × (Int × ((Int × Int) × (Bool × (Int × (List (UInt8) × (List ((List UInt8 × Int)) × (Bool × Int)))))))))))))))) ⊕ ((Int × (Int × (List ((Int × (Int × List ((Int × (Int × (Int × ((Int × Int) × (Bool × (Int × (List (UInt8) × (List ((List UInt8 × Int)) × (Bool × Int))))))))))))) × (Int × List ((Int × (Int × List ((Int × (Int × (Int × ((Int × Int) × (Bool × (Int × (List (UInt8) × (List ((List UInt8 × Int)) × (Bool × Int))))))))))))))))) ⊕ (Unit ⊕ Bool)))) :=
  bif (decide (x1 < ((o1.2.2.2.2.2.2.2.1.length : Nat) : Int))) then
    (idx? x1 h10.length).bind fun q2 =>
    (h10)[q2]?.bind fun r2 =>
    (idx? x1 h13.length).bind fun q3 =>
    (h13)[q3]?.bind fun r3 =>
    (law21_SameReply fu r2 r3).bind fun r4 =>
    bif (!r4) then
      some (.inr (.inr (.inr (.inr false))))
    else
      some (.inl ((IntKind.wrap .i64 (x1 + 1)), (h4, (h5, (h6, (h7, (h8, (h9, (h10, (h11, (h12, h13)))))))))))
  else
    some (.inr (.inl (h4, (h5, (h6, h7)))))
def law23_Same_l0_it (fu : Nat) (o1 : (Bool × (Int × (List ((Int × (Int × List ((Int × (Int × (Int × ((Int × Int) × (Bool × (Int × (List (UInt8) × (List ((List UInt8 × Int)) × (Bool × Int))))))))))))) × (Int × (List ((Int × (Int × List ((Int × (Int × (Int × ((Int × Int) × (Bool × (Int × (List (UInt8) × (List ((List UInt8 × Int)) × (Bool × Int))))))))))))) × (Int × (Int × (List ((Int × (Int × (Int × ((Int × Int) × (Bool × (Int × (List (UInt8) × (List ((List UInt8 × Int)) × (Bool × Int)))))))))) × (Int × (Int × List ((Int × (Int × (Int × ((Int × Int) × (Bool × (Int × (List (UInt8) × (List ((List UInt8 × Int)) × (Bool × Int))))))))))))))))))))) (tt : (Int × (Int × (List ((Int × (Int × List ((Int × (Int × (Int × ((Int × Int) × (Bool × (Int × (List (UInt8) × (List ((List UInt8 × Int)) × (Bool × Int))))))))))))) × (Int × (List ((Int × (Int × List ((Int × (Int × (Int × ((Int × Int) × (Bool × (Int × (List (UInt8) × (List ((List UInt8 × Int)) × (Bool × Int))))))))))))) × (Int × (Int × (List ((Int × (Int × (Int × ((Int × Int) × (Bool × (Int × (List (UInt8) × (List ((List UInt8 × Int)) × (Bool × Int)))))))))) × (Int × (Int × List ((Int × (Int × (Int × ((Int × Int) × (Bool × (Int × (List (UInt8) × (List ((List UInt8 × Int)) × (Bool × Int))))))))))))))))))))) : Option ((Int × (List ((Int × (Int × List ((Int × (Int × (Int × ((Int × Int) × (Bool × (Int × (List (UInt8) × (List ((List UInt8 × Int)) × (Bool × Int))))))))))))) × (Int × List ((Int × (Int × List ((Int × (Int × (Int × ((Int × Int) × (Bool × (Int × (List (UInt8) × (List ((List UInt8 × Int)) × (Bool × Int)))))))))))))))) ⊕ ((Int × (Int × (List ((Int × (Int × List ((Int × (Int × (Int × ((Int × Int) × (Bool × (Int × (List (UInt8) × (List ((List UInt8 × Int)) × (Bool × Int))))))))))))) × (Int × List ((Int × (Int × List ((Int × (Int × (Int × ((Int × Int) × (Bool × (Int × (List (UInt8) × (List ((List UInt8 × Int)) × (Bool × Int))))))))))))))))) ⊕ (Unit ⊕ Bool))) :=
  iter fu (fun tt => law23_Same_l0 fu o1 tt.1 tt.2.1 tt.2.2.1 tt.2.2.2.1 tt.2.2.2.2.1 tt.2.2.2.2.2.1 tt.2.2.2.2.2.2.1 tt.2.2.2.2.2.2.2.1 tt.2.2.2.2.2.2.2.2.1 tt.2.2.2.2.2.2.2.2.2.1 tt.2.2.2.2.2.2.2.2.2.2) tt
def law23_Same_l1 (fu : Nat) (o : (Bool × (Int × (List ((Int × (Int × List ((Int × (Int × (Int × ((Int × Int) × (Bool × (Int × (List (UInt8) × (List ((List UInt8 × Int)) × (Bool × Int))))))))))))) × (Int × List ((Int × (Int × List ((Int × (Int × (Int × ((Int × Int) × (Bool × (Int × (List (UInt8) × (List ((List UInt8 × Int)) × (Bool × Int)))))))))))))))))) (x : Int) (h : Int) (h1 : List ((Int × (Int × List ((Int × (Int × (Int × ((Int × Int) × (Bool × (Int × (List (UInt8) × (List ((List UInt8 × Int)) × (Bool × Int)))))))))))))) (h2 : Int) (h3 : List ((Int × (Int × List ((Int × (Int × (Int × ((Int × Int) × (Bool × (Int × (List (UInt8) × (List ((List UInt8 × Int)) × (Bool × Int)))))))))))))) : Option ((Int × (Int × (List ((Int × (Int × List ((Int × (Int × (Int × ((Int × Int) × (Bool × (Int × (List (UInt8) × (List ((List UInt8 × Int)) × (Bool × Int))))))))))))) × (Int × List ((Int × (Int × List ((Int × (Int × (Int × ((Int × Int) × (Bool × (Int × (List (UInt8) × (List ((List UInt8 × Int)) × (Bool × Int))))))))))))))))) ⊕ (Unit ⊕ Bool)) :=
  bif (decide (x < ((o.2.2.1.length : Nat) : Int))) then
    (idx? x h1.length).bind fun q =>
    (h1)[q]?.bind fun r =>
    (idx? x h3.length).bind fun q1 =>
    (h3)[q1]?.bind fun r1 =>
    Option.bind (α := ((Bool × (Int × (List ((Int × (Int × List ((Int × (Int × (Int × ((Int × Int) × (Bool × (Int × (List (UInt8) × (List ((List UInt8 × Int)) × (Bool × Int))))))))))))) × (Int × (List ((Int × (Int × List ((Int × (Int × (Int × ((Int × Int) × (Bool × (Int × (List (UInt8) × (List ((List UInt8 × Int)) × (Bool × Int))))))))))))) × (Int × (Int × (List ((Int × (Int × (Int × ((Int × Int) × (Bool × (Int × (List (UInt8) × (List ((List UInt8 × Int)) × (Bool × Int)))))))))) × (Int × (Int × List ((Int × (Int × (Int × ((Int × Int) × (Bool × (Int × (List (UInt8) × (List ((List UInt8 × Int)) × (Bool × Int)))))))))))))))))))))) (
      bif (!(r.1 == r1.1)) then
        some (true, (h, (h1, (h2, (h3, (r.1, (r.2.1, (r.2.2, (r1.1, (r1.2.1, r1.2.2))))))))))
      else
        bif (!(r.2.1 == r1.2.1)) then
          some (true, (h, (h1, (h2, (h3, (r.1, (r.2.1, (r.2.2, (r1.1, (r1.2.1, r1.2.2))))))))))
        else
          some ((!(((r.2.2.length : Nat) : Int) == ((r1.2.2.length : Nat) : Int))), (h, (h1, (h2, (h3, (r.1, (r.2.1, (r.2.2, (r1.1, (r1.2.1, r1.2.2))))))))))) fun o1 =>
    bif o1.1 then
      some (.inr (.inr false))
    else
      (law23_Same_l0_it fu o1 (0, (o1.2.1, (o1.2.2.1, (o1.2.2.2.1, (o1.2.2.2.2.1, (o1.2.2.2.2.2.1, (o1.2.2.2.2.2.2.1, (o1.2.2.2.2.2.2.2.1, (o1.2.2.2.2.2.2.2.2.1, (o1.2.2.2.2.2.2.2.2.2.1, o1.2.2.2.2.2.2.2.2.2.2))))))))))).bind fun o2 =>
      match o2 with
      | .inl s =>
        some (.inl ((IntKind.wrap .i64 (x + 1)), (s.1, (s.2.1, (s.2.2.1, s.2.2.2)))))
      | .inr o3 =>
        some o3
  else
    some (.inr (.inl ()))
def law23_Same_l1_it (fu : Nat) (o : (Bool × (Int × (List ((Int × (Int × List ((Int × (Int × (Int × ((Int × Int) × (Bool × (Int × (List (UInt8) × (List ((List UInt8 × Int)) × (Bool × Int))))))))))))) × (Int × List ((Int × (Int × List ((Int × (Int × (Int × ((Int × Int) × (Bool × (Int × (List (UInt8) × (List ((List UInt8 × Int)) × (Bool × Int)))))))))))))))))) (tt : (Int × (Int × (List ((Int × (Int × List ((Int × (Int × (Int × ((Int × Int) × (Bool × (Int × (List (UInt8) × (List ((List UInt8 × Int)) × (Bool × Int))))))))))))) × (Int × List ((Int × (Int × List ((Int × (Int × (Int × ((Int × Int) × (Bool × (Int × (List (UInt8) × (List ((List UInt8 × Int)) × (Bool × Int)))))))))))))))))) : Option (Unit ⊕ Bool) :=
  iter fu (fun tt => law23_Same_l1 fu o tt.1 tt.2.1 tt.2.2.1 tt.2.2.2.1 tt.2.2.2.2) tt
def law23_Same (fu : Nat) (a : (Int × List ((Int × (Int × List ((Int × (Int × (Int × ((Int × Int) × (Bool × (Int × (List (UInt8) × (List ((List UInt8 × Int)) × (Bool × Int))))))))))))))) (b : (Int × List ((Int × (Int × List ((Int × (Int × (Int × ((Int × Int) × (Bool × (Int × (List (UInt8) × (List ((List UInt8 × Int)) × (Bool × Int))))))))))))))) : Option (Bool) :=
  Option.bind (α := ((Bool × (Int × (List ((Int × (Int × List ((Int × (Int × (Int × ((Int × Int) × (Bool × (Int × (List (UInt8) × (List ((List UInt8 × Int)) × (Bool × Int))))))))))))) × (Int × List ((Int × (Int × List ((Int × (Int × (Int × ((Int × Int) × (Bool × (Int × (List (UInt8) × (List ((List UInt8 × Int)) × (Bool × Int))))))))))))))))))) (
    bif (!(a.1 == b.1)) then
      some (true, (a.1, (a.2, (b.1, b.2))))
    else
      some ((!(((a.2.length : Nat) : Int) == ((b.2.length : Nat) : Int))), (a.1, (a.2, (b.1, b.2))))) fun o =>
  bif o.1 then
    some false
  else
    (law23_Same_l1_it fu o (0, (o.2.1, (o.2.2.1, (o.2.2.2.1, o.2.2.2.2))))).bind fun o4 =>
    match o4 with
    | .inl s1 =>
      some true
    | .inr o5 =>
      some o5
def law23_Same_fa : FnA := ⟨.two (.reg [(0, { ids := [100] }), (1, { ids := [101] })]) (.two (.two (.join ⟨[2, 3, 22], ⟨(.cons (.own 0 100 0 0) (.cons (.own 0 101 0 0) (.cons (.p .bool) .nil))), [(100, false, (.vars (.cons (.p (.int .i64)) (.cons (.p (.sl (.pair (.int .i64) (.pair (.int .i64) (.sl (.pair (.int .i64) (.pair (.int .i64) (.pair (.int .i64) (.pair (.pair (.int .i64) (.int .i64)) (.pair .bool (.pair (.int .i64) (.pair (.sl .byte) (.pair (.sl (.pair .str (.int .i64))) (.pair .bool (.int .i64))))))))))))))) .nil)))), (101, false, (.vars (.cons (.p (.int .i64)) (.cons (.p (.sl (.pair (.int .i64) (.pair (.int .i64) (.sl (.pair (.int .i64) (.pair (.int .i64) (.pair (.int .i64) (.pair (.pair (.int .i64) (.int .i64)) (.pair .bool (.pair (.int .i64) (.pair (.sl .byte) (.pair (.sl (.pair .str (.int .i64))) (.pair .bool (.int .i64))))))))))))))) .nil))))]⟩⟩ false [] (.leaf)) (.two (.leaf) (.leaf))) (.two (.two (.leaf) (.one (.loop ⟨[2, 3, 26], ⟨(.cons (.own 0 100 0 0) (.cons (.own 0 101 0 0) (.cons (.p (.int .i64)) .nil))), [(100, false, (.vars (.cons (.p (.int .i64)) (.cons (.p (.sl (.pair (.int .i64) (.pair (.int .i64) (.sl (.pair (.int .i64) (.pair (.int .i64) (.pair (.int .i64) (.pair (.pair (.int .i64) (.int .i64)) (.pair .bool (.pair (.int .i64) (.pair (.sl .byte) (.pair (.sl (.pair .str (.int .i64))) (.pair .bool (.int .i64))))))))))))))) .nil)))), (101, false, (.vars (.cons (.p (.int .i64)) (.cons (.p (.sl (.pair (.int .i64) (.pair (.int .i64) (.sl (.pair (.int .i64) (.pair (.int .i64) (.pair (.int .i64) (.pair (.pair (.int .i64) (.int .i64)) (.pair .bool (.pair (.int .i64) (.pair (.sl .byte) (.pair (.sl (.pair .str (.int .i64))) (.pair .bool (.int .i64))))))))))))))) .nil))))]⟩⟩ true [(0, ⟨[], ⟨.nil, []⟩⟩)] (.two (.leaf) (.two (.leaf) (.two (.one (.two (.leaf) (.two (.reg [(10, { ids := [102] }), (11, { ids := [103] })]) (.two (.two (.join ⟨[2, 3, 6, 7, 59], ⟨(.cons (.own 0 100 0 0) (.cons (.own 0 101 0 0) (.cons (.own 0 102 0 0) (.cons (.own 0 103 0 0) (.cons (.p .bool) .nil))))), [(100, false, (.vars (.cons (.p (.int .i64)) (.cons (.p (.sl (.pair (.int .i64) (.pair (.int .i64) (.sl (.pair (.int .i64) (.pair (.int .i64) (.pair (.int .i64) (.pair (.pair (.int .i64) (.int .i64)) (.pair .bool (.pair (.int .i64) (.pair (.sl .byte) (.pair (.sl (.pair .str (.int .i64))) (.pair .bool (.int .i64))))))))))))))) .nil)))), (101, false, (.vars (.cons (.p (.int .i64)) (.cons (.p (.sl (.pair (.int .i64) (.pair (.int .i64) (.sl (.pair (.int .i64) (.pair (.int .i64) (.pair (.int .i64) (.pair (.pair (.int .i64) (.int .i64)) (.pair .bool (.pair (.int .i64) (.pair (.sl .byte) (.pair (.sl (.pair .str (.int .i64))) (.pair .bool (.int .i64))))))))))))))) .nil)))), (102, false, (.vars (.cons (.p (.int .i64)) (.cons (.p (.int .i64)) (.cons (.p (.sl (.pair (.int .i64) (.pair (.int .i64) (.pair (.int .i64) (.pair (.pair (.int .i64) (.int .i64)) (.pair .bool (.pair (.int .i64) (.pair (.sl .byte) (.pair (.sl (.pair .str (.int .i64))) (.pair .bool (.int .i64)))))))))))) .nil))))), (103, false, (.vars (.cons (.p (.int .i64)) (.cons (.p (.int .i64)) (.cons (.p (.sl (.pair (.int .i64) (.pair (.int .i64) (.pair (.int .i64) (.pair (.pair (.int .i64) (.int .i64)) (.pair .bool (.pair (.int .i64) (.pair (.sl .byte) (.pair (.sl (.pair .str (.int .i64))) (.pair .bool (.int .i64)))))))))))) .nil)))))]⟩⟩ false [] (.leaf)) (.two (.leaf) (.leaf))) (.two (.leaf) (.one (.loop ⟨[2, 3, 6, 7, 63], ⟨(.cons (.own 0 100 0 0) (.cons (.own 0 101 0 0) (.cons (.own 0 102 0 0) (.cons (.own 0 103 0 0) (.cons (.p (.int .i64)) .nil))))), [(100, false, (.vars (.cons (.p (.int .i64)) (.cons (.p (.sl (.pair (.int .i64) (.pair (.int .i64) (.sl (.pair (.int .i64) (.pair (.int .i64) (.pair (.int .i64) (.pair (.pair (.int .i64) (.int .i64)) (.pair .bool (.pair (.int .i64) (.pair (.sl .byte) (.pair (.sl (.pair .str (.int .i64))) (.pair .bool (.int .i64))))))))))))))) .nil)))), (101, false, (.vars (.cons (.p (.int .i64)) (.cons (.p (.sl (.pair (.int .i64) (.pair (.int .i64) (.sl (.pair (.int .i64) (.pair (.int .i64) (.pair (.int .i64) (.pair (.pair (.int .i64) (.int .i64)) (.pair .bool (.pair (.int .i64) (.pair (.sl .byte) (.pair (.sl (.pair .str (.int .i64))) (.pair .bool (.int .i64))))))))))))))) .nil)))), (102, false, (.vars (.cons (.p (.int .i64)) (.cons (.p (.int .i64)) (.cons (.p (.sl (.pair (.int .i64) (.pair (.int .i64) (.pair (.int .i64) (.pair (.pair (.int .i64) (.int .i64)) (.pair .bool (.pair (.int .i64) (.pair (.sl .byte) (.pair (.sl (.pair .str (.int .i64))) (.pair .bool (.int .i64)))))))))))) .nil))))), (103, false, (.vars (.cons (.p (.int .i64)) (.cons (.p (.int .i64)) (.cons (.p (.sl (.pair (.int .i64) (.pair (.int .i64) (.pair (.int .i64) (.pair (.pair (.int .i64) (.int .i64)) (.pair .bool (.pair (.int .i64) (.pair (.sl .byte) (.pair (.sl (.pair .str (.int .i64))) (.pair .bool (.int .i64)))))))))))) .nil)))))]⟩⟩ true [(2, ⟨[2, 3], ⟨(.cons (.own 0 100 0 0) (.cons (.own 0 101 0 0) .nil)), [(100, false, (.vars (.cons (.p (.int .i64)) (.cons (.p (.sl (.pair (.int .i64) (.pair (.int .i64) (.sl (.pair (.int .i64) (.pair (.int .i64) (.pair (.int .i64) (.pair (.pair (.int .i64) (.int .i64)) (.pair .bool (.pair (.int .i64) (.pair (.sl .byte) (.pair (.sl (.pair .str (.int .i64))) (.pair .bool (.int .i64))))))))))))))) .nil)))), (101, false, (.vars (.cons (.p (.int .i64)) (.cons (.p (.sl (.pair (.int .i64) (.pair (.int .i64) (.sl (.pair (.int .i64) (.pair (.int .i64) (.pair (.int .i64) (.pair (.pair (.int .i64) (.int .i64)) (.pair .bool (.pair (.int .i64) (.pair (.sl .byte) (.pair (.sl (.pair .str (.int .i64))) (.pair .bool (.int .i64))))))))))))))) .nil))))]⟩⟩)] (.two (.leaf) (.two (.leaf) (.two (.one (.two (.leaf) (.two (.reg [(10, {  })]) (.two (.leaf) (.leaf))))) (.leaf))))))))))) (.leaf))))))) (.leaf))), ⟨(.cons (.p (.pair (.int .i64) (.sl (.pair (.int .i64) (.pair (.int .i64) (.sl (.pair (.int .i64) (.pair (.int .i64) (.pair (.int .i64) (.pair (.pair (.int .i64) (.int .i64)) (.pair .bool (.pair (.int .i64) (.pair (.sl .byte) (.pair (.sl (.pair .str (.int .i64))) (.pair .bool (.int .i64)))))))))))))))) (.cons (.p (.pair (.int .i64) (.sl (.pair (.int .i64) (.pair (.int .i64) (.sl (.pair (.int .i64) (.pair (.int .i64) (.pair (.int .i64) (.pair (.pair (.int .i64) (.int .i64)) (.pair .bool (.pair (.int .i64) (.pair (.sl .byte) (.pair (.sl (.pair .str (.int .i64))) (.pair .bool (.int .i64)))))))))))))))) .nil)), []⟩, [⟨(.cons (.p .bool) .nil), []⟩], [0]⟩
def law23_Same_ft (fu : Nat) : FnT := ⟨15, ⟨(.cons (.p (.pair (.int .i64) (.sl (.pair (.int .i64) (.pair (.int .i64) (.sl (.pair (.int .i64) (.pair (.int .i64) (.pair (.int .i64) (.pair (.pair (.int .i64) (.int .i64)) (.pair .bool (.pair (.int .i64) (.pair (.sl .byte) (.pair (.sl (.pair .str (.int .i64))) (.pair .bool (.int .i64)))))))))))))))) (.cons (.p (.pair (.int .i64) (.sl (.pair (.int .i64) (.pair (.int .i64) (.sl (.pair (.int .i64) (.pair (.int .i64) (.pair (.int .i64) (.pair (.pair (.int .i64) (.int .i64)) (.pair .bool (.pair (.int .i64) (.pair (.sl .byte) (.pair (.sl (.pair .str (.int .i64))) (.pair .bool (.int .i64)))))))))))))))) .nil)), []⟩, [⟨(.cons (.p .bool) .nil), []⟩], fun t => law23_Same fu t.1 t.2⟩
theorem law23_Same_eq (fu : Nat) : ∀ t, evF Go.Proofs.Try.prog [law21_SameReply_ft fu] fu Go.Proofs.Try.f15 law23_Same_fa t = (law23_Same_ft fu).spec t := fun t => by kernel_rfl
theorem law23_Same_told (fu : Nat) : Told Go.Proofs.Try.prog (law23_Same_ft fu) := told_of (allT_cons (law21_SameReply_told fu) allT_nil) mixed Go.Proofs.Try.func15 (by kernel_rfl) (by kernel_rfl) (law23_Same_eq fu)

def law23_RepliesTell (fu : Nat) (c : (Int × List ((Int × (Int × List ((Int × (Int × (Int × ((Int × Int) × (Bool × (Int × (List (UInt8) × (List ((List UInt8 × Int)) × (Bool × Int))))))))))))))) (r : (Int × (Int × (Int × ((Int × Int) × (Bool × (Int × (List (UInt8) × (List ((List UInt8 × Int)) × (Bool × Int)))))))))) (x : List (Int)) : Option (Bool) :=
  need (Nat.beq x.length 3) <|
  Option.bind (α := ((Bool × (Int × (List ((Int × (Int × List ((Int × (Int × (Int × ((Int × Int) × (Bool × (Int × (List (UInt8) × (List ((List UInt8 × Int)) × (Bool × Int))))))))))))) × (Int × (Int × (Int × (Int × (Int × (Bool × (Int × (List (UInt8) × (List ((List UInt8 × Int)) × (Bool × (Int × List (Int))))))))))))))))) (
    (law23_Great fu (c.1, c.2)).bind fun r1 =>
    bif r1 then
      some (true, (c.1, (c.2, (r.1, (r.2.1, (r.2.2.1, (r.2.2.2.1.1, (r.2.2.2.1.2, (r.2.2.2.2.1, (r.2.2.2.2.2.1, (r.2.2.2.2.2.2.1, (r.2.2.2.2.2.2.2.1, (r.2.2.2.2.2.2.2.2.1, (r.2.2.2.2.2.2.2.2.2, x))))))))))))))
    else
      (law21_Huge fu (0, (0, ((UInt8.ofNat 0), ((0, 0), ([], ((0, 0), ([], (0, (0, []))))))))) (r.1, (r.2.1, (r.2.2.1, ((r.2.2.2.1.1, r.2.2.2.1.2), (r.2.2.2.2.1, (r.2.2.2.2.2.1, (r.2.2.2.2.2.2.1, (r.2.2.2.2.2.2.2.1, (r.2.2.2.2.2.2.2.2.1, r.2.2.2.2.2.2.2.2.2)))))))))).bind fun r2 =>
      some (r2, (c.1, (c.2, (r.1, (r.2.1, (r.2.2.1, (r.2.2.2.1.1, (r.2.2.2.1.2, (r.2.2.2.2.1, (r.2.2.2.2.2.1, (r.2.2.2.2.2.2.1, (r.2.2.2.2.2.2.2.1, (r.2.2.2.2.2.2.2.2.1, (r.2.2.2.2.2.2.2.2.2, x))))))))))))))) fun o =>
  bif o.1 then
    (law23_awake fu).bind fun r3 =>
    some r3
  else
    (o.2.2.2.2.2.2.2.2.2.2.2.2.2.2)[0]?.bind fun r4 =>
    (replies_New fu r4).bind fun r5 =>
    (o.2.2.2.2.2.2.2.2.2.2.2.2.2.2)[0]?.bind fun r6 =>
    (ref23_New fu r6).bind fun r7 =>
    (o.2.2.2.2.2.2.2.2.2.2.2.2.2.2)[1]?.bind fun r8 =>
    (o.2.2.2.2.2.2.2.2.2.2.2.2.2.2)[2]?.bind fun r9 =>
    (replies_Look fu (o.2.1, o.2.2.1) r8 r9).bind fun r10 =>
    (o.2.2.2.2.2.2.2.2.2.2.2.2.2.2)[1]?.bind fun r11 =>
    (o.2.2.2.2.2.2.2.2.2.2.2.2.2.2)[2]?.bind fun r12 =>
    (ref23_Look fu (o.2.1, o.2.2.1) r11 r12).bind fun r13 =>
    (replies_Put fu (o.2.1, o.2.2.1) (o.2.2.2.1, (o.2.2.2.2.1, (o.2.2.2.2.2.1, ((o.2.2.2.2.2.2.1, o.2.2.2.2.2.2.2.1), (o.2.2.2.2.2.2.2.2.1, (o.2.2.2.2.2.2.2.2.2.1, (o.2.2.2.2.2.2.2.2.2.2.1, (o.2.2.2.2.2.2.2.2.2.2.2.1, (o.2.2.2.2.2.2.2.2.2.2.2.2.1, o.2.2.2.2.2.2.2.2.2.2.2.2.2.1)))))))))).bind fun r14 =>
    (ref23_Put fu (o.2.1, o.2.2.1) (o.2.2.2.1, (o.2.2.2.2.1, (o.2.2.2.2.2.1, ((o.2.2.2.2.2.2.1, o.2.2.2.2.2.2.2.1), (o.2.2.2.2.2.2.2.2.1, (o.2.2.2.2.2.2.2.2.2.1, (o.2.2.2.2.2.2.2.2.2.2.1, (o.2.2.2.2.2.2.2.2.2.2.2.1, (o.2.2.2.2.2.2.2.2.2.2.2.2.1, o.2.2.2.2.2.2.2.2.2.2.2.2.2.1)))))))))).bind fun r15 =>
    (law23_Same fu (r5.1, []) (r7.1, [])).bind fun r16 =>
    bif r16 then
      bif (r5.2 == r7.2) then
        (law21_SameReply fu (r10.1, (r10.2.1, (r10.2.2.1, ((r10.2.2.2.1, r10.2.2.2.2.1), (r10.2.2.2.2.2.1, (r10.2.2.2.2.2.2.1, (r10.2.2.2.2.2.2.2.1, (r10.2.2.2.2.2.2.2.2.1, (r10.2.2.2.2.2.2.2.2.2.1, r10.2.2.2.2.2.2.2.2.2.2.1))))))))) (r13.1, (r13.2.1, (r13.2.2.1, ((r13.2.2.2.1, r13.2.2.2.2.1), (r13.2.2.2.2.2.1, (r13.2.2.2.2.2.2.1, (r13.2.2.2.2.2.2.2.1, (r13.2.2.2.2.2.2.2.2.1, (r13.2.2.2.2.2.2.2.2.2.1, r13.2.2.2.2.2.2.2.2.2.2.1)))))))))).bind fun r17 =>
        bif r17 then
          bif (r10.2.2.2.2.2.2.2.2.2.2.2 == r13.2.2.2.2.2.2.2.2.2.2.2) then
            (law23_Same fu (r14.1, r14.2.1) (r15.1, r15.2.2)).bind fun r18 =>
            bif r18 then
              bif (r14.2.2 == r15.2.1) then
                (replies_Right fu (o.2.1, o.2.2.1)).bind fun r19 =>
                (ref23_Right fu (o.2.1, o.2.2.1)).bind fun r20 =>
                bif (r19 == r20) then
                  (law23_awake fu).bind fun r21 =>
                  some r21
                else
                  some false
              else
                some false
            else
              some false
          else
            some false
        else
          some false
      else
        some false
    else
      some false
def law23_RepliesTell_fa : FnA := ⟨.two (.reg [(0, { ids := [100] }), (1, { ids := [101] }), (2, { ids := [102] })]) (.two (.two (.join ⟨[3, 4, 5, 25], ⟨(.cons (.own 0 100 0 0) (.cons (.own 0 101 0 0) (.cons (.own 1 102 0 0) (.cons (.p .bool) .nil)))), [(100, false, (.vars (.cons (.p (.int .i64)) (.cons (.p (.sl (.pair (.int .i64) (.pair (.int .i64) (.sl (.pair (.int .i64) (.pair (.int .i64) (.pair (.int .i64) (.pair (.pair (.int .i64) (.int .i64)) (.pair .bool (.pair (.int .i64) (.pair (.sl .byte) (.pair (.sl (.pair .str (.int .i64))) (.pair .bool (.int .i64))))))))))))))) .nil)))), (101, false, (.vars (.cons (.p (.int .i64)) (.cons (.p (.int .i64)) (.cons (.p (.int .i64)) (.cons (.p (.int .i64)) (.cons (.p (.int .i64)) (.cons (.p .bool) (.cons (.p (.int .i64)) (.cons (.p (.sl .byte)) (.cons (.p (.sl (.pair .str (.int .i64)))) (.cons (.p .bool) (.cons (.p (.int .i64)) .nil))))))))))))), (102, false, (.rows 32 (.int .i64)))]⟩⟩ false [] (.reg [(1, {  }), (5, { fn := 1 })])) (.two (.two (.reg [(0, { fn := 2 })]) (.leaf)) (.leaf))) (.two (.reg [(2, { fn := 3 }), (6, { ids := [103] })]) (.two (.reg [(2, { fn := 4 }), (6, { ids := [104] })]) (.two (.reg [(5, { fn := 5 }), (9, { ids := [105] })]) (.two (.reg [(5, { fn := 6 }), (9, { ids := [106] })]) (.two (.reg [(2, { fn := 7 }), (6, { ids := [107] })]) (.two (.reg [(2, { ids := [108], fn := 8 }), (6, { ids := [109] })]) (.two (.reg [(2, { fn := 9 }), (11, { fn := 10 }), (21, { md := [0, 2], fn := 9 }), (30, { fn := 11 }), (32, { fn := 12 }), (36, { fn := 2 })]) (.leaf))))))))), ⟨(.cons (.p (.pair (.int .i64) (.sl (.pair (.int .i64) (.pair (.int .i64) (.sl (.pair (.int .i64) (.pair (.int .i64) (.pair (.int .i64) (.pair (.pair (.int .i64) (.int .i64)) (.pair .bool (.pair (.int .i64) (.pair (.sl .byte) (.pair (.sl (.pair .str (.int .i64))) (.pair .bool (.int .i64)))))))))))))))) (.cons (.p (.pair (.int .i64) (.pair (.int .i64) (.pair (.int .i64) (.pair (.pair (.int .i64) (.int .i64)) (.pair .bool (.pair (.int .i64) (.pair (.sl .byte) (.pair (.sl (.pair .str (.int .i64))) (.pair .bool (.int .i64))))))))))) (.cons (.p (.arr 3 (.int .i64))) .nil))), []⟩, [⟨(.cons (.p .bool) .nil), []⟩], [0]⟩
def law23_RepliesTell_ft (fu : Nat) : FnT := ⟨3, ⟨(.cons (.p (.pair (.int .i64) (.sl (.pair (.int .i64) (.pair (.int .i64) (.sl (.pair (.int .i64) (.pair (.int .i64) (.pair (.int .i64) (.pair (.pair (.int .i64) (.int .i64)) (.pair .bool (.pair (.int .i64) (.pair (.sl .byte) (.pair (.sl (.pair .str (.int .i64))) (.pair .bool (.int .i64)))))))))))))))) (.cons (.p (.pair (.int .i64) (.pair (.int .i64) (.pair (.int .i64) (.pair (.pair (.int .i64) (.int .i64)) (.pair .bool (.pair (.int .i64) (.pair (.sl .byte) (.pair (.sl (.pair .str (.int .i64))) (.pair .bool (.int .i64))))))))))) (.cons (.p (.arr 3 (.int .i64))) .nil))), []⟩, [⟨(.cons (.p .bool) .nil), []⟩], fun t => law23_RepliesTell fu t.1 t.2.1 t.2.2⟩
theorem law23_RepliesTell_eq (fu : Nat) : ∀ t, evF Go.Proofs.Try.prog [law23_Great_ft fu, law21_Huge_ft fu, law23_awake_ft fu, replies_New_ft fu, ref23_New_ft fu, replies_Look_ft fu, ref23_Look_ft fu, replies_Put_ft fu, ref23_Put_ft fu, law23_Same_ft fu, law21_SameReply_ft fu, replies_Right_ft fu, ref23_Right_ft fu] fu Go.Proofs.Try.f3 law23_RepliesTell_fa t = (law23_RepliesTell_ft fu).spec t := fun t => by kernel_rfl
theorem law23_RepliesTell_told (fu : Nat) : Told Go.Proofs.Try.prog (law23_RepliesTell_ft fu) := told_of (allT_cons (law23_Great_told fu) (allT_cons (law21_Huge_told fu) (allT_cons (law23_awake_told fu) (allT_cons (replies_New_told fu) (allT_cons (ref23_New_told fu) (allT_cons (replies_Look_told fu) (allT_cons (ref23_Look_told fu) (allT_cons (replies_Put_told fu) (allT_cons (ref23_Put_told fu) (allT_cons (law23_Same_told fu) (allT_cons (law21_SameReply_told fu) (allT_cons (replies_Right_told fu) (allT_cons (ref23_Right_told fu) allT_nil))))))))))))) mixed Go.Proofs.Try.func3 (by kernel_rfl) (by kernel_rfl) (law23_RepliesTell_eq fu)

def kit_Pick (fu : Nat) (x : Int) (n : Int) : Option (Int) :=
  bif (decide (n < 1)) then
    some 0
  else
    need (!(decide (n = 0))) <|
    bif (decide ((Int.tmod x n) < 0)) then
      some (IntKind.wrap .i64 ((Int.tmod x n) + n))
    else
      some (Int.tmod x n)
def kit_Pick_fa : FnA := ⟨.two (.leaf) (.two (.two (.leaf) (.two (.leaf) (.leaf))) (.two (.leaf) (.two (.two (.leaf) (.leaf)) (.leaf)))), ⟨(.cons (.p (.int .i64)) (.cons (.p (.int .i64)) .nil)), []⟩, [⟨(.cons (.p (.int .i64)) .nil), []⟩], [0]⟩
def kit_Pick_ft (fu : Nat) : FnT := ⟨19, ⟨(.cons (.p (.int .i64)) (.cons (.p (.int .i64)) .nil)), []⟩, [⟨(.cons (.p (.int .i64)) .nil), []⟩], fun t => kit_Pick fu t.1 t.2⟩
theorem kit_Pick_eq (fu : Nat) : ∀ t, evF Go.Proofs.Try.prog [] fu Go.Proofs.Try.f19 kit_Pick_fa t = (kit_Pick_ft fu).spec t := fun t => by kernel_rfl
theorem kit_Pick_told (fu : Nat) : Told Go.Proofs.Try.prog (kit_Pick_ft fu) := told_of allT_nil mixed Go.Proofs.Try.func19 (by kernel_rfl) (by kernel_rfl) (kit_Pick_eq fu)
end
end Go.Ab.D
