/- What the functions compute; the plain law. -/
import Derived.Test.YtceedhbmmlcckaaTreeOverD2
import Derived.KernelRfl
set_option linter.all false
/- Chapter 19, TreeOver: the functions that clone, told so that they can be reckoned. -/
set_option maxRecDepth 100000
set_option maxHeartbeats 4000000
namespace Go.Ab.V
open Go Go.Ab Go.Ab.D
noncomputable section
def slices_Clone__api_Part_api_Part (fu : Nat) (s : List ((Int × Int))) : Option (List ((Int × Int))) :=
  need ((Nat.ble ((0 + s.length) * 16) room) && (Nat.ble (0 + s.length) room)) <|
  some s
theorem slices_Clone__api_Part_api_Part_v : @Go.Ab.D.slices_Clone__api_Part_api_Part = @Go.Ab.V.slices_Clone__api_Part_api_Part := by
  funext fu s
  show nilQ _ _ = _
  cases s with
  | nil => exact (if_pos fun _ => rfl).trans rfl
  | cons a l => exact (if_pos (fun h => by cases h)).trans rfl
def slices_Clone__api_Entry_api_Entry (fu : Nat) (s : List ((List UInt8 × Int))) : Option (List ((List UInt8 × Int))) :=
  need ((Nat.ble ((0 + s.length) * 24) room) && (Nat.ble (0 + s.length) room)) <|
  some s
theorem slices_Clone__api_Entry_api_Entry_v : @Go.Ab.D.slices_Clone__api_Entry_api_Entry = @Go.Ab.V.slices_Clone__api_Entry_api_Entry := by
  funext fu s
  show nilQ _ _ = _
  cases s with
  | nil => exact (if_pos fun _ => rfl).trans rfl
  | cons a l => exact (if_pos (fun h => by cases h)).trans rfl
def inode_own (fu : Nat) (n : (Int × (Int × (Bool × (Bool × (Int × (List ((Int × Int)) × (Int × List ((List UInt8 × Int)))))))))) : Option ((Int × (Int × (Bool × (Bool × (Int × (Int × (List ((Int × Int)) × List ((List UInt8 × Int)))))))))) :=
  (slices_Clone__api_Part_api_Part fu n.2.2.2.2.2.1).bind fun r =>
  (slices_Clone__api_Entry_api_Entry fu n.2.2.2.2.2.2.2).bind fun r1 =>
  some (n.1, (n.2.1, (n.2.2.1, (n.2.2.2.1, (n.2.2.2.2.1, (n.2.2.2.2.2.2.1, (r, r1)))))))
theorem inode_own_v : @Go.Ab.D.inode_own = @Go.Ab.V.inode_own := by
  delta Go.Ab.D.inode_own Go.Ab.V.inode_own
  rw [slices_Clone__api_Part_api_Part_v, slices_Clone__api_Entry_api_Entry_v]
  try kernel_rfl
def inode_Get (fu : Nat) (t : (List ((Int × (Int × (Bool × (Bool × (Int × (List ((Int × Int)) × (Int × List ((List UInt8 × Int)))))))))) × Int)) (h : (Int × Int)) : Option ((Int × (Int × (Bool × (Bool × (Int × (List ((Int × Int)) × (Int × (List ((List UInt8 × Int)) × Int))))))))) :=
  Option.bind (α := ((Bool × (List ((Int × (Int × (Bool × (Bool × (Int × (List ((Int × Int)) × (Int × List ((List UInt8 × Int)))))))))) × (Int × (Int × (Int × (Int × (Int × (Bool × (Bool × (Int × Int)))))))))))) (
    bif (decide (h.1 < 1)) then
      some (true, (t.1, (t.2, (h.1, (h.2, (0, (0, (false, (false, (0, 0))))))))))
    else
      some ((decide (h.1 > ((t.1.length : Nat) : Int))), (t.1, (t.2, (h.1, (h.2, (0, (0, (false, (false, (0, 0))))))))))) fun o =>
  bif o.1 then
    some (0, (0, (false, (false, (0, ([], (0, ([], 170))))))))
  else
    (idx? (IntKind.wrap .i64 (o.2.2.2.1 - 1)) o.2.1.length).bind fun q =>
    (o.2.1)[q]?.bind fun r =>
    Option.bind (α := ((Bool × (Int × (Int × (Bool × (Bool × (Int × (Int × (Int × (Int × (Bool × (Bool × (Int × (List ((Int × Int)) × (Int × List ((List UInt8 × Int)))))))))))))))))) (
      bif (!r.2.2.1) then
        some (true, (o.2.2.2.2.2.1, (o.2.2.2.2.2.2.1, (o.2.2.2.2.2.2.2.1, (o.2.2.2.2.2.2.2.2.1, (o.2.2.2.2.2.2.2.2.2.1, (o.2.2.2.2.2.2.2.2.2.2, (r.1, (r.2.1, (r.2.2.1, (r.2.2.2.1, (r.2.2.2.2.1, (r.2.2.2.2.2.1, (r.2.2.2.2.2.2.1, r.2.2.2.2.2.2.2))))))))))))))
      else
        some ((!(r.2.1 == o.2.2.2.2.1)), (o.2.2.2.2.2.1, (o.2.2.2.2.2.2.1, (o.2.2.2.2.2.2.2.1, (o.2.2.2.2.2.2.2.2.1, (o.2.2.2.2.2.2.2.2.2.1, (o.2.2.2.2.2.2.2.2.2.2, (r.1, (r.2.1, (r.2.2.1, (r.2.2.2.1, (r.2.2.2.2.1, (r.2.2.2.2.2.1, (r.2.2.2.2.2.2.1, r.2.2.2.2.2.2.2))))))))))))))) fun o1 =>
    bif o1.1 then
      some (0, (0, (false, (false, (0, ([], (0, ([], 170))))))))
    else
      (inode_own fu (o1.2.2.2.2.2.2.2.1, (o1.2.2.2.2.2.2.2.2.1, (o1.2.2.2.2.2.2.2.2.2.1, (o1.2.2.2.2.2.2.2.2.2.2.1, (o1.2.2.2.2.2.2.2.2.2.2.2.1, (o1.2.2.2.2.2.2.2.2.2.2.2.2.1, (o1.2.2.2.2.2.2.2.2.2.2.2.2.2.1, o1.2.2.2.2.2.2.2.2.2.2.2.2.2.2)))))))).bind fun r1 =>
      some (r1.1, (r1.2.1, (r1.2.2.1, (r1.2.2.2.1, (r1.2.2.2.2.1, (r1.2.2.2.2.2.2.1, (r1.2.2.2.2.2.1, (r1.2.2.2.2.2.2.2, 0))))))))
theorem inode_Get_v : @Go.Ab.D.inode_Get = @Go.Ab.V.inode_Get := by
  delta Go.Ab.D.inode_Get Go.Ab.V.inode_Get
  rw [inode_own_v]
  try kernel_rfl
def tree_directory (fu : Nat) (t : (List ((Int × (Int × (Bool × (Bool × (Int × (List ((Int × Int)) × (Int × List ((List UInt8 × Int)))))))))) × Int)) (h : (Int × Int)) : Option ((Int × (Int × (Bool × (Bool × (Int × (List ((Int × Int)) × (Int × (List ((List UInt8 × Int)) × Int))))))))) :=
  (inode_Get fu (t.1, t.2) (h.1, h.2)).bind fun r =>
  Option.bind (α := ((Bool × (Int × (Int × (Bool × (Bool × (Int × (Int × (Int × (Int × (Bool × (Bool × (Int × (List ((Int × Int)) × (Int × List ((List UInt8 × Int)))))))))))))))))) (
    bif (r.2.2.2.2.2.2.2.2 == 0) then
      some ((!r.2.2.2.1), (0, (0, (false, (false, (0, (0, (r.1, (r.2.1, (r.2.2.1, (r.2.2.2.1, (r.2.2.2.2.1, (r.2.2.2.2.2.1, (r.2.2.2.2.2.2.1, r.2.2.2.2.2.2.2.1))))))))))))))
    else
      some (false, (0, (0, (false, (false, (0, (0, (r.1, (r.2.1, (r.2.2.1, (r.2.2.2.1, (r.2.2.2.2.1, (r.2.2.2.2.2.1, (r.2.2.2.2.2.2.1, r.2.2.2.2.2.2.2.1))))))))))))))) fun o =>
  bif o.1 then
    some (0, (0, (false, (false, (0, ([], (0, ([], 173))))))))
  else
    some (o.2.2.2.2.2.2.2.1, (o.2.2.2.2.2.2.2.2.1, (o.2.2.2.2.2.2.2.2.2.1, (o.2.2.2.2.2.2.2.2.2.2.1, (o.2.2.2.2.2.2.2.2.2.2.2.1, (o.2.2.2.2.2.2.2.2.2.2.2.2.1, (o.2.2.2.2.2.2.2.2.2.2.2.2.2.1, (o.2.2.2.2.2.2.2.2.2.2.2.2.2.2, r.2.2.2.2.2.2.2.2))))))))
theorem tree_directory_v : @Go.Ab.D.tree_directory = @Go.Ab.V.tree_directory := by
  delta Go.Ab.D.tree_directory Go.Ab.V.tree_directory
  rw [inode_Get_v]
  try kernel_rfl
def tree_asked_l0 (fu : Nat) (l : List ((Int × Int))) (x : Int) (h : List ((Int × (Int × (Bool × (Bool × (Int × (List ((Int × Int)) × (Int × List ((List UInt8 × Int))))))))))) (h1 : Int) (h2 : List ((Int × (Int × (Bool × (Bool × (Int × (List ((Int × Int)) × (Int × List ((List UInt8 × Int))))))))))) : Option ((Int × (List ((Int × (Int × (Bool × (Bool × (Int × (List ((Int × Int)) × (Int × List ((List UInt8 × Int)))))))))) × (Int × List ((Int × (Int × (Bool × (Bool × (Int × (List ((Int × Int)) × (Int × List ((List UInt8 × Int))))))))))))) ⊕ (List ((Int × (Int × (Bool × (Bool × (Int × (List ((Int × Int)) × (Int × List ((List UInt8 × Int)))))))))) ⊕ (Int × List ((Int × (Int × (Bool × (Bool × (Int × (List ((Int × Int)) × (Int × List ((List UInt8 × Int))))))))))))) :=
  bif (decide (x < ((l.length : Nat) : Int))) then
    (idx? x l.length).bind fun q =>
    (l)[q]?.bind fun r1 =>
    (tree_directory fu (h, h1) (r1.1, r1.2)).bind fun r2 =>
    bif (!(r2.2.2.2.2.2.2.2.2 == 0)) then
      some (.inr (.inr (r2.2.2.2.2.2.2.2.2, [])))
    else
      need ((Nat.ble ((h2.length + 1) * 88) room) && (Nat.ble (h2.length + 1) room)) <|
      some (.inl ((IntKind.wrap .i64 (x + 1)), (h, (h1, (h2 ++ [(r2.1, (r2.2.1, (r2.2.2.1, (r2.2.2.2.1, (r2.2.2.2.2.1, (r2.2.2.2.2.2.1, (r2.2.2.2.2.2.2.1, r2.2.2.2.2.2.2.2.1)))))))])))))
  else
    some (.inr (.inl h2))
theorem tree_asked_l0_v : @Go.Ab.D.tree_asked_l0 = @Go.Ab.V.tree_asked_l0 := by
  delta Go.Ab.D.tree_asked_l0 Go.Ab.V.tree_asked_l0
  rw [tree_directory_v]
  try kernel_rfl
def tree_asked_l0_it (fu : Nat) (l : List ((Int × Int))) (tt : (Int × (List ((Int × (Int × (Bool × (Bool × (Int × (List ((Int × Int)) × (Int × List ((List UInt8 × Int)))))))))) × (Int × List ((Int × (Int × (Bool × (Bool × (Int × (List ((Int × Int)) × (Int × List ((List UInt8 × Int)))))))))))))) : Option (List ((Int × (Int × (Bool × (Bool × (Int × (List ((Int × Int)) × (Int × List ((List UInt8 × Int)))))))))) ⊕ (Int × List ((Int × (Int × (Bool × (Bool × (Int × (List ((Int × Int)) × (Int × List ((List UInt8 × Int)))))))))))) :=
  iter fu (fun tt => tree_asked_l0 fu l tt.1 tt.2.1 tt.2.2.1 tt.2.2.2) tt
theorem tree_asked_l0_it_v : @Go.Ab.D.tree_asked_l0_it = @Go.Ab.V.tree_asked_l0_it := by
  delta Go.Ab.D.tree_asked_l0_it Go.Ab.V.tree_asked_l0_it
  rw [tree_asked_l0_v]
  try kernel_rfl
def tree_asked (fu : Nat) (t : (List ((Int × (Int × (Bool × (Bool × (Int × (List ((Int × Int)) × (Int × List ((List UInt8 × Int)))))))))) × Int)) (l : List ((Int × Int))) : Option ((Int × List ((Int × (Int × (Bool × (Bool × (Int × (List ((Int × Int)) × (Int × List ((List UInt8 × Int)))))))))))) :=
  (tree_Right fu (t.1, t.2)).bind fun r =>
  bif (!r) then
    some (180, [])
  else
    (tree_asked_l0_it fu l (0, (t.1, (t.2, [])))).bind fun o =>
    match o with
    | .inl s =>
      some (0, s)
    | .inr o1 =>
      some o1
theorem tree_asked_v : @Go.Ab.D.tree_asked = @Go.Ab.V.tree_asked := by
  delta Go.Ab.D.tree_asked Go.Ab.V.tree_asked
  rw [tree_asked_l0_it_v]
  try kernel_rfl
def slices_Clone__api_Inode_api_Inode (fu : Nat) (s : List ((Int × (Int × (Bool × (Bool × (Int × (List ((Int × Int)) × (Int × List ((List UInt8 × Int))))))))))) : Option (List ((Int × (Int × (Bool × (Bool × (Int × (List ((Int × Int)) × (Int × List ((List UInt8 × Int))))))))))) :=
  need ((Nat.ble ((0 + s.length) * 88) room) && (Nat.ble (0 + s.length) room)) <|
  some s
theorem slices_Clone__api_Inode_api_Inode_v : @Go.Ab.D.slices_Clone__api_Inode_api_Inode = @Go.Ab.V.slices_Clone__api_Inode_api_Inode := by
  funext fu s
  show nilQ _ _ = _
  cases s with
  | nil => exact (if_pos fun _ => rfl).trans rfl
  | cons a l => exact (if_pos (fun h => by cases h)).trans rfl
def tree_copied_l0 (fu : Nat) (r : List ((Int × (Int × (Bool × (Bool × (Int × (List ((Int × Int)) × (Int × List ((List UInt8 × Int))))))))))) (x : Int) (h : Int) (h1 : List ((Int × (Int × (Bool × (Bool × (Int × (List ((Int × Int)) × (Int × List ((List UInt8 × Int))))))))))) (h2 : Int) : Option ((Int × (Int × (List ((Int × (Int × (Bool × (Bool × (Int × (List ((Int × Int)) × (Int × List ((List UInt8 × Int)))))))))) × Int))) ⊕ ((Int × (List ((Int × (Int × (Bool × (Bool × (Int × (List ((Int × Int)) × (Int × List ((List UInt8 × Int)))))))))) × Int)))) :=
  bif (decide (x < ((r.length : Nat) : Int))) then
    (idx? x h1.length).bind fun q =>
    (h1)[q]?.bind fun r1 =>
    (slices_Clone__api_Part_api_Part fu r1.2.2.2.2.2.1).bind fun r2 =>
    (h1)[q]?.bind fun r3 =>
    (slices_Clone__api_Entry_api_Entry fu r3.2.2.2.2.2.2.2).bind fun r4 =>
    (h1)[q]?.bind fun r5 =>
    ((List.set h1 q (r5.1, (r5.2.1, (r5.2.2.1, (r5.2.2.2.1, (r5.2.2.2.2.1, (r2, r5.2.2.2.2.2.2))))))))[q]?.bind fun r6 =>
    some (.inl ((IntKind.wrap .i64 (x + 1)), (h, ((List.set (List.set h1 q (r5.1, (r5.2.1, (r5.2.2.1, (r5.2.2.2.1, (r5.2.2.2.2.1, (r2, r5.2.2.2.2.2.2))))))) q (r6.1, (r6.2.1, (r6.2.2.1, (r6.2.2.2.1, (r6.2.2.2.2.1, (r6.2.2.2.2.2.1, (r6.2.2.2.2.2.2.1, r4)))))))), h2))))
  else
    some (.inr (h, (h1, h2)))
theorem tree_copied_l0_v : @Go.Ab.D.tree_copied_l0 = @Go.Ab.V.tree_copied_l0 := by
  delta Go.Ab.D.tree_copied_l0 Go.Ab.V.tree_copied_l0
  rw [slices_Clone__api_Part_api_Part_v, slices_Clone__api_Entry_api_Entry_v]
  try kernel_rfl
def tree_copied_l0_it (fu : Nat) (r : List ((Int × (Int × (Bool × (Bool × (Int × (List ((Int × Int)) × (Int × List ((List UInt8 × Int))))))))))) (tt : (Int × (Int × (List ((Int × (Int × (Bool × (Bool × (Int × (List ((Int × Int)) × (Int × List ((List UInt8 × Int)))))))))) × Int)))) : Option ((Int × (List ((Int × (Int × (Bool × (Bool × (Int × (List ((Int × Int)) × (Int × List ((List UInt8 × Int)))))))))) × Int))) :=
  iter fu (fun tt => tree_copied_l0 fu r tt.1 tt.2.1 tt.2.2.1 tt.2.2.2) tt
theorem tree_copied_l0_it_v : @Go.Ab.D.tree_copied_l0_it = @Go.Ab.V.tree_copied_l0_it := by
  delta Go.Ab.D.tree_copied_l0_it Go.Ab.V.tree_copied_l0_it
  rw [tree_copied_l0_v]
  try kernel_rfl
def tree_copied (fu : Nat) (t : (List ((Int × (Int × (Bool × (Bool × (Int × (List ((Int × Int)) × (Int × List ((List UInt8 × Int)))))))))) × Int)) : Option ((Int × List ((Int × (Int × (Bool × (Bool × (Int × (List ((Int × Int)) × (Int × List ((List UInt8 × Int)))))))))))) :=
  (slices_Clone__api_Inode_api_Inode fu t.1).bind fun r =>
  (tree_copied_l0_it fu r (0, (t.2, (r, 0)))).bind fun o =>
  some (o.1, o.2.1)
theorem tree_copied_v : @Go.Ab.D.tree_copied = @Go.Ab.V.tree_copied := by
  delta Go.Ab.D.tree_copied Go.Ab.V.tree_copied
  rw [slices_Clone__api_Inode_api_Inode_v, tree_copied_l0_it_v]
  try kernel_rfl
def inode_copied_E_l0 (fu : Nat) (r : List ((Int × (Int × (Bool × (Bool × (Int × (List ((Int × Int)) × (Int × List ((List UInt8 × Int))))))))))) (x : Int) (h : Int) (h1 : List ((Int × (Int × (Bool × (Bool × (Int × (List ((Int × Int)) × (Int × (List ((List UInt8 × Int)) ⊕ Option (Nat × (Nat × Nat)))))))))))) (h2 : Int) (h3 : List ((Nat × List ((List UInt8 × Int))))) : Option ((Int × (Int × (List ((Int × (Int × (Bool × (Bool × (Int × (List ((Int × Int)) × (Int × (List ((List UInt8 × Int)) ⊕ Option (Nat × (Nat × Nat))))))))))) × (Int × List ((Nat × List ((List UInt8 × Int)))))))) ⊕ ((Int × (List ((Int × (Int × (Bool × (Bool × (Int × (List ((Int × Int)) × (Int × (List ((List UInt8 × Int)) ⊕ Option (Nat × (Nat × Nat))))))))))) × (Int × List ((Nat × List ((List UInt8 × Int))))))))) :=
  bif (decide (x < ((r.length : Nat) : Int))) then
    (idx? x h1.length).bind fun q =>
    (h1)[q]?.bind fun r1 =>
    (lowD (.ref 1 (.pair .str (.int .i64))) r1.2.2.2.2.2.2.2).bind fun x1 =>
    (inode_own fu (r1.1, (r1.2.1, (r1.2.2.1, (r1.2.2.2.1, (r1.2.2.2.2.1, (r1.2.2.2.2.2.1, (r1.2.2.2.2.2.2.1, x1)))))))).bind fun r2 =>
    (idx? x h1.length).bind fun q1 =>
    (h1)[q1]?.bind fun r3 =>
    some (.inl ((IntKind.wrap .i64 (x + 1)), (h, ((List.set h1 q1 (r2.1, (r2.2.1, (r2.2.2.1, (r2.2.2.2.1, (r2.2.2.2.2.1, (r2.2.2.2.2.2.2.1, (r2.2.2.2.2.2.1, (.inr (some (h3.length, (0, r2.2.2.2.2.2.2.2.length)))))))))))), (h2, (h3 ++ [(1, r2.2.2.2.2.2.2.2)]))))))
  else
    some (.inr (h, (h1, (h2, h3))))
theorem inode_copied_E_l0_v : @Go.Ab.D.inode_copied_E_l0 = @Go.Ab.V.inode_copied_E_l0 := by
  delta Go.Ab.D.inode_copied_E_l0 Go.Ab.V.inode_copied_E_l0
  rw [inode_own_v]
  try kernel_rfl
def inode_copied_E_l0_it (fu : Nat) (r : List ((Int × (Int × (Bool × (Bool × (Int × (List ((Int × Int)) × (Int × List ((List UInt8 × Int))))))))))) (tt : (Int × (Int × (List ((Int × (Int × (Bool × (Bool × (Int × (List ((Int × Int)) × (Int × (List ((List UInt8 × Int)) ⊕ Option (Nat × (Nat × Nat))))))))))) × (Int × List ((Nat × List ((List UInt8 × Int))))))))) : Option ((Int × (List ((Int × (Int × (Bool × (Bool × (Int × (List ((Int × Int)) × (Int × (List ((List UInt8 × Int)) ⊕ Option (Nat × (Nat × Nat))))))))))) × (Int × List ((Nat × List ((List UInt8 × Int)))))))) :=
  iter fu (fun tt => inode_copied_E_l0 fu r tt.1 tt.2.1 tt.2.2.1 tt.2.2.2.1 tt.2.2.2.2) tt
theorem inode_copied_E_l0_it_v : @Go.Ab.D.inode_copied_E_l0_it = @Go.Ab.V.inode_copied_E_l0_it := by
  delta Go.Ab.D.inode_copied_E_l0_it Go.Ab.V.inode_copied_E_l0_it
  rw [inode_copied_E_l0_v]
  try kernel_rfl
def inode_copied_E (fu : Nat) (t : (List ((Int × (Int × (Bool × (Bool × (Int × (List ((Int × Int)) × (Int × List ((List UInt8 × Int)))))))))) × Int)) : Option ((Int × (List ((Int × (Int × (Bool × (Bool × (Int × (List ((Int × Int)) × (Int × (List ((List UInt8 × Int)) ⊕ Option (Nat × (Nat × Nat))))))))))) × List ((Nat × List ((List UInt8 × Int))))))) :=
  (slices_Clone__api_Inode_api_Inode fu t.1).bind fun r =>
  (inode_copied_E_l0_it fu r (0, (t.2, ((List.map (liftT (.pair (.int .i64) (.pair (.int .i64) (.pair .bool (.pair .bool (.pair (.int .i64) (.pair (.sl (.pair (.int .i64) (.int .i64))) (.pair (.int .i64) (.ref 1 (.pair .str (.int .i64))))))))))) r), (0, []))))).bind fun o =>
  some (o.1, (o.2.1, o.2.2.2))
theorem inode_copied_E_v : @Go.Ab.D.inode_copied_E = @Go.Ab.V.inode_copied_E := by
  delta Go.Ab.D.inode_copied_E Go.Ab.V.inode_copied_E
  rw [slices_Clone__api_Inode_api_Inode_v, inode_copied_E_l0_it_v]
  try kernel_rfl
def inode_Alloc_E (fu : Nat) (t : (List ((Int × (Int × (Bool × (Bool × (Int × (List ((Int × Int)) × (Int × List ((List UInt8 × Int)))))))))) × Int)) (dir : Bool) (parent : Int) : Option ((Int × (Int × (Int × (Int × (List ((Int × (Int × (Bool × (Bool × (Int × (List ((Int × Int)) × (Int × (List ((List UInt8 × Int)) ⊕ Option (Nat × (Nat × Nat))))))))))) × List ((Nat × List ((List UInt8 × Int)))))))))) :=
  (inode_copied_E fu (t.1, t.2)).bind fun r =>
  (inode_Right fu (t.1, t.2)).bind fun r1 =>
  bif (!r1) then
    some (r.1, (0, (0, (180, (r.2.1, r.2.2)))))
  else
    (inode_is fu (t.1, t.2) parent true).bind fun r2 =>
    bif (!r2) then
      some (r.1, (0, (0, (2, (r.2.1, r.2.2)))))
    else
      (unrefL (unrefD [⟨1, (.pair .str (.int .i64)), (List.map frz1 r.2.2)⟩] (.pair (.int .i64) (.pair (.int .i64) (.pair .bool (.pair .bool (.pair (.int .i64) (.pair (.sl (.pair (.int .i64) (.int .i64))) (.pair (.int .i64) (.ref 1 (.pair .str (.int .i64))))))))))) r.2.1).bind fun l =>
      (slices_IndexFunc__api_Inode_api_Inode_f11 fu l).bind fun r3 =>
      Option.bind (α := ((Bool × (Int × (Int × (Int × (Int × (List ((Int × (Int × (Bool × (Bool × (Int × (List ((Int × Int)) × (Int × (List ((List UInt8 × Int)) ⊕ Option (Nat × (Nat × Nat))))))))))) × List ((Nat × List ((List UInt8 × Int)))))))))))) (
        bif (decide (r3 < 0)) then
          some ((decide (((r.2.1.length : Nat) : Int) ≥ 500)), (0, (0, (0, (r.1, (r.2.1, r.2.2))))))
        else
          some (false, (0, (0, (0, (r.1, (r.2.1, r.2.2))))))) fun o =>
      bif o.1 then
        some (o.2.2.2.2.1, (0, (0, (5, (o.2.2.2.2.2.1, o.2.2.2.2.2.2)))))
      else
        Option.bind (α := ((Int × (Int × (Int × (Int × (Int × (List ((Int × (Int × (Bool × (Bool × (Int × (List ((Int × Int)) × (Int × (List ((List UInt8 × Int)) ⊕ Option (Nat × (Nat × Nat))))))))))) × List ((Nat × List ((List UInt8 × Int)))))))))) ⊕ (Int × (Int × (Int × (Int × (List ((Int × (Int × (Bool × (Bool × (Int × (List ((Int × Int)) × (Int × (List ((List UInt8 × Int)) ⊕ Option (Nat × (Nat × Nat))))))))))) × List ((Nat × List ((List UInt8 × Int))))))))))) (
          bif (decide (r3 < 0)) then
            need ((Nat.ble ((o.2.2.2.2.2.1.length + 1) * 88) room) && (Nat.ble (o.2.2.2.2.2.1.length + 1) room)) <|
            some (.inl (((o.2.2.2.2.2.1.length : Nat) : Int), (o.2.1, (o.2.2.1, (o.2.2.2.1, (o.2.2.2.2.1, ((o.2.2.2.2.2.1 ++ (List.map (liftT (.pair (.int .i64) (.pair (.int .i64) (.pair .bool (.pair .bool (.pair (.int .i64) (.pair (.sl (.pair (.int .i64) (.int .i64))) (.pair (.int .i64) (.ref 1 (.pair .str (.int .i64))))))))))) ([((IntKind.wrap .i64 (((o.2.2.2.2.2.1.length : Nat) : Int) + 1)), (0, (false, (false, (0, ([], (0, [])))))))] : List ((Int × (Int × (Bool × (Bool × (Int × (List ((Int × Int)) × (Int × List ((List UInt8 × Int))))))))))))), o.2.2.2.2.2.2)))))))
          else
            (idx? r3 o.2.2.2.2.2.1.length).bind fun q =>
            (o.2.2.2.2.2.1)[q]?.bind fun r4 =>
            bif (decide (r4.2.1 ≥ 1099511627776)) then
              some (.inr (o.2.2.2.2.1, (0, (0, (5, (o.2.2.2.2.2.1, o.2.2.2.2.2.2))))))
            else
              some (.inl (r3, (o.2.1, (o.2.2.1, (o.2.2.2.1, (o.2.2.2.2.1, (o.2.2.2.2.2.1, o.2.2.2.2.2.2)))))))) fun o1 =>
        match o1 with
        | .inl s =>
          (idx? s.1 s.2.2.2.2.2.1.length).bind fun q1 =>
          (s.2.2.2.2.2.1)[q1]?.bind fun r5 =>
          (s.2.2.2.2.2.1)[q1]?.bind fun r6 =>
          ((List.set s.2.2.2.2.2.1 q1 (r6.1, ((IntKind.wrap .i64 (r5.2.1 + 1)), r6.2.2))))[q1]?.bind fun r7 =>
          ((List.set (List.set s.2.2.2.2.2.1 q1 (r6.1, ((IntKind.wrap .i64 (r5.2.1 + 1)), r6.2.2))) q1 (r7.1, (r7.2.1, (true, r7.2.2.2)))))[q1]?.bind fun r8 =>
          ((List.set (List.set (List.set s.2.2.2.2.2.1 q1 (r6.1, ((IntKind.wrap .i64 (r5.2.1 + 1)), r6.2.2))) q1 (r7.1, (r7.2.1, (true, r7.2.2.2)))) q1 (r8.1, (r8.2.1, (r8.2.2.1, (dir, r8.2.2.2.2))))))[q1]?.bind fun r9 =>
          ((List.set (List.set (List.set (List.set s.2.2.2.2.2.1 q1 (r6.1, ((IntKind.wrap .i64 (r5.2.1 + 1)), r6.2.2))) q1 (r7.1, (r7.2.1, (true, r7.2.2.2)))) q1 (r8.1, (r8.2.1, (r8.2.2.1, (dir, r8.2.2.2.2))))) q1 (r9.1, (r9.2.1, (r9.2.2.1, (r9.2.2.2.1, (r9.2.2.2.2.1, (r9.2.2.2.2.2.1, (parent, r9.2.2.2.2.2.2.2)))))))))[q1]?.bind fun r10 =>
          ((List.set (List.set (List.set (List.set s.2.2.2.2.2.1 q1 (r6.1, ((IntKind.wrap .i64 (r5.2.1 + 1)), r6.2.2))) q1 (r7.1, (r7.2.1, (true, r7.2.2.2)))) q1 (r8.1, (r8.2.1, (r8.2.2.1, (dir, r8.2.2.2.2))))) q1 (r9.1, (r9.2.1, (r9.2.2.1, (r9.2.2.2.1, (r9.2.2.2.2.1, (r9.2.2.2.2.2.1, (parent, r9.2.2.2.2.2.2.2)))))))))[q1]?.bind fun r11 =>
          some (s.2.2.2.2.1, (r10.1, (r11.2.1, (0, ((List.set (List.set (List.set (List.set s.2.2.2.2.2.1 q1 (r6.1, ((IntKind.wrap .i64 (r5.2.1 + 1)), r6.2.2))) q1 (r7.1, (r7.2.1, (true, r7.2.2.2)))) q1 (r8.1, (r8.2.1, (r8.2.2.1, (dir, r8.2.2.2.2))))) q1 (r9.1, (r9.2.1, (r9.2.2.1, (r9.2.2.2.1, (r9.2.2.2.2.1, (r9.2.2.2.2.2.1, (parent, r9.2.2.2.2.2.2.2)))))))), s.2.2.2.2.2.2)))))
        | .inr o2 =>
          some o2
theorem inode_Alloc_E_v : @Go.Ab.D.inode_Alloc_E = @Go.Ab.V.inode_Alloc_E := by
  delta Go.Ab.D.inode_Alloc_E Go.Ab.V.inode_Alloc_E
  rw [inode_copied_E_v]
  try kernel_rfl
def tree_Make (fu : Nat) (t : (List ((Int × (Int × (Bool × (Bool × (Int × (List ((Int × Int)) × (Int × List ((List UInt8 × Int)))))))))) × Int)) (dir : (Int × Int)) (name : List UInt8) (is_ : Bool) : Option ((List ((Int × (Int × (Bool × (Bool × (Int × (List ((Int × Int)) × (Int × List ((List UInt8 × Int)))))))))) × (Int × (Int × (Int × Int))))) :=
  (tree_asked fu (t.1, t.2) [(dir.1, dir.2)]).bind fun r =>
  bif (!(r.1 == 0)) then
    (tree_copied fu (t.1, t.2)).bind fun r1 =>
    some (r1.2, (r1.1, (0, (0, r.1))))
  else
    (idx? 0 r.2.length).bind fun q =>
    (r.2)[q]?.bind fun r2 =>
    (tree_entry fu r2 name).bind fun r3 =>
    (tree_Named fu name).bind fun r4 =>
    bif (!r4) then
      (tree_copied fu (t.1, t.2)).bind fun r5 =>
      some (r5.2, (r5.1, (0, (0, 176))))
    else
      bif r3.2 then
        (tree_copied fu (t.1, t.2)).bind fun r6 =>
        some (r6.2, (r6.1, (0, (0, 172))))
      else
        (idx? 0 r.2.length).bind fun q1 =>
        (r.2)[q1]?.bind fun r7 =>
        bif (decide (((r7.2.2.2.2.2.2.2.length : Nat) : Int) ≥ 100)) then
          (tree_copied fu (t.1, t.2)).bind fun r8 =>
          some (r8.2, (r8.1, (0, (0, 5))))
        else
          (inode_Alloc_E fu (t.1, t.2) is_ dir.1).bind fun r9 =>
          bif (!(r9.2.2.2.1 == 0)) then
            (unrefL (unrefD [⟨1, (.pair .str (.int .i64)), (List.map frz1 r9.2.2.2.2.2)⟩] (.pair (.int .i64) (.pair (.int .i64) (.pair .bool (.pair .bool (.pair (.int .i64) (.pair (.sl (.pair (.int .i64) (.int .i64))) (.pair (.int .i64) (.ref 1 (.pair .str (.int .i64))))))))))) r9.2.2.2.2.1).bind fun l2 =>
            some (l2, (r9.1, (0, (0, r9.2.2.2.1))))
          else
            (tree_put__coR fu dir.1 name r9.2.1 r9.1 r9.2.2.2.2.1 r9.2.2.2.2.2).bind fun r10 =>
            (unrefL (unrefD [⟨1, (.pair .str (.int .i64)), (List.map frz1 r10.2.2)⟩] (.pair (.int .i64) (.pair (.int .i64) (.pair .bool (.pair .bool (.pair (.int .i64) (.pair (.sl (.pair (.int .i64) (.int .i64))) (.pair (.int .i64) (.ref 1 (.pair .str (.int .i64))))))))))) r10.2.1).bind fun l3 =>
            some (l3, (r10.1, (r9.2.1, (r9.2.2.1, 0))))
theorem tree_Make_v : @Go.Ab.D.tree_Make = @Go.Ab.V.tree_Make := by
  delta Go.Ab.D.tree_Make Go.Ab.V.tree_Make
  rw [tree_asked_v, tree_copied_v, inode_Alloc_E_v]
  try kernel_rfl
def tree_copied_E_l0 (fu : Nat) (r : List ((Int × (Int × (Bool × (Bool × (Int × (List ((Int × Int)) × (Int × List ((List UInt8 × Int))))))))))) (x : Int) (h : Int) (h1 : List ((Int × (Int × (Bool × (Bool × (Int × (List ((Int × Int)) × (Int × (List ((List UInt8 × Int)) ⊕ Option (Nat × (Nat × Nat)))))))))))) (h2 : Int) (h3 : List ((Nat × List ((List UInt8 × Int))))) : Option ((Int × (Int × (List ((Int × (Int × (Bool × (Bool × (Int × (List ((Int × Int)) × (Int × (List ((List UInt8 × Int)) ⊕ Option (Nat × (Nat × Nat))))))))))) × (Int × List ((Nat × List ((List UInt8 × Int)))))))) ⊕ ((Int × (List ((Int × (Int × (Bool × (Bool × (Int × (List ((Int × Int)) × (Int × (List ((List UInt8 × Int)) ⊕ Option (Nat × (Nat × Nat))))))))))) × (Int × List ((Nat × List ((List UInt8 × Int))))))))) :=
  bif (decide (x < ((r.length : Nat) : Int))) then
    (idx? x h1.length).bind fun q =>
    (h1)[q]?.bind fun r1 =>
    (slices_Clone__api_Part_api_Part fu r1.2.2.2.2.2.1).bind fun r2 =>
    (h1)[q]?.bind fun r3 =>
    (lowD (.ref 1 (.pair .str (.int .i64))) r3.2.2.2.2.2.2.2).bind fun x1 =>
    (slices_Clone__api_Entry_api_Entry fu x1).bind fun r4 =>
    (h1)[q]?.bind fun r5 =>
    ((List.set h1 q (r5.1, (r5.2.1, (r5.2.2.1, (r5.2.2.2.1, (r5.2.2.2.2.1, (r2, r5.2.2.2.2.2.2))))))))[q]?.bind fun r6 =>
    some (.inl ((IntKind.wrap .i64 (x + 1)), (h, ((List.set (List.set h1 q (r5.1, (r5.2.1, (r5.2.2.1, (r5.2.2.2.1, (r5.2.2.2.2.1, (r2, r5.2.2.2.2.2.2))))))) q (r6.1, (r6.2.1, (r6.2.2.1, (r6.2.2.2.1, (r6.2.2.2.2.1, (r6.2.2.2.2.2.1, (r6.2.2.2.2.2.2.1, (.inr (some (h3.length, (0, r4.length)))))))))))), (h2, (h3 ++ [(1, r4)]))))))
  else
    some (.inr (h, (h1, (h2, h3))))
theorem tree_copied_E_l0_v : @Go.Ab.D.tree_copied_E_l0 = @Go.Ab.V.tree_copied_E_l0 := by
  delta Go.Ab.D.tree_copied_E_l0 Go.Ab.V.tree_copied_E_l0
  rw [slices_Clone__api_Part_api_Part_v, slices_Clone__api_Entry_api_Entry_v]
  try kernel_rfl
def tree_copied_E_l0_it (fu : Nat) (r : List ((Int × (Int × (Bool × (Bool × (Int × (List ((Int × Int)) × (Int × List ((List UInt8 × Int))))))))))) (tt : (Int × (Int × (List ((Int × (Int × (Bool × (Bool × (Int × (List ((Int × Int)) × (Int × (List ((List UInt8 × Int)) ⊕ Option (Nat × (Nat × Nat))))))))))) × (Int × List ((Nat × List ((List UInt8 × Int))))))))) : Option ((Int × (List ((Int × (Int × (Bool × (Bool × (Int × (List ((Int × Int)) × (Int × (List ((List UInt8 × Int)) ⊕ Option (Nat × (Nat × Nat))))))))))) × (Int × List ((Nat × List ((List UInt8 × Int)))))))) :=
  iter fu (fun tt => tree_copied_E_l0 fu r tt.1 tt.2.1 tt.2.2.1 tt.2.2.2.1 tt.2.2.2.2) tt
theorem tree_copied_E_l0_it_v : @Go.Ab.D.tree_copied_E_l0_it = @Go.Ab.V.tree_copied_E_l0_it := by
  delta Go.Ab.D.tree_copied_E_l0_it Go.Ab.V.tree_copied_E_l0_it
  rw [tree_copied_E_l0_v]
  try kernel_rfl
def tree_copied_E (fu : Nat) (t : (List ((Int × (Int × (Bool × (Bool × (Int × (List ((Int × Int)) × (Int × List ((List UInt8 × Int)))))))))) × Int)) : Option ((Int × (List ((Int × (Int × (Bool × (Bool × (Int × (List ((Int × Int)) × (Int × (List ((List UInt8 × Int)) ⊕ Option (Nat × (Nat × Nat))))))))))) × List ((Nat × List ((List UInt8 × Int))))))) :=
  (slices_Clone__api_Inode_api_Inode fu t.1).bind fun r =>
  (tree_copied_E_l0_it fu r (0, (t.2, ((List.map (liftT (.pair (.int .i64) (.pair (.int .i64) (.pair .bool (.pair .bool (.pair (.int .i64) (.pair (.sl (.pair (.int .i64) (.int .i64))) (.pair (.int .i64) (.ref 1 (.pair .str (.int .i64))))))))))) r), (0, []))))).bind fun o =>
  some (o.1, (o.2.1, o.2.2.2))
theorem tree_copied_E_v : @Go.Ab.D.tree_copied_E = @Go.Ab.V.tree_copied_E := by
  delta Go.Ab.D.tree_copied_E Go.Ab.V.tree_copied_E
  rw [slices_Clone__api_Inode_api_Inode_v, tree_copied_E_l0_it_v]
  try kernel_rfl
def inode_copied_2_go0_R_l0 (fu : Nat) (r : List ((Int × (Int × (Bool × (Bool × (Int × (List ((Int × Int)) × (Int × List ((List UInt8 × Int))))))))))) (t1 : Int) (x : Int) (h2 : List ((Int × (Int × (Bool × (Bool × (Int × (List ((Int × Int)) × (Int × (List ((List UInt8 × Int)) ⊕ Option (Nat × (Nat × Nat)))))))))))) (h3 : Int) (h4 : List ((Int × (Int × (Bool × (Bool × (Int × ((List ((Int × Int)) ⊕ Option (Nat × (Nat × Nat))) × (Int × (List ((List UInt8 × Int)) ⊕ Option (Nat × (Nat × Nat)))))))))))) (h5 : Int) (h6 : List ((Nat × List ((Int × Int))))) (h7 : List ((Nat × List ((List UInt8 × Int))))) (h8 : List ((Nat × List ((List UInt8 × Int))))) : Option ((Int × (Int × (List ((Int × (Int × (Bool × (Bool × (Int × (List ((Int × Int)) × (Int × (List ((List UInt8 × Int)) ⊕ Option (Nat × (Nat × Nat))))))))))) × (Int × (List ((Int × (Int × (Bool × (Bool × (Int × ((List ((Int × Int)) ⊕ Option (Nat × (Nat × Nat))) × (Int × (List ((List UInt8 × Int)) ⊕ Option (Nat × (Nat × Nat))))))))))) × (Int × (List ((Nat × List ((Int × Int)))) × (List ((Nat × List ((List UInt8 × Int)))) × List ((Nat × List ((List UInt8 × Int)))))))))))) ⊕ ((Int × (List ((Int × (Int × (Bool × (Bool × (Int × (List ((Int × Int)) × (Int × (List ((List UInt8 × Int)) ⊕ Option (Nat × (Nat × Nat))))))))))) × (Int × (List ((Int × (Int × (Bool × (Bool × (Int × ((List ((Int × Int)) ⊕ Option (Nat × (Nat × Nat))) × (Int × (List ((List UInt8 × Int)) ⊕ Option (Nat × (Nat × Nat))))))))))) × (Int × (List ((Nat × List ((Int × Int)))) × (List ((Nat × List ((List UInt8 × Int)))) × List ((Nat × List ((List UInt8 × Int))))))))))))) :=
  bif (decide (x < ((r.length : Nat) : Int))) then
    (idx? x h4.length).bind fun q =>
    (h4)[q]?.bind fun r1 =>
    (lowD (.ref 0 (.pair (.int .i64) (.int .i64))) r1.2.2.2.2.2.1).bind fun x1 =>
    (lowD (.ref 2 (.pair .str (.int .i64))) r1.2.2.2.2.2.2.2).bind fun x2 =>
    (inode_own fu (r1.1, (r1.2.1, (r1.2.2.1, (r1.2.2.2.1, (r1.2.2.2.2.1, (x1, (r1.2.2.2.2.2.2.1, x2)))))))).bind fun r2 =>
    (idx? x h4.length).bind fun q1 =>
    (h4)[q1]?.bind fun r3 =>
    some (.inl (t1, ((IntKind.wrap .i64 (x + 1)), (h2, (h3, ((List.set h4 q1 (r2.1, (r2.2.1, (r2.2.2.1, (r2.2.2.2.1, (r2.2.2.2.2.1, ((.inr (some (h6.length, (0, r2.2.2.2.2.2.2.1.length)))), (r2.2.2.2.2.2.1, (.inr (some (h8.length, (0, r2.2.2.2.2.2.2.2.length)))))))))))), (h5, ((h6 ++ [(1, r2.2.2.2.2.2.2.1)]), (h7, (h8 ++ [(1, r2.2.2.2.2.2.2.2)]))))))))))
  else
    some (.inr (t1, (h2, (h3, (h4, (h5, (h6, (h7, h8))))))))
theorem inode_copied_2_go0_R_l0_v : @Go.Ab.D.inode_copied_2_go0_R_l0 = @Go.Ab.V.inode_copied_2_go0_R_l0 := by
  delta Go.Ab.D.inode_copied_2_go0_R_l0 Go.Ab.V.inode_copied_2_go0_R_l0
  rw [inode_own_v]
  try kernel_rfl
def inode_copied_2_go0_R_l0_it (fu : Nat) (r : List ((Int × (Int × (Bool × (Bool × (Int × (List ((Int × Int)) × (Int × List ((List UInt8 × Int))))))))))) (tt : (Int × (Int × (List ((Int × (Int × (Bool × (Bool × (Int × (List ((Int × Int)) × (Int × (List ((List UInt8 × Int)) ⊕ Option (Nat × (Nat × Nat))))))))))) × (Int × (List ((Int × (Int × (Bool × (Bool × (Int × ((List ((Int × Int)) ⊕ Option (Nat × (Nat × Nat))) × (Int × (List ((List UInt8 × Int)) ⊕ Option (Nat × (Nat × Nat))))))))))) × (Int × (List ((Nat × List ((Int × Int)))) × (List ((Nat × List ((List UInt8 × Int)))) × List ((Nat × List ((List UInt8 × Int))))))))))))) : Option ((Int × (List ((Int × (Int × (Bool × (Bool × (Int × (List ((Int × Int)) × (Int × (List ((List UInt8 × Int)) ⊕ Option (Nat × (Nat × Nat))))))))))) × (Int × (List ((Int × (Int × (Bool × (Bool × (Int × ((List ((Int × Int)) ⊕ Option (Nat × (Nat × Nat))) × (Int × (List ((List UInt8 × Int)) ⊕ Option (Nat × (Nat × Nat))))))))))) × (Int × (List ((Nat × List ((Int × Int)))) × (List ((Nat × List ((List UInt8 × Int)))) × List ((Nat × List ((List UInt8 × Int)))))))))))) :=
  iter fu (fun tt => inode_copied_2_go0_R_l0 fu r tt.1 tt.2.1 tt.2.2.1 tt.2.2.2.1 tt.2.2.2.2.1 tt.2.2.2.2.2.1 tt.2.2.2.2.2.2.1 tt.2.2.2.2.2.2.2.1 tt.2.2.2.2.2.2.2.2) tt
theorem inode_copied_2_go0_R_l0_it_v : @Go.Ab.D.inode_copied_2_go0_R_l0_it = @Go.Ab.V.inode_copied_2_go0_R_l0_it := by
  delta Go.Ab.D.inode_copied_2_go0_R_l0_it Go.Ab.V.inode_copied_2_go0_R_l0_it
  rw [inode_copied_2_go0_R_l0_v]
  try kernel_rfl
def inode_copied_2_go0_R (fu : Nat) (t : Int) (h : List ((Int × (Int × (Bool × (Bool × (Int × (List ((Int × Int)) × (Int × (List ((List UInt8 × Int)) ⊕ Option (Nat × (Nat × Nat)))))))))))) (h1 : List ((Nat × List ((List UInt8 × Int))))) : Option ((Int × (List ((Int × (Int × (Bool × (Bool × (Int × (List ((Int × Int)) × (Int × (List ((List UInt8 × Int)) ⊕ Option (Nat × (Nat × Nat))))))))))) × (List ((Int × (Int × (Bool × (Bool × (Int × ((List ((Int × Int)) ⊕ Option (Nat × (Nat × Nat))) × (Int × (List ((List UInt8 × Int)) ⊕ Option (Nat × (Nat × Nat))))))))))) × (List ((Nat × List ((Int × Int)))) × (List ((Nat × List ((List UInt8 × Int)))) × List ((Nat × List ((List UInt8 × Int)))))))))) :=
  (unrefL (unrefD [⟨1, (.pair .str (.int .i64)), (List.map frz1 h1)⟩] (.pair (.int .i64) (.pair (.int .i64) (.pair .bool (.pair .bool (.pair (.int .i64) (.pair (.sl (.pair (.int .i64) (.int .i64))) (.pair (.int .i64) (.ref 1 (.pair .str (.int .i64))))))))))) h).bind fun l =>
  (slices_Clone__api_Inode_api_Inode fu l).bind fun r =>
  (inode_copied_2_go0_R_l0_it fu r (t, (0, (h, (t, ((List.map (liftT (.pair (.int .i64) (.pair (.int .i64) (.pair .bool (.pair .bool (.pair (.int .i64) (.pair (.ref 0 (.pair (.int .i64) (.int .i64))) (.pair (.int .i64) (.ref 2 (.pair .str (.int .i64))))))))))) r), (0, ([], ((List.map frz1 h1), []))))))))).bind fun o =>
  some (o.2.2.1, (o.2.1, (o.2.2.2.1, (o.2.2.2.2.2.1, (o.2.2.2.2.2.2.1, o.2.2.2.2.2.2.2)))))
theorem inode_copied_2_go0_R_v : @Go.Ab.D.inode_copied_2_go0_R = @Go.Ab.V.inode_copied_2_go0_R := by
  delta Go.Ab.D.inode_copied_2_go0_R Go.Ab.V.inode_copied_2_go0_R
  rw [slices_Clone__api_Inode_api_Inode_v, inode_copied_2_go0_R_l0_it_v]
  try kernel_rfl
def inode_Drop_2_go0_R (fu : Nat) (t : Int) (id : Int) (h : List ((Int × (Int × (Bool × (Bool × (Int × (List ((Int × Int)) × (Int × (List ((List UInt8 × Int)) ⊕ Option (Nat × (Nat × Nat)))))))))))) (h1 : List ((Nat × List ((List UInt8 × Int))))) : Option ((Int × (List ((Int × Int)) × (Int × (List ((Int × (Int × (Bool × (Bool × (Int × (List ((Int × Int)) × (Int × (List ((List UInt8 × Int)) ⊕ Option (Nat × (Nat × Nat))))))))))) × (List ((Int × (Int × (Bool × (Bool × (Int × ((List ((Int × Int)) ⊕ Option (Nat × (Nat × Nat))) × (Int × (List ((List UInt8 × Int)) ⊕ Option (Nat × (Nat × Nat))))))))))) × (List ((Nat × List ((Int × Int)))) × (List ((Nat × List ((List UInt8 × Int)))) × List ((Nat × List ((List UInt8 × Int)))))))))))) :=
  (inode_copied_2_go0_R fu t h h1).bind fun r =>
  (unrefL (unrefD [⟨2, (.pair .str (.int .i64)), (List.map frz1 r.2.2.2.2.2)⟩, ⟨1, (.pair .str (.int .i64)), (List.map frz1 r.2.2.2.2.1)⟩, ⟨0, (.pair (.int .i64) (.int .i64)), (List.map frz1 r.2.2.2.1)⟩] (.pair (.int .i64) (.pair (.int .i64) (.pair .bool (.pair .bool (.pair (.int .i64) (.pair (.sl (.pair (.int .i64) (.int .i64))) (.pair (.int .i64) (.ref 1 (.pair .str (.int .i64))))))))))) r.2.1).bind fun l =>
  (inode_Right fu (l, t)).bind fun r1 =>
  bif (!r1) then
    some (r.1, ([], (180, (r.2.1, (r.2.2.1, (r.2.2.2.1, (r.2.2.2.2.1, r.2.2.2.2.2)))))))
  else
    Option.bind (α := ((Int × (Bool × (List ((Int × (Int × (Bool × (Bool × (Int × (List ((Int × Int)) × (Int × (List ((List UInt8 × Int)) ⊕ Option (Nat × (Nat × Nat))))))))))) × (Int × (Int × (List ((Int × (Int × (Bool × (Bool × (Int × ((List ((Int × Int)) ⊕ Option (Nat × (Nat × Nat))) × (Int × (List ((List UInt8 × Int)) ⊕ Option (Nat × (Nat × Nat))))))))))) × (List ((Nat × List ((Int × Int)))) × (List ((Nat × List ((List UInt8 × Int)))) × List ((Nat × List ((List UInt8 × Int)))))))))))))) (
      bif (id == 1) then
        some (t, (true, (r.2.1, (0, (r.1, (r.2.2.1, (r.2.2.2.1, (r.2.2.2.2.1, r.2.2.2.2.2))))))))
      else
        (unrefL (unrefD [⟨2, (.pair .str (.int .i64)), (List.map frz1 r.2.2.2.2.2)⟩, ⟨1, (.pair .str (.int .i64)), (List.map frz1 r.2.2.2.2.1)⟩, ⟨0, (.pair (.int .i64) (.int .i64)), (List.map frz1 r.2.2.2.1)⟩] (.pair (.int .i64) (.pair (.int .i64) (.pair .bool (.pair .bool (.pair (.int .i64) (.pair (.sl (.pair (.int .i64) (.int .i64))) (.pair (.int .i64) (.ref 1 (.pair .str (.int .i64))))))))))) r.2.1).bind fun l1 =>
        (inode_is fu (l1, t) id true).bind fun r2 =>
        bif (!r2) then
          (unrefL (unrefD [⟨2, (.pair .str (.int .i64)), (List.map frz1 r.2.2.2.2.2)⟩, ⟨1, (.pair .str (.int .i64)), (List.map frz1 r.2.2.2.2.1)⟩, ⟨0, (.pair (.int .i64) (.int .i64)), (List.map frz1 r.2.2.2.1)⟩] (.pair (.int .i64) (.pair (.int .i64) (.pair .bool (.pair .bool (.pair (.int .i64) (.pair (.sl (.pair (.int .i64) (.int .i64))) (.pair (.int .i64) (.ref 1 (.pair .str (.int .i64))))))))))) r.2.1).bind fun l2 =>
          (inode_is fu (l2, t) id false).bind fun r3 =>
          some (t, ((!r3), (r.2.1, (0, (r.1, (r.2.2.1, (r.2.2.2.1, (r.2.2.2.2.1, r.2.2.2.2.2))))))))
        else
          some (t, (false, (r.2.1, (0, (r.1, (r.2.2.1, (r.2.2.2.1, (r.2.2.2.2.1, r.2.2.2.2.2))))))))) fun o =>
    bif o.2.1 then
      some (o.2.2.2.2.1, ([], (2, (o.2.2.1, (o.2.2.2.2.2.1, (o.2.2.2.2.2.2.1, (o.2.2.2.2.2.2.2.1, o.2.2.2.2.2.2.2.2)))))))
    else
      (idx? (IntKind.wrap .i64 (id - 1)) o.2.2.2.2.2.1.length).bind fun q =>
      Option.bind (α := ((Int × (Nat × (List ((Int × (Int × (Bool × (Bool × (Int × (List ((Int × Int)) × (Int × (List ((List UInt8 × Int)) ⊕ Option (Nat × (Nat × Nat))))))))))) × (Int × (Int × (List ((Int × (Int × (Bool × (Bool × (Int × ((List ((Int × Int)) ⊕ Option (Nat × (Nat × Nat))) × (Int × (List ((List UInt8 × Int)) ⊕ Option (Nat × (Nat × Nat))))))))))) × (List ((Int × Int)) × (List ((Nat × List ((Int × Int)))) × (List ((Nat × List ((List UInt8 × Int)))) × List ((Nat × List ((List UInt8 × Int))))))))))))))) (
        (o.2.2.2.2.2.1)[q]?.bind fun r4 =>
        (openM o.2.2.2.2.2.2.1 r4.2.2.2.2.2.1).bind fun m =>
        (slices_DeleteFunc__api_Part_api_Part_o0f11 fu m.1).bind fun r5 =>
        match r5 with
        | .inl r6 =>
          some (o.1, (q, (o.2.2.1, (o.2.2.2.1, (o.2.2.2.2.1, (o.2.2.2.2.2.1, (r6, (m.2, (o.2.2.2.2.2.2.2.1, o.2.2.2.2.2.2.2.2)))))))))
        | .inr r7 =>
          some (o.1, (q, (o.2.2.1, (o.2.2.2.1, (o.2.2.2.2.1, (o.2.2.2.2.2.1, (r7, (m.2, (o.2.2.2.2.2.2.2.1, o.2.2.2.2.2.2.2.2)))))))))) fun o1 =>
      (o1.2.2.2.2.2.1)[o1.2.1]?.bind fun r8 =>
      (o1.2.2.2.2.2.1)[o1.2.1]?.bind fun r9 =>
      some (o1.2.2.2.2.1, (o1.2.2.2.2.2.2.1, (0, (o1.2.2.1, ((List.set o1.2.2.2.2.2.1 o1.2.1 (id, (r8.2.1, (false, (false, (0, ((.inr none), (0, (.inr none))))))))), (o1.2.2.2.2.2.2.2.1, (o1.2.2.2.2.2.2.2.2.1, o1.2.2.2.2.2.2.2.2.2)))))))
theorem inode_Drop_2_go0_R_v : @Go.Ab.D.inode_Drop_2_go0_R = @Go.Ab.V.inode_Drop_2_go0_R := by
  delta Go.Ab.D.inode_Drop_2_go0_R Go.Ab.V.inode_Drop_2_go0_R
  rw [inode_copied_2_go0_R_v]
  try kernel_rfl
def tree_without_2 (fu : Nat) (t : (List ((Int × (Int × (Bool × (Bool × (Int × (List ((Int × Int)) × (Int × List ((List UInt8 × Int)))))))))) × Int)) (dir : Int) (name : List UInt8) (id : Int) : Option ((Int × (List ((Int × Int)) × (Int × (List ((Int × (Int × (Bool × (Bool × (Int × ((List ((Int × Int)) ⊕ Option (Nat × (Nat × Nat))) × (Int × (List ((List UInt8 × Int)) ⊕ Option (Nat × (Nat × Nat))))))))))) × (List ((Nat × List ((Int × Int)))) × List ((Nat × List ((List UInt8 × Int)))))))))) :=
  (tree_copied_E fu (t.1, t.2)).bind fun r =>
  (tree_take__coR fu dir name r.1 r.2.1 r.2.2).bind fun r1 =>
  (inode_Drop_2_go0_R fu r1.1 id r1.2.1 r1.2.2).bind fun r2 =>
  some (r2.1, (r2.2.1, (r2.2.2.1, (r2.2.2.2.2.1, (r2.2.2.2.2.2.1, r2.2.2.2.2.2.2.2)))))
theorem tree_without_2_v : @Go.Ab.D.tree_without_2 = @Go.Ab.V.tree_without_2 := by
  delta Go.Ab.D.tree_without_2 Go.Ab.V.tree_without_2
  rw [tree_copied_E_v, inode_Drop_2_go0_R_v]
  try kernel_rfl
def tree_Rename (fu : Nat) (t : (List ((Int × (Int × (Bool × (Bool × (Int × (List ((Int × Int)) × (Int × List ((List UInt8 × Int)))))))))) × Int)) (from_ : (Int × Int)) (old : List UInt8) (to_ : (Int × Int)) (name : List UInt8) : Option ((List ((Int × (Int × (Bool × (Bool × (Int × (List ((Int × Int)) × (Int × List ((List UInt8 × Int)))))))))) × (Int × (List ((Int × Int)) × Int)))) :=
  (tree_asked fu (t.1, t.2) [(from_.1, from_.2), (to_.1, to_.2)]).bind fun r =>
  bif (!(r.1 == 0)) then
    (tree_copied fu (t.1, t.2)).bind fun r1 =>
    some (r1.2, (r1.1, ([], r.1)))
  else
    Option.bind (α := ((Bool × (List ((Int × (Int × (Bool × (Bool × (Int × (List ((Int × Int)) × (Int × List ((List UInt8 × Int)))))))))) × (Int × (Int × (Int × (Int × (Int × (Int × List ((Int × (Int × (Bool × (Bool × (Int × (List ((Int × Int)) × (Int × List ((List UInt8 × Int)))))))))))))))))))) (
      (tree_Named fu old).bind fun r2 =>
      bif (!r2) then
        some (true, (t.1, (t.2, (from_.1, (from_.2, (to_.1, (to_.2, (0, r.2))))))))
      else
        (tree_Named fu name).bind fun r3 =>
        some ((!r3), (t.1, (t.2, (from_.1, (from_.2, (to_.1, (to_.2, (0, r.2))))))))) fun o =>
    bif o.1 then
      (tree_copied fu (o.2.1, o.2.2.1)).bind fun r4 =>
      some (r4.2, (r4.1, ([], 176)))
    else
      (idx? 0 o.2.2.2.2.2.2.2.2.length).bind fun q =>
      (o.2.2.2.2.2.2.2.2)[q]?.bind fun r5 =>
      (tree_entry fu r5 old).bind fun r6 =>
      bif (!r6.2) then
        (tree_copied fu (o.2.1, o.2.2.1)).bind fun r7 =>
        some (r7.2, (r7.1, ([], 171)))
      else
        (idx? 0 o.2.2.2.2.2.2.2.2.length).bind fun q1 =>
        (o.2.2.2.2.2.2.2.2)[q1]?.bind fun r8 =>
        (idx? r6.1 r8.2.2.2.2.2.2.2.length).bind fun q2 =>
        (r8.2.2.2.2.2.2.2)[q2]?.bind fun r9 =>
        (idx? (IntKind.wrap .i64 (r9.2 - 1)) o.2.1.length).bind fun q3 =>
        (o.2.1)[q3]?.bind fun r10 =>
        Option.bind (α := ((Bool × (List ((Int × (Int × (Bool × (Bool × (Int × (List ((Int × Int)) × (Int × List ((List UInt8 × Int)))))))))) × (Int × (Int × (Int × (Int × (Int × (Int × List ((Int × (Int × (Bool × (Bool × (Int × (List ((Int × Int)) × (Int × List ((List UInt8 × Int)))))))))))))))))))) (
          bif r10.2.2.2.1 then
            (tree_below fu (o.2.1, o.2.2.1) o.2.2.2.2.2.1 r9.2).bind fun r11 =>
            some (r11, (o.2.1, (o.2.2.1, (o.2.2.2.1, (o.2.2.2.2.1, (o.2.2.2.2.2.1, (o.2.2.2.2.2.2.1, (o.2.2.2.2.2.2.2.1, o.2.2.2.2.2.2.2.2))))))))
          else
            some (false, (o.2.1, (o.2.2.1, (o.2.2.2.1, (o.2.2.2.2.1, (o.2.2.2.2.2.1, (o.2.2.2.2.2.2.1, (o.2.2.2.2.2.2.2.1, o.2.2.2.2.2.2.2.2))))))))) fun o1 =>
        bif o1.1 then
          (tree_copied fu (o1.2.1, o1.2.2.1)).bind fun r12 =>
          some (r12.2, (r12.1, ([], 178)))
        else
          (idx? 1 o1.2.2.2.2.2.2.2.2.length).bind fun q4 =>
          (o1.2.2.2.2.2.2.2.2)[q4]?.bind fun r13 =>
          (tree_entry fu r13 name).bind fun r14 =>
          (tree_copied_E fu (o1.2.1, o1.2.2.1)).bind fun r15 =>
          Option.bind (α := ((Bool × (List ((Int × (Int × (Bool × (Bool × (Int × (List ((Int × Int)) × (Int × List ((List UInt8 × Int)))))))))) × (Int × (Int × (Int × (Int × (Int × (Int × (List ((Int × (Int × (Bool × (Bool × (Int × (List ((Int × Int)) × (Int × List ((List UInt8 × Int)))))))))) × (Int × (List ((Int × (Int × (Bool × (Bool × (Int × (List ((Int × Int)) × (Int × (List ((List UInt8 × Int)) ⊕ Option (Nat × (Nat × Nat))))))))))) × List ((Nat × List ((List UInt8 × Int))))))))))))))))) (
            bif r14.2 then
              (idx? 1 o1.2.2.2.2.2.2.2.2.length).bind fun q5 =>
              (o1.2.2.2.2.2.2.2.2)[q5]?.bind fun r16 =>
              (idx? r14.1 r16.2.2.2.2.2.2.2.length).bind fun q6 =>
              (r16.2.2.2.2.2.2.2)[q6]?.bind fun r17 =>
              some ((r17.2 == r9.2), (o1.2.1, (o1.2.2.1, (o1.2.2.2.1, (o1.2.2.2.2.1, (o1.2.2.2.2.2.1, (o1.2.2.2.2.2.2.1, (o1.2.2.2.2.2.2.2.1, (o1.2.2.2.2.2.2.2.2, (r15.1, (r15.2.1, r15.2.2)))))))))))
            else
              some (false, (o1.2.1, (o1.2.2.1, (o1.2.2.2.1, (o1.2.2.2.2.1, (o1.2.2.2.2.2.1, (o1.2.2.2.2.2.2.1, (o1.2.2.2.2.2.2.2.1, (o1.2.2.2.2.2.2.2.2, (r15.1, (r15.2.1, r15.2.2)))))))))))) fun o2 =>
          bif o2.1 then
            (unrefL (unrefD [⟨1, (.pair .str (.int .i64)), (List.map frz1 o2.2.2.2.2.2.2.2.2.2.2.2)⟩] (.pair (.int .i64) (.pair (.int .i64) (.pair .bool (.pair .bool (.pair (.int .i64) (.pair (.sl (.pair (.int .i64) (.int .i64))) (.pair (.int .i64) (.ref 1 (.pair .str (.int .i64))))))))))) o2.2.2.2.2.2.2.2.2.2.2.1).bind fun l5 =>
            some (l5, (o2.2.2.2.2.2.2.2.2.2.1, ([], 0)))
          else
            bif r14.2 then
              (idx? 1 o2.2.2.2.2.2.2.2.2.1.length).bind fun q7 =>
              (o2.2.2.2.2.2.2.2.2.1)[q7]?.bind fun r18 =>
              (idx? r14.1 r18.2.2.2.2.2.2.2.length).bind fun q8 =>
              (r18.2.2.2.2.2.2.2)[q8]?.bind fun r19 =>
              (idx? (IntKind.wrap .i64 (r19.2 - 1)) o2.2.1.length).bind fun q9 =>
              (o2.2.1)[q9]?.bind fun r20 =>
              (tree_mismatch fu r10.2.2.2.1 r20).bind fun r21 =>
              bif (!(r21 == 0)) then
                (unrefL (unrefD [⟨1, (.pair .str (.int .i64)), (List.map frz1 o2.2.2.2.2.2.2.2.2.2.2.2)⟩] (.pair (.int .i64) (.pair (.int .i64) (.pair .bool (.pair .bool (.pair (.int .i64) (.pair (.sl (.pair (.int .i64) (.int .i64))) (.pair (.int .i64) (.ref 1 (.pair .str (.int .i64))))))))))) o2.2.2.2.2.2.2.2.2.2.2.1).bind fun l6 =>
                some (l6, (o2.2.2.2.2.2.2.2.2.2.1, ([], r21)))
              else
                (tree_without_2 fu (o2.2.1, o2.2.2.1) o2.2.2.2.2.2.1 name r19.2).bind fun r22 =>
                bif (!(r22.2.2.1 == 0)) then
                  (tree_copied fu (o2.2.1, o2.2.2.1)).bind fun r23 =>
                  some (r23.2, (r23.1, ([], r22.2.2.1)))
                else
                  (tree_take__coR_v1 fu o2.2.2.2.1 old r22.1 r22.2.2.2.1 r22.2.2.2.2.1 r22.2.2.2.2.2).bind fun r25 =>
                  (tree_put__coR_v1 fu o2.2.2.2.2.2.1 name r9.2 r25.1 r25.2.1 r25.2.2.1 r25.2.2.2).bind fun r26 =>
                  (idx? (IntKind.wrap .i64 (r9.2 - 1)) r26.2.1.length).bind fun q11 =>
                  (r26.2.1)[q11]?.bind fun r27 =>
                  (unrefL (unrefD [⟨2, (.pair .str (.int .i64)), (List.map frz1 r26.2.2.2)⟩, ⟨1, (.pair .str (.int .i64)), (List.map frz1 o2.2.2.2.2.2.2.2.2.2.2.2)⟩, ⟨0, (.pair (.int .i64) (.int .i64)), (List.map frz1 r26.2.2.1)⟩] (.pair (.int .i64) (.pair (.int .i64) (.pair .bool (.pair .bool (.pair (.int .i64) (.pair (.ref 0 (.pair (.int .i64) (.int .i64))) (.pair (.int .i64) (.ref 2 (.pair .str (.int .i64))))))))))) (List.set r26.2.1 q11 (r27.1, (r27.2.1, (r27.2.2.1, (r27.2.2.2.1, (r27.2.2.2.2.1, (r27.2.2.2.2.2.1, (o2.2.2.2.2.2.1, r27.2.2.2.2.2.2.2))))))))).bind fun l7 =>
                  some (l7, (r26.1, (r22.2.1, 0)))
            else
              Option.bind (α := ((Bool × (Int × (Int × (Int × (Int × (Int × (Int × (List ((Int × (Int × (Bool × (Bool × (Int × (List ((Int × Int)) × (Int × (List ((List UInt8 × Int)) ⊕ Option (Nat × (Nat × Nat))))))))))) × List ((Nat × List ((List UInt8 × Int)))))))))))))) (
                bif (!(o2.2.2.2.1 == o2.2.2.2.2.2.1)) then
                  (idx? 1 o2.2.2.2.2.2.2.2.2.1.length).bind fun q10 =>
                  (o2.2.2.2.2.2.2.2.2.1)[q10]?.bind fun r24 =>
                  some ((decide (((r24.2.2.2.2.2.2.2.length : Nat) : Int) ≥ 100)), (o2.2.2.2.1, (o2.2.2.2.2.1, (o2.2.2.2.2.2.1, (o2.2.2.2.2.2.2.1, (o2.2.2.2.2.2.2.2.1, (o2.2.2.2.2.2.2.2.2.2.1, (o2.2.2.2.2.2.2.2.2.2.2.1, o2.2.2.2.2.2.2.2.2.2.2.2))))))))
                else
                  some (false, (o2.2.2.2.1, (o2.2.2.2.2.1, (o2.2.2.2.2.2.1, (o2.2.2.2.2.2.2.1, (o2.2.2.2.2.2.2.2.1, (o2.2.2.2.2.2.2.2.2.2.1, (o2.2.2.2.2.2.2.2.2.2.2.1, o2.2.2.2.2.2.2.2.2.2.2.2))))))))) fun o3 =>
              bif o3.1 then
                (unrefL (unrefD [⟨1, (.pair .str (.int .i64)), (List.map frz1 o3.2.2.2.2.2.2.2.2)⟩] (.pair (.int .i64) (.pair (.int .i64) (.pair .bool (.pair .bool (.pair (.int .i64) (.pair (.sl (.pair (.int .i64) (.int .i64))) (.pair (.int .i64) (.ref 1 (.pair .str (.int .i64))))))))))) o3.2.2.2.2.2.2.2.1).bind fun l8 =>
                some (l8, (o3.2.2.2.2.2.2.1, ([], 5)))
              else
                (tree_take__coR fu o3.2.1 old o3.2.2.2.2.2.2.1 o3.2.2.2.2.2.2.2.1 o3.2.2.2.2.2.2.2.2).bind fun r28 =>
                (tree_put__coR fu o3.2.2.2.1 name r9.2 r28.1 r28.2.1 r28.2.2).bind fun r29 =>
                (idx? (IntKind.wrap .i64 (r9.2 - 1)) r29.2.1.length).bind fun q12 =>
                (r29.2.1)[q12]?.bind fun r30 =>
                (unrefL (unrefD [⟨1, (.pair .str (.int .i64)), (List.map frz1 r29.2.2)⟩] (.pair (.int .i64) (.pair (.int .i64) (.pair .bool (.pair .bool (.pair (.int .i64) (.pair (.sl (.pair (.int .i64) (.int .i64))) (.pair (.int .i64) (.ref 1 (.pair .str (.int .i64))))))))))) (List.set r29.2.1 q12 (r30.1, (r30.2.1, (r30.2.2.1, (r30.2.2.2.1, (r30.2.2.2.2.1, (r30.2.2.2.2.2.1, (o3.2.2.2.1, r30.2.2.2.2.2.2.2))))))))).bind fun l9 =>
                some (l9, (r29.1, ([], 0)))
theorem tree_Rename_v : @Go.Ab.D.tree_Rename = @Go.Ab.V.tree_Rename := by
  delta Go.Ab.D.tree_Rename Go.Ab.V.tree_Rename
  rw [tree_asked_v, tree_copied_v, tree_copied_E_v, tree_without_2_v]
  try kernel_rfl
def tree_Lookup (fu : Nat) (t : (List ((Int × (Int × (Bool × (Bool × (Int × (List ((Int × Int)) × (Int × List ((List UInt8 × Int)))))))))) × Int)) (dir : (Int × Int)) (name : List UInt8) : Option ((Int × (Int × Int))) :=
  (tree_asked fu (t.1, t.2) [(dir.1, dir.2)]).bind fun r =>
  bif (!(r.1 == 0)) then
    some (0, (0, r.1))
  else
    (tree_Named fu name).bind fun r1 =>
    bif (!r1) then
      some (0, (0, 176))
    else
      (idx? 0 r.2.length).bind fun q =>
      (r.2)[q]?.bind fun r2 =>
      (tree_entry fu r2 name).bind fun r3 =>
      bif (!r3.2) then
        some (0, (0, 171))
      else
        (idx? 0 r.2.length).bind fun q1 =>
        (r.2)[q1]?.bind fun r4 =>
        (idx? r3.1 r4.2.2.2.2.2.2.2.length).bind fun q2 =>
        (r4.2.2.2.2.2.2.2)[q2]?.bind fun r5 =>
        (idx? (IntKind.wrap .i64 (r5.2 - 1)) t.1.length).bind fun q3 =>
        (t.1)[q3]?.bind fun r6 =>
        some (r5.2, (r6.2.1, 0))
theorem tree_Lookup_v : @Go.Ab.D.tree_Lookup = @Go.Ab.V.tree_Lookup := by
  delta Go.Ab.D.tree_Lookup Go.Ab.V.tree_Lookup
  rw [tree_asked_v]
  try kernel_rfl
def inode_copied_P_go0_R_l0 (fu : Nat) (r : List ((Int × (Int × (Bool × (Bool × (Int × (List ((Int × Int)) × (Int × List ((List UInt8 × Int))))))))))) (t1 : Int) (x : Int) (h2 : List ((Int × (Int × (Bool × (Bool × (Int × (List ((Int × Int)) × (Int × (List ((List UInt8 × Int)) ⊕ Option (Nat × (Nat × Nat)))))))))))) (h3 : Int) (h4 : List ((Int × (Int × (Bool × (Bool × (Int × ((List ((Int × Int)) ⊕ Option (Nat × (Nat × Nat))) × (Int × List ((List UInt8 × Int))))))))))) (h5 : Int) (h6 : List ((Nat × List ((Int × Int))))) (h7 : List ((Nat × List ((List UInt8 × Int))))) : Option ((Int × (Int × (List ((Int × (Int × (Bool × (Bool × (Int × (List ((Int × Int)) × (Int × (List ((List UInt8 × Int)) ⊕ Option (Nat × (Nat × Nat))))))))))) × (Int × (List ((Int × (Int × (Bool × (Bool × (Int × ((List ((Int × Int)) ⊕ Option (Nat × (Nat × Nat))) × (Int × List ((List UInt8 × Int)))))))))) × (Int × (List ((Nat × List ((Int × Int)))) × List ((Nat × List ((List UInt8 × Int))))))))))) ⊕ ((Int × (List ((Int × (Int × (Bool × (Bool × (Int × (List ((Int × Int)) × (Int × (List ((List UInt8 × Int)) ⊕ Option (Nat × (Nat × Nat))))))))))) × (Int × (List ((Int × (Int × (Bool × (Bool × (Int × ((List ((Int × Int)) ⊕ Option (Nat × (Nat × Nat))) × (Int × List ((List UInt8 × Int)))))))))) × (Int × (List ((Nat × List ((Int × Int)))) × List ((Nat × List ((List UInt8 × Int)))))))))))) :=
  bif (decide (x < ((r.length : Nat) : Int))) then
    (idx? x h4.length).bind fun q =>
    (h4)[q]?.bind fun r1 =>
    (lowD (.ref 0 (.pair (.int .i64) (.int .i64))) r1.2.2.2.2.2.1).bind fun x1 =>
    (inode_own fu (r1.1, (r1.2.1, (r1.2.2.1, (r1.2.2.2.1, (r1.2.2.2.2.1, (x1, (r1.2.2.2.2.2.2.1, r1.2.2.2.2.2.2.2)))))))).bind fun r2 =>
    (idx? x h4.length).bind fun q1 =>
    (h4)[q1]?.bind fun r3 =>
    some (.inl (t1, ((IntKind.wrap .i64 (x + 1)), (h2, (h3, ((List.set h4 q1 (r2.1, (r2.2.1, (r2.2.2.1, (r2.2.2.2.1, (r2.2.2.2.2.1, ((.inr (some (h6.length, (0, r2.2.2.2.2.2.2.1.length)))), (r2.2.2.2.2.2.1, r2.2.2.2.2.2.2.2)))))))), (h5, ((h6 ++ [(1, r2.2.2.2.2.2.2.1)]), h7))))))))
  else
    some (.inr (t1, (h2, (h3, (h4, (h5, (h6, h7)))))))
theorem inode_copied_P_go0_R_l0_v : @Go.Ab.D.inode_copied_P_go0_R_l0 = @Go.Ab.V.inode_copied_P_go0_R_l0 := by
  delta Go.Ab.D.inode_copied_P_go0_R_l0 Go.Ab.V.inode_copied_P_go0_R_l0
  rw [inode_own_v]
  try kernel_rfl
def inode_copied_P_go0_R_l0_it (fu : Nat) (r : List ((Int × (Int × (Bool × (Bool × (Int × (List ((Int × Int)) × (Int × List ((List UInt8 × Int))))))))))) (tt : (Int × (Int × (List ((Int × (Int × (Bool × (Bool × (Int × (List ((Int × Int)) × (Int × (List ((List UInt8 × Int)) ⊕ Option (Nat × (Nat × Nat))))))))))) × (Int × (List ((Int × (Int × (Bool × (Bool × (Int × ((List ((Int × Int)) ⊕ Option (Nat × (Nat × Nat))) × (Int × List ((List UInt8 × Int)))))))))) × (Int × (List ((Nat × List ((Int × Int)))) × List ((Nat × List ((List UInt8 × Int)))))))))))) : Option ((Int × (List ((Int × (Int × (Bool × (Bool × (Int × (List ((Int × Int)) × (Int × (List ((List UInt8 × Int)) ⊕ Option (Nat × (Nat × Nat))))))))))) × (Int × (List ((Int × (Int × (Bool × (Bool × (Int × ((List ((Int × Int)) ⊕ Option (Nat × (Nat × Nat))) × (Int × List ((List UInt8 × Int)))))))))) × (Int × (List ((Nat × List ((Int × Int)))) × List ((Nat × List ((List UInt8 × Int))))))))))) :=
  iter fu (fun tt => inode_copied_P_go0_R_l0 fu r tt.1 tt.2.1 tt.2.2.1 tt.2.2.2.1 tt.2.2.2.2.1 tt.2.2.2.2.2.1 tt.2.2.2.2.2.2.1 tt.2.2.2.2.2.2.2) tt
theorem inode_copied_P_go0_R_l0_it_v : @Go.Ab.D.inode_copied_P_go0_R_l0_it = @Go.Ab.V.inode_copied_P_go0_R_l0_it := by
  delta Go.Ab.D.inode_copied_P_go0_R_l0_it Go.Ab.V.inode_copied_P_go0_R_l0_it
  rw [inode_copied_P_go0_R_l0_v]
  try kernel_rfl
def inode_copied_P_go0_R (fu : Nat) (t : Int) (h : List ((Int × (Int × (Bool × (Bool × (Int × (List ((Int × Int)) × (Int × (List ((List UInt8 × Int)) ⊕ Option (Nat × (Nat × Nat)))))))))))) (h1 : List ((Nat × List ((List UInt8 × Int))))) : Option ((Int × (List ((Int × (Int × (Bool × (Bool × (Int × (List ((Int × Int)) × (Int × (List ((List UInt8 × Int)) ⊕ Option (Nat × (Nat × Nat))))))))))) × (List ((Int × (Int × (Bool × (Bool × (Int × ((List ((Int × Int)) ⊕ Option (Nat × (Nat × Nat))) × (Int × List ((List UInt8 × Int)))))))))) × (List ((Nat × List ((Int × Int)))) × List ((Nat × List ((List UInt8 × Int))))))))) :=
  (unrefL (unrefD [⟨1, (.pair .str (.int .i64)), (List.map frz1 h1)⟩] (.pair (.int .i64) (.pair (.int .i64) (.pair .bool (.pair .bool (.pair (.int .i64) (.pair (.sl (.pair (.int .i64) (.int .i64))) (.pair (.int .i64) (.ref 1 (.pair .str (.int .i64))))))))))) h).bind fun l =>
  (slices_Clone__api_Inode_api_Inode fu l).bind fun r =>
  (inode_copied_P_go0_R_l0_it fu r (t, (0, (h, (t, ((List.map (liftT (.pair (.int .i64) (.pair (.int .i64) (.pair .bool (.pair .bool (.pair (.int .i64) (.pair (.ref 0 (.pair (.int .i64) (.int .i64))) (.pair (.int .i64) (.sl (.pair .str (.int .i64))))))))))) r), (0, ([], (List.map frz1 h1))))))))).bind fun o =>
  some (o.2.2.1, (o.2.1, (o.2.2.2.1, (o.2.2.2.2.2.1, o.2.2.2.2.2.2))))
theorem inode_copied_P_go0_R_v : @Go.Ab.D.inode_copied_P_go0_R = @Go.Ab.V.inode_copied_P_go0_R := by
  delta Go.Ab.D.inode_copied_P_go0_R Go.Ab.V.inode_copied_P_go0_R
  rw [slices_Clone__api_Inode_api_Inode_v, inode_copied_P_go0_R_l0_it_v]
  try kernel_rfl
def inode_Drop_go0_R (fu : Nat) (t : Int) (id : Int) (h : List ((Int × (Int × (Bool × (Bool × (Int × (List ((Int × Int)) × (Int × (List ((List UInt8 × Int)) ⊕ Option (Nat × (Nat × Nat)))))))))))) (h1 : List ((Nat × List ((List UInt8 × Int))))) : Option ((List ((Int × (Int × (Bool × (Bool × (Int × (List ((Int × Int)) × (Int × List ((List UInt8 × Int)))))))))) × (Int × (List ((Int × Int)) × (Int × (List ((Int × (Int × (Bool × (Bool × (Int × (List ((Int × Int)) × (Int × (List ((List UInt8 × Int)) ⊕ Option (Nat × (Nat × Nat))))))))))) × List ((Nat × List ((List UInt8 × Int)))))))))) :=
  (inode_copied_P_go0_R fu t h h1).bind fun r =>
  (unrefL (unrefD [⟨1, (.pair .str (.int .i64)), (List.map frz1 r.2.2.2.2)⟩, ⟨0, (.pair (.int .i64) (.int .i64)), (List.map frz1 r.2.2.2.1)⟩] (.pair (.int .i64) (.pair (.int .i64) (.pair .bool (.pair .bool (.pair (.int .i64) (.pair (.sl (.pair (.int .i64) (.int .i64))) (.pair (.int .i64) (.ref 1 (.pair .str (.int .i64))))))))))) r.2.1).bind fun l =>
  (inode_Right fu (l, t)).bind fun r1 =>
  bif (!r1) then
    (unrefL (unrefD [⟨1, (.pair .str (.int .i64)), (List.map frz1 r.2.2.2.2)⟩, ⟨0, (.pair (.int .i64) (.int .i64)), (List.map frz1 r.2.2.2.1)⟩] (.pair (.int .i64) (.pair (.int .i64) (.pair .bool (.pair .bool (.pair (.int .i64) (.pair (.ref 0 (.pair (.int .i64) (.int .i64))) (.pair (.int .i64) (.sl (.pair .str (.int .i64))))))))))) r.2.2.1).bind fun l6 =>
    some (l6, (r.1, ([], (180, (r.2.1, (List.map frz1 r.2.2.2.2))))))
  else
    Option.bind (α := ((Int × (Bool × (List ((Int × (Int × (Bool × (Bool × (Int × (List ((Int × Int)) × (Int × (List ((List UInt8 × Int)) ⊕ Option (Nat × (Nat × Nat))))))))))) × (Int × (Int × (List ((Int × (Int × (Bool × (Bool × (Int × ((List ((Int × Int)) ⊕ Option (Nat × (Nat × Nat))) × (Int × List ((List UInt8 × Int)))))))))) × (List ((Nat × List ((Int × Int)))) × List ((Nat × List ((List UInt8 × Int))))))))))))) (
      bif (id == 1) then
        some (t, (true, (r.2.1, (0, (r.1, (r.2.2.1, (r.2.2.2.1, r.2.2.2.2)))))))
      else
        (unrefL (unrefD [⟨1, (.pair .str (.int .i64)), (List.map frz1 r.2.2.2.2)⟩, ⟨0, (.pair (.int .i64) (.int .i64)), (List.map frz1 r.2.2.2.1)⟩] (.pair (.int .i64) (.pair (.int .i64) (.pair .bool (.pair .bool (.pair (.int .i64) (.pair (.sl (.pair (.int .i64) (.int .i64))) (.pair (.int .i64) (.ref 1 (.pair .str (.int .i64))))))))))) r.2.1).bind fun l1 =>
        (inode_is fu (l1, t) id true).bind fun r2 =>
        bif (!r2) then
          (unrefL (unrefD [⟨1, (.pair .str (.int .i64)), (List.map frz1 r.2.2.2.2)⟩, ⟨0, (.pair (.int .i64) (.int .i64)), (List.map frz1 r.2.2.2.1)⟩] (.pair (.int .i64) (.pair (.int .i64) (.pair .bool (.pair .bool (.pair (.int .i64) (.pair (.sl (.pair (.int .i64) (.int .i64))) (.pair (.int .i64) (.ref 1 (.pair .str (.int .i64))))))))))) r.2.1).bind fun l2 =>
          (inode_is fu (l2, t) id false).bind fun r3 =>
          some (t, ((!r3), (r.2.1, (0, (r.1, (r.2.2.1, (r.2.2.2.1, r.2.2.2.2)))))))
        else
          some (t, (false, (r.2.1, (0, (r.1, (r.2.2.1, (r.2.2.2.1, r.2.2.2.2)))))))) fun o =>
    bif o.2.1 then
      (unrefL (unrefD [⟨1, (.pair .str (.int .i64)), (List.map frz1 o.2.2.2.2.2.2.2)⟩, ⟨0, (.pair (.int .i64) (.int .i64)), (List.map frz1 o.2.2.2.2.2.2.1)⟩] (.pair (.int .i64) (.pair (.int .i64) (.pair .bool (.pair .bool (.pair (.int .i64) (.pair (.ref 0 (.pair (.int .i64) (.int .i64))) (.pair (.int .i64) (.sl (.pair .str (.int .i64))))))))))) o.2.2.2.2.2.1).bind fun l7 =>
      some (l7, (o.2.2.2.2.1, ([], (2, (o.2.2.1, (List.map frz1 o.2.2.2.2.2.2.2))))))
    else
      (idx? (IntKind.wrap .i64 (id - 1)) o.2.2.2.2.2.1.length).bind fun q =>
      Option.bind (α := ((Int × (Nat × (List ((Int × (Int × (Bool × (Bool × (Int × (List ((Int × Int)) × (Int × (List ((List UInt8 × Int)) ⊕ Option (Nat × (Nat × Nat))))))))))) × (Int × (Int × (List ((Int × (Int × (Bool × (Bool × (Int × ((List ((Int × Int)) ⊕ Option (Nat × (Nat × Nat))) × (Int × List ((List UInt8 × Int)))))))))) × (List ((Int × Int)) × (List ((Nat × List ((Int × Int)))) × List ((Nat × List ((List UInt8 × Int)))))))))))))) (
        (o.2.2.2.2.2.1)[q]?.bind fun r4 =>
        (openM o.2.2.2.2.2.2.1 r4.2.2.2.2.2.1).bind fun m =>
        (slices_DeleteFunc__api_Part_api_Part_o0f11 fu m.1).bind fun r5 =>
        match r5 with
        | .inl r6 =>
          some (o.1, (q, (o.2.2.1, (o.2.2.2.1, (o.2.2.2.2.1, (o.2.2.2.2.2.1, (r6, (m.2, o.2.2.2.2.2.2.2))))))))
        | .inr r7 =>
          some (o.1, (q, (o.2.2.1, (o.2.2.2.1, (o.2.2.2.2.1, (o.2.2.2.2.2.1, (r7, (m.2, o.2.2.2.2.2.2.2))))))))) fun o1 =>
      (o1.2.2.2.2.2.1)[o1.2.1]?.bind fun r8 =>
      (o1.2.2.2.2.2.1)[o1.2.1]?.bind fun r9 =>
      (unrefL (unrefD [⟨1, (.pair .str (.int .i64)), (List.map frz1 o1.2.2.2.2.2.2.2.2)⟩, ⟨0, (.pair (.int .i64) (.int .i64)), (List.map frz1 o1.2.2.2.2.2.2.2.1)⟩] (.pair (.int .i64) (.pair (.int .i64) (.pair .bool (.pair .bool (.pair (.int .i64) (.pair (.ref 0 (.pair (.int .i64) (.int .i64))) (.pair (.int .i64) (.sl (.pair .str (.int .i64))))))))))) (List.set o1.2.2.2.2.2.1 o1.2.1 (id, (r8.2.1, (false, (false, (0, ((.inr none), (0, []))))))))).bind fun l8 =>
      some (l8, (o1.2.2.2.2.1, (o1.2.2.2.2.2.2.1, (0, (o1.2.2.1, (List.map frz1 o1.2.2.2.2.2.2.2.2))))))
theorem inode_Drop_go0_R_v : @Go.Ab.D.inode_Drop_go0_R = @Go.Ab.V.inode_Drop_go0_R := by
  delta Go.Ab.D.inode_Drop_go0_R Go.Ab.V.inode_Drop_go0_R
  rw [inode_copied_P_go0_R_v]
  try kernel_rfl
def tree_without (fu : Nat) (t : (List ((Int × (Int × (Bool × (Bool × (Int × (List ((Int × Int)) × (Int × List ((List UInt8 × Int)))))))))) × Int)) (dir : Int) (name : List UInt8) (id : Int) : Option ((List ((Int × (Int × (Bool × (Bool × (Int × (List ((Int × Int)) × (Int × List ((List UInt8 × Int)))))))))) × (Int × (List ((Int × Int)) × Int)))) :=
  (tree_copied_E fu (t.1, t.2)).bind fun r =>
  (tree_take__coR fu dir name r.1 r.2.1 r.2.2).bind fun r1 =>
  (inode_Drop_go0_R fu r1.1 id r1.2.1 r1.2.2).bind fun r2 =>
  some (r2.1, (r2.2.1, (r2.2.2.1, r2.2.2.2.1)))
theorem tree_without_v : @Go.Ab.D.tree_without = @Go.Ab.V.tree_without := by
  delta Go.Ab.D.tree_without Go.Ab.V.tree_without
  rw [tree_copied_E_v, inode_Drop_go0_R_v]
  try kernel_rfl
def tree_Remove (fu : Nat) (t : (List ((Int × (Int × (Bool × (Bool × (Int × (List ((Int × Int)) × (Int × List ((List UInt8 × Int)))))))))) × Int)) (dir : (Int × Int)) (name : List UInt8) (is_ : Bool) : Option ((List ((Int × (Int × (Bool × (Bool × (Int × (List ((Int × Int)) × (Int × List ((List UInt8 × Int)))))))))) × (Int × (List ((Int × Int)) × Int)))) :=
  (tree_asked fu (t.1, t.2) [(dir.1, dir.2)]).bind fun r =>
  bif (!(r.1 == 0)) then
    (tree_copied fu (t.1, t.2)).bind fun r1 =>
    some (r1.2, (r1.1, ([], r.1)))
  else
    (tree_Named fu name).bind fun r2 =>
    bif (!r2) then
      (tree_copied fu (t.1, t.2)).bind fun r3 =>
      some (r3.2, (r3.1, ([], 176)))
    else
      (idx? 0 r.2.length).bind fun q =>
      (r.2)[q]?.bind fun r4 =>
      (tree_entry fu r4 name).bind fun r5 =>
      bif (!r5.2) then
        (tree_copied fu (t.1, t.2)).bind fun r6 =>
        some (r6.2, (r6.1, ([], 171)))
      else
        (idx? 0 r.2.length).bind fun q1 =>
        (r.2)[q1]?.bind fun r7 =>
        (idx? r5.1 r7.2.2.2.2.2.2.2.length).bind fun q2 =>
        (r7.2.2.2.2.2.2.2)[q2]?.bind fun r8 =>
        (idx? (IntKind.wrap .i64 (r8.2 - 1)) t.1.length).bind fun q3 =>
        (t.1)[q3]?.bind fun r9 =>
        (tree_mismatch fu is_ r9).bind fun r10 =>
        bif (!(r10 == 0)) then
          (tree_copied fu (t.1, t.2)).bind fun r11 =>
          some (r11.2, (r11.1, ([], r10)))
        else
          (tree_without fu (t.1, t.2) dir.1 name r8.2).bind fun r12 =>
          some (r12.1, (r12.2.1, (r12.2.2.1, r12.2.2.2)))
theorem tree_Remove_v : @Go.Ab.D.tree_Remove = @Go.Ab.V.tree_Remove := by
  delta Go.Ab.D.tree_Remove Go.Ab.V.tree_Remove
  rw [tree_asked_v, tree_copied_v, tree_without_v]
  try kernel_rfl
def law19_awake (fu : Nat)  : Option (Bool) :=
  (inode_New fu).bind fun r =>
  (law19_root fu).bind fun r1 =>
  (tree_Make fu (r.2, r.1) (r1.1, r1.2) [97] true).bind fun r2 =>
  (tree_Make fu (r2.1, r2.2.1) (r2.2.2.1, r2.2.2.2.1) [98] true).bind fun r3 =>
  (law19_root fu).bind fun r4 =>
  (tree_Rename fu (r3.1, r3.2.1) (r4.1, r4.2) [97] (r3.2.2.1, r3.2.2.2.1) [99]).bind fun r5 =>
  (law19_root fu).bind fun r6 =>
  (tree_Make fu (r3.1, r3.2.1) (r6.1, r6.2) [120] false).bind fun r7 =>
  (law19_root fu).bind fun r8 =>
  (tree_Rename fu (r7.1, r7.2.1) (r8.1, r8.2) [120] (r2.2.2.1, r2.2.2.2.1) [120]).bind fun r9 =>
  (tree_Lookup fu (r9.1, r9.2.1) (r2.2.2.1, r2.2.2.2.1) [120]).bind fun r10 =>
  (law19_root fu).bind fun r11 =>
  (tree_Remove fu (r9.1, r9.2.1) (r11.1, r11.2) [97] true).bind fun r12 =>
  bif ((IntKind.wrap .i64 ((IntKind.wrap .i64 ((IntKind.wrap .i64 ((IntKind.wrap .i64 (r2.2.2.2.2 + r3.2.2.2.2)) + r7.2.2.2.2)) + r9.2.2.2)) + r10.2.2)) == 0) then
    bif (r5.2.2.2 == 178) then
      bif ((r7.2.2.1 == r10.1) && (r7.2.2.2.1 == r10.2.1)) then
        bif (r7.2.2.1 == 4) then
          some (r12.2.2.2 == 175)
        else
          some false
      else
        some false
    else
      some false
  else
    some false
theorem law19_awake_v : @Go.Ab.D.law19_awake = @Go.Ab.V.law19_awake := by
  delta Go.Ab.D.law19_awake Go.Ab.V.law19_awake
  rw [tree_Make_v, tree_Rename_v, tree_Lookup_v, tree_Remove_v]
  try kernel_rfl
def inode_copied_l0 (fu : Nat) (r : List ((Int × (Int × (Bool × (Bool × (Int × (List ((Int × Int)) × (Int × List ((List UInt8 × Int))))))))))) (x : Int) (h : Int) (h1 : List ((Int × (Int × (Bool × (Bool × (Int × (List ((Int × Int)) × (Int × List ((List UInt8 × Int))))))))))) (h2 : Int) : Option ((Int × (Int × (List ((Int × (Int × (Bool × (Bool × (Int × (List ((Int × Int)) × (Int × List ((List UInt8 × Int)))))))))) × Int))) ⊕ ((Int × (List ((Int × (Int × (Bool × (Bool × (Int × (List ((Int × Int)) × (Int × List ((List UInt8 × Int)))))))))) × Int)))) :=
  bif (decide (x < ((r.length : Nat) : Int))) then
    (idx? x h1.length).bind fun q =>
    (h1)[q]?.bind fun r1 =>
    (inode_own fu (r1.1, (r1.2.1, (r1.2.2.1, (r1.2.2.2.1, (r1.2.2.2.2.1, (r1.2.2.2.2.2.1, (r1.2.2.2.2.2.2.1, r1.2.2.2.2.2.2.2)))))))).bind fun r2 =>
    (idx? x h1.length).bind fun q1 =>
    (h1)[q1]?.bind fun r3 =>
    some (.inl ((IntKind.wrap .i64 (x + 1)), (h, ((List.set h1 q1 (r2.1, (r2.2.1, (r2.2.2.1, (r2.2.2.2.1, (r2.2.2.2.2.1, (r2.2.2.2.2.2.2.1, (r2.2.2.2.2.2.1, r2.2.2.2.2.2.2.2)))))))), h2))))
  else
    some (.inr (h, (h1, h2)))
theorem inode_copied_l0_v : @Go.Ab.D.inode_copied_l0 = @Go.Ab.V.inode_copied_l0 := by
  delta Go.Ab.D.inode_copied_l0 Go.Ab.V.inode_copied_l0
  rw [inode_own_v]
  try kernel_rfl
def inode_copied_l0_it (fu : Nat) (r : List ((Int × (Int × (Bool × (Bool × (Int × (List ((Int × Int)) × (Int × List ((List UInt8 × Int))))))))))) (tt : (Int × (Int × (List ((Int × (Int × (Bool × (Bool × (Int × (List ((Int × Int)) × (Int × List ((List UInt8 × Int)))))))))) × Int)))) : Option ((Int × (List ((Int × (Int × (Bool × (Bool × (Int × (List ((Int × Int)) × (Int × List ((List UInt8 × Int)))))))))) × Int))) :=
  iter fu (fun tt => inode_copied_l0 fu r tt.1 tt.2.1 tt.2.2.1 tt.2.2.2) tt
theorem inode_copied_l0_it_v : @Go.Ab.D.inode_copied_l0_it = @Go.Ab.V.inode_copied_l0_it := by
  delta Go.Ab.D.inode_copied_l0_it Go.Ab.V.inode_copied_l0_it
  rw [inode_copied_l0_v]
  try kernel_rfl
def inode_copied (fu : Nat) (t : (List ((Int × (Int × (Bool × (Bool × (Int × (List ((Int × Int)) × (Int × List ((List UInt8 × Int)))))))))) × Int)) : Option ((Int × List ((Int × (Int × (Bool × (Bool × (Int × (List ((Int × Int)) × (Int × List ((List UInt8 × Int)))))))))))) :=
  (slices_Clone__api_Inode_api_Inode fu t.1).bind fun r =>
  (inode_copied_l0_it fu r (0, (t.2, (r, 0)))).bind fun o =>
  some (o.1, o.2.1)
theorem inode_copied_v : @Go.Ab.D.inode_copied = @Go.Ab.V.inode_copied := by
  delta Go.Ab.D.inode_copied Go.Ab.V.inode_copied
  rw [slices_Clone__api_Inode_api_Inode_v, inode_copied_l0_it_v]
  try kernel_rfl
def inode_Fresh (fu : Nat) (t : (List ((Int × (Int × (Bool × (Bool × (Int × (List ((Int × Int)) × (Int × List ((List UInt8 × Int)))))))))) × Int)) (n : Int) : Option ((Int × (Int × (List ((Int × (Int × (Bool × (Bool × (Int × (List ((Int × Int)) × (Int × List ((List UInt8 × Int)))))))))) × List (Int))))) :=
  (inode_copied fu (t.1, t.2)).bind fun r =>
  (inode_Right fu (t.1, t.2)).bind fun r1 =>
  bif (!r1) then
    some (r.1, (180, (r.2, [])))
  else
    Option.bind (α := ((Bool × (List ((Int × (Int × (Bool × (Bool × (Int × (List ((Int × Int)) × (Int × List ((List UInt8 × Int)))))))))) × (Int × (Int × (Int × List ((Int × (Int × (Bool × (Bool × (Int × (List ((Int × Int)) × (Int × List ((List UInt8 × Int))))))))))))))))) (
      bif (decide (n < 0)) then
        some (true, (t.1, (t.2, (0, (r.1, r.2)))))
      else
        some ((decide (n > 4096)), (t.1, (t.2, (0, (r.1, r.2)))))) fun o =>
    bif o.1 then
      some (o.2.2.2.2.1, (2, (o.2.2.2.2.2, [])))
    else
      bif (decide (n > (IntKind.wrap .i64 (1099511627776 - o.2.2.1)))) then
        some (o.2.2.2.2.1, (5, (o.2.2.2.2.2, [])))
      else
        (inode_Fresh_l0_it fu n (0, (o.2.2.2.1, (o.2.2.2.2.1, (o.2.2.2.2.2, []))))).bind fun o1 =>
        some (o1.2.1, (0, (o1.2.2.1, o1.2.2.2)))
theorem inode_Fresh_v : @Go.Ab.D.inode_Fresh = @Go.Ab.V.inode_Fresh := by
  delta Go.Ab.D.inode_Fresh Go.Ab.V.inode_Fresh
  rw [inode_copied_v]
  try kernel_rfl
def inode_Set (fu : Nat) (t : (List ((Int × (Int × (Bool × (Bool × (Int × (List ((Int × Int)) × (Int × List ((List UInt8 × Int)))))))))) × Int)) (id : Int) (size : Int) (parts : List ((Int × Int))) : Option ((Int × (Int × List ((Int × (Int × (Bool × (Bool × (Int × (List ((Int × Int)) × (Int × List ((List UInt8 × Int))))))))))))) :=
  (inode_copied fu (t.1, t.2)).bind fun r =>
  (inode_Right fu (t.1, t.2)).bind fun r1 =>
  bif (!r1) then
    some (r.1, (180, r.2))
  else
    (inode_is fu (t.1, t.2) id false).bind fun r2 =>
    bif (!r2) then
      some (r.1, (2, r.2))
    else
      (slices_Clone__api_Part_api_Part fu parts).bind fun r3 =>
      (idx? (IntKind.wrap .i64 (id - 1)) r.2.length).bind fun q =>
      (r.2)[q]?.bind fun r4 =>
      (idx? (IntKind.wrap .i64 (id - 1)) (List.set r.2 q (r4.1, (r4.2.1, (r4.2.2.1, (r4.2.2.2.1, (size, r4.2.2.2.2.2)))))).length).bind fun q1 =>
      ((List.set r.2 q (r4.1, (r4.2.1, (r4.2.2.1, (r4.2.2.2.1, (size, r4.2.2.2.2.2)))))))[q1]?.bind fun r5 =>
      (inode_Right fu ((List.set (List.set r.2 q (r4.1, (r4.2.1, (r4.2.2.1, (r4.2.2.2.1, (size, r4.2.2.2.2.2)))))) q1 (r5.1, (r5.2.1, (r5.2.2.1, (r5.2.2.2.1, (r5.2.2.2.2.1, (r3, r5.2.2.2.2.2.2))))))), r.1)).bind fun r6 =>
      bif (!r6) then
        (inode_copied fu (t.1, t.2)).bind fun r7 =>
        some (r7.1, (177, r7.2))
      else
        some (r.1, (0, (List.set (List.set r.2 q (r4.1, (r4.2.1, (r4.2.2.1, (r4.2.2.2.1, (size, r4.2.2.2.2.2)))))) q1 (r5.1, (r5.2.1, (r5.2.2.1, (r5.2.2.2.1, (r5.2.2.2.2.1, (r3, r5.2.2.2.2.2.2)))))))))
theorem inode_Set_v : @Go.Ab.D.inode_Set = @Go.Ab.V.inode_Set := by
  delta Go.Ab.D.inode_Set Go.Ab.V.inode_Set
  rw [inode_copied_v, slices_Clone__api_Part_api_Part_v]
  try kernel_rfl
def law19_TreeOver (fu : Nat) (parts : Int) (others : Int) (apart : Bool) : Option (Bool) :=
  (inode_New fu).bind fun r =>
  (law19_root fu).bind fun r1 =>
  (tree_Make fu (r.2, r.1) (r1.1, r1.2) [100] true).bind fun r2 =>
  (law19_root fu).bind fun r3 =>
  Option.bind (α := ((List ((Int × (Int × (Bool × (Bool × (Int × (List ((Int × Int)) × (Int × List ((List UInt8 × Int)))))))))) × (Int × (Int × Int))))) (
    bif apart then
      some (r2.1, (r2.2.1, (r2.2.2.1, r2.2.2.2.1)))
    else
      some (r2.1, (r2.2.1, (r3.1, r3.2)))) fun o =>
  (law19_root fu).bind fun r4 =>
  (tree_Make fu (o.1, o.2.1) (r4.1, r4.2) [97] false).bind fun r5 =>
  (tree_Make fu (r5.1, r5.2.1) (o.2.2.1, o.2.2.2) [98] false).bind fun r6 =>
  (inode_Fresh fu (r6.1, r6.2.1) 12).bind fun r7 =>
  Option.bind (α := ((Bool × (Int × (List ((Int × (Int × (Bool × (Bool × (Int × (List ((Int × Int)) × (Int × List ((List UInt8 × Int)))))))))) × (Int × (Int × (Int × (Int × (Int × (Int × List (Int)))))))))))) (
    bif (!((IntKind.wrap .i64 ((IntKind.wrap .i64 ((IntKind.wrap .i64 (r2.2.2.2.2 + r5.2.2.2.2)) + r6.2.2.2.2)) + r7.2.1)) == 0)) then
      some (true, (r7.1, (r7.2.2.1, (o.2.2.1, (o.2.2.2, (r5.2.2.1, (r5.2.2.2.1, (r6.2.2.1, (r6.2.2.2.1, r7.2.2.2)))))))))
    else
      some ((!(((r7.2.2.2.length : Nat) : Int) == 12)), (r7.1, (r7.2.2.1, (o.2.2.1, (o.2.2.2, (r5.2.2.1, (r5.2.2.2.1, (r6.2.2.1, (r6.2.2.2.1, r7.2.2.2)))))))))) fun o1 =>
  bif o1.1 then
    some false
  else
    (law19_TreeOver_l0_it fu parts (0, (o1.2.1, (o1.2.2.1, (o1.2.2.2.1, (o1.2.2.2.2.1, (o1.2.2.2.2.2.1, (o1.2.2.2.2.2.2.1, (o1.2.2.2.2.2.2.2.1, (o1.2.2.2.2.2.2.2.2.1, (o1.2.2.2.2.2.2.2.2.2, []))))))))))).bind fun o2 =>
    (law19_TreeOver_l1_it fu others (0, (o2.1, (o2.2.1, (o2.2.2.1, (o2.2.2.2.1, (o2.2.2.2.2.1, (o2.2.2.2.2.2.1, (o2.2.2.2.2.2.2.1, (o2.2.2.2.2.2.2.2.1, (o2.2.2.2.2.2.2.2.2.1, (o2.2.2.2.2.2.2.2.2.2, [])))))))))))).bind fun o3 =>
    (inode_Set fu (o3.2.1, o3.1) o3.2.2.2.2.1 5 o3.2.2.2.2.2.2.2.2.1).bind fun r10 =>
    (inode_Set fu (r10.2.2, r10.1) o3.2.2.2.2.2.2.1 6 o3.2.2.2.2.2.2.2.2.2).bind fun r11 =>
    (law19_root fu).bind fun r12 =>
    (tree_Rename fu (r11.2.2, r11.1) (r12.1, r12.2) [97] (o3.2.2.1, o3.2.2.2.1) [98]).bind fun r13 =>
    Option.bind (α := ((Bool × (Int × (Int × (Int × (Int × (Int × (Int × (List ((Int × Int)) × (List ((Int × (Int × (Bool × (Bool × (Int × (List ((Int × Int)) × (Int × List ((List UInt8 × Int)))))))))) × Int))))))))))) (
      bif (!(r10.2.1 == 0)) then
        some (true, (o3.2.2.1, (o3.2.2.2.1, (o3.2.2.2.2.1, (o3.2.2.2.2.2.1, (o3.2.2.2.2.2.2.1, (o3.2.2.2.2.2.2.2.1, (o3.2.2.2.2.2.2.2.2.1, (r13.1, r13.2.1)))))))))
      else
        bif (!(r11.2.1 == 0)) then
          some (true, (o3.2.2.1, (o3.2.2.2.1, (o3.2.2.2.2.1, (o3.2.2.2.2.2.1, (o3.2.2.2.2.2.2.1, (o3.2.2.2.2.2.2.2.1, (o3.2.2.2.2.2.2.2.2.1, (r13.1, r13.2.1)))))))))
        else
          bif (!(r13.2.2.2 == 0)) then
            some (true, (o3.2.2.1, (o3.2.2.2.1, (o3.2.2.2.2.1, (o3.2.2.2.2.2.1, (o3.2.2.2.2.2.2.1, (o3.2.2.2.2.2.2.2.1, (o3.2.2.2.2.2.2.2.2.1, (r13.1, r13.2.1)))))))))
          else
            (tree_Right fu (r13.1, r13.2.1)).bind fun r14 =>
            bif (!r14) then
              some (true, (o3.2.2.1, (o3.2.2.2.1, (o3.2.2.2.2.1, (o3.2.2.2.2.2.1, (o3.2.2.2.2.2.2.1, (o3.2.2.2.2.2.2.2.1, (o3.2.2.2.2.2.2.2.2.1, (r13.1, r13.2.1)))))))))
            else
              (kit_SameParts fu r13.2.2.1 o3.2.2.2.2.2.2.2.2.2).bind fun r15 =>
              some ((!r15), (o3.2.2.1, (o3.2.2.2.1, (o3.2.2.2.2.1, (o3.2.2.2.2.2.1, (o3.2.2.2.2.2.2.1, (o3.2.2.2.2.2.2.2.1, (o3.2.2.2.2.2.2.2.2.1, (r13.1, r13.2.1)))))))))) fun o4 =>
    bif o4.1 then
      some false
    else
      (inode_Get fu (o4.2.2.2.2.2.2.2.2.1, o4.2.2.2.2.2.2.2.2.2) (o4.2.2.2.1, o4.2.2.2.2.1)).bind fun r16 =>
      (inode_Get fu (o4.2.2.2.2.2.2.2.2.1, o4.2.2.2.2.2.2.2.2.2) (o4.2.2.2.2.2.1, o4.2.2.2.2.2.2.1)).bind fun r17 =>
      (tree_Lookup fu (o4.2.2.2.2.2.2.2.2.1, o4.2.2.2.2.2.2.2.2.2) (o4.2.1, o4.2.2.1) [98]).bind fun r18 =>
      (law19_root fu).bind fun r19 =>
      (tree_Lookup fu (o4.2.2.2.2.2.2.2.2.1, o4.2.2.2.2.2.2.2.2.2) (r19.1, r19.2) [97]).bind fun r20 =>
      bif (r16.2.2.2.2.2.2.2.2 == 0) then
        (kit_SameParts fu r16.2.2.2.2.2.1 o4.2.2.2.2.2.2.2.1).bind fun r21 =>
        bif r21 then
          bif (r16.2.2.2.2.1 == 5) then
            bif (r16.2.2.2.2.2.2.1 == o4.2.1) then
              bif (r17.2.2.2.2.2.2.2.2 == 170) then
                bif (r18.2.2 == 0) then
                  bif ((r18.1 == o4.2.2.2.1) && (r18.2.1 == o4.2.2.2.2.1)) then
                    bif (r20.2.2 == 171) then
                      (law19_awake fu).bind fun r22 =>
                      some r22
                    else
                      some false
                  else
                    some false
                else
                  some false
              else
                some false
            else
              some false
          else
            some false
        else
          some false
      else
        some false
theorem law19_TreeOver_v : @Go.Ab.D.law19_TreeOver = @Go.Ab.V.law19_TreeOver := by
  delta Go.Ab.D.law19_TreeOver Go.Ab.V.law19_TreeOver
  rw [tree_Make_v, inode_Fresh_v, inode_Set_v, tree_Rename_v, inode_Get_v, tree_Lookup_v, law19_awake_v]
  try kernel_rfl
end
end Go.Ab.V

/- Chapter 19: TreeOver, reckoned. -/
namespace Go.Ab.V
open Go Go.Ab Go.Ab.D
theorem tmod7 (n : Int) : Int.tmod (Int.tmod n 7) 7 = Int.tmod n 7 := Int.tmod_tmod n 7
theorem over_l0 (fu : Nat) (n : Int) : @law19_TreeOver_l0 fu n = law19_TreeOver_l0 fu (Int.tmod n 7) := by
  delta law19_TreeOver_l0; rw [tmod7]
theorem over_l1 (fu : Nat) (n : Int) : @law19_TreeOver_l1 fu n = law19_TreeOver_l1 fu (Int.tmod n 7) := by
  delta law19_TreeOver_l1; rw [tmod7]
theorem over_l0i (fu : Nat) (n : Int) : law19_TreeOver_l0_it fu n = law19_TreeOver_l0_it fu (Int.tmod n 7) := by
  delta law19_TreeOver_l0_it; rw [over_l0]
theorem over_l1i (fu : Nat) (n : Int) : law19_TreeOver_l1_it fu n = law19_TreeOver_l1_it fu (Int.tmod n 7) := by
  delta law19_TreeOver_l1_it; rw [over_l1]
theorem over_mod (fu : Nat) (n m : Int) (a : Bool) : law19_TreeOver fu n m a = law19_TreeOver fu (Int.tmod n 7) (Int.tmod m 7) a := by
  delta law19_TreeOver
  rw [over_l0i, over_l1i]
theorem over_all (a : Bool) : ((List.range 7).all fun p => (List.range 7).all fun q => law19_TreeOver fuel p q a == some true) = true := by
  cases a <;> kernel_rfl
theorem over_is (a : Bool) (p q : Nat) (hp : p < 7) (hq : q < 7) : law19_TreeOver fuel p q a = some true := by
  have h := List.all_eq_true.1 (over_all a) p (List.mem_range.2 hp)
  exact beq_iff_eq.1 (List.all_eq_true.1 h q (List.mem_range.2 hq))
end Go.Ab.V

/- Chapter 19, TreeOver: the law. -/
namespace Go.Ab.D
open Go Go.Ab
theorem law19_TreeOver_true (parts others : Int) (apart : Bool) (k0 : OkV (.int .u8) parts) (k1 : OkV (.int .u8) others) (_k2 : OkV .bool apart) : law19_TreeOver fuel parts others apart = some true := by
  have h : IntKind.u8.min ≤ parts ∧ parts ≤ IntKind.u8.max := k0
  have h' : IntKind.u8.min ≤ others ∧ others ≤ IntKind.u8.max := k1
  have h0 : IntKind.u8.min = 0 := rfl
  rw [h0] at h h'
  rw [V.law19_TreeOver_v, V.over_mod, Int.tmod_eq_emod_of_nonneg h.1, Int.tmod_eq_emod_of_nonneg h'.1]
  obtain ⟨p, hp⟩ := Int.eq_ofNat_of_zero_le (Int.emod_nonneg parts (show (7 : Int) ≠ 0 by decide))
  obtain ⟨q, hq⟩ := Int.eq_ofNat_of_zero_le (Int.emod_nonneg others (show (7 : Int) ≠ 0 by decide))
  have h1 := Int.emod_lt_of_pos parts (show (0 : Int) < 7 by decide)
  have h2 := Int.emod_lt_of_pos others (show (0 : Int) < 7 by decide)
  rw [hp] at h1
  rw [hq] at h2
  rw [hp, hq]
  exact V.over_is apart p q (by omega) (by omega)
end Go.Ab.D
