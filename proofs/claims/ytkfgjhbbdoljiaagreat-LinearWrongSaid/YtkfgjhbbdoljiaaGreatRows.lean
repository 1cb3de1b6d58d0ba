/-
  No cell of these rows narrows 'for every input' (looked for: loops, veiled, ifaces, maps, wideKeys, modest, calm, conditions, laid).
  DERIVED. THE GIVEN ROWS OF THIS SEAT. 6 by the template 'for every input the law returns true; each argument reads behind the call as it read before'; 0 by the template 'total and deterministic' (their statements: YtkfgjhbbdoljiaaGreatTotals.lean).
  GIVEN WITH THE SEED: the statements are not yours to turn. If you find one false, say at which input.
  Laid BY PROGRAM, IN A SANDBOX (cutbox-rows.mjs): the forced cells as the released guide's own fill.sh prints them over the translation 10d4ec0293894224… (all of the seat's roots in one cut). By AI agents, Wed Nov 11 2026. No macro, syntax, notation, axiom, sorry.
-/
import Derived.Test.YtkfgjhbbdoljiaaGreatChecked
import GoSem.Claim
import GoSem.ClaimJoined
import GoSem.ClaimMapViews
import Derived.JoinedTies
import Derived.KernelRfl
namespace Go.Proofs.YtkfgjhbbdoljiaaGreat
/- THE CELL 'sum', in the pinned program and in every row, IS THE sha256 OF THE DUMP (.gsa) THAT YtkfgjhbbdoljiaaGreatProg.lean LOADS. Nothing in Lean hashes anything: it is a label: what it is worth is what the hold of that sum in a sandbox is worth. -/
noncomputable def Tryz.pinned : Pinned := { name := "ytkfgjhbbdoljiaagreat", sum := "10d4ec0293894224c5e528d966506ccb2204b5cdbcf110939864bb83a32e0988", checked := Tryz.checked }
namespace Rows
def none {H : Type} : Left H := { results := [], args := [] }

/-- 'cooperagelaw28.LinearNumbers': WHATEVER THE INPUT: true; the input reads as it did. -/
def linearNumbersSpec : ChangeSpec := { name := "linearNumbers", fn := fun _ => fun
  | [] => { results := [.lit (.bool true)], args := [] }
  | _ => none }
def linearNumbersRow : OpenClaim := { program := "ytkfgjhbbdoljiaagreat", sum := "10d4ec0293894224c5e528d966506ccb2204b5cdbcf110939864bb83a32e0988", func := "cooperage/cooperagelaw28.LinearNumbers", spec := "linearNumbers", inPlace := ["internal/bytealg.IndexByteString", "internal/bytealg.IndexString", "internal/bytealg.abigen_runtime_cmpstring", "slices.overlaps[cooperage/api.Entry]"], unfollowed := true, recurses := true, named := ["internal/bytealg.MaxLen"], apart := false }
def LinearNumbersSaid : Prop := linearNumbersRow.holds Tryz.pinned (OpenSpec.ofChange linearNumbersSpec)

/-- ITS FALSE NEIGHBOUR: 'it returns false'. Refute it at one input. -/
def linearNumbersWrong : ChangeSpec := { name := "linearNumbers", fn := fun _ => fun
  | [] => { results := [.lit (.bool false)], args := [] }
  | _ => none }
def LinearNumbersWrongFalsely : Prop := linearNumbersRow.holds Tryz.pinned (OpenSpec.ofChange linearNumbersWrong)

/-- 'cooperagelaw28.LinearTells': WHATEVER THE INPUT: true; the input reads as it did. -/
def linearTellsSpec : ChangeSpec := { name := "linearTells", fn := fun _ => fun
  | [d1, d2, d3] => { results := [.lit (.bool true)], args := [d1, d2, d3] }
  | _ => none }
def linearTellsRow : OpenClaim := { program := "ytkfgjhbbdoljiaagreat", sum := "10d4ec0293894224c5e528d966506ccb2204b5cdbcf110939864bb83a32e0988", func := "cooperage/cooperagelaw28.LinearTells", spec := "linearTells", inPlace := ["internal/bytealg.IndexByteString", "internal/bytealg.IndexString", "internal/bytealg.abigen_runtime_cmpstring", "slices.overlaps[cooperage/api.Entry]"], unfollowed := true, recurses := true, named := ["internal/bytealg.MaxLen"], apart := false }
def LinearTellsSaid : Prop := linearTellsRow.holds Tryz.pinned (OpenSpec.ofChange linearTellsSpec)

/-- ITS FALSE NEIGHBOUR: 'it returns false'. Refute it at one input. -/
def linearTellsWrong : ChangeSpec := { name := "linearTells", fn := fun _ => fun
  | [d1, d2, d3] => { results := [.lit (.bool false)], args := [d1, d2, d3] }
  | _ => none }
def LinearTellsWrongFalsely : Prop := linearTellsRow.holds Tryz.pinned (OpenSpec.ofChange linearTellsWrong)

/-- 'cooperagelaw28.LinearHolds': WHATEVER THE INPUT: true; the input reads as it did. -/
def linearHoldsSpec : ChangeSpec := { name := "linearHolds", fn := fun _ => fun
  | [d] => { results := [.lit (.bool true)], args := [d] }
  | _ => none }
def linearHoldsRow : OpenClaim := { program := "ytkfgjhbbdoljiaagreat", sum := "10d4ec0293894224c5e528d966506ccb2204b5cdbcf110939864bb83a32e0988", func := "cooperage/cooperagelaw28.LinearHolds", spec := "linearHolds", inPlace := ["internal/bytealg.IndexByteString", "internal/bytealg.IndexString", "internal/bytealg.abigen_runtime_cmpstring", "slices.overlaps[cooperage/api.Entry]"], unfollowed := true, recurses := true, named := ["internal/bytealg.MaxLen"], apart := false }
def LinearHoldsSaid : Prop := linearHoldsRow.holds Tryz.pinned (OpenSpec.ofChange linearHoldsSpec)

/-- ITS FALSE NEIGHBOUR: 'it returns false'. Refute it at one input. -/
def linearHoldsWrong : ChangeSpec := { name := "linearHolds", fn := fun _ => fun
  | [d] => { results := [.lit (.bool false)], args := [d] }
  | _ => none }
def LinearHoldsWrongFalsely : Prop := linearHoldsRow.holds Tryz.pinned (OpenSpec.ofChange linearHoldsWrong)

/-- 'cooperagelaw28.LinearWrong': WHATEVER THE INPUT: true; the input reads as it did. -/
def linearWrongSpec : ChangeSpec := { name := "linearWrong", fn := fun _ => fun
  | [d1, d2, d3] => { results := [.lit (.bool true)], args := [d1, d2, d3] }
  | _ => none }
def linearWrongRow : OpenClaim := { program := "ytkfgjhbbdoljiaagreat", sum := "10d4ec0293894224c5e528d966506ccb2204b5cdbcf110939864bb83a32e0988", func := "cooperage/cooperagelaw28.LinearWrong", spec := "linearWrong", inPlace := ["internal/bytealg.IndexByteString", "internal/bytealg.IndexString", "internal/bytealg.abigen_runtime_cmpstring", "slices.overlaps[cooperage/api.Entry]"], unfollowed := true, recurses := true, named := ["internal/bytealg.MaxLen"], apart := false }
def LinearWrongSaid : Prop := linearWrongRow.holds Tryz.pinned (OpenSpec.ofChange linearWrongSpec)

/-- ITS FALSE NEIGHBOUR: 'it returns false'. Refute it at one input. -/
def linearWrongWrong : ChangeSpec := { name := "linearWrong", fn := fun _ => fun
  | [d1, d2, d3] => { results := [.lit (.bool false)], args := [d1, d2, d3] }
  | _ => none }
def LinearWrongWrongFalsely : Prop := linearWrongRow.holds Tryz.pinned (OpenSpec.ofChange linearWrongWrong)

/-- 'cooperagelaw28.LinearMore': WHATEVER THE INPUT: true; the input reads as it did. -/
def linearMoreSpec : ChangeSpec := { name := "linearMore", fn := fun _ => fun
  | [d1, d2, d3, d4] => { results := [.lit (.bool true)], args := [d1, d2, d3, d4] }
  | _ => none }
def linearMoreRow : OpenClaim := { program := "ytkfgjhbbdoljiaagreat", sum := "10d4ec0293894224c5e528d966506ccb2204b5cdbcf110939864bb83a32e0988", func := "cooperage/cooperagelaw28.LinearMore", spec := "linearMore", inPlace := ["internal/bytealg.IndexByteString", "internal/bytealg.IndexString", "internal/bytealg.abigen_runtime_cmpstring", "slices.overlaps[cooperage/api.Entry]"], unfollowed := true, recurses := true, named := ["internal/bytealg.MaxLen"], apart := false }
def LinearMoreSaid : Prop := linearMoreRow.holds Tryz.pinned (OpenSpec.ofChange linearMoreSpec)

/-- ITS FALSE NEIGHBOUR: 'it returns false'. Refute it at one input. -/
def linearMoreWrong : ChangeSpec := { name := "linearMore", fn := fun _ => fun
  | [d1, d2, d3, d4] => { results := [.lit (.bool false)], args := [d1, d2, d3, d4] }
  | _ => none }
def LinearMoreWrongFalsely : Prop := linearMoreRow.holds Tryz.pinned (OpenSpec.ofChange linearMoreWrong)

/-- 'cooperagelaw28.LinearAll': WHATEVER THE INPUT: true; the input reads as it did. -/
def linearAllSpec : ChangeSpec := { name := "linearAll", fn := fun _ => fun
  | [d1, d2, d3] => { results := [.lit (.bool true)], args := [d1, d2, d3] }
  | _ => none }
def linearAllRow : OpenClaim := { program := "ytkfgjhbbdoljiaagreat", sum := "10d4ec0293894224c5e528d966506ccb2204b5cdbcf110939864bb83a32e0988", func := "cooperage/cooperagelaw28.LinearAll", spec := "linearAll", inPlace := ["internal/bytealg.IndexByteString", "internal/bytealg.IndexString", "internal/bytealg.abigen_runtime_cmpstring", "slices.overlaps[cooperage/api.Entry]"], unfollowed := true, recurses := true, named := ["internal/bytealg.MaxLen"], apart := false }
def LinearAllSaid : Prop := linearAllRow.holds Tryz.pinned (OpenSpec.ofChange linearAllSpec)

/-- ITS FALSE NEIGHBOUR: 'it returns false'. Refute it at one input. -/
def linearAllWrong : ChangeSpec := { name := "linearAll", fn := fun _ => fun
  | [d1, d2, d3] => { results := [.lit (.bool false)], args := [d1, d2, d3] }
  | _ => none }
def LinearAllWrongFalsely : Prop := linearAllRow.holds Tryz.pinned (OpenSpec.ofChange linearAllWrong)

/- THE SECOND FORM. 'bulk': how many values and letters a reading holds, each counted each time it is reached (what is shared counts as often as it is met; a slice's spare places count too). A statement '..UptoSaid' is the law's where the arguments, and the package variables that the reading takes, are together of bulk at most 1048576: NARROWER than '..Said'. Prove '..Said' where nothing that the law and all that it calls make is longer than what came in: it says more and counts as full. Else prove '..UptoSaid'. A law counts once. -/
mutual
def uptoBulk {H : Type} : DataW H → Nat
  | .lit (.string bytes) => bytes.length + 1
  | .lit _ => 1
  | .nil => 1
  | .ptr d => uptoBulk d + 1
  | .slice elems spare => uptoBulkAll elems + uptoBulkAll spare + 1
  | .agg parts => uptoBulkAll parts + 1
  | .iface _ d => uptoBulk d + 1
  | .map entries => uptoBulkEntries entries + 1
  | .held _ => 1
def uptoBulkAll {H : Type} : List (DataW H) → Nat
  | [] => 0
  | d :: r => uptoBulk d + uptoBulkAll r
def uptoBulkEntries {H : Type} : List (Lit × DataW H) → Nat
  | [] => 0
  | x :: r => uptoBulkEntry x + uptoBulkEntries r
def uptoBulkEntry {H : Type} : Lit × DataW H → Nat
  | (.string bytes, d) => bytes.length + uptoBulk d + 1
  | (_, d) => uptoBulk d + 1
 end
def uptoSmall : (H : Type) → List (DataW H) → Bool := fun _ ds => decide (uptoBulkAll ds ≤ 1048576)
def OpenSpec.upto (s : _root_.Go.ChangeSpec) : _root_.Go.OpenSpec := { _root_.Go.OpenSpec.ofChange s with cond := some uptoSmall }

/-- 'cooperagelaw28.LinearNumbers', WHERE WHAT IT READS IS OF BULK AT MOST 1048576: true; the input reads as it did. -/
def linearNumbersUptoRow : OpenClaim := { program := "ytkfgjhbbdoljiaagreat", sum := "10d4ec0293894224c5e528d966506ccb2204b5cdbcf110939864bb83a32e0988", func := "cooperage/cooperagelaw28.LinearNumbers", spec := "linearNumbers", inPlace := ["internal/bytealg.IndexByteString", "internal/bytealg.IndexString", "internal/bytealg.abigen_runtime_cmpstring", "slices.overlaps[cooperage/api.Entry]"], unfollowed := true, recurses := true, named := ["internal/bytealg.MaxLen"], apart := false, narrowed := true }
def LinearNumbersUptoSaid : Prop := linearNumbersUptoRow.holds Tryz.pinned (OpenSpec.upto linearNumbersSpec)

/-- 'cooperagelaw28.LinearTells', WHERE WHAT IT READS IS OF BULK AT MOST 1048576: true; the input reads as it did. -/
def linearTellsUptoRow : OpenClaim := { program := "ytkfgjhbbdoljiaagreat", sum := "10d4ec0293894224c5e528d966506ccb2204b5cdbcf110939864bb83a32e0988", func := "cooperage/cooperagelaw28.LinearTells", spec := "linearTells", inPlace := ["internal/bytealg.IndexByteString", "internal/bytealg.IndexString", "internal/bytealg.abigen_runtime_cmpstring", "slices.overlaps[cooperage/api.Entry]"], unfollowed := true, recurses := true, named := ["internal/bytealg.MaxLen"], apart := false, narrowed := true }
def LinearTellsUptoSaid : Prop := linearTellsUptoRow.holds Tryz.pinned (OpenSpec.upto linearTellsSpec)

/-- 'cooperagelaw28.LinearHolds', WHERE WHAT IT READS IS OF BULK AT MOST 1048576: true; the input reads as it did. -/
def linearHoldsUptoRow : OpenClaim := { program := "ytkfgjhbbdoljiaagreat", sum := "10d4ec0293894224c5e528d966506ccb2204b5cdbcf110939864bb83a32e0988", func := "cooperage/cooperagelaw28.LinearHolds", spec := "linearHolds", inPlace := ["internal/bytealg.IndexByteString", "internal/bytealg.IndexString", "internal/bytealg.abigen_runtime_cmpstring", "slices.overlaps[cooperage/api.Entry]"], unfollowed := true, recurses := true, named := ["internal/bytealg.MaxLen"], apart := false, narrowed := true }
def LinearHoldsUptoSaid : Prop := linearHoldsUptoRow.holds Tryz.pinned (OpenSpec.upto linearHoldsSpec)

/-- 'cooperagelaw28.LinearWrong', WHERE WHAT IT READS IS OF BULK AT MOST 1048576: true; the input reads as it did. -/
def linearWrongUptoRow : OpenClaim := { program := "ytkfgjhbbdoljiaagreat", sum := "10d4ec0293894224c5e528d966506ccb2204b5cdbcf110939864bb83a32e0988", func := "cooperage/cooperagelaw28.LinearWrong", spec := "linearWrong", inPlace := ["internal/bytealg.IndexByteString", "internal/bytealg.IndexString", "internal/bytealg.abigen_runtime_cmpstring", "slices.overlaps[cooperage/api.Entry]"], unfollowed := true, recurses := true, named := ["internal/bytealg.MaxLen"], apart := false, narrowed := true }
def LinearWrongUptoSaid : Prop := linearWrongUptoRow.holds Tryz.pinned (OpenSpec.upto linearWrongSpec)

/-- 'cooperagelaw28.LinearMore', WHERE WHAT IT READS IS OF BULK AT MOST 1048576: true; the input reads as it did. -/
def linearMoreUptoRow : OpenClaim := { program := "ytkfgjhbbdoljiaagreat", sum := "10d4ec0293894224c5e528d966506ccb2204b5cdbcf110939864bb83a32e0988", func := "cooperage/cooperagelaw28.LinearMore", spec := "linearMore", inPlace := ["internal/bytealg.IndexByteString", "internal/bytealg.IndexString", "internal/bytealg.abigen_runtime_cmpstring", "slices.overlaps[cooperage/api.Entry]"], unfollowed := true, recurses := true, named := ["internal/bytealg.MaxLen"], apart := false, narrowed := true }
def LinearMoreUptoSaid : Prop := linearMoreUptoRow.holds Tryz.pinned (OpenSpec.upto linearMoreSpec)

/-- 'cooperagelaw28.LinearAll', WHERE WHAT IT READS IS OF BULK AT MOST 1048576: true; the input reads as it did. -/
def linearAllUptoRow : OpenClaim := { program := "ytkfgjhbbdoljiaagreat", sum := "10d4ec0293894224c5e528d966506ccb2204b5cdbcf110939864bb83a32e0988", func := "cooperage/cooperagelaw28.LinearAll", spec := "linearAll", inPlace := ["internal/bytealg.IndexByteString", "internal/bytealg.IndexString", "internal/bytealg.abigen_runtime_cmpstring", "slices.overlaps[cooperage/api.Entry]"], unfollowed := true, recurses := true, named := ["internal/bytealg.MaxLen"], apart := false, narrowed := true }
def LinearAllUptoSaid : Prop := linearAllUptoRow.holds Tryz.pinned (OpenSpec.upto linearAllSpec)

end Rows
end Go.Proofs.YtkfgjhbbdoljiaaGreat
